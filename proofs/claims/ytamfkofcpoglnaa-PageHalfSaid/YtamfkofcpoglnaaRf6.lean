/- Contracts of the document's chip: Program, Erase. Own work. -/
import Derived.Test.YtamfkofcpoglnaaFa4
import Derived.Test.YtamfkofcpoglnaaRf4
set_option autoImplicit false
set_option linter.all false
set_option linter.unusedVariables false
namespace Go.Proofs.Ytamfkofcpoglnaa
open Go Go.Vc

theorem rowSet_set {row c : List Int} {k i : Nat} {v : Int} (hk : (k + 1) * 32 ≤ row.length) (hc : c.length = 32) (hi : i < 32) : (rowSet row k c).set (k * 32 + i) v = rowSet row k (c.set i v) := by
  have h1 : (row.take (k * 32)).length = k * 32 := by simp; omega
  simp only [rowSet]
  rw [List.append_assoc, List.append_assoc, List.set_append_right _ _ (by omega), List.set_append_left _ _ (by omega)]
  congr 3; omega
section
variable {h0 h : H} {A : List Ent} {i p : Nat} {C : Cm}
theorem rProgram_sp {Q : Int → H → Prop} (hs : Sat h0 A h) (ci : At A i (refE p C)) (page cell : Int) (x : List Int) (hx : x.length = 32) (k : ∀ h', Sat h0 (put A i (refE p (programM C page cell x).1)) h' → Q (programM C page cell x).2 h') :
    F_portcullisref04_Chip_Program ⟨p, 0, none⟩ page cell x Q h := by
  unfold F_portcullisref04_Chip_Program G_portcullisref04_Chip_Program
  simp only [add_mk, Nat.zero_add, List.append_nil]
  intro nx _ hn
  replace hs := Sat.new hs hn
  clear hn
  have hs' := hs
  obtain ⟨⟨w, ms⟩, ⟨ok, mb, ml, me⟩, hs⟩ := (hs.front ci.s).open_
  dsimp only [refL, List.cons_append, List.nil_append] at hs
  dsimp only at mb ml me
  have hlp := (hs.rdM (.s .z)).len
  refine at_b (C := C) hs .z hlp _ _ ?_
  unfold programM at k
  by_cases h1 : asksCellM C page cell = 0
  case neg =>
    rw [if_pos (by simpa using h1)]
    rw [if_pos (by simpa using h1)] at k
    exact k _ (ci.put_self.symm ▸ hs'.drop)
  rw [if_neg (by simpa using h1)]
  rw [if_neg (by simpa using h1)] at k
  obtain ⟨_, h2, h3, h4, h5, hj, hl, hk⟩ := asksCellM_zero ok h1
  have erow : rowOf C page = C.s.pages[page.toNat] := by simp [rowOf, List.getD, List.getElem?_eq_getElem hj]
  rw [erow] at k
  refine act_b (C := C) hs .z ok ?_
  intro h6 hs
  have eact := ok.act
  simp only [put, Cm.cells] at hs
  refine ⟨_, _, _, hs.ld .z rfl, ?_⟩
  have rd := hs.rdM (.s .z)
  obtain ⟨q, y, q', e1, e2, e3, e4, e5⟩ := rd.cell hj hk
  rw [e1]
  refine ⟨_, rfl, h2, by omega, ?_⟩
  refine ⟨_, _, _, e2, ?_⟩
  refine ⟨_, e4, h4, by omega, ?_⟩
  have hcl := cellAt_length hk
  refine ⟨_, hcl, e5, ?_⟩
  clear e1 e2 e3 e4 e5 q q' y
  intro no _ hn
  replace hs := Sat.new hs hn
  clear hn
  (refine ⟨Sat.can hs (by (repeat (first | exact At.z | apply At.s))) (by simp), ?_⟩; intro _ e; replace hs := Sat.wra hs (by (repeat (first | exact At.z | apply At.s))) e (by simp [*]); clear e; simp only [put] at hs)
  intro J hJ
  have hob := ok.typed.bytes _ (List.getElem_mem hj)
  obtain ⟨⟨yp, yl, yc⟩, hd, R, e8, hs, give⟩ := (hs.front (.s (.s .z))).row_take hj
  obtain ⟨⟨pp, pl, pc⟩, w2, w3, w4⟩ := w
  replace hlp : C.s.pages.length = pl := hlp
  obtain ⟨qb, hq⟩ := hs.sl_some (.s .z) (show 0 < pl by omega)
  dsimp only at hq
  subst hq
  have hyl := hs.sl_len .z
  simp only [ints_length] at hyl
  obtain ⟨yb, hy⟩ := hs.sl_some .z (show 0 < yl by omega)
  dsimp only at hy
  subst hy
  generalize C.s.pages[page.toNat] = row at *
  let g := fun (i : Nat) (now : Int) => bits .andNot .u8 now (bits .andNot .u8 (maskAt C i) (x.getD i 0))
  have hcl2 : ∀ n, (mapTo g n (cellAt row cell.toNat)).length = 32 := fun n => by simpa using hcl
  have erow0 : rowSet row cell.toNat (cellAt row cell.toNat) = row := by
    unfold rowSet cellAt
    rw [List.append_assoc, ← List.drop_drop, List.take_append_drop, List.take_append_drop]
  refine loop_up 32 (fun n h => Sat h0 (sE (some ⟨yb, 0, none⟩, yl, yc) 32 (ints .u8 (rowSet row cell.toNat (mapTo g n (cellAt row cell.toNat)))) :: sE (some ⟨qb, 0, none⟩, pl, pc) 1 hd :: ((blk no (ints .u8 (cellAt row cell.toNat)) :: blk p (C.act.cells (some ⟨qb, 0, none⟩, pl, pc) w2 w3 w4) ::
      sE w2 1 (ints .i64 C.s.erases) :: sE w3 1 (bools C.s.blown) :: sE w4 1 (ints .u8 ms) :: blk nx (ints .u8 x) :: del A i) ++ R)) h) ?_ ?_ 0 _ (by omega) (by rw [mapTo_zero, erow0]; exact hs)
  · intro n h7 hn hs hk'
    apply hJ
    rw [ltI_eq, if_pos (by simp; omega)]
    simp only [Int.toNat_natCast, Nat.mul_one]
    have exn : x.getD n 0 = x[n] := by simp [List.getD, List.getElem?_eq_getElem (show n < x.length by omega)]
    have eno : (ints .u8 (cellAt row cell.toNat))[n]? = some (.int .u8 ((cellAt row cell.toNat)[n]'(by omega))) := by rw [ints_get, List.getElem?_eq_getElem (by omega)]; rfl
    have enx : (ints .u8 x)[n]? = some (.int .u8 x[n]) := by rw [ints_get, List.getElem?_eq_getElem (by omega)]; rfl
    refine ⟨by omega, by omega, _, hs.ld (.s (.s .z)) eno, by omega, by omega, _, hs.ld (i := 7) (.s (.s (.s (.s (.s (.s (.s .z))))))) enx, ?_⟩
    have fin : ∀ v h8, v = g n ((cellAt row cell.toNat)[n]'(by omega)) → h8 = hwr h7 ⟨yb, cell.toNat * 32 + n, none⟩ [.int .u8 v] → J [SV.dv (DV.one (Value.int .i64 (IntKind.i64.wrap (n + 1))))] h8 := by
      intro v h8 ev e8
      have hsW := hs.swr .z e8 (show 0 < yl by omega) (by rw [ints_length, rowSet_length hk (hcl2 n)]; simp; omega) (by simp)
      rw [wrap_succ (by omega)]
      refine hk' _ ?_
      simp only [splice_cons, splice_nil, ints_set, put] at hsW
      rw [rowSet_set hk (hcl2 n) hn, ev, mapTo_succ g n _ (by omega)] at hsW
      exact hsW
    have hcan' : hcan h7 ⟨yb, cell.toNat * 32 + n, none⟩ 1 := hs.scan .z (show 0 < yl by omega) (by rw [ints_length, rowSet_length hk (hcl2 n)]; omega)
    have ld1 : hc h7 ⟨p, 7, none⟩ = some (.slice (some ⟨qb, 0, none⟩) pl pc) := hs.ld (i := 3) (.s (.s (.s .z))) rfl
    have ld2 : hc h7 ⟨qb, page.toNat, none⟩ = some (.slice (some ⟨yb, 0, none⟩) yl yc) := hs.sld (.s .z) e8
    split
    · rename_i hcut
      have hcut : C.left = 0 := by simpa using hcut
      refine ⟨by omega, by omega, _, hs.ld (.s (.s .z)) eno, ?_⟩
      refine bits_b (C := C.act) hs (i := 3) (.s (.s (.s .z))) (j := 6) (.s (.s (.s (.s (.s (.s .z)))))) n rfl ?_
      refine ⟨hcs_one (hs.ld (.s (.s .z)) eno), ?_⟩
      refine bits_b (C := C.act) hs (i := 3) (.s (.s (.s .z))) (j := 6) (.s (.s (.s (.s (.s (.s .z)))))) n rfl ?_
      refine ⟨hcs_one (hs.ld (.s (.s .z)) eno), _, _, _, ld1, _, rfl, h2, by omega, ?_⟩
      simp only [add_mk, Nat.zero_add]
      refine ⟨_, _, _, ld2, _, rfl, h4, by omega, by omega, by omega, ?_⟩
      simp only [add_mk, Nat.zero_add]
      refine ⟨hcan', fun h8 e9 => fin _ h8 ?_ e9⟩
      rw [cut_prog]
      simp only [g]
      rw [maskAt_cut me hcut, exn]
    · rename_i hcut
      have hcut : ¬ C.left = 0 := by simpa using hcut
      refine ⟨_, _, _, ld1, _, rfl, h2, by omega, ?_⟩
      simp only [add_mk, Nat.zero_add, Nat.mul_one]
      refine ⟨_, _, _, ld2, _, rfl, h4, by omega, by omega, by omega, ?_⟩
      simp only [add_mk, Nat.zero_add]
      refine ⟨hcan', fun h8 e9 => fin _ h8 ?_ e9⟩
      rw [full_prog]
      simp only [g]
      rw [maskAt_full hcut, exn]
  · intro h7 hs
    apply hJ
    rw [ltI_eq, if_neg (by simp)]
    have okR : (C.act.setPage page.toNat (rowSet row cell.toNat (mapTo g 32 (cellAt row cell.toNat)))).ok := by
      refine eact.setPage ?_ ?_
      · rw [rowSet_length hk (hcl2 32), act_cfg]; exact hl
      · intro n hn
        rcases rowSet_mem hn with hn | hn
        · exact hob n hn
        · exact mapTo_mem (P := isByte) (fun v hv => hob v (cellAt_mem hv)) (fun i v hv => byte_bits _ _ _) n hn
    replace hs := (give _ _ _ hs)
    replace hs := Sat.front hs (e := slE w4.1 _ _ 1 (ints .u8 ms)) (by (repeat (first | exact At.z | apply At.s)))
    replace hs := Sat.front hs (e := slE w3.1 _ _ 1 (bools C.s.blown)) (by (repeat (first | exact At.z | apply At.s)))
    replace hs := Sat.front hs (e := slE w2.1 _ _ 1 (ints .i64 C.s.erases)) (by (repeat (first | exact At.z | apply At.s)))
    replace hs := Sat.front hs (e := matE 32 _ _) (by (repeat (first | exact At.z | apply At.s)))
    replace hs := Sat.front hs (e := blk p _) (by (repeat (first | exact At.z | apply At.s)))
    simp only [del] at hs
    have hR := ref_close (C := C.act.setPage page.toNat (rowSet row cell.toNat (mapTo g 32 (cellAt row cell.toNat)))) (a := (some ⟨qb, 0, none⟩, pl, pc)) (b := w2) (c := w3) (m := w4) okR mb ml (act_me ok me) ci.s.s (by rw [Cm.setPage, act_s]; exact hs)
    have hq := k _ hR.drop.drop
    unfold errM at hq
    by_cases hz : C.left = 0
    · simpa [hz] using hq
    · simpa [hz] using hq
end
end Go.Proofs.Ytamfkofcpoglnaa

/- Contracts of the document's chip: Erase, Copy, Lay. Own work. -/
set_option autoImplicit false
set_option linter.unusedVariables false
namespace Go.Proofs.Ytamfkofcpoglnaa
open Go Go.Vc

section
variable {h0 h : H} {A : List Ent} {i p : Nat} {C : Cm}
theorem rErase_sp {Q : Int → H → Prop} (hs : Sat h0 A h) (ci : At A i (refE p C)) (page : Int) (k : ∀ h', Sat h0 (put A i (refE p (eraseM C page).1)) h' → Q (eraseM C page).2 h') :
    F_portcullisref04_Chip_Erase ⟨p, 0, none⟩ page Q h := by
  unfold F_portcullisref04_Chip_Erase G_portcullisref04_Chip_Erase
  simp only [add_mk, Nat.zero_add]
  have hs' := hs
  obtain ⟨⟨w, ms⟩, ⟨ok, mb, ml, me⟩, hs⟩ := (hs.front ci).open_
  dsimp only [refL, List.cons_append, List.nil_append] at hs
  dsimp only at mb ml me
  have hlp := (hs.rdM (.s .z)).len
  have hle := hs.sl_len (i := 2) (.s (.s .z))
  simp only [ints_length, Nat.mul_one] at hle
  refine at_b (C := C) hs .z hlp _ _ ?_
  rw [asksCellM_page ok]
  unfold eraseM at k
  by_cases h1 : askedM C page C.s.pages.length = 0
  case neg =>
    rw [if_pos (by simpa using h1)]
    rw [if_pos (by simpa using h1)] at k
    exact k _ (ci.put_self.symm ▸ hs')
  rw [if_neg (by simpa using h1)]
  rw [if_neg (by simpa using h1)] at k
  obtain ⟨_, h2, h3⟩ := askedM_zero h1
  have hf1 := ok.fits.pages
  have hf2 := ok.fits.erases
  have hje : page.toNat < C.s.erases.length := by omega
  have hjp : page.toNat < C.s.pages.length := by omega
  have eer : C.s.erases.getD page.toNat 0 = C.s.erases[page.toNat] := by simp [List.getD, List.getElem?_eq_getElem hje]
  have erow : rowOf C page = C.s.pages[page.toNat] := by simp [rowOf, List.getD, List.getElem?_eq_getElem hjp]
  rw [eer, erow] at k
  obtain ⟨⟨pp, pl, pc⟩, ⟨ep, el, ec⟩, w3, w4⟩ := w
  replace hle : C.s.erases.length = el := hle
  replace hlp : C.s.pages.length = pl := hlp
  obtain ⟨eb, he⟩ := hs.sl_some (i := 2) (.s (.s .z)) (show 0 < el by omega)
  dsimp only at he
  subst he
  refine ⟨_, _, _, hs.ld .z rfl, _, rfl, h2, by (try dsimp only); omega, ?_⟩
  simp only [add_mk, Nat.zero_add, Nat.mul_one]
  refine ⟨_, hs.sld (i := 2) (.s (.s .z)) (by rw [ints_get, List.getElem?_eq_getElem hje]; rfl), _, hs.ld .z rfl, ?_⟩
  by_cases h4 : C.cfg.erases ≤ C.s.erases[page.toNat]
  case pos =>
    rw [leI_eq, if_pos (by simpa using h4)]
    rw [if_pos h4] at k
    exact k _ (ci.put_self.symm ▸ hs')
  rw [leI_eq, if_neg (by simpa using h4)]
  rw [if_neg h4] at k
  refine act_b (C := C) hs .z ok ?_
  intro h6 hs
  have eact := ok.act
  simp only [put, Cm.cells] at hs
  refine ⟨_, _, _, hs.ld .z rfl, _, rfl, h2, by (try dsimp only); omega, ?_⟩
  simp only [add_mk, Nat.zero_add, Nat.mul_one]
  refine ⟨_, hs.sld (i := 2) (.s (.s .z)) (by rw [ints_get, List.getElem?_eq_getElem hje]; rfl), _, rfl, h2, by (try dsimp only); omega, ?_⟩
  simp only [add_mk, Nat.zero_add, Nat.mul_one]
  refine ⟨hs.scan (i := 2) (.s (.s .z)) (show 0 < el by omega) (by simp; omega), ?_⟩
  intro h7 e7
  replace hs := hs.swr (i := 2) (.s (.s .z)) e7 (show 0 < el by omega) (by simp; omega) (by simp)
  simp only [put, splice, ints_set] at hs
  have hce := ok.typed.erases _ (List.getElem_mem hje)
  have hcm := ok.may.erases
  rw [show IntKind.i64.wrap (C.s.erases[page.toNat] + 1) = C.s.erases[page.toNat] + 1 by rw [IntKind.wrap_i64]; omega] at hs
  obtain ⟨⟨yp, yl, yc⟩, hd, R, e8, hs, give⟩ := (hs.front (.s .z)).row_take hjp
  obtain ⟨qb, hq⟩ := hs.sl_some (.s .z) (show 0 < pl by omega)
  dsimp only at hq
  subst hq
  have hcl := ok.fits.cells _ (List.getElem_mem hjp)
  have hcc := ok.may.cells
  have hcs' := ok.may.slots
  have hyl := hs.sl_len .z
  simp only [ints_length] at hyl
  obtain ⟨yb, hy⟩ := hs.sl_some .z (show 0 < yl by omega)
  dsimp only at hy
  subst hy
  have hbr := ok.typed.bytes _ (List.getElem_mem hjp)
  have ecells : C.act.cfg = C.cfg := act_cfg C
  generalize C.s.pages[page.toNat] = row at *
  let g := fun (i : Nat) (b : Int) => bits .or .u8 b (maskAt C i)
  intro J hJ
  have hmg : ∀ n, (mapTo g n row).length = row.length := fun n => by simp
  refine loop_up C.cfg.cells.toNat (fun k h => Sat h0 (sE (some ⟨yb, 0, none⟩, yl, yc) 32 (ints .u8 (mapTo g (32 * k) row)) :: sE (some ⟨qb, 0, none⟩, pl, pc) 1 hd :: ((blk p (C.act.cells (some ⟨qb, 0, none⟩, pl, pc) (some ⟨eb, 0, none⟩, el, ec) w3 w4) ::
      sE (some ⟨eb, 0, none⟩, el, ec) 1 (ints .i64 (C.s.erases.set page.toNat (C.s.erases[page.toNat] + 1))) :: sE w3 1 (bools C.s.blown) :: sE w4 1 (ints .u8 ms) :: del A i) ++ R)) h) ?_ ?_ 0 _ (by omega) (by rw [Nat.mul_zero, mapTo_zero]; exact hs)
  · intro k h8 hk hs hk'
    apply hJ
    refine ⟨_, hs.ld (.s (.s .z)) rfl, ?_⟩
    rw [ltI_eq, if_pos (by rw [ecells]; simp; omega)]
    intro J2 hJ2
    refine loop_up 32 (fun j h => Sat h0 (sE (some ⟨yb, 0, none⟩, yl, yc) 32 (ints .u8 (mapTo g (32 * k + j) row)) :: sE (some ⟨qb, 0, none⟩, pl, pc) 1 hd :: ((blk p (C.act.cells (some ⟨qb, 0, none⟩, pl, pc) (some ⟨eb, 0, none⟩, el, ec) w3 w4) ::
      sE (some ⟨eb, 0, none⟩, el, ec) 1 (ints .i64 (C.s.erases.set page.toNat (C.s.erases[page.toNat] + 1))) :: sE w3 1 (bools C.s.blown) :: sE w4 1 (ints .u8 ms) :: del A i) ++ R)) h) ?_ ?_ 0 _ (by omega) (by rw [Nat.add_zero]; exact hs)
    · intro j h9 hj hs hk2
      apply hJ2
      rw [ltI_eq, if_pos (by simp; omega)]
      simp only [Int.toNat_natCast, Nat.mul_one]
      have hlt : k * 32 + j < row.length := by omega
      have ea : (mapTo g (32 * k + j) row)[k * 32 + j]? = some row[k * 32 + j] := mapTo_out (by omega) hlt
      have eb' : (ints .u8 (mapTo g (32 * k + j) row))[k * 32 + j]? = some (.int .u8 row[k * 32 + j]) := by rw [ints_get, ea]; rfl
      have ld1 : hc h9 ⟨p, 7, none⟩ = some (.slice (some ⟨qb, 0, none⟩) pl pc) := hs.ld (.s (.s .z)) rfl
      have ld2 : hc h9 ⟨qb, page.toNat, none⟩ = some (.slice (some ⟨yb, 0, none⟩) yl yc) := hs.sld (.s .z) e8
      have hcan' : hcan h9 ⟨yb, k * 32 + j, none⟩ 1 := hs.scan .z (show 0 < yl by omega) (by simp; omega)
      have fin : ∀ v h8, v = g (k * 32 + j) row[k * 32 + j] → h8 = hwr h9 ⟨yb, k * 32 + j, none⟩ [.int .u8 v] → J2 [SV.dv (DV.one (Value.int .i64 (IntKind.i64.wrap (j + 1))))] h8 := by
        intro v h10 ev e10
        have hsW := hs.swr .z e10 (show 0 < yl by omega) (by simp; omega) (by simp)
        rw [wrap_succ (by omega)]
        refine hk2 _ ?_
        simp only [splice_cons, splice_nil, ints_set, put] at hsW
        have e11 : (mapTo g (32 * k + j) row).set (k * 32 + j) v = mapTo g (32 * k + (j + 1)) row := by
          have := mapTo_succ g (32 * k + j) row (by omega)
          rw [show 32 * k + (j + 1) = 32 * k + j + 1 by omega, ← this]
          have e12 : 32 * k + j = k * 32 + j := by omega
          simp only [e12, ev]
        rw [e11] at hsW
        exact hsW
      split
      · rename_i hcut
        have hcut : C.left = 0 := by simpa using hcut
        refine ⟨_, _, _, ld1, _, rfl, h2, by (try dsimp only); omega, ?_⟩
        simp only [add_mk, Nat.zero_add]
        refine ⟨_, _, _, ld2, _, rfl, by omega, by (try dsimp only); omega, by omega, by omega, ?_⟩
        simp only [add_mk, Nat.zero_add]
        refine ⟨_, hs.sld .z eb', ?_⟩
        have ew : IntKind.i64.wrap (IntKind.i64.wrap (32 * (k : Int)) + (j : Int)) = ((k * 32 + j : Nat) : Int) := by rw [wrap_id (n := 32 * (k : Int)) (by omega), wrap_id (by omega)]; omega
        refine bits_b (C := C.act) hs (i := 2) (.s (.s .z)) (j := 5) (.s (.s (.s (.s (.s .z))))) (k * 32 + j) ew ?_
        refine ⟨hcs_one (hs.sld .z eb'), hcs_one ld2, hcs_one ld1, ?_⟩
        refine ⟨_, _, _, ld1, _, rfl, h2, by (try dsimp only); omega, ?_⟩
        simp only [add_mk, Nat.zero_add]
        refine ⟨_, _, _, ld2, _, rfl, by omega, by (try dsimp only); omega, by omega, by omega, ?_⟩
        simp only [add_mk, Nat.zero_add]
        refine ⟨hcan', fun h8 e9 => fin _ h8 ?_ e9⟩
        simp only [g]
        rw [maskAt_cut me hcut]
      · rename_i hcut
        have hcut : ¬ C.left = 0 := by simpa using hcut
        refine ⟨_, _, _, ld1, _, rfl, h2, by (try dsimp only); omega, ?_⟩
        simp only [add_mk, Nat.zero_add]
        refine ⟨_, _, _, ld2, _, rfl, by omega, by (try dsimp only); omega, by omega, by omega, ?_⟩
        simp only [add_mk, Nat.zero_add]
        refine ⟨hcan', fun h8 e9 => fin _ h8 ?_ e9⟩
        simp only [g]
        rw [maskAt_full hcut, full_or]
    · intro h9 hs
      apply hJ2
      rw [ltI_eq, if_neg (by simp)]
      rw [wrap_succ (by omega)]
      exact hk' _ hs
  · intro h8 hs
    apply hJ
    refine ⟨_, hs.ld (.s (.s .z)) rfl, ?_⟩
    rw [ltI_eq, if_neg (by rw [ecells]; simp; omega)]
    have e12 : mapTo g (32 * C.cfg.cells.toNat) row = eraseRow row (maskAt C) := by
      unfold eraseRow
      have : 32 * C.cfg.cells.toNat = row.length := by omega
      rw [this]
    rw [e12] at hs
    replace hs := (give _ _ _ hs).front (.s .z)
    have hce' : ((C.act.setErase page.toNat (C.s.erases[page.toNat] + 1)).setPage page.toNat (eraseRow row (maskAt C))).ok := by
      refine (eact.setErase (by omega)).setPage ?_ ?_
      · show ((eraseRow row (maskAt C)).length : Int) = 32 * C.act.cfg.cells
        rw [act_cfg, ← e12, hmg]; exact hcl
      · refine mapTo_mem (P := isByte) (fun v hv => hbr v hv) (fun i v hv => byte_bits _ _ _)
    have hR := ref_close (C := (C.act.setErase page.toNat (C.s.erases[page.toNat] + 1)).setPage page.toNat (eraseRow row (maskAt C))) (a := (some ⟨qb, 0, none⟩, pl, pc)) (b := (some ⟨eb, 0, none⟩, el, ec)) (c := w3) (m := w4) hce' mb ml (act_me ok me) ci (by rw [Cm.setPage, Cm.setErase, act_s]; exact hs)
    have hq := k _ hR
    unfold errM at hq
    by_cases hz : C.left = 0
    · simpa [hz] using hq
    · simpa [hz] using hq
end
end Go.Proofs.Ytamfkofcpoglnaa
