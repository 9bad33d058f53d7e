/- WearTurns: what is proved and its parts, laid together by a program of ours: Ch6 Ch7 Ah Ch8 By Rf3 Rf8 La2 La5 Fu3 Fu4 -/
import Derived.Laws.Closers25b
import Derived.Test.YteabcbpimjjdpaaK8
set_option autoImplicit false
set_option linter.all false
/- Contracts of the chip's Read, Program, Erase. Own work. -/
section
set_option linter.unusedVariables false
namespace Go.Proofs.Yteabcbpimjjdpaa
open Go Go.Vc

section
variable {h0 h : H} {A : List Ent} {i p : Nat} {C : Cm}
theorem asksCellM_zero {page cell : Int} (ok : C.ok) (e : asksCellM C page cell = 0) : C.out = false ∧ 0 ≤ page ∧ page < C.s.pages.length ∧ 0 ≤ cell ∧ cell < C.cfg.cells ∧
    ∃ hj : page.toNat < C.s.pages.length, (C.s.pages[page.toNat].length : Int) = 32 * C.cfg.cells ∧ (cell.toNat + 1) * 32 ≤ C.s.pages[page.toNat].length := by
  unfold asksCellM at e
  split at e
  · rename_i h1; exact absurd e h1
  · rename_i h1
    have h1 : askedM C page C.s.pages.length = 0 := by simpa using h1
    obtain ⟨h2, h3, h4⟩ := askedM_zero h1
    obtain ⟨_, h5, h6⟩ := askedM_zero e
    have hj : page.toNat < C.s.pages.length := by omega
    have hl := ok.fits.cells _ (List.getElem_mem hj)
    exact ⟨h2, h3, h4, h5, h6, hj, hl, by omega⟩
def readM (C : Cm) (page cell : Int) : List Int × Int :=
  if asksCellM C page cell ≠ 0 then (zeros 32, asksCellM C page cell) else (cellAt (C.s.pages.getD page.toNat []) cell.toNat, 0)
theorem Read_sp {Q : List Int → Int → H → Prop} (hs : Sat h0 A h) (ci : At A i (chipE p C)) (page cell : Int) (k : ∀ h', Sat h0 A h' → Q (readM C page cell).1 (readM C page cell).2 h') :
    F_chip_Chip_Read ⟨p, 0, none⟩ page cell Q h := by
  unfold F_chip_Chip_Read G_chip_Chip_Read
  simp only [add_mk, Nat.zero_add, List.append_nil]
  (intro _ _ hn; replace hs := Sat.new hs hn; clear hn)
  refine asksCell_sp hs (ci.s) _ _ ?_
  unfold readM at k
  by_cases h1 : asksCellM C page cell = 0
  case neg =>
    rw [if_pos (by simpa using h1)]
    rw [if_pos (by simpa using h1)] at k
    (refine ⟨Sat.can hs (by (repeat (first | exact At.z | apply At.s))) (by simp), ?_⟩; intro _ e; replace hs := Sat.wra hs (by (repeat (first | exact At.z | apply At.s))) e (by simp [*]); clear e; simp only [put] at hs)
    refine ⟨_, ?_, hs.row0 (by (repeat (first | exact At.z | apply At.s))), ?_⟩
    · simp
    exact k _ hs.drop
  rw [if_neg (by simpa using h1)]
  rw [if_neg (by simpa using h1)] at k
  have hs' := hs
  obtain ⟨w, ok, hs⟩ := (hs.front ci.s).open_
  obtain ⟨_, h2, h3, h4, h5, hj, hl, hk⟩ := asksCellM_zero ok h1
  dsimp only [chipL, List.cons_append, List.nil_append, Cm.cells] at hs
  refine ⟨_, _, _, hs.ld .z rfl, ?_⟩
  have rd := hs.rdM (.s .z)
  have hlen := rd.len
  obtain ⟨q, x, q', e1, e2, e3, e4, e5⟩ := rd.cell hj hk
  rw [e1]
  refine ⟨_, rfl, h2, by (try dsimp only); omega, ?_⟩
  refine ⟨_, _, _, e2, ?_⟩
  refine ⟨_, e4, h4, by omega, ?_⟩
  refine ⟨_, cellAt_length hk, e5, ?_⟩
  replace hs := hs'
  have hcl := cellAt_length hk
  (refine ⟨Sat.can hs (by (repeat (first | exact At.z | apply At.s))) (by simp), ?_⟩; intro _ e; replace hs := Sat.wra hs (by (repeat (first | exact At.z | apply At.s))) e (by simp [*]); clear e; simp only [put] at hs)
  refine ⟨_, ?_, hs.row0 (by (repeat (first | exact At.z | apply At.s))), ?_⟩
  · exact hcl
  have : C.s.pages.getD page.toNat [] = C.s.pages[page.toNat] := by simp [List.getD, List.getElem?_eq_getElem hj]
  rw [this] at k
  exact k _ hs.drop

def progCell (old x : List Int) (f : Nat → Int) : List Int := mapTo (fun i now => bits .andNot .u8 now (bits .andNot .u8 (f i) (x.getD i 0))) 32 old
def Cm.setPage (C : Cm) (j : Nat) (row : List Int) : Cm := { C with s := { C.s with pages := C.s.pages.set j row } }
def rowOf (C : Cm) (page : Int) : List Int := C.s.pages.getD page.toNat []
def programM (C : Cm) (page cell : Int) (x : List Int) : Cm × Int :=
  if asksCellM C page cell ≠ 0 then (C, asksCellM C page cell)
  else (C.act.setPage page.toNat (rowSet (rowOf C page) cell.toNat (progCell (cellAt (rowOf C page) cell.toNat) x (maskAt C))), errM C)
theorem act_s (C : Cm) : C.act.s = C.s := by unfold Cm.act; split <;> rfl
theorem act_cfg (C : Cm) : C.act.cfg = C.cfg := by unfold Cm.act; split <;> rfl
theorem byte_bits (op : BinOp) (a b : Int) : isByte (bits op .u8 a b) := by
  have h1 := bits_lo_u8 op a b; have h2 := bits_hi_u8 op a b
  unfold isByte; omega
theorem Cm.ok.setPage {C : Cm} (ok : C.ok) {j : Nat} {row : List Int} (hl : (row.length : Int) = 32 * C.cfg.cells) (hb : bytesOk row) : (C.setPage j row).ok := by
  refine ⟨ok.may, ⟨by simpa [Cm.setPage] using ok.fits.pages, ?_, ok.fits.erases, ok.fits.blown⟩, ⟨?_, ok.typed.erases⟩, ok.left, ok.left2, ok.mask, ok.acts, ok.mlen⟩
  · intro l hm
    rcases List.mem_or_eq_of_mem_set hm with hm | hm
    · exact ok.fits.cells l hm
    · rw [hm]; exact hl
  · intro l hm
    rcases List.mem_or_eq_of_mem_set hm with hm | hm
    · exact ok.typed.bytes l hm
    · rw [hm]; exact hb
theorem mapTo_mem {g : Nat → Int → Int} {n : Nat} {ns : List Int} {P : Int → Prop} (h1 : ∀ v, v ∈ ns → P v) (h2 : ∀ i v, v ∈ ns → P (g i v)) : ∀ v, v ∈ mapTo g n ns → P v := by
  intro v hv
  obtain ⟨i, hi⟩ := List.mem_iff_getElem?.1 hv
  rw [mapTo_get] at hi
  cases e : ns[i]? with
  | none => rw [e] at hi; simp at hi
  | some u =>
    rw [e] at hi
    have hu : u ∈ ns := List.mem_iff_getElem?.2 ⟨i, e⟩
    simp only [Option.map_some, Option.some.injEq] at hi
    rw [← hi]; split
    · exact h2 _ _ hu
    · exact h1 _ hu
theorem cellAt_mem {row : List Int} {k : Nat} {v : Int} (h : v ∈ cellAt row k) : v ∈ row := List.mem_of_mem_drop (List.mem_of_mem_take h)
theorem rowSet_mem {row c : List Int} {k : Nat} {v : Int} (h : v ∈ rowSet row k c) : v ∈ row ∨ v ∈ c := by
  simp only [rowSet, List.mem_append] at h
  rcases h with (h | h) | h
  · exact Or.inl (List.mem_of_mem_take h)
  · exact Or.inr h
  · exact Or.inl (List.mem_of_mem_drop h)

theorem Program_sp {Q : Int → H → Prop} (hs : Sat h0 A h) (ci : At A i (chipE p C)) (page cell : Int) (x : List Int) (hx : x.length = 32) (k : ∀ h', Sat h0 (put A i (chipE p (programM C page cell x).1)) h' → Q (programM C page cell x).2 h') :
    F_chip_Chip_Program ⟨p, 0, none⟩ page cell x Q h := by
  unfold F_chip_Chip_Program G_chip_Chip_Program
  simp only [add_mk, Nat.zero_add, List.append_nil]
  intro nx _ hn
  replace hs := Sat.new hs hn
  clear hn
  refine asksCell_sp hs (ci.s) _ _ ?_
  unfold programM at k
  by_cases h1 : asksCellM C page cell = 0
  case neg =>
    rw [if_pos (by simpa using h1)]
    rw [if_pos (by simpa using h1)] at k
    exact k _ (ci.put_self.symm ▸ hs.drop)
  rw [if_neg (by simpa using h1)]
  rw [if_neg (by simpa using h1)] at k
  obtain ⟨w0, ok, _⟩ := (hs.front ci.s).open_
  obtain ⟨_, h2, h3, h4, h5, hj, hl, hk⟩ := asksCellM_zero ok h1
  have erow : rowOf C page = C.s.pages[page.toNat] := by simp [rowOf, List.getD, List.getElem?_eq_getElem hj]
  rw [erow] at k
  refine begins_sp hs ci.s ?_
  intro v h6 hs
  simp only [put_succ] at hs
  have ci2 := ((ci.put (chipE p C.act)).s (x := blk nx (ints .u8 x))).s (x := mayE v (maskAt C))
  have hsO := (hs.front ci2).open_
  obtain ⟨w, ok', hsO⟩ := hsO
  dsimp only [chipL, List.cons_append, List.nil_append, Cm.cells] at hsO
  rw [act_s] at hsO
  refine ⟨_, _, _, hsO.ld .z rfl, ?_⟩
  have rd := hsO.rdM (.s .z)
  have hlen := rd.len
  obtain ⟨q, y, q', e1, e2, e3, e4, e5⟩ := rd.cell hj hk
  rw [e1]
  refine ⟨_, rfl, h2, by (try dsimp only); omega, ?_⟩
  refine ⟨_, _, _, e2, ?_⟩
  refine ⟨_, e4, h4, by omega, ?_⟩
  have hcl := cellAt_length hk
  refine ⟨_, hcl, e5, ?_⟩
  intro no _ hn
  replace hs := Sat.new hs hn
  clear hn
  (refine ⟨Sat.can hs (by (repeat (first | exact At.z | apply At.s))) (by simp), ?_⟩; intro _ e; replace hs := Sat.wra hs (by (repeat (first | exact At.z | apply At.s))) e (by simp [*]); clear e; simp only [put] at hs)
  refine ⟨_, ?_, hs.row0 (by (repeat (first | exact At.z | apply At.s))), ?_⟩
  · exact hcl
  intro nn _ hn
  replace hs := Sat.new hs hn
  clear hn
  (refine ⟨Sat.can hs (by (repeat (first | exact At.z | apply At.s))) (by simp), ?_⟩; intro _ e; replace hs := Sat.wra hs (by (repeat (first | exact At.z | apply At.s))) e (by simp [*]); clear e; simp only [put] at hs)
  intro J hJ
  generalize hold : cellAt C.s.pages[page.toNat] cell.toNat = old at *
  let g := fun (i : Nat) (now : Int) => bits .andNot .u8 now (bits .andNot .u8 (maskAt C i) (x.getD i 0))
  refine loop_up 32 (fun i h => Sat h0 (blk nn (ints .u8 (mapTo g i old)) :: blk no (ints .u8 old) :: mayE v (maskAt C) :: blk nx (ints .u8 x) :: put A _ (chipE p C.act)) h) ?_ ?_ 0 _ (by omega) (by simpa using hs)
  · intro j h7 hjl hs hk'
    apply hJ
    rw [ltI_eq, if_pos (by simp; omega)]
    simp only [Int.toNat_natCast, Nat.mul_one]
    have hmj : j < (mapTo g j old).length := by simp; omega
    have eg : (mapTo g j old)[j] = old[j] := by
      have := mapTo_get g j old j
      rw [List.getElem?_eq_getElem hmj, List.getElem?_eq_getElem (by omega)] at this
      simpa using this
    refine ⟨by omega, by omega, _, hs.ld .z (by rw [ints_get, List.getElem?_eq_getElem hmj]; rfl), by omega, by omega, _, hs.ld (.s (.s (.s .z))) (by rw [ints_get, List.getElem?_eq_getElem (by omega)]; rfl), ?_⟩
    refine call_may hs (.s (.s .z)) j rfl ?_
    refine ⟨_, _, rfl, _, rfl, rfl, hcs_one (hs.ld (.s (.s (.s .z))) (by rw [ints_get, List.getElem?_eq_getElem (by omega)]; rfl)), hcs_one (hs.ld .z (by rw [ints_get, List.getElem?_eq_getElem hmj]; rfl)), by omega, by omega, hs.can .z (by simp; omega), ?_⟩
    intro h8 e8
    replace hs := hs.wr .z e8
    rw [wrap_succ (by omega)]
    refine hk' _ ?_
    simp only [splice_cons, splice_nil, ints_set, put] at hs
    have e9 := mapTo_succ g j old (by omega)
    rw [← e9]
    have e10 : x.getD j 0 = x[j] := by simp [List.getD, List.getElem?_eq_getElem (show j < x.length by omega)]
    rw [eg] at hs
    simpa only [g, e10] using hs
  · intro h7 hs
    apply hJ
    rw [ltI_eq, if_neg (by simp)]
    have hnl : (mapTo g 32 old).length = 32 := by simpa using hcl
    refine ⟨_, ?_, hs.row0 (by (repeat (first | exact At.z | apply At.s))), ?_⟩
    · exact hnl
    refine ⟨_, hcl, hs.row0 (.s .z), ?_⟩
    have ci3 := (ci2.s (x := blk no (ints .u8 old))).s (x := blk nn (ints .u8 (mapTo g 32 old)))
    obtain ⟨w', _, hsO⟩ := (hs.front ci3).open_
    dsimp only [chipL, List.cons_append, List.nil_append, Cm.cells] at hsO
    rw [act_s] at hsO
    have hrow : (C.s.pages[page.toNat].length : Int) = 32 * C.act.cfg.cells := by rw [act_cfg]; exact hl
    have ok2 := ok'.setPage (j := page.toNat) (row := rowSet C.s.pages[page.toNat] cell.toNat (mapTo g 32 old)) (by rw [rowSet_length hk hnl]; exact hrow) (by
      intro n hn
      rcases rowSet_mem hn with hn | hn
      · exact ok.typed.bytes _ (List.getElem_mem hj) n hn
      · refine mapTo_mem (P := isByte) (fun v hv => ?_) (fun i v hv => byte_bits _ _ _) n hn
        rw [← hold] at hv
        exact ok.typed.bytes _ (List.getElem_mem hj) v (cellAt_mem hv))
    split
    case isTrue hne =>
      refine ⟨_, _, _, hsO.ld .z rfl, ?_⟩
      have hl1 := (hsO.rdM (.s .z)).len
      obtain ⟨y', hd, R, e6, hsT, give⟩ := (hsO.front (.s .z)).row_take hj
      obtain ⟨⟨wp, wl, wc⟩, wb, wc', wm⟩ := w'
      dsimp only at hl1 hsT give
      have hl2 : C.s.pages.length = wl := hl1
      obtain ⟨qb, hq⟩ := hsT.sl_some (.s .z) (show 0 < wl by omega)
      subst hq
      refine ⟨_, rfl, h2, by dsimp only; omega, ?_⟩
      simp only [add_mk, Nat.zero_add, Nat.mul_one]
      refine ⟨_, _, _, hsT.sld (.s .z) e6, ?_⟩
      refine ⟨_, ?_, hs.row0 (by (repeat (first | exact At.z | apply At.s))), ?_⟩
      · exact hnl
      have hyl := hsT.sl_len .z
      simp only [ints_length] at hyl
      obtain ⟨yp, yl, yc⟩ := y'
      dsimp only at hyl
      obtain ⟨yb, hy⟩ := hsT.sl_some .z (by dsimp only; omega)
      dsimp only at hy
      subst hy
      refine ⟨_, rfl, h4, by dsimp only; omega, ?_⟩
      simp only [add_mk, Nat.zero_add]
      refine ⟨hsT.scan .z (by dsimp only; omega) (by simp; omega), ?_⟩
      intro h8 e8
      have hsW := hsT.swr .z e8 (by dsimp only; omega) (by simp [hcl]; omega) (ints_one _ _)
      rw [splice_rowSet hk hnl] at hsW
      have hsG := give _ _ _ hsW
      have hsC := chip_close (a := (some ⟨qb, 0, none⟩, wl, wc)) (b := wb) (c := wc') (m := wm) ok2 ci3 (by rw [Cm.setPage, act_s]; exact hsG.front (.s .z))
      simp only [put_succ, put_put] at hsC
      exact k _ hsC.drop.drop.drop.drop
    case isFalse hne =>
      have hne : mapTo g 32 old = old := by simpa using hne
      replace hne : progCell old x (maskAt C) = old := hne
      have e1 : rowSet C.s.pages[page.toNat] cell.toNat (cellAt C.s.pages[page.toNat] cell.toNat) = C.s.pages[page.toNat] := by
        unfold rowSet cellAt
        rw [List.append_assoc, ← List.drop_drop, List.take_append_drop, List.take_append_drop]
      have e2 : C.act.setPage page.toNat C.s.pages[page.toNat] = C.act := by
        have : C.act.s.pages.set page.toNat C.s.pages[page.toNat] = C.act.s.pages := by rw [act_s]; exact List.set_getElem_self hj
        unfold Cm.setPage; rw [this]
      rw [hne, ← hold, e1, e2] at k
      exact k _ hs.drop.drop.drop.drop

def eraseRow (row : List Int) (f : Nat → Int) : List Int := mapTo (fun i b => bits .or .u8 b (f i)) row.length row
def Cm.setErase (C : Cm) (j : Nat) (n : Int) : Cm := { C with s := { C.s with erases := C.s.erases.set j n } }
def eraseM (C : Cm) (page : Int) : Cm × Int :=
  if askedM C page C.s.pages.length ≠ 0 then (C, askedM C page C.s.pages.length)
  else if C.cfg.erases ≤ C.s.erases.getD page.toNat 0 then (C, 9)
  else ((C.act.setErase page.toNat (C.s.erases.getD page.toNat 0 + 1)).setPage page.toNat (eraseRow (rowOf C page) (maskAt C)), errM C)
theorem Cm.ok.setErase {C : Cm} (ok : C.ok) {j : Nat} {n : Int} (hn : -(2 ^ 63) ≤ n ∧ n < 2 ^ 63) : (C.setErase j n).ok := by
  refine ⟨ok.may, ⟨ok.fits.pages, ok.fits.cells, by simpa [Cm.setErase] using ok.fits.erases, ok.fits.blown⟩, ⟨ok.typed.bytes, ?_⟩, ok.left, ok.left2, ok.mask, ok.acts, ok.mlen⟩
  intro l hm
  rcases List.mem_or_eq_of_mem_set hm with hm | hm
  · exact ok.typed.erases l hm
  · rw [hm]; exact hn
/-- The first i entries of a row mapped, in place. -/
theorem mapTo_out {g : Nat → Int → Int} {i j : Nat} {ns : List Int} (h : i ≤ j) (hj : j < ns.length) : (mapTo g i ns)[j]? = some ns[j] := by
  rw [mapTo_get, List.getElem?_eq_getElem hj]; simp; omega

theorem Erase_sp {Q : Int → H → Prop} (hs : Sat h0 A h) (ci : At A i (chipE p C)) (page : Int) (k : ∀ h', Sat h0 (put A i (chipE p (eraseM C page).1)) h' → Q (eraseM C page).2 h') :
    F_chip_Chip_Erase ⟨p, 0, none⟩ page Q h := by
  unfold F_chip_Chip_Erase G_chip_Chip_Erase
  simp only [add_mk, Nat.zero_add]
  have hs' := hs
  obtain ⟨w, ok, hs⟩ := (hs.front ci).open_; dsimp only [chipL, List.cons_append, List.nil_append, Cm.cells] at hs
  have hlp := (hs.rdM (.s .z)).len
  have hle := hs.sl_len (i := 2) (.s (.s .z))
  simp only [ints_length, Nat.mul_one] at hle
  refine ⟨_, _, _, hs.ld .z rfl, ?_⟩
  rw [← hlp]
  refine asked_sp hs' ci _ _ ?_
  unfold eraseM at k
  by_cases h1 : askedM C page C.s.pages.length = 0
  case neg =>
    rw [if_pos (by simpa using h1)]
    rw [if_pos (by simpa using h1)] at k
    exact k _ (ci.put_self.symm ▸ hs')
  rw [if_neg (by simpa using h1)]
  rw [if_neg (by simpa using h1)] at k
  obtain ⟨_, h2, h3⟩ := askedM_zero h1
  have hf1 := ok.fits.pages
  have hf2 := ok.fits.erases
  have hje : page.toNat < C.s.erases.length := by omega
  have hjp : page.toNat < C.s.pages.length := by omega
  have eer : C.s.erases.getD page.toNat 0 = C.s.erases[page.toNat] := by simp [List.getD, List.getElem?_eq_getElem hje]
  have erow : rowOf C page = C.s.pages[page.toNat] := by simp [rowOf, List.getD, List.getElem?_eq_getElem hjp]
  rw [eer, erow] at k
  refine ⟨_, _, _, hs.ld .z rfl, ?_⟩
  obtain ⟨w1, ⟨ep, el, ec⟩, w3, w4⟩ := w
  replace hle : C.s.erases.length = el := hle
  obtain ⟨eb, he⟩ := hs.sl_some (i := 2) (.s (.s .z)) (show 0 < el by omega)
  dsimp only at he
  subst he
  refine ⟨_, rfl, h2, by (try dsimp only); omega, ?_⟩
  simp only [add_mk, Nat.zero_add, Nat.mul_one]
  refine ⟨_, hs.sld (i := 2) (.s (.s .z)) (by rw [ints_get, List.getElem?_eq_getElem hje]; rfl), ?_⟩
  refine ⟨_, Sat.ld hs (by (repeat (first | exact At.z | apply At.s))) (by rfl), ?_⟩
  by_cases h4 : C.cfg.erases ≤ C.s.erases[page.toNat]
  case pos =>
    rw [leI_eq, if_pos (by simpa using h4)]
    rw [if_pos h4] at k
    exact k _ (ci.put_self.symm ▸ hs')
  rw [leI_eq, if_neg (by simpa using h4)]
  rw [if_neg h4] at k
  refine begins_sp hs' ci ?_
  intro v h6 hs
  have ci2 := (ci.put (chipE p C.act)).s (x := mayE v (maskAt C))
  obtain ⟨w, ok', hs⟩ := (hs.front ci2).open_
  dsimp only [chipL, List.cons_append, List.nil_append, Cm.cells] at hs
  rw [act_s] at hs
  have hle := hs.sl_len (i := 2) (.s (.s .z))
  simp only [ints_length, Nat.mul_one] at hle
  have hlp := (hs.rdM (.s .z)).len
  obtain ⟨⟨pp, pl, pc⟩, ⟨ep, el, ec⟩, w3, w4⟩ := w
  replace hle : C.s.erases.length = el := hle
  replace hlp : C.s.pages.length = pl := hlp
  obtain ⟨eb, he⟩ := hs.sl_some (i := 2) (.s (.s .z)) (show 0 < el by omega)
  dsimp only at he
  subst he
  refine ⟨_, _, _, Sat.ld hs (by (repeat (first | exact At.z | apply At.s))) (by rfl), ?_⟩
  refine ⟨_, rfl, h2, by (try dsimp only); omega, ?_⟩
  simp only [add_mk, Nat.zero_add, Nat.mul_one]
  refine ⟨_, hs.sld (i := 2) (.s (.s .z)) (by rw [ints_get, List.getElem?_eq_getElem hje]; rfl), ?_⟩
  refine ⟨_, rfl, h2, by (try dsimp only); omega, ?_⟩
  simp only [add_mk, Nat.zero_add, Nat.mul_one]
  refine ⟨hs.scan (i := 2) (.s (.s .z)) (show 0 < el by omega) (by simp; omega), ?_⟩
  intro h7 e7
  replace hs := hs.swr (i := 2) (.s (.s .z)) e7 (show 0 < el by omega) (by simp; omega) (by simp)
  simp only [put, splice, ints_set] at hs
  have hce := ok.typed.erases _ (List.getElem_mem hje)
  have hcm := ok.may.erases
  rw [show IntKind.i64.wrap (C.s.erases[page.toNat] + 1) = C.s.erases[page.toNat] + 1 by rw [IntKind.wrap_i64]; omega] at hs
  have hs7 := hs
  refine ⟨_, _, _, Sat.ld hs (by (repeat (first | exact At.z | apply At.s))) (by rfl), ?_⟩
  obtain ⟨⟨yp, yl, yc⟩, hd, R, e8, hs, give⟩ := (hs.front (.s .z)).row_take hjp
  obtain ⟨qb, hq⟩ := hs.sl_some (.s .z) (show 0 < pl by omega)
  dsimp only at hq
  subst hq
  refine ⟨_, rfl, h2, by (try dsimp only); omega, ?_⟩
  simp only [add_mk, Nat.zero_add, Nat.mul_one]
  refine ⟨_, _, _, hs.sld (.s .z) e8, ?_⟩
  have hcl := ok.fits.cells _ (List.getElem_mem hjp)
  have hcc := ok.may.cells
  have hcs := ok.may.slots
  have hyl := hs.sl_len .z
  simp only [ints_length] at hyl
  obtain ⟨yb, hy⟩ := hs.sl_some .z (show 0 < yl by omega)
  dsimp only at hy
  subst hy
  have hbr := ok.typed.bytes _ (List.getElem_mem hjp)
  generalize C.s.pages[page.toNat] = row at *
  let g := fun (i : Nat) (b : Int) => bits .or .u8 b (maskAt C i)
  intro J hJ
  have hmg : ∀ n, (mapTo g n row).length = row.length := fun n => by simp
  refine loop_up C.cfg.cells.toNat (fun k h => Sat h0 (sE (some ⟨yb, 0, none⟩, yl, yc) 32 (ints .u8 (mapTo g (32 * k) row)) :: sE (some ⟨qb, 0, none⟩, pl, pc) 1 hd :: ((blk p (C.act.cells (some ⟨qb, 0, none⟩, pl, pc) (some ⟨eb, 0, none⟩, el, ec) w3 w4) ::
      sE (some ⟨eb, 0, none⟩, el, ec) 1 (ints .i64 (C.s.erases.set page.toNat (C.s.erases[page.toNat] + 1))) :: sE w3 1 (bools C.s.blown) :: sE w4 1 (ints .u8 C.act.mask) :: mayE v (maskAt C) :: del (put A i (chipE p C.act)) i) ++ R)) h) ?_ ?_ 0 _ (by omega) (by rw [Nat.mul_zero, mapTo_zero]; exact hs)
  · intro k h8 hk hs hk'
    apply hJ
    rw [ltI_eq, if_pos (by simp; omega)]
    simp only [Cm.cells] at hs
    refine ⟨_, _, _, hs.ld (.s (.s .z)) rfl, ?_⟩
    refine ⟨_, rfl, h2, by (try dsimp only); omega, ?_⟩
    simp only [add_mk, Nat.zero_add, Nat.mul_one]
    refine ⟨_, _, _, hs.sld (.s .z) e8, ?_⟩
    refine ⟨_, rfl, by omega, by (try dsimp only); omega, ?_⟩
    intro J2 hJ2
    refine loop_up 32 (fun j h => Sat h0 (sE (some ⟨yb, 0, none⟩, yl, yc) 32 (ints .u8 (mapTo g (32 * k + j) row)) :: sE (some ⟨qb, 0, none⟩, pl, pc) 1 hd :: ((blk p (C.act.cells (some ⟨qb, 0, none⟩, pl, pc) (some ⟨eb, 0, none⟩, el, ec) w3 w4) ::
      sE (some ⟨eb, 0, none⟩, el, ec) 1 (ints .i64 (C.s.erases.set page.toNat (C.s.erases[page.toNat] + 1))) :: sE w3 1 (bools C.s.blown) :: sE w4 1 (ints .u8 C.act.mask) :: mayE v (maskAt C) :: del (put A i (chipE p C.act)) i) ++ R)) h) ?_ ?_ 0 _ (by omega) (by rw [Nat.add_zero]; exact hs)
    · intro j h9 hj hs hk2
      apply hJ2
      rw [ltI_eq, if_pos (by simp; omega)]
      simp only [add_mk, Nat.zero_add, Nat.mul_one, Int.toNat_natCast]
      have hlt : k * 32 + j < row.length := by omega
      have ea : (mapTo g (32 * k + j) row)[k * 32 + j]? = some row[k * 32 + j] := mapTo_out (by omega) hlt
      have eb' : (ints .u8 (mapTo g (32 * k + j) row))[k * 32 + j]? = some (.int .u8 row[k * 32 + j]) := by rw [ints_get, ea]; rfl
      refine ⟨by omega, by omega, _, hs.sld .z eb', ?_⟩
      have ew : IntKind.i64.wrap (IntKind.i64.wrap ((k : Int) * 32) + (j : Int)) = ((k * 32 + j : Nat) : Int) := by rw [wrap_id (n := (k : Int) * 32) (by omega), wrap_id (by omega)]; omega
      rw [ew]
      refine call_may (i := 6) hs (.s (.s (.s (.s (.s (.s .z)))))) (k * 32 + j) rfl ?_
      refine ⟨_, _, rfl, _, rfl, rfl, hcs_one (hs.sld .z eb'), by omega, by omega, hs.scan .z (show 0 < yl by omega) (by simp; omega), ?_⟩
      intro h10 e10
      replace hs := hs.swr .z e10 (show 0 < yl by omega) (by simp; omega) (by simp)
      rw [wrap_succ (by omega)]
      refine hk2 _ ?_
      simp only [splice_cons, splice_nil, ints_set, put] at hs
      have e11 : (mapTo g (32 * k + j) row).set (k * 32 + j) (bits .or .u8 row[k * 32 + j] (maskAt C (k * 32 + j))) = mapTo g (32 * k + (j + 1)) row := by
        have := mapTo_succ g (32 * k + j) row (by omega)
        rw [show 32 * k + (j + 1) = 32 * k + j + 1 by omega, ← this]
        have e12 : 32 * k + j = k * 32 + j := by omega
        simp only [e12, g]
      rw [e11] at hs
      exact hs
    · intro h9 hs
      apply hJ2
      rw [ltI_eq, if_neg (by simp)]
      rw [wrap_succ (by omega)]
      exact hk' _ hs
  · intro h8 hs
    apply hJ
    rw [ltI_eq, if_neg (by simp; omega)]
    have e12 : mapTo g (32 * C.cfg.cells.toNat) row = eraseRow row (maskAt C) := by
      unfold eraseRow
      have : 32 * C.cfg.cells.toNat = row.length := by omega
      rw [this]
    rw [e12] at hs
    replace hs := (give _ _ _ hs).front (.s .z)
    have hce' : ((C.act.setErase page.toNat (C.s.erases[page.toNat] + 1)).setPage page.toNat (eraseRow row (maskAt C))).ok := by
      refine (ok'.setErase (by omega)).setPage ?_ ?_
      · show ((eraseRow row (maskAt C)).length : Int) = 32 * C.act.cfg.cells
        rw [act_cfg, ← e12, hmg]; exact hcl
      · refine mapTo_mem (P := isByte) (fun v hv => hbr v hv) (fun i v hv => byte_bits _ _ _)
    have hsC := chip_close (a := (some ⟨qb, 0, none⟩, pl, pc)) (b := (some ⟨eb, 0, none⟩, el, ec)) (c := w3) (m := w4) hce' ci2 (by rw [Cm.setPage, Cm.setErase, act_s]; exact hs)
    simp only [put_succ, put_put] at hsC
    exact k _ hsC.drop
end
end Go.Proofs.Yteabcbpimjjdpaa
end

/- Contracts of copies: copied, State, Copy. Own work. -/
section
set_option linter.unusedVariables false
namespace Go.Proofs.Yteabcbpimjjdpaa
open Go Go.Vc

/-- May it be copied? -/
structure St.small (s : St) : Prop where
  pages : s.pages.length * 24 + 4096 ≤ 2 ^ 47
  rows : ∀ l, l ∈ s.pages → l.length + 4096 ≤ 2 ^ 47
  erases : s.erases.length * 8 + 4096 ≤ 2 ^ 47
  blown : s.blown.length + 4096 ≤ 2 ^ 47
theorem Cm.ok.small {C : Cm} (ok : C.ok) : C.s.small := by
  have h1 := ok.may.np; have h2 := ok.may.nf; have h3 := ok.fits; have h4 := ok.may.cells
  refine ⟨by have := h3.pages; omega, fun l hl => by have := h3.cells l hl; omega, by have := h3.erases; omega, by have := h3.blown; omega⟩

section
variable {h0 h : H} {A : List Ent} {i p : Nat} {C : Cm}
theorem Clone_cells_sp {p : Option Addr} {l c : Nat} {bs : List Int} {Q : Option Addr → Nat → Nat → H → Prop} (hs : Sat h0 A h) (rd : hsv h p 32 l (ints .u8 bs)) (hb : bs.length ≤ 2 ^ 47)
    (k : ∀ p' c' h', Sat h0 (sE (p', l, c') 32 (ints .u8 bs) :: A) h' → Q p' l c' h') : F_slices_Clone_api_Cell_api_Cell p l c Q h :=
  Clone_cells_spec p l c _ Q h rd (by have := rd.1; simp at this; omega) fun p' c' h' bs' x o n => k _ _ _ (hs.own x o n)
theorem Clone_ints_sp {p : Option Addr} {l c : Nat} {bs : List Int} {Q : Option Addr → Nat → Nat → H → Prop} (hs : Sat h0 A h) (rd : hsv h p 1 l (ints .i64 bs)) (hb : bs.length * 8 ≤ 2 ^ 47)
    (k : ∀ p' c' h', Sat h0 (sE (p', l, c') 1 (ints .i64 bs) :: A) h' → Q p' l c' h') : F_slices_Clone_int_int p l c Q h :=
  Clone_ints_spec p l c _ Q h rd (by have := rd.1; simp at this; omega) fun p' c' h' bs' x o n => k _ _ _ (hs.own x o n)
theorem Clone_bools_sp {p : Option Addr} {l c : Nat} {bs : List Bool} {Q : Option Addr → Nat → Nat → H → Prop} (hs : Sat h0 A h) (rd : hsv h p 1 l (bools bs)) (hb : bs.length ≤ 2 ^ 47)
    (k : ∀ p' c' h', Sat h0 (sE (p', l, c') 1 (bools bs) :: A) h' → Q p' l c' h') : F_slices_Clone_bool_bool p l c Q h :=
  Clone_bools_spec p l c _ Q h rd (by have := rd.1; simp at this; omega) fun p' c' h' bs' x o n => k _ _ _ (hs.own x o n)
theorem copied_sp {a b c : Sl} {s : St} {Q : Option Addr → Nat → Nat → Option Addr → Nat → Nat → Option Addr → Nat → Nat → H → Prop} (hs : Sat h0 A h) (rd : ∀ h', Sat h0 A h' → RdS h' a b c s) (sm : s.small)
    (k : ∀ (a' b' c' : Sl) h', Sat h0 (stL a' b' c' s ++ A) h' → Q a'.1 a'.2.1 a'.2.2 b'.1 b'.2.1 b'.2.2 c'.1 c'.2.1 c'.2.2 h') :
    F_chip_copied a.1 a.2.1 a.2.2 b.1 b.2.1 b.2.2 c.1 c.2.1 c.2.2 Q h := by
  unfold F_chip_copied G_chip_copied
  simp only [add_mk, Nat.zero_add]
  intro n1 _ hn; replace hs := Sat.new hs hn; clear hn
  intro n2 _ hn; replace hs := Sat.new hs hn; clear hn
  intro J hJ
  have fin : ∀ q b2 b3 c2 c3 h', Sat h0 (blk q [.slice none 0 0, .slice b2 b.2.1 b3, .slice c2 c.2.1 c3] :: sE (b2, b.2.1, b3) 1 (ints .i64 s.erases) :: sE (c2, c.2.1, c3) 1 (bools s.blown) ::
      blk n1 [a.v, b.v, c.v] :: blk n2 [.slice none 0 0, .slice none 0 0, .slice none 0 0] :: A) h' → J [SV.dv (DV.addr ⟨q, 0, none⟩)] h' := by
    intro q b2 b3 c2 c3 h' hs
    apply hJ
    (repeat first | refine ⟨_, Sat.ld hs (by (repeat (first | exact At.z | apply At.s))) (by rfl), ?_⟩ | refine ⟨_, _, _, Sat.ld hs (by (repeat (first | exact At.z | apply At.s))) (by rfl), ?_⟩ | (intro _ _ hn; replace hs := Sat.new hs hn; clear hn) | refine ⟨Sat.cs hs (by (repeat (first | exact At.z | apply At.s))) (by rfl), ?_⟩ | (refine ⟨Sat.can hs (by (repeat (first | exact At.z | apply At.s))) (by simp), ?_⟩; intro _ e; replace hs := Sat.wr hs (by (repeat (first | exact At.z | apply At.s))) e; clear e; simp only [put, splice, List.set] at hs))
    intro J2 hJ2
    have hlen := (rd _ hs.drop.drop.drop.drop.drop).pg.len
    replace hs := hs.mat_nil 32 none
    refine loop_up a.2.1 (fun i h => ∃ hd : Sl, hd.2.1 = i ∧ Sat h0 (matE 32 hd (s.pages.take i) :: blk q [hd.v, .slice b2 b.2.1 b3, .slice c2 c.2.1 c3] :: sE (b2, b.2.1, b3) 1 (ints .i64 s.erases) :: sE (c2, c.2.1, c3) 1 (bools s.blown) ::
      blk n1 [a.v, b.v, c.v] :: blk n2 [.slice none 0 0, .slice none 0 0, .slice none 0 0] :: A) h) ?_ ?_ 0 _ (by omega) ⟨_, rfl, hs⟩
    · rintro i h1 hi ⟨⟨hp, hl, hc⟩, e, hs⟩ hk
      simp only at e; subst e
      apply hJ2
      rw [ltI_eq, if_pos (by simp; omega)]
      have hlt : hl < s.pages.length := by omega
      obtain ⟨q', x, e1, e2, e3⟩ := (rd _ hs.drop.drop.drop.drop.drop.drop).pg.at hlt
      rw [e1]
      refine ⟨_, rfl, by omega, by omega, ?_⟩
      refine ⟨_, _, _, e2, ?_⟩
      refine ⟨_, _, _, Sat.ld hs (by (repeat (first | exact At.z | apply At.s))) (by rfl), ?_⟩
      refine Clone_cells_sp hs e3 (Nat.le_trans (Nat.le_add_right _ _) (sm.rows _ (List.getElem_mem hlt))) ?_
      intro p' c' h2 hs
      refine ⟨Sat.cs hs (by (repeat (first | exact At.z | apply At.s))) (by rfl), ?_⟩
      (intro _ _ hn; replace hs := Sat.new hs hn; clear hn)
      refine ⟨Sat.cs hs (by (repeat (first | exact At.z | apply At.s))) (by rfl), ?_⟩
      refine ⟨_, Sat.bv hs (.z) (by simp) (by simp), ?_⟩
      replace hs := Sat.front hs (.s .z)
      have hpl := sm.pages
      refine Sat.app_row hs (i := 1) (.s .z) (by dsimp only; omega) ?_
      intro p2 c2' h4 hs
      simp only [put, del] at hs
      (refine ⟨Sat.can hs (by (repeat (first | exact At.z | apply At.s))) (by simp), ?_⟩; intro _ e; replace hs := Sat.wr hs (by (repeat (first | exact At.z | apply At.s))) e; clear e; simp only [put, splice, List.set] at hs)
      rw [wrap_succ (by omega)]
      refine hk _ ⟨(p2, hl + 1, c2'), rfl, ?_⟩
      rw [List.take_succ_eq_append_getElem hlt]
      exact hs.sub (by (repeat (first | exact List.Sublist.refl _ | apply List.Sublist.cons_cons | apply List.Sublist.cons)))
    · rintro h1 ⟨⟨hp, hl, hc⟩, e, hs⟩
      simp only at e; subst e
      apply hJ2
      rw [ltI_eq, if_neg (by simp)]
      (repeat first | refine ⟨_, Sat.ld hs (by (repeat (first | exact At.z | apply At.s))) (by rfl), ?_⟩ | refine ⟨_, _, _, Sat.ld hs (by (repeat (first | exact At.z | apply At.s))) (by rfl), ?_⟩ | (intro _ _ hn; replace hs := Sat.new hs hn; clear hn) | refine ⟨Sat.cs hs (by (repeat (first | exact At.z | apply At.s))) (by rfl), ?_⟩ | (refine ⟨Sat.can hs (by (repeat (first | exact At.z | apply At.s))) (by simp), ?_⟩; intro _ e; replace hs := Sat.wr hs (by (repeat (first | exact At.z | apply At.s))) e; clear e; simp only [put, splice, List.set] at hs))
      refine k (hp, _, hc) (b2, _, b3) (c2, _, c3) _ ?_
      rw [← hlen, List.take_length] at hs
      replace hs := Sat.front hs (e := blk n2 _) (by (repeat (first | exact At.z | apply At.s)))
      replace hs := Sat.front hs (e := blk n1 _) (by (repeat (first | exact At.z | apply At.s)))
      replace hs := Sat.front hs (e := blk q _) (by (repeat (first | exact At.z | apply At.s)))
      simp only [del] at hs
      have := hs.drop.drop.drop
      rw [hlen] at this
      exact this
  repeat' (first | refine ⟨_, Sat.ld hs (by (repeat (first | exact At.z | apply At.s))) (by rfl), ?_⟩ | refine ⟨_, _, _, Sat.ld hs (by (repeat (first | exact At.z | apply At.s))) (by rfl), ?_⟩ | (intro _ _ hn; replace hs := Sat.new hs hn; clear hn) | refine ⟨Sat.cs hs (by (repeat (first | exact At.z | apply At.s))) (by rfl), ?_⟩ | (refine ⟨Sat.can hs (by (repeat (first | exact At.z | apply At.s))) (by simp), ?_⟩; intro _ e; replace hs := Sat.wr hs (by (repeat (first | exact At.z | apply At.s))) e; clear e; simp only [put, splice, List.set] at hs) | (refine Clone_ints_sp hs (rd _ (hs.sub (by (repeat (first | exact List.Sublist.refl _ | apply List.Sublist.cons_cons | apply List.Sublist.cons))))).er (Nat.le_trans (Nat.le_add_right _ _) sm.erases) ?_; intro _ _ _ hs) | (refine Clone_bools_sp hs (rd _ (hs.sub (by (repeat (first | exact List.Sublist.refl _ | apply List.Sublist.cons_cons | apply List.Sublist.cons))))).bl (Nat.le_trans (Nat.le_add_right _ _) sm.blown) ?_; intro _ _ _ hs) | refine And.intro ?_ ?_)
  all_goals
    replace hs := Sat.front hs (e := blk n2 _) (by (repeat (first | exact At.z | apply At.s)))
    replace hs := Sat.front hs (e := blk n1 _) (by (repeat (first | exact At.z | apply At.s)))
    replace hs := Sat.front hs (e := slE _ _ _ 1 (bools _)) (by (repeat (first | exact At.z | apply At.s)))
    replace hs := Sat.front hs (e := slE _ _ _ 1 (ints .i64 _)) (by (repeat (first | exact At.z | apply At.s)))
    replace hs := Sat.front hs (e := blk _ [.slice none 0 0, .slice _ b.2.1 _, .slice _ c.2.1 _]) (by (repeat (first | exact At.z | apply At.s)))
    exact fin _ _ _ _ _ _ hs

theorem chip_make {a b c m : Sl} (ok : C.ok) (hs : Sat h0 (blk p (C.cells a b c m) :: matE 32 a C.s.pages :: sE b 1 (ints .i64 C.s.erases) :: sE c 1 (bools C.s.blown) :: sE m 1 (ints .u8 C.mask) :: A) h) : Sat h0 (chipE p C :: A) h :=
  Sat.close ⟨a, b, c, m⟩ ok hs
end
end Go.Proofs.Yteabcbpimjjdpaa
end

/- What arguments of the statements are: states of chips. Own work. -/
section
set_option maxRecDepth 100000
set_option linter.unusedVariables false
namespace Go.Proofs.Yteabcbpimjjdpaa
open Go Go.Vc Go.ChangeShapes Go.WideShapes Go.ChangeAt Go.RowKit

theorem xChip : xsh PP 8 49 = some [.slc 52, .slc 3, .slc 4] := by kernel_rfl
theorem xCells : xsh PP 8 52 = some [.slc 97] := by kernel_rfl
theorem xCell : xsh PP 8 97 = some [.row .u8 32] := by kernel_rfl
theorem xInt : xsh PP 8 3 = some [.int .i64] := by kernel_rfl
theorem xBool : xsh PP 8 4 = some [.bool] := by kernel_rfl
section
variable {D : Type} {enc : TypeId × Value → D} {W : World}
theorem ints_of {p : Option Addr} {l c : Nat} (h : Sli enc PP W 3 p l c) : ∃ ns : List Int, hsv W.heap p 1 l (ints .i64 ns) ∧ (∀ n, n ∈ ns → -(2 ^ 63) ≤ n ∧ n < 2 ^ 63) ∧ ns.length * 8 + 4096 ≤ 2 ^ 47 := by
  have hb : Try.prog.bytesOf 3 = 8 := by kernel_rfl
  have hc : Try.prog.cellsOf 3 = 1 := by kernel_rfl
  obtain ⟨ess, h1, h2, h3, _⟩ := h.els xInt
  have hlc := h.1
  have hr := h.2.1
  rw [hb] at hr
  rw [hc] at h3
  have key : ∀ ess : List (List Value), (∀ es, es ∈ ess → es.length = Try.prog.cellsOf 3 ∧ XM enc PP W [XSh.int .i64] es) → ∃ ns : List Int, ess.flatten = ints .i64 ns ∧ ∀ n, n ∈ ns → -(2 ^ 63) ≤ n ∧ n < 2 ^ 63 := by
    intro ess
    induction ess with
    | nil => intro _; exact ⟨[], rfl, by intro n hn; simp at hn⟩
    | cons x r ih =>
      intro h
      obtain ⟨ns, e, hn⟩ := ih fun es hes => h es (by simp [hes])
      obtain ⟨n, rest, rfl, hh, hr⟩ := (h x (by simp)).2
      simp only [XM] at hr
      subst hr
      refine ⟨n :: ns, by simp [e], ?_⟩
      intro m hm
      rcases List.mem_cons.1 hm with rfl | hm
      · exact has_i64 hh
      · exact hn m hm
  obtain ⟨ns, e, hn⟩ := key ess h2
  rw [e] at h3
  have : ns.length = l := by have := h3.1; simpa using this
  refine ⟨ns, h3, hn, ?_⟩
  unfold reachBytes at hr
  omega
theorem bools_of {p : Option Addr} {l c : Nat} (h : Sli enc PP W 4 p l c) : ∃ ns : List Bool, hsv W.heap p 1 l (bools ns) ∧ ns.length + 4096 ≤ 2 ^ 47 := by
  have hb : Try.prog.bytesOf 4 = 1 := by kernel_rfl
  have hc : Try.prog.cellsOf 4 = 1 := by kernel_rfl
  obtain ⟨ess, h1, h2, h3, _⟩ := h.els xBool
  have hlc := h.1
  have hr := h.2.1
  rw [hb] at hr
  rw [hc] at h3
  have key : ∀ ess : List (List Value), (∀ es, es ∈ ess → es.length = Try.prog.cellsOf 4 ∧ XM enc PP W [XSh.bool] es) → ∃ ns : List Bool, ess.flatten = bools ns := by
    intro ess
    induction ess with
    | nil => intro _; exact ⟨[], rfl⟩
    | cons x r ih =>
      intro h
      obtain ⟨ns, e⟩ := ih fun es hes => h es (by simp [hes])
      obtain ⟨n, rest, rfl, hr⟩ := (h x (by simp)).2
      simp only [XM] at hr
      subst hr
      exact ⟨n :: ns, by simp [e, bools]⟩
  obtain ⟨ns, e⟩ := key ess h2
  rw [e] at h3
  have : ns.length = l := by have := h3.1; simpa using this
  refine ⟨ns, h3, ?_⟩
  unfold reachBytes at hr
  omega
theorem rows_of {p : Option Addr} {l c : Nat} (h : Sli enc PP W 97 p l c) : ∃ ns : List Int, hsv W.heap p 32 l (ints .u8 ns) ∧ bytesOk ns ∧ ns.length + 4096 ≤ 2 ^ 47 := by
  have hb : Try.prog.bytesOf 97 = 32 := by kernel_rfl
  have hc : Try.prog.cellsOf 97 = 32 := by kernel_rfl
  obtain ⟨ess, h1, h2, h3, _⟩ := h.els xCell
  have hlc := h.1
  have hr := h.2.1
  rw [hb] at hr
  rw [hc] at h3
  have key : ∀ ess : List (List Value), (∀ es, es ∈ ess → es.length = Try.prog.cellsOf 97 ∧ XM enc PP W [XSh.row .u8 32] es) → ∃ ns : List Int, ess.flatten = ints .u8 ns ∧ bytesOk ns := by
    intro ess
    induction ess with
    | nil => intro _; exact ⟨[], rfl, by intro n hn; simp at hn⟩
    | cons x r ih =>
      intro h
      obtain ⟨ns, e, hn⟩ := ih fun es hes => h es (by simp [hes])
      obtain ⟨xs, rest, rfl, _, hh, hr⟩ := (h x (by simp)).2
      simp only [XM] at hr
      subst hr
      refine ⟨xs ++ ns, by simp [e], ?_⟩
      intro m hm
      rcases List.mem_append.1 hm with hm | hm
      · exact has_u8 (hh m hm)
      · exact hn m hm
  obtain ⟨ns, e, hn⟩ := key ess h2
  rw [e] at h3
  have : ns.length = l * 32 := by have := h3.1; simpa using this
  refine ⟨ns, h3, hn, ?_⟩
  unfold reachBytes at hr
  omega
theorem mat_of {p : Option Addr} {l c : Nat} (h : Sli enc PP W 52 p l c) : ∃ rows : List (List Int), RdM W.heap 32 (p, l, c) rows ∧ (∀ r, r ∈ rows → bytesOk r ∧ r.length + 4096 ≤ 2 ^ 47) ∧ rows.length * 24 + 4096 ≤ 2 ^ 47 := by
  have hb : Try.prog.bytesOf 52 = 24 := by kernel_rfl
  have hc : Try.prog.cellsOf 52 = 1 := by kernel_rfl
  obtain ⟨ess, h1, h2, h3, _⟩ := h.els xCells
  have hlc := h.1
  have hr := h.2.1
  rw [hb] at hr
  rw [hc] at h3
  have key : ∀ ess : List (List Value), (∀ es, es ∈ ess → es.length = Try.prog.cellsOf 52 ∧ XM enc PP W [XSh.slc 97] es) → ∃ pgs : List Pg, ess.flatten = pgSl pgs ∧ (∀ x, x ∈ pgs → x.rd W.heap 32) ∧ ∀ x, x ∈ pgs → bytesOk x.bytes ∧ x.bytes.length + 4096 ≤ 2 ^ 47 := by
    intro ess
    induction ess with
    | nil => intro _; exact ⟨[], rfl, by simp, by simp⟩
    | cons x r ih =>
      intro h
      obtain ⟨pgs, e, hn, hn2⟩ := ih fun es hes => h es (by simp [hes])
      obtain ⟨xp, xl, xc, rest, rfl, hh, hr⟩ := (h x (by simp)).2
      simp only [XM] at hr
      subst hr
      obtain ⟨bs, b1, b2, b3⟩ := rows_of hh
      refine ⟨⟨(xp, xl, xc), bs⟩ :: pgs, by simp [e, pgSl], ?_, ?_⟩
      · intro y hy
        rcases List.mem_cons.1 hy with rfl | hy
        · exact b1
        · exact hn y hy
      · intro y hy
        rcases List.mem_cons.1 hy with rfl | hy
        · exact ⟨b2, b3⟩
        · exact hn2 y hy
  obtain ⟨pgs, e, hn, hn2⟩ := key ess h2
  rw [e] at h3
  have : pgs.length = l := by have := h3.1; simpa using this
  refine ⟨pgBytes pgs, ⟨pgs, rfl, h3, hn⟩, ?_, ?_⟩
  · intro r hr
    obtain ⟨x, hx, rfl⟩ := List.mem_map.1 hr
    exact hn2 x hx
  · unfold reachBytes at hr
    simp; omega
theorem chip_of {v : Value} {base : Nat} (h : Rdt enc PP W 49 v.cells.toList) (ho : Value.okWide PP W .any base 49 v) :
    ∃ (a b c : Sl) (s : St), v = .agg #[a.v, b.v, c.v] ∧ RdS W.heap a b c s ∧ s.typed ∧ s.small := by
  have e := okw_agg (by kernel_rfl) ho
  obtain ⟨p1, l1, c1, r1, e1, s1, p2, l2, c2, r2, rfl, s2, p3, l3, c3, r3, rfl, s3, hr⟩ := Rdt.xm 8 _ _ _ xChip h
  simp only [XM] at hr
  subst hr
  obtain ⟨rows, m1, m2, m3⟩ := mat_of s1
  obtain ⟨es, i1, i2, i3⟩ := ints_of s2
  obtain ⟨bs, b1, b2⟩ := bools_of s3
  refine ⟨(p1, l1, c1), (p2, l2, c2), (p3, l3, c3), ⟨rows, es, bs⟩, ?_, ⟨m1, i1, b1⟩, ⟨fun l hl => (m2 l hl).1, i2⟩, ⟨m3, fun l hl => (m2 l hl).2, i3, b2⟩⟩
  rw [e]
  congr 1
  rw [← Array.toArray_toList (xs := v.cells), e1]
theorem slice_of {t e : TypeId} {v : Value} {base : Nat} (u : Try.prog.underlying t = some (.slice e)) (h : Rdt enc PP W t v.cells.toList) (ho : Value.okWide PP W .any base t v) : ∃ p l c, v = .slice p l c ∧ Sli enc PP W e p l c := by
  obtain ⟨p, l, c, e1, hs⟩ := Rdt.slice u h
  exact ⟨p, l, c, okw_one (by rw [u]) ho e1, hs⟩
theorem ok_cfg (c : Cfg) : (DV.agg (c.vals.map .c)).ok := by
  intro y hy; simp only [Cfg.vals, List.map_cons, List.map_nil, List.mem_cons, List.not_mem_nil, or_false] at hy
  rcases hy with rfl | rfl | rfl | rfl | rfl | rfl | rfl <;> rfl
theorem ok_chip (a b c : Sl) : (DV.agg [.c a.v, .c b.v, .c c.v]).ok := by
  intro y hy; simp only [List.mem_cons, List.not_mem_nil, or_false] at hy
  rcases hy with rfl | rfl | rfl <;> rfl
end
end Go.Proofs.Yteabcbpimjjdpaa
end

/- Contract of chip.Lay. Own work. -/
section
set_option linter.unusedVariables false
namespace Go.Proofs.Yteabcbpimjjdpaa
open Go Go.Vc

structure St.lays (c : Cfg) (s : St) : Prop where
  fits : s.fits c
  pos : ∀ n, n ∈ s.erases → 0 ≤ n
def layC (c : Cfg) (s : St) : Cm := ⟨c, s, 0, false, -1, []⟩
theorem layC_ok {c : Cfg} {s : St} (m : c.may) (f : s.lays c) (t : s.typed) : (layC c s).ok :=
  ⟨m, f.fits, t, by simp [layC], by simp [layC], by intro n hn; simp [layC] at hn, by simp [layC], by simp [layC]⟩

section
variable {h0 h : H} {A : List Ent} {i p : Nat} {C : Cm}
theorem contains_neg {p : Option Addr} {l c : Nat} {ns : List Int} {Q : Bool → H → Prop} (hs : Sat h0 A h) (rd : hsv h p 1 l (ints .i64 ns)) (hl : l < 2 ^ 62) (k : Q (ns.any fun n => decide (n < 0)) h) :
    F_slices_ContainsFunc_int_int p l c (.func (.func id_chip_Lay_2) #[] #[]) Q h := by
  unfold F_slices_ContainsFunc_int_int G_slices_ContainsFunc_int_int F_slices_IndexFunc_int_int G_slices_IndexFunc_int_int
  intro J hJ
  have hlen : ns.length = l := by have := rd.1; simpa using this
  refine loop_up l (fun i h' => h' = h ∧ ∀ j (hj : j < ns.length), j < i → 0 ≤ ns[j]) ?_ ?_ 0 _ (by omega) ⟨rfl, fun j _ hj => by omega⟩
  · rintro i h' hi ⟨rfl, hb⟩ hk
    apply hJ
    rw [ltI_eq, if_pos (by simp; omega)]
    have hin : i < ns.length := by omega
    obtain ⟨q, hq, g⟩ := hsv_get rd (i := i) (v := .int .i64 ns[i]) (by rw [ints_get, List.getElem?_eq_getElem hin]; rfl)
    refine ⟨q, hq, by omega, by omega, _, by simpa using g, ?_⟩
    refine callFn_of R_chip_Lay_2 (by simp) (by simp) (by simp [DV.ok]) ?_
    show F_chip_Lay_2 ns[i] _ h'
    unfold F_chip_Lay_2 G_chip_Lay_2
    refine ⟨_, _, rfl, _, rfl, rfl, ?_⟩
    rw [ltI_eq]
    by_cases hn : ns[i] < 0
    · rw [if_pos (by simpa using hn)]
      have : (ns.any fun n => decide (n < 0)) = true := by rw [List.any_eq_true]; exact ⟨_, List.getElem_mem hin, by simpa using hn⟩
      rw [this] at k
      simpa using k
    · rw [if_neg (by simpa using hn), wrap_succ (by omega)]
      refine hk _ ⟨rfl, fun j hj hji => ?_⟩
      by_cases e : j = i
      · subst e; omega
      · exact hb j hj (by omega)
  · rintro h' ⟨rfl, hb⟩
    apply hJ
    rw [ltI_eq, if_neg (by simp)]
    have : (ns.any fun n => decide (n < 0)) = false := by
      rw [List.any_eq_false]
      intro n hn
      obtain ⟨j, hj, rfl⟩ := List.mem_iff_getElem.1 hn
      have := hb j hj (by omega)
      simp; omega
    rw [this] at k
    simpa using k
theorem contains_len {a : Sl} {rows : List (List Int)} {Q : Bool → H → Prop} {b : Nat} {c : Cfg} (hs : Sat h0 A h) (m : At A i (blk b [.int .i64 c.cells, .int .i64 c.slots, .int .i64 c.fuses, .int .i64 c.step, .int .i64 c.keys, .int .i64 c.erases, .int .i64 c.area])) (rd : RdM h 32 a rows) (hl : a.2.1 < 2 ^ 62)
    (k : Q (rows.any fun r => decide ((r.length : Int) ≠ 32 * c.cells)) h) :
    F_slices_ContainsFunc_api_Cell_api_Cell a.1 a.2.1 a.2.2 (.func (.func id_chip_Lay_1) #[] #[.pointer (some ⟨b, 0, none⟩)]) Q h := by
  unfold F_slices_ContainsFunc_api_Cell_api_Cell G_slices_ContainsFunc_api_Cell_api_Cell F_slices_IndexFunc_api_Cell_api_Cell G_slices_IndexFunc_api_Cell_api_Cell
  intro J hJ
  have hlen := rd.len
  refine loop_up a.2.1 (fun i h' => h' = h ∧ ∀ j (hj : j < rows.length), j < i → (rows[j].length : Int) = 32 * c.cells) ?_ ?_ 0 _ (by omega) ⟨rfl, fun j _ hj => by omega⟩
  · rintro i h' hi ⟨rfl, hb⟩ hk
    apply hJ
    rw [ltI_eq, if_pos (by simp; omega)]
    have hin : i < rows.length := by omega
    obtain ⟨q, x, hq, g, e⟩ := rd.at hin
    have hx : rows[i].length = x.2.1 * 32 := by have := e.1; simpa using this
    refine ⟨q, hq, by omega, by omega, _, _, _, by simpa using g, ?_⟩
    refine callFn_of R_chip_Lay_1 (by simp) (by simp) (by simp [DV.ok]) ?_
    show F_chip_Lay_1 x.1 x.2.1 x.2.2 ⟨b, 0, none⟩ _ h'
    unfold F_chip_Lay_1 G_chip_Lay_1
    refine ⟨_, hs.ld m rfl, ?_⟩
    refine ⟨_, _, rfl, _, rfl, rfl, ?_⟩
    by_cases hn : (rows[i].length : Int) = 32 * c.cells
    · rw [if_neg (by simp; omega), wrap_succ (by omega)]
      refine hk _ ⟨rfl, fun j hj hji => ?_⟩
      by_cases e : j = i
      · subst e; omega
      · exact hb j hj (by omega)
    · rw [if_pos (by simp; omega)]
      have : (rows.any fun r => decide ((r.length : Int) ≠ 32 * c.cells)) = true := by rw [List.any_eq_true]; exact ⟨_, List.getElem_mem hin, by simpa using hn⟩
      rw [this] at k
      simpa using k
  · rintro h' ⟨rfl, hb⟩
    apply hJ
    rw [ltI_eq, if_neg (by simp)]
    have : (rows.any fun r => decide ((r.length : Int) ≠ 32 * c.cells)) = false := by
      rw [List.any_eq_false]
      intro n hn
      obtain ⟨j, hj, rfl⟩ := List.mem_iff_getElem.1 hn
      have := hb j hj (by omega)
      simp; omega
    rw [this] at k
    simpa using k
theorem Lay_sp {a b c' : Sl} {s : St} (c : Cfg) {Q : Option Addr → Int → H → Prop} (hs : Sat h0 A h) (rd : ∀ h', Sat h0 A h' → RdS h' a b c' s) (ty : s.typed)
    (k1 : ¬ c.may → ∀ h', Sat h0 A h' → Q none 1 h') (k2 : c.may → ¬ s.lays c → ∀ h', Sat h0 A h' → Q none 5 h')
    (k3 : c.may → s.lays c → ∀ p h', Sat h0 (chipE p (layC c s) :: A) h' → Q (some ⟨p, 0, none⟩) 0 h') :
    F_chip_Lay c.cells c.slots c.fuses c.step c.keys c.erases c.area a.1 a.2.1 a.2.2 b.1 b.2.1 b.2.2 c'.1 c'.2.1 c'.2.2 Q h := by
  unfold F_chip_Lay G_chip_Lay
  simp only [add_mk, Nat.zero_add]
  intro n1 _ hn; replace hs := Sat.new hs hn; clear hn
  intro n2 _ hn; replace hs := Sat.new hs hn; clear hn
  (repeat first | refine ⟨_, Sat.ld hs (by (repeat (first | exact At.z | apply At.s))) (by rfl), ?_⟩ | refine ⟨_, _, _, Sat.ld hs (by (repeat (first | exact At.z | apply At.s))) (by rfl), ?_⟩ | (intro _ _ hn; replace hs := Sat.new hs hn; clear hn) | refine ⟨Sat.cs hs (by (repeat (first | exact At.z | apply At.s))) (by rfl), ?_⟩ | (refine ⟨Sat.can hs (by (repeat (first | exact At.z | apply At.s))) (by simp), ?_⟩; intro _ e; replace hs := Sat.wr hs (by (repeat (first | exact At.z | apply At.s))) e; clear e; simp only [put, splice, List.set] at hs))
  refine May_sp c hs ?_
  intro h1 hs
  unfold Cfg.may?
  by_cases hm : c.may
  case neg =>
    rw [if_neg hm, if_pos (by decide)]
    exact k1 hm _ hs.drop.drop
  rw [if_pos hm, if_neg (by decide)]
  have hnp := hm.np
  have hnf := hm.nf
  intro J hJ
  have rd0 := rd _ hs.drop.drop
  have l1 := rd0.pg.len
  have l2 : s.erases.length = b.2.1 := by have := rd0.er.1; simpa using this
  have l3 : s.blown.length = c'.2.1 := by have := rd0.bl.1; simpa using this
  have bad : ¬ s.lays c → ∀ h', Sat h0 (blk n2 [a.v, b.v, c'.v] :: blk n1 [.int .i64 c.cells, .int .i64 c.slots, .int .i64 c.fuses, .int .i64 c.step, .int .i64 c.keys, .int .i64 c.erases, .int .i64 c.area] :: A) h' → J [SV.dv (DV.one (.bool true))] h' := by
    intro nf h' hs
    apply hJ
    rw [if_pos rfl]
    exact k2 hm nf _ hs.drop.drop
  (repeat first | refine ⟨_, Sat.ld hs (by (repeat (first | exact At.z | apply At.s))) (by rfl), ?_⟩ | refine ⟨_, _, _, Sat.ld hs (by (repeat (first | exact At.z | apply At.s))) (by rfl), ?_⟩ | (intro _ _ hn; replace hs := Sat.new hs hn; clear hn) | refine ⟨Sat.cs hs (by (repeat (first | exact At.z | apply At.s))) (by rfl), ?_⟩ | (refine ⟨Sat.can hs (by (repeat (first | exact At.z | apply At.s))) (by simp), ?_⟩; intro _ e; replace hs := Sat.wr hs (by (repeat (first | exact At.z | apply At.s))) e; clear e; simp only [put, splice, List.set] at hs))
  refine pages_sp c hm hs ?_
  intro h2 hs
  refine ⟨Sat.cs hs (by (repeat (first | exact At.z | apply At.s))) (by rfl), ?_⟩
  by_cases e1 : (s.pages.length : Int) = c.np
  case neg =>
    rw [if_pos (by simp; omega)]
    exact bad (fun f => e1 f.fits.pages) _ hs
  rw [if_neg (by simp; omega)]
  (repeat first | refine ⟨_, Sat.ld hs (by (repeat (first | exact At.z | apply At.s))) (by rfl), ?_⟩ | refine ⟨_, _, _, Sat.ld hs (by (repeat (first | exact At.z | apply At.s))) (by rfl), ?_⟩ | (intro _ _ hn; replace hs := Sat.new hs hn; clear hn) | refine ⟨Sat.cs hs (by (repeat (first | exact At.z | apply At.s))) (by rfl), ?_⟩ | (refine ⟨Sat.can hs (by (repeat (first | exact At.z | apply At.s))) (by simp), ?_⟩; intro _ e; replace hs := Sat.wr hs (by (repeat (first | exact At.z | apply At.s))) e; clear e; simp only [put, splice, List.set] at hs))
  refine pages_sp c hm hs ?_
  intro h3 hs
  refine ⟨Sat.cs hs (by (repeat (first | exact At.z | apply At.s))) (by rfl), ?_⟩
  by_cases e2 : (s.erases.length : Int) = c.np
  case neg =>
    rw [if_pos (by simp; omega)]
    exact bad (fun f => e2 f.fits.erases) _ hs
  rw [if_neg (by simp; omega)]
  (repeat first | refine ⟨_, Sat.ld hs (by (repeat (first | exact At.z | apply At.s))) (by rfl), ?_⟩ | refine ⟨_, _, _, Sat.ld hs (by (repeat (first | exact At.z | apply At.s))) (by rfl), ?_⟩ | (intro _ _ hn; replace hs := Sat.new hs hn; clear hn) | refine ⟨Sat.cs hs (by (repeat (first | exact At.z | apply At.s))) (by rfl), ?_⟩ | (refine ⟨Sat.can hs (by (repeat (first | exact At.z | apply At.s))) (by simp), ?_⟩; intro _ e; replace hs := Sat.wr hs (by (repeat (first | exact At.z | apply At.s))) e; clear e; simp only [put, splice, List.set] at hs))
  refine fuses_sp c hm hs ?_
  intro h4 hs
  refine ⟨Sat.cs hs (by (repeat (first | exact At.z | apply At.s))) (by rfl), ?_⟩
  by_cases e3 : (s.blown.length : Int) = c.nf
  case neg =>
    rw [if_pos (by simp; omega)]
    exact bad (fun f => e3 f.fits.blown) _ hs
  rw [if_neg (by simp; omega)]
  refine ⟨_, _, _, Sat.ld hs (by (repeat (first | exact At.z | apply At.s))) (by rfl), ?_⟩
  refine contains_len (i := 1) (c := c) hs (.s .z) (rd _ hs.drop.drop).pg (by omega) ?_
  by_cases e4 : ∀ l, l ∈ s.pages → (l.length : Int) = 32 * c.cells
  case neg =>
    rw [if_pos (by
      rw [List.any_eq_true]
      have ⟨l, h5⟩ := Classical.not_forall.1 e4
      have ⟨h6, h7⟩ := Classical.not_imp.1 h5
      exact ⟨l, h6, by simpa using h7⟩)]
    exact bad (fun f => e4 f.fits.cells) _ hs
  rw [if_neg (by
    intro h5
    obtain ⟨l, h6, h7⟩ := List.any_eq_true.1 h5
    have := e4 l h6
    simp at h7; omega)]
  refine ⟨_, _, _, Sat.ld hs (by (repeat (first | exact At.z | apply At.s))) (by rfl), ?_⟩
  refine contains_neg hs (rd _ hs.drop.drop).er (by omega) ?_
  by_cases e5 : ∀ n, n ∈ s.erases → 0 ≤ n
  case neg =>
    have : (s.erases.any fun n => decide (n < 0)) = true := by
      rw [List.any_eq_true]
      have ⟨l, h5⟩ := Classical.not_forall.1 e5
      have ⟨h6, h7⟩ := Classical.not_imp.1 h5
      exact ⟨l, h6, by simp; omega⟩
    rw [this]
    exact bad (fun f => e5 f.pos) _ hs
  have : (s.erases.any fun n => decide (n < 0)) = false := by
    rw [List.any_eq_false]
    intro n hn
    have := e5 n hn
    simp; omega
  rw [this]
  have ly : s.lays c := ⟨⟨e1, e4, e2, e3⟩, e5⟩
  have ok := layC_ok hm ly ty
  apply hJ
  rw [if_neg (by simp)]
  (repeat first | refine ⟨_, Sat.ld hs (by (repeat (first | exact At.z | apply At.s))) (by rfl), ?_⟩ | refine ⟨_, _, _, Sat.ld hs (by (repeat (first | exact At.z | apply At.s))) (by rfl), ?_⟩ | (intro _ _ hn; replace hs := Sat.new hs hn; clear hn) | refine ⟨Sat.cs hs (by (repeat (first | exact At.z | apply At.s))) (by rfl), ?_⟩ | (refine ⟨Sat.can hs (by (repeat (first | exact At.z | apply At.s))) (by simp), ?_⟩; intro _ e; replace hs := Sat.wr hs (by (repeat (first | exact At.z | apply At.s))) e; clear e; simp only [put, splice, List.set] at hs))
  refine copied_sp (a := a) (b := b) (c := c') (s := s) hs (fun h' hs' => rd _ hs'.drop.drop) ok.small ?_
  intro a2 b2 c2 h5 hs
  replace hs : Sat h0 (matE 32 a2 s.pages :: sE b2 1 (ints .i64 s.erases) :: sE c2 1 (bools s.blown) :: blk n2 [a.v, b.v, c'.v] :: blk n1 [.int .i64 c.cells, .int .i64 c.slots, .int .i64 c.fuses, .int .i64 c.step, .int .i64 c.keys, .int .i64 c.erases, .int .i64 c.area] :: A) h5 := hs
  (repeat first | refine ⟨_, Sat.ld hs (by (repeat (first | exact At.z | apply At.s))) (by rfl), ?_⟩ | refine ⟨_, _, _, Sat.ld hs (by (repeat (first | exact At.z | apply At.s))) (by rfl), ?_⟩ | (intro _ _ hn; replace hs := Sat.new hs hn; clear hn) | refine ⟨Sat.cs hs (by (repeat (first | exact At.z | apply At.s))) (by rfl), ?_⟩ | (refine ⟨Sat.can hs (by (repeat (first | exact At.z | apply At.s))) (by simp), ?_⟩; intro _ e; replace hs := Sat.wr hs (by (repeat (first | exact At.z | apply At.s))) e; clear e; simp only [put, splice, List.set] at hs))
  refine k3 hm ly _ _ ?_
  replace hs := hs.sl_nil 1 none
  replace hs := Sat.front hs (e := slE _ _ _ 1 (bools _)) (by (repeat (first | exact At.z | apply At.s)))
  replace hs := Sat.front hs (e := slE _ _ _ 1 (ints .i64 _)) (by (repeat (first | exact At.z | apply At.s)))
  replace hs := Sat.front hs (e := matE 32 _ _) (by (repeat (first | exact At.z | apply At.s)))
  replace hs := Sat.front hs (e := blk _ [_, _, _, _, _, _, _, _, _, _, _, _, _, _]) (by (repeat (first | exact At.z | apply At.s)))
  simp only [del] at hs
  exact (chip_make (C := layC c s) (a := a2) (b := b2) (c := c2) (m := (none, 0, 0)) ok hs).sub (by (repeat (first | exact List.Sublist.refl _ | apply List.Sublist.cons_cons | apply List.Sublist.cons)))
end
end Go.Proofs.Yteabcbpimjjdpaa
end

/- Bits of bytes. Own work; generic over any program. -/
section
namespace Go.Vc
abbrev b8 (x : Int) : BitVec 8 := BitVec.ofInt 8 x
theorem b8_nat (v : BitVec 8) : b8 (v.toNat : Int) = v := by simp [b8]
theorem w8_nat (v : BitVec 8) : IntKind.u8.wrap (v.toNat : Int) = (v.toNat : Int) := by
  have := v.isLt
  rw [IntKind.wrap_u8]; omega
theorem bits_or8 (x y : Int) : bits .or .u8 x y = ((b8 x ||| b8 y).toNat : Int) := w8_nat (b8 x ||| b8 y)
theorem bits_xor8 (x y : Int) : bits .xor .u8 x y = ((b8 x ^^^ b8 y).toNat : Int) := w8_nat (b8 x ^^^ b8 y)
theorem bits_andNot8 (x y : Int) : bits .andNot .u8 x y = ((b8 x &&& ~~~ b8 y).toNat : Int) := w8_nat (b8 x &&& ~~~ b8 y)
theorem full_or (b : Int) : bits .or .u8 b 255 = 255 := by
  rw [bits_or8]
  have : b8 255 = BitVec.allOnes 8 := by decide
  rw [this, BitVec.or_allOnes]
  decide
end Go.Vc
end

/- Contracts of the document's chip: configs, copies, new ones. Own work. -/
section
set_option linter.unusedVariables false
namespace Go.Proofs.Yteabcbpimjjdpaa
open Go Go.Vc

section
variable {h0 h : H} {A : List Ent} {i p : Nat} {C : Cm}
theorem rwithin_iff (n a b : Int) (Q : Bool → H → Prop) (h : H) : F_portcullisref04_within n a b Q h = Q (decide (a ≤ n) && decide (n ≤ b)) h := by
  unfold F_portcullisref04_within G_portcullisref04_within
  by_cases h1 : a ≤ n <;> simp [h1]
theorem rMay_sp (c : Cfg) {Q : Int → H → Prop} (hs : Sat h0 A h) (k : ∀ h', Sat h0 A h' → Q c.may? h') :
    F_portcullisref04_May c.cells c.slots c.fuses c.step c.keys c.erases c.area Q h := by
  unfold F_portcullisref04_May G_portcullisref04_May
  simp only [add_mk, Nat.zero_add]
  intro n1 h' hn; replace hs := Sat.new hs hn; clear hn
  replace k := k h' hs.drop
  have kb := hs.blkOf .z
  have hc0 := kb.hc
  intro J hJ
  have w3 : 1 ≤ c.slots ∧ c.slots ≤ 8 → IntKind.i64.wrap (c.slots + 3) = c.slots + 3 := by
    intro h1; rw [IntKind.wrap_i64]; omega
  have fin : ∀ r : Bool, (r = true ↔ (1 ≤ c.slots ∧ c.slots ≤ 8) ∧ (c.slots + 3 ≤ c.cells ∧ c.cells ≤ 256) ∧ (1 ≤ c.fuses ∧ c.fuses ≤ 64) ∧ (1 ≤ c.step ∧ c.step ≤ 65536)) → J [SV.dv (DV.one (Value.bool r))] h' := by
    intro r hr
    apply hJ
    simp only [hc0, rwithin_iff, List.getElem?_cons_succ, List.getElem?_cons_zero, Option.some.injEq, Value.int.injEq, true_and, exists_eq_left', Bool.and_eq_true, decide_eq_true_eq]
    have bad : ¬ c.may → Q 1 h' := fun hm => by unfold Cfg.may? at k; rwa [if_neg hm] at k
    have good : c.may → Q 0 h' := fun hm => by unfold Cfg.may? at k; rwa [if_pos hm] at k
    by_cases h4 : 1 ≤ c.keys ∧ c.keys ≤ 64
    case neg => rw [if_neg h4]; split <;> exact bad fun m => h4 m.keys
    rw [if_pos h4]
    by_cases h5 : 0 ≤ c.erases ∧ c.erases ≤ 65536
    case neg => rw [if_neg h5]; split <;> exact bad fun m => h5 m.erases
    rw [if_pos h5]
    cases r with
    | false =>
      have := mt hr.2 (by simp)
      simp only [Bool.not_false, if_true]
      exact bad fun m => this ⟨m.slots, m.cells, m.fuses, m.step⟩
    | true =>
      obtain ⟨a1, a2, a3, a4⟩ := hr.1 rfl
      rw [if_neg (by simp)]
      by_cases h6 : 0 ≤ c.area ∧ c.area ≤ 64
      · rw [if_neg (by simp; omega)]; exact good ⟨a1, a2, a3, a4, h4, h5, h6⟩
      · rw [if_pos (by simp; omega)]; exact bad fun m => h6 m.area
  simp only [hc0, rwithin_iff, List.getElem?_cons_succ, List.getElem?_cons_zero, Option.some.injEq, Value.int.injEq, true_and, exists_eq_left', Bool.and_eq_true, decide_eq_true_eq]
  split
  case isFalse h1 => exact fin false (by simp; intro a b; exact absurd ⟨a, b⟩ h1)
  rename_i h1
  rw [w3 h1]
  split
  case isFalse h2 => exact fin false (by simp; intro _ _ a b; exact absurd ⟨a, b⟩ h2)
  rename_i h2
  split
  case isFalse h3 => exact fin false (by simp; intro _ _ _ _ a b; exact absurd ⟨a, b⟩ h3)
  rename_i h3
  refine fin _ ?_
  simp only [Bool.and_eq_true, decide_eq_true_eq]
  exact ⟨fun h4 => ⟨h1, h2, h3, h4⟩, fun m => m.2.2.2⟩

theorem CopyState_sp {a b c : Sl} {s : St} {Q : Option Addr → Nat → Nat → Option Addr → Nat → Nat → Option Addr → Nat → Nat → H → Prop} (hs : Sat h0 A h) (rd : ∀ h', Sat h0 A h' → RdS h' a b c s) (sm : s.small)
    (k : ∀ (a' b' c' : Sl) h', Sat h0 (stL a' b' c' s ++ A) h' → Q a'.1 a'.2.1 a'.2.2 b'.1 b'.2.1 b'.2.2 c'.1 c'.2.1 c'.2.2 h') :
    F_portcullisref04_CopyState a.1 a.2.1 a.2.2 b.1 b.2.1 b.2.2 c.1 c.2.1 c.2.2 Q h := by
  unfold F_portcullisref04_CopyState G_portcullisref04_CopyState
  simp only [add_mk, Nat.zero_add]
  intro n1 _ hn; replace hs := Sat.new hs hn; clear hn
  intro n2 _ hn; replace hs := Sat.new hs hn; clear hn
  intro J hJ
  have rd0 := rd _ hs.drop.drop
  have l2 : s.erases.length = b.2.1 := by have := rd0.er.1; simpa using this
  have l3 : s.blown.length = c.2.1 := by have := rd0.bl.1; simpa using this
  have s2 := sm.erases
  have s3 := sm.blown
  have fin : ∀ q b2 b3 c2 c3 h', Sat h0 (blk q [.slice none 0 0, .slice b2 b.2.1 b3, .slice c2 c.2.1 c3] :: sE (b2, b.2.1, b3) 1 (ints .i64 s.erases) :: sE (c2, c.2.1, c3) 1 (bools s.blown) ::
      blk n1 [a.v, b.v, c.v] :: blk n2 [.slice none 0 0, .slice none 0 0, .slice none 0 0] :: A) h' → J [SV.dv (DV.addr ⟨q, 0, none⟩)] h' := by
    intro q b2 b3 c2 c3 h' hs
    apply hJ
    intro J2 hJ2
    have hlen := (rd _ hs.drop.drop.drop.drop.drop).pg.len
    replace hs := hs.mat_nil 32 none
    refine loop_up a.2.1 (fun i h => ∃ hd : Sl, hd.2.1 = i ∧ Sat h0 (matE 32 hd (s.pages.take i) :: blk q [hd.v, .slice b2 b.2.1 b3, .slice c2 c.2.1 c3] :: sE (b2, b.2.1, b3) 1 (ints .i64 s.erases) :: sE (c2, c.2.1, c3) 1 (bools s.blown) ::
      blk n1 [a.v, b.v, c.v] :: blk n2 [.slice none 0 0, .slice none 0 0, .slice none 0 0] :: A) h) ?_ ?_ 0 _ (by omega) ⟨_, rfl, hs⟩
    · rintro i h1 hi ⟨⟨hp, hl, hc⟩, e, hs⟩ hk
      simp only at e; subst e
      apply hJ2
      refine ⟨_, _, _, Sat.ld hs (by (repeat (first | exact At.z | apply At.s))) (by rfl), ?_⟩
      rw [ltI_eq, if_pos (by simp; omega)]
      have hlt : hl < s.pages.length := by omega
      obtain ⟨q', x, e1, e2, e3⟩ := (rd _ hs.drop.drop.drop.drop.drop.drop).pg.at hlt
      refine ⟨_, _, _, Sat.ld hs (by (repeat (first | exact At.z | apply At.s))) (by rfl), ?_⟩
      refine ⟨_, _, _, Sat.ld hs (by (repeat (first | exact At.z | apply At.s))) (by rfl), ?_⟩
      obtain ⟨ap, al, ac⟩ := a
      dsimp only at e1
      subst e1
      refine ⟨_, rfl, by omega, by omega, ?_⟩
      refine ⟨_, _, _, e2, ?_⟩
      intro n36 h37 hn
      have e2' := hcs_one (hc_ext hn.ext e2 (fun x => x))
      have e3' := hsv_ext hn.ext e3 (fun _ _ x => x)
      replace hs := Sat.new hs hn; clear hn
      refine ⟨e2', ?_⟩
      refine ⟨Sat.cs hs (by (repeat (first | exact At.z | apply At.s))) (by rfl), ?_⟩
      refine ⟨Sat.cs hs (by (repeat (first | exact At.z | apply At.s))) (by rfl), ?_⟩
      have hr := sm.rows _ (List.getElem_mem hlt)
      have hx := e3.1
      simp only [ints_length] at hx
      refine ⟨_, e3', Sat.app_new hs e3'.1 (by simp) (ints_one _ _) (by omega) ?_⟩
      intro p' c' h2 hs
      refine ⟨Sat.cs hs (by (repeat (first | exact At.z | apply At.s))) (by rfl), ?_⟩
      (intro _ _ hn; replace hs := Sat.new hs hn; clear hn)
      refine ⟨Sat.cs hs (by (repeat (first | exact At.z | apply At.s))) (by rfl), ?_⟩
      refine ⟨_, Sat.bv hs (.z) (by simp) (by simp), ?_⟩
      replace hs := Sat.front (e := sE (p', x.2.1, c') 32 _) hs (.s .z)
      have hpl := sm.pages
      refine Sat.app_row hs (i := 2) (.s (.s .z)) (by dsimp only; omega) ?_
      intro p2 c2' h4 hs
      simp only [put, del] at hs
      (refine ⟨Sat.can hs (by (repeat (first | exact At.z | apply At.s))) (by simp), ?_⟩; intro _ e; replace hs := Sat.wr hs (by (repeat (first | exact At.z | apply At.s))) e; clear e; simp only [put, splice, List.set] at hs)
      rw [wrap_succ (by omega)]
      refine hk _ ⟨(p2, hl + 1, c2'), rfl, ?_⟩
      rw [List.take_succ_eq_append_getElem hlt]
      exact hs.sub (by (repeat (first | exact List.Sublist.refl _ | apply List.Sublist.cons_cons | apply List.Sublist.cons)))
    · rintro h1 ⟨⟨hp, hl, hc⟩, e, hs⟩
      simp only at e; subst e
      apply hJ2
      refine ⟨_, _, _, Sat.ld hs (by (repeat (first | exact At.z | apply At.s))) (by rfl), ?_⟩
      rw [ltI_eq, if_neg (by simp)]
      (repeat first | refine ⟨_, Sat.ld hs (by (repeat (first | exact At.z | apply At.s))) (by rfl), ?_⟩ | refine ⟨_, _, _, Sat.ld hs (by (repeat (first | exact At.z | apply At.s))) (by rfl), ?_⟩ | (intro _ _ hn; replace hs := Sat.new hs hn; clear hn) | refine ⟨Sat.cs hs (by (repeat (first | exact At.z | apply At.s))) (by rfl), ?_⟩ | (refine ⟨Sat.can hs (by (repeat (first | exact At.z | apply At.s))) (by simp), ?_⟩; intro _ e; replace hs := Sat.wr hs (by (repeat (first | exact At.z | apply At.s))) e; clear e; simp only [put, splice, List.set] at hs))
      refine k (hp, _, hc) (b2, _, b3) (c2, _, c3) _ ?_
      rw [← hlen, List.take_length] at hs
      replace hs := Sat.front hs (e := blk n2 _) (by (repeat (first | exact At.z | apply At.s)))
      replace hs := Sat.front hs (e := blk n1 _) (by (repeat (first | exact At.z | apply At.s)))
      replace hs := Sat.front hs (e := blk q _) (by (repeat (first | exact At.z | apply At.s)))
      simp only [del] at hs
      have := hs.drop.drop.drop
      rw [hlen] at this
      exact this
  repeat' (first
    | refine ⟨_, Sat.ld hs (by (repeat (first | exact At.z | apply At.s))) (by rfl), ?_⟩
    | refine ⟨_, _, _, Sat.ld hs (by (repeat (first | exact At.z | apply At.s))) (by rfl), ?_⟩
    | (intro _ _ hn; replace hs := Sat.new hs hn; clear hn)
    | refine ⟨Sat.cs hs (by (repeat (first | exact At.z | apply At.s))) (by rfl), ?_⟩
    | (refine ⟨Sat.can hs (by (repeat (first | exact At.z | apply At.s))) (by simp), ?_⟩; intro _ e; replace hs := Sat.wr hs (by (repeat (first | exact At.z | apply At.s))) e; clear e; simp only [put, splice, List.set] at hs)
    | (refine ⟨_, (rd _ (hs.sub (by (repeat (first | exact List.Sublist.refl _ | apply List.Sublist.cons_cons | apply List.Sublist.cons))))).er, Sat.app_new hs (by simp; omega) rfl (ints_one _ _) (by omega) ?_⟩; intro _ _ _ hs)
    | (refine ⟨_, (rd _ (hs.sub (by (repeat (first | exact List.Sublist.refl _ | apply List.Sublist.cons_cons | apply List.Sublist.cons))))).bl, Sat.app_new hs (by simp; omega) rfl (bools_one _) (by omega) ?_⟩; intro _ _ _ hs)
    | refine And.intro ?_ ?_)
  all_goals
    replace hs := Sat.front hs (e := blk n2 _) (by (repeat (first | exact At.z | apply At.s)))
    replace hs := Sat.front hs (e := blk n1 _) (by (repeat (first | exact At.z | apply At.s)))
    replace hs := Sat.front hs (e := slE _ _ _ 1 (bools _)) (by (repeat (first | exact At.z | apply At.s)))
    replace hs := Sat.front hs (e := slE _ _ _ 1 (ints .i64 _)) (by (repeat (first | exact At.z | apply At.s)))
    replace hs := Sat.front hs (e := blk _ [.slice none 0 0, .slice _ b.2.1 _, .slice _ c.2.1 _]) (by (repeat (first | exact At.z | apply At.s)))
    simp only [del] at hs
    exact fin _ _ _ _ _ _ (hs.sub (by (repeat (first | exact List.Sublist.refl _ | apply List.Sublist.cons_cons | apply List.Sublist.cons))))
end
end Go.Proofs.Yteabcbpimjjdpaa

/- Contracts of the document's chip: new ones, laid ones, copies. Own work. -/
set_option linter.unusedVariables false
namespace Go.Proofs.Yteabcbpimjjdpaa
open Go Go.Vc

section
variable {h0 h : H} {A : List Ent} {i p : Nat} {C : Cm}
theorem wnp {c : Cfg} (m : c.may) : IntKind.i64.wrap (2 + IntKind.i64.wrap (2 * c.area)) = c.np := by
  have := m.area; unfold Cfg.np; simp only [IntKind.wrap_i64]; omega
theorem wnf {c : Cfg} (m : c.may) : IntKind.i64.wrap (IntKind.i64.wrap (c.slots * c.fuses) + c.keys) = c.nf := by
  have h1 := m.slots; have h2 := m.fuses; have h3 := m.keys
  have e1 : 0 ≤ c.slots * c.fuses := Int.mul_nonneg (by omega) (by omega)
  have e2 : c.slots * c.fuses ≤ 8 * 64 := Int.mul_le_mul (by omega) (by omega) (by omega) (by omega)
  unfold Cfg.nf; simp only [IntKind.wrap_i64]; omega
end
end Go.Proofs.Yteabcbpimjjdpaa

/- Contracts of the document's chip: its methods. Own work. -/
set_option linter.unusedVariables false
namespace Go.Proofs.Yteabcbpimjjdpaa
open Go Go.Vc

/-- The document's chip: as the program's, but that a mask which is used up may stay. -/
structure RefW (C : Cm) (w : Pl × List Int) : Prop where
  ok : C.ok
  b : bytesOk w.2
  l : w.2.length ≤ 2 ^ 47
  m : 0 ≤ C.left → w.2 = C.mask
abbrev refL (p : Nat) (C : Cm) (w : Pl × List Int) : List Ent := [blk p (C.cells w.1.a w.1.b w.1.c w.1.m), matE 32 w.1.a C.s.pages, sE w.1.b 1 (ints .i64 C.s.erases), sE w.1.c 1 (bools C.s.blown), sE w.1.m 1 (ints .u8 w.2)]
def refE (p : Nat) (C : Cm) : Ent := exE 4 (RefW C) (refL p C)

section
variable {h0 h : H} {A : List Ent} {i p : Nat} {C : Cm}
theorem ref_make {a b c m : Sl} {ms : List Int} (ok : C.ok) (mb : bytesOk ms) (ml : ms.length ≤ 2 ^ 47) (me : 0 ≤ C.left → ms = C.mask)
    (hs : Sat h0 (blk p (C.cells a b c m) :: matE 32 a C.s.pages :: sE b 1 (ints .i64 C.s.erases) :: sE c 1 (bools C.s.blown) :: sE m 1 (ints .u8 ms) :: A) h) : Sat h0 (refE p C :: A) h :=
  Sat.close (⟨a, b, c, m⟩, ms) ⟨ok, mb, ml, me⟩ hs
end
end Go.Proofs.Yteabcbpimjjdpaa
end

/- Contracts: equal states are told so. Own work. -/
section
set_option linter.unusedVariables false
namespace Go.Proofs.Yteabcbpimjjdpaa
open Go Go.Vc

section
variable {h0 h : H} {A : List Ent} {i p : Nat} {C : Cm}
theorem rdm_row {h : H} {a : Sl} {rows : List (List Int)} (r : RdM h 32 a rows) {j : Nat} (hj : j < rows.length) :
    ∃ q x, a.1 = some q ∧ hc h (q.add (j * 1)) = some (Sl.v x) ∧ rows[j].length = x.2.1 * 32 := by
  obtain ⟨q, x, h1, h2, h3⟩ := r.at hj
  exact ⟨q, x, h1, h2, by have := h3.1; simpa using this⟩
end
end Go.Proofs.Yteabcbpimjjdpaa

/- Contracts of the document's chip: Copy, Lay. Own work. -/
set_option linter.unusedVariables false
namespace Go.Proofs.Yteabcbpimjjdpaa
open Go Go.Vc

section
variable {h0 h : H} {A : List Ent} {i p : Nat} {C : Cm}
theorem Fits_sp {a b c' : Sl} {s : St} (c : Cfg) (hm : c.may) {Q : Bool → H → Prop} (hs : Sat h0 A h) (rd : ∀ h', Sat h0 A h' → RdS h' a b c' s)
    (k1 : ¬ s.lays c → ∀ h', Sat h0 A h' → Q false h') (k2 : s.lays c → ∀ h', Sat h0 A h' → Q true h') :
    F_portcullisref04_Fits c.cells c.slots c.fuses c.step c.keys c.erases c.area a.1 a.2.1 a.2.2 b.1 b.2.1 b.2.2 c'.1 c'.2.1 c'.2.2 Q h := by
  unfold F_portcullisref04_Fits G_portcullisref04_Fits
  simp only [add_mk, Nat.zero_add]
  intro n1 _ hn; replace hs := Sat.new hs hn; clear hn
  intro n2 h2 hn; replace hs := Sat.new hs hn; clear hn
  refine ⟨_, Sat.ld hs (by (repeat (first | exact At.z | apply At.s))) (by rfl), ?_⟩
  simp only [wnp hm, wnf hm]
  have hnp := hm.np
  have hnf := hm.nf
  have hcl := hm.cells
  intro J25 hJ25
  have r1 := rd _ hs.drop.drop
  have l1 := r1.pg.len
  have l2 : s.erases.length = b.2.1 := by have := r1.er.1; simpa using this
  have l3 : s.blown.length = c'.2.1 := by have := r1.bl.1; simpa using this
  have bad : ¬ s.lays c → Q false h2 := fun nf => k1 nf _ hs.drop.drop
  refine ⟨_, _, _, Sat.ld hs (by (repeat (first | exact At.z | apply At.s))) (by rfl), ?_⟩
  by_cases e1 : (s.pages.length : Int) = c.np
  case neg => rw [if_pos (by simp; omega)]; exact bad (fun f => e1 f.fits.pages)
  rw [if_neg (by simp; omega)]
  refine ⟨_, _, _, Sat.ld hs (by (repeat (first | exact At.z | apply At.s))) (by rfl), ?_⟩
  by_cases e2 : (s.erases.length : Int) = c.np
  case neg => rw [if_pos (by simp; omega)]; exact bad (fun f => e2 f.fits.erases)
  rw [if_neg (by simp; omega)]
  refine ⟨_, _, _, Sat.ld hs (by (repeat (first | exact At.z | apply At.s))) (by rfl), ?_⟩
  refine ⟨_, Sat.ld hs (by (repeat (first | exact At.z | apply At.s))) (by rfl), ?_⟩
  refine ⟨_, Sat.ld hs (by (repeat (first | exact At.z | apply At.s))) (by rfl), ?_⟩
  refine ⟨_, Sat.ld hs (by (repeat (first | exact At.z | apply At.s))) (by rfl), ?_⟩
  by_cases e3 : (s.blown.length : Int) = c.nf
  case neg => rw [wnf hm, if_pos (by simp; omega)]; exact bad (fun f => e3 f.fits.blown)
  rw [wnf hm, if_neg (by simp; omega)]
  apply hJ25
  intro J27 hJ27
  refine loop_up c.np.toNat (fun i h' => h' = h2 ∧ ∀ j (hj : j < s.pages.length) (hj2 : j < s.erases.length), j < i → (s.pages[j].length : Int) = 32 * c.cells ∧ 0 ≤ s.erases[j]) ?_ ?_ 0 _ (by omega) ⟨rfl, fun j _ _ hj => by omega⟩
  · rintro j h' hj ⟨rfl, hinv⟩ hk
    apply hJ27
    rw [ltI_eq, if_pos (by simp; omega)]
    have hj1 : j < s.pages.length := by omega
    have hj2 : j < s.erases.length := by omega
    obtain ⟨q1, x1, f1, f2, f3⟩ := rdm_row r1.pg hj1
    obtain ⟨q2, g1, g2⟩ := hsv_get r1.er (i := j) (v := .int .i64 s.erases[j]) (by rw [ints_get, List.getElem?_eq_getElem hj2]; rfl)
    refine ⟨_, _, _, Sat.ld hs (by (repeat (first | exact At.z | apply At.s))) (by rfl), ?_⟩
    refine ⟨_, f1, by omega, by omega, _, _, _, f2, ?_⟩
    refine ⟨_, Sat.ld hs (by (repeat (first | exact At.z | apply At.s))) (by rfl), ?_⟩
    by_cases e4 : (s.pages[j].length : Int) = 32 * c.cells
    case neg => rw [if_pos (by simp; omega)]; exact bad (fun f => e4 (f.fits.cells _ (List.getElem_mem hj1)))
    rw [if_neg (by simp; omega)]
    refine ⟨_, _, _, Sat.ld hs (by (repeat (first | exact At.z | apply At.s))) (by rfl), ?_⟩
    refine ⟨_, g1, by omega, by omega, _, by simpa using g2, ?_⟩
    rw [ltI_eq]
    by_cases e5 : s.erases[j] < 0
    · rw [if_pos (by simpa using e5)]; exact bad (fun f => by have := f.pos _ (List.getElem_mem hj2); omega)
    · rw [if_neg (by simpa using e5), wrap_succ (by omega)]
      refine hk _ ⟨rfl, fun m hm1 hm2 hmj => ?_⟩
      by_cases e : m = j
      · subst e; exact ⟨e4, by omega⟩
      · exact hinv m hm1 hm2 (by omega)
  · rintro h' ⟨rfl, hinv⟩
    apply hJ27
    rw [ltI_eq, if_neg (by simp; omega)]
    refine k2 ⟨⟨e1, ?_, e2, e3⟩, ?_⟩ _ hs.drop.drop
    · intro l hl
      obtain ⟨j, hj, rfl⟩ := List.mem_iff_getElem.1 hl
      exact (hinv j hj (by omega) (by omega)).1
    · intro n hn
      obtain ⟨j, hj, rfl⟩ := List.mem_iff_getElem.1 hn
      exact (hinv j (by omega) hj (by omega)).2
theorem rLay_sp {a b c' : Sl} {s : St} (c : Cfg) {Q : Option Addr → Int → H → Prop} (hs : Sat h0 A h) (rd : ∀ h', Sat h0 A h' → RdS h' a b c' s) (ty : s.typed)
    (k1 : ¬ c.may → ∀ h', Sat h0 A h' → Q none 1 h') (k2 : c.may → ¬ s.lays c → ∀ h', Sat h0 A h' → Q none 5 h')
    (k3 : c.may → s.lays c → ∀ p h', Sat h0 (refE p (layC c s) :: A) h' → Q (some ⟨p, 0, none⟩) 0 h') :
    F_portcullisref04_Lay c.cells c.slots c.fuses c.step c.keys c.erases c.area a.1 a.2.1 a.2.2 b.1 b.2.1 b.2.2 c'.1 c'.2.1 c'.2.2 Q h := by
  unfold F_portcullisref04_Lay G_portcullisref04_Lay
  simp only [add_mk, Nat.zero_add]
  intro n1 _ hn; replace hs := Sat.new hs hn; clear hn
  intro n2 _ hn; replace hs := Sat.new hs hn; clear hn
  (repeat first | refine ⟨_, Sat.ld hs (by (repeat (first | exact At.z | apply At.s))) (by rfl), ?_⟩ | refine ⟨_, _, _, Sat.ld hs (by (repeat (first | exact At.z | apply At.s))) (by rfl), ?_⟩ | (intro _ _ hn; replace hs := Sat.new hs hn; clear hn) | refine ⟨Sat.cs hs (by (repeat (first | exact At.z | apply At.s))) (by rfl), ?_⟩ | (refine ⟨Sat.can hs (by (repeat (first | exact At.z | apply At.s))) (by simp), ?_⟩; intro _ e; replace hs := Sat.wr hs (by (repeat (first | exact At.z | apply At.s))) e; clear e; simp only [put, splice, List.set] at hs))
  refine rMay_sp c hs ?_
  intro h1 hs
  unfold Cfg.may?
  by_cases hm : c.may
  case neg =>
    rw [if_neg hm, if_pos (by decide)]
    exact k1 hm _ hs.drop.drop
  rw [if_pos hm, if_neg (by decide)]
  (repeat first | refine ⟨_, Sat.ld hs (by (repeat (first | exact At.z | apply At.s))) (by rfl), ?_⟩ | refine ⟨_, _, _, Sat.ld hs (by (repeat (first | exact At.z | apply At.s))) (by rfl), ?_⟩ | (intro _ _ hn; replace hs := Sat.new hs hn; clear hn) | refine ⟨Sat.cs hs (by (repeat (first | exact At.z | apply At.s))) (by rfl), ?_⟩ | (refine ⟨Sat.can hs (by (repeat (first | exact At.z | apply At.s))) (by simp), ?_⟩; intro _ e; replace hs := Sat.wr hs (by (repeat (first | exact At.z | apply At.s))) e; clear e; simp only [put, splice, List.set] at hs))
  refine Fits_sp (a := a) (b := b) (c' := c') c hm hs (fun h' hs' => rd _ hs'.drop.drop) ?_ ?_
  · intro nf h2 hs
    rw [if_pos (by decide)]
    exact k2 hm nf _ hs.drop.drop
  intro ly h2 hs
  rw [if_neg (by decide)]
  have ok := layC_ok hm ly ty
  (repeat first | refine ⟨_, Sat.ld hs (by (repeat (first | exact At.z | apply At.s))) (by rfl), ?_⟩ | refine ⟨_, _, _, Sat.ld hs (by (repeat (first | exact At.z | apply At.s))) (by rfl), ?_⟩ | (intro _ _ hn; replace hs := Sat.new hs hn; clear hn) | refine ⟨Sat.cs hs (by (repeat (first | exact At.z | apply At.s))) (by rfl), ?_⟩ | (refine ⟨Sat.can hs (by (repeat (first | exact At.z | apply At.s))) (by simp), ?_⟩; intro _ e; replace hs := Sat.wr hs (by (repeat (first | exact At.z | apply At.s))) e; clear e; simp only [put, splice, List.set] at hs))
  refine CopyState_sp (a := a) (b := b) (c := c') (s := s) hs (fun h' hs' => rd _ hs'.drop.drop) ok.small ?_
  intro a2 b2 c2 h5 hs
  replace hs : Sat h0 (matE 32 a2 s.pages :: sE b2 1 (ints .i64 s.erases) :: sE c2 1 (bools s.blown) :: blk n2 [a.v, b.v, c'.v] :: blk n1 [.int .i64 c.cells, .int .i64 c.slots, .int .i64 c.fuses, .int .i64 c.step, .int .i64 c.keys, .int .i64 c.erases, .int .i64 c.area] :: A) h5 := hs
  (repeat first | refine ⟨_, Sat.ld hs (by (repeat (first | exact At.z | apply At.s))) (by rfl), ?_⟩ | refine ⟨_, _, _, Sat.ld hs (by (repeat (first | exact At.z | apply At.s))) (by rfl), ?_⟩ | (intro _ _ hn; replace hs := Sat.new hs hn; clear hn) | refine ⟨Sat.cs hs (by (repeat (first | exact At.z | apply At.s))) (by rfl), ?_⟩ | (refine ⟨Sat.can hs (by (repeat (first | exact At.z | apply At.s))) (by simp), ?_⟩; intro _ e; replace hs := Sat.wr hs (by (repeat (first | exact At.z | apply At.s))) e; clear e; simp only [put, splice, List.set] at hs))
  refine k3 hm ly _ _ ?_
  replace hs := hs.sl_nil 1 none
  replace hs := Sat.front hs (e := slE _ _ _ 1 (bools _)) (by (repeat (first | exact At.z | apply At.s)))
  replace hs := Sat.front hs (e := slE _ _ _ 1 (ints .i64 _)) (by (repeat (first | exact At.z | apply At.s)))
  replace hs := Sat.front hs (e := matE 32 _ _) (by (repeat (first | exact At.z | apply At.s)))
  replace hs := Sat.front hs (e := blk _ [_, _, _, _, _, _, _, _, _, _, _, _, _, _]) (by (repeat (first | exact At.z | apply At.s)))
  simp only [del] at hs
  exact (ref_make (C := layC c s) (a := a2) (b := b2) (c := c2) (m := (none, 0, 0)) (ms := []) ok (by intro n hn; simp at hn) (by simp) (fun _ => rfl) hs).sub (by (repeat (first | exact List.Sublist.refl _ | apply List.Sublist.cons_cons | apply List.Sublist.cons)))
end
end Go.Proofs.Yteabcbpimjjdpaa
end

/- Contracts of the chip's statements: a state is written over. Own work. -/
section
set_option linter.unusedVariables false
namespace Go.Proofs.Yteabcbpimjjdpaa
open Go Go.Vc

section
variable {h0 h : H} {A : List Ent} {i p : Nat} {C : Cm}
end
end Go.Proofs.Yteabcbpimjjdpaa

/- Contracts of the chip's statements: pairs of chips. Own work. -/
set_option maxRecDepth 100000
set_option linter.unusedVariables false
namespace Go.Proofs.Yteabcbpimjjdpaa
open Go Go.Vc

section
variable {h0 h : H} {A : List Ent} {i j p r : Nat} {C : Cm}
theorem chip_ok (hs : Sat h0 A h) (ci : At A i (chipE p C)) : C.ok := by
  obtain ⟨w, ok, _⟩ := (hs.front ci).open_
  exact ok
end
end Go.Proofs.Yteabcbpimjjdpaa
end

/- Contracts of the chip's statements: a step. Own work. -/
section
set_option maxRecDepth 100000
set_option linter.unusedVariables false
namespace Go.Proofs.Yteabcbpimjjdpaa
open Go Go.Vc

/-- A step of a script over a chip. -/
structure Stp where
  kind : Int
  a : Int
  b : Int
  x : List Int
  mask : List Int
structure Stp.ok (s : Stp) : Prop where
  a : -(2 ^ 63) ≤ s.a ∧ s.a < 2 ^ 63
  x : s.x.length = 32
  mb : bytesOk s.mask
  ml : s.mask.length + 4096 ≤ 2 ^ 47
section
variable {h0 h : H} {A : List Ent} {i j p r : Nat} {C : Cm}
end
end Go.Proofs.Yteabcbpimjjdpaa

/- Contracts of the chip's statements: games; calls whose answers are fixed. Own work. -/
set_option maxRecDepth 100000
set_option linter.unusedVariables false
namespace Go.Proofs.Yteabcbpimjjdpaa
open Go Go.Vc

section
variable {h0 h : H} {A : List Ent} {i j p r : Nat} {C : Cm}
/-- How a script lies in memory. -/
structure ScriptRd (h : H) (p : Option Addr) (l : Nat) (sc : List Stp) : Prop where
  len : sc.length = l
  small : l < 2 ^ 62
  el : ∀ i (hi : i < sc.length), ∃ (q : Addr) (mp : Option Addr) (ml mc : Nat), p = some q ∧ hc h (q.add (i * 36)) = some (.int .i64 sc[i].kind) ∧ hc h ((q.add (i * 36)).add 1) = some (.int .i64 sc[i].a) ∧
    hc h ((q.add (i * 36)).add 2) = some (.int .i64 sc[i].b) ∧ hrow h ((q.add (i * 36)).add 3) .u8 sc[i].x ∧ hc h ((q.add (i * 36)).add 35) = some (.slice mp ml mc) ∧ hsv h mp 1 ml (ints .u8 sc[i].mask) ∧ sc[i].ok
end
end Go.Proofs.Yteabcbpimjjdpaa

/- Contracts of the chip's statements: ChipLays. Own work. -/
set_option maxRecDepth 100000
set_option linter.unusedVariables false
namespace Go.Proofs.Yteabcbpimjjdpaa
open Go Go.Vc

section
variable {h0 h : H} {A : List Ent} {i j p r : Nat} {C : Cm}
end
end Go.Proofs.Yteabcbpimjjdpaa
end

/- The fuses' model: counts of a row, raising, revoking; laws about numbers alone. Own work. -/
section
set_option maxRecDepth 100000
set_option linter.unusedVariables false
namespace Go.Proofs.Yteabcbpimjjdpaa
open Go Go.Vc

/-- A loop whose slots tell of a state. -/
theorem loop_st {J : List SV → H → Prop} {σ : Type} (N : Nat) (S : Nat → σ → List SV) (Inv : Nat → σ → H → Prop) (step : ∀ i s h, i < N → Inv i s h → (∀ s' h', Inv (i + 1) s' h' → J (S (i + 1) s') h') → J (S i s) h)
    (exit : ∀ s h, Inv N s h → J (S N s) h) (i : Nat) (s : σ) (h : H) (hi : i ≤ N) (inv : Inv i s h) : J (S i s) h := by
  generalize e : N - i = n
  induction n generalizing i s h with
  | zero =>
    have : i = N := by omega
    subst this; exact exit s h inv
  | succ n ih => exact step i s h (by omega) inv fun s' h' inv' => ih (i + 1) s' h' (by omega) inv' (by omega)

def cnt (bl : List Bool) (a : Nat) : Nat → Nat
  | 0 => 0
  | n + 1 => cnt bl a n + (if bl.getD (a + n) false = true then 1 else 0)
theorem askedM_in {C : Cm} {i n : Int} (ho : C.out = false) (h1 : 0 ≤ i) (h2 : i < n) : askedM C i n = 0 := by
  unfold askedM; rw [if_neg (by simp [ho]), if_neg (by omega), if_neg (by omega)]
theorem act_out {C : Cm} (ho : C.out = false) (hl : C.left ≠ 0) : C.act.out = false := by
  unfold Cm.act; rw [if_pos hl]; exact ho
/-- What a Raise does to a row. -/
structure Raised (a f : Nat) (n : Int) (C D : Cm) (e : Int) : Prop where
  cfg : D.cfg = C.cfg
  len : D.s.blown.length = C.s.blown.length
  same : ∀ k, k < a ∨ a + f ≤ k → D.s.blown.getD k false = C.s.blown.getD k false
  up : ∀ k, C.s.blown.getD k false = true → D.s.blown.getD k false = true
  ge : cnt C.s.blown a f ≤ cnt D.s.blown a f
  le : (cnt D.s.blown a f : Int) ≤ max n (cnt C.s.blown a f)
  good : e = 0 → (cnt D.s.blown a f : Int) = max n (cnt C.s.blown a f)
  on : e = 0 → D.out = false
  bad : e ≠ 0 → e = 8 ∧ 0 ≤ C.left ∧ C.left < n - cnt C.s.blown a f
end Go.Proofs.Yteabcbpimjjdpaa

/- Contracts of the fuses' package. Own work. -/
set_option maxRecDepth 100000
set_option linter.unusedVariables false
namespace Go.Proofs.Yteabcbpimjjdpaa
open Go Go.Vc

section
variable {h0 h : H} {A : List Ent} {i j p r : Nat} {C : Cm}
end
end Go.Proofs.Yteabcbpimjjdpaa

/- Contracts of the document's fuses. Own work. -/
set_option maxRecDepth 100000
set_option linter.unusedVariables false
namespace Go.Proofs.Yteabcbpimjjdpaa
open Go Go.Vc

section
variable {h0 h : H} {A : List Ent} {i j p r : Nat} {C : Cm}
end
end Go.Proofs.Yteabcbpimjjdpaa
end

/- Contracts of the fuses' statements: FuseDoes. Own work. -/
section
set_option maxRecDepth 100000
set_option linter.unusedVariables false
namespace Go.Proofs.Yteabcbpimjjdpaa
open Go Go.Vc

section
variable {h0 h : H} {A : List Ent} {i j p r : Nat} {C : Cm}
structure Stp7 where
  kind : Int
  a : Int
  n : Int
structure Stp7.ok (s : Stp7) : Prop where
  n : s.n < 2 ^ 63
/-- How a script lies in memory. -/
structure Script7 (h : H) (p : Option Addr) (l : Nat) (sc : List Stp7) : Prop where
  len : sc.length = l
  small : l < 2 ^ 62
  el : ∀ i (hi : i < sc.length), ∃ (q : Addr), p = some q ∧ hc h (q.add (i * 3)) = some (.int .i64 sc[i].kind) ∧ hc h ((q.add (i * 3)).add 1) = some (.int .i64 sc[i].a) ∧
    hc h ((q.add (i * 3)).add 2) = some (.int .i64 sc[i].n) ∧ sc[i].ok
end
end Go.Proofs.Yteabcbpimjjdpaa
end
