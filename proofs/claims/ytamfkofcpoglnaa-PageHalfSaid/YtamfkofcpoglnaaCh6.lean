/- Contracts of the chip's Read, Program, Erase. Own work. -/
import Derived.Test.YtamfkofcpoglnaaFa1
import Derived.Test.YtamfkofcpoglnaaFa2
import Derived.Test.YtamfkofcpoglnaaFa3
import Derived.Test.YtamfkofcpoglnaaCh5
import Derived.Laws.Closers25b
set_option autoImplicit false
set_option linter.all false
set_option linter.unusedVariables false
namespace Go.Proofs.Ytamfkofcpoglnaa
open Go Go.Vc

section
variable {h0 h : H} {A : List Ent} {i p : Nat} {C : Cm}
theorem asksCellM_zero {page cell : Int} (ok : C.ok) (e : asksCellM C page cell = 0) : C.out = false ∧ 0 ≤ page ∧ page < C.s.pages.length ∧ 0 ≤ cell ∧ cell < C.cfg.cells ∧
    ∃ hj : page.toNat < C.s.pages.length, (C.s.pages[page.toNat].length : Int) = 32 * C.cfg.cells ∧ (cell.toNat + 1) * 32 ≤ C.s.pages[page.toNat].length := by
  unfold asksCellM at e
  split at e
  · rename_i h1; exact absurd e h1
  · rename_i h1
    have h1 : askedM C page C.s.pages.length = 0 := by simpa using h1
    obtain ⟨h2, h3, h4⟩ := askedM_zero h1
    obtain ⟨_, h5, h6⟩ := askedM_zero e
    have hj : page.toNat < C.s.pages.length := by omega
    have hl := ok.fits.cells _ (List.getElem_mem hj)
    exact ⟨h2, h3, h4, h5, h6, hj, hl, by omega⟩
def readM (C : Cm) (page cell : Int) : List Int × Int :=
  if asksCellM C page cell ≠ 0 then (zeros 32, asksCellM C page cell) else (cellAt (C.s.pages.getD page.toNat []) cell.toNat, 0)
theorem Read_sp {Q : List Int → Int → H → Prop} (hs : Sat h0 A h) (ci : At A i (chipE p C)) (page cell : Int) (k : ∀ h', Sat h0 A h' → Q (readM C page cell).1 (readM C page cell).2 h') :
    F_chip_Chip_Read ⟨p, 0, none⟩ page cell Q h := by
  unfold F_chip_Chip_Read G_chip_Chip_Read
  simp only [add_mk, Nat.zero_add, List.append_nil]
  (intro _ _ hn; replace hs := Sat.new hs hn; clear hn)
  refine asksCell_sp hs (ci.s) _ _ ?_
  unfold readM at k
  by_cases h1 : asksCellM C page cell = 0
  case neg =>
    rw [if_pos (by simpa using h1)]
    rw [if_pos (by simpa using h1)] at k
    (refine ⟨Sat.can hs (by (repeat (first | exact At.z | apply At.s))) (by simp), ?_⟩; intro _ e; replace hs := Sat.wra hs (by (repeat (first | exact At.z | apply At.s))) e (by simp [*]); clear e; simp only [put] at hs)
    refine ⟨_, ?_, hs.row0 (by (repeat (first | exact At.z | apply At.s))), ?_⟩
    · simp
    exact k _ hs.drop
  rw [if_neg (by simpa using h1)]
  rw [if_neg (by simpa using h1)] at k
  have hs' := hs
  obtain ⟨w, ok, hs⟩ := (hs.front ci.s).open_
  obtain ⟨_, h2, h3, h4, h5, hj, hl, hk⟩ := asksCellM_zero ok h1
  dsimp only [chipL, List.cons_append, List.nil_append, Cm.cells] at hs
  refine ⟨_, _, _, hs.ld .z rfl, ?_⟩
  have rd := hs.rdM (.s .z)
  have hlen := rd.len
  obtain ⟨q, x, q', e1, e2, e3, e4, e5⟩ := rd.cell hj hk
  rw [e1]
  refine ⟨_, rfl, h2, by (try dsimp only); omega, ?_⟩
  refine ⟨_, _, _, e2, ?_⟩
  refine ⟨_, e4, h4, by omega, ?_⟩
  refine ⟨_, cellAt_length hk, e5, ?_⟩
  replace hs := hs'
  have hcl := cellAt_length hk
  (refine ⟨Sat.can hs (by (repeat (first | exact At.z | apply At.s))) (by simp), ?_⟩; intro _ e; replace hs := Sat.wra hs (by (repeat (first | exact At.z | apply At.s))) e (by simp [*]); clear e; simp only [put] at hs)
  refine ⟨_, ?_, hs.row0 (by (repeat (first | exact At.z | apply At.s))), ?_⟩
  · exact hcl
  have : C.s.pages.getD page.toNat [] = C.s.pages[page.toNat] := by simp [List.getD, List.getElem?_eq_getElem hj]
  rw [this] at k
  exact k _ hs.drop

def progCell (old x : List Int) (f : Nat → Int) : List Int := mapTo (fun i now => bits .andNot .u8 now (bits .andNot .u8 (f i) (x.getD i 0))) 32 old
def Cm.setPage (C : Cm) (j : Nat) (row : List Int) : Cm := { C with s := { C.s with pages := C.s.pages.set j row } }
def rowOf (C : Cm) (page : Int) : List Int := C.s.pages.getD page.toNat []
def programM (C : Cm) (page cell : Int) (x : List Int) : Cm × Int :=
  if asksCellM C page cell ≠ 0 then (C, asksCellM C page cell)
  else (C.act.setPage page.toNat (rowSet (rowOf C page) cell.toNat (progCell (cellAt (rowOf C page) cell.toNat) x (maskAt C))), errM C)
theorem act_s (C : Cm) : C.act.s = C.s := by unfold Cm.act; split <;> rfl
theorem act_cfg (C : Cm) : C.act.cfg = C.cfg := by unfold Cm.act; split <;> rfl
theorem byte_bits (op : BinOp) (a b : Int) : isByte (bits op .u8 a b) := by
  have h1 := bits_lo_u8 op a b; have h2 := bits_hi_u8 op a b
  unfold isByte; omega
theorem Cm.ok.setPage {C : Cm} (ok : C.ok) {j : Nat} {row : List Int} (hl : (row.length : Int) = 32 * C.cfg.cells) (hb : bytesOk row) : (C.setPage j row).ok := by
  refine ⟨ok.may, ⟨by simpa [Cm.setPage] using ok.fits.pages, ?_, ok.fits.erases, ok.fits.blown⟩, ⟨?_, ok.typed.erases⟩, ok.left, ok.left2, ok.mask, ok.acts, ok.mlen⟩
  · intro l hm
    rcases List.mem_or_eq_of_mem_set hm with hm | hm
    · exact ok.fits.cells l hm
    · rw [hm]; exact hl
  · intro l hm
    rcases List.mem_or_eq_of_mem_set hm with hm | hm
    · exact ok.typed.bytes l hm
    · rw [hm]; exact hb
theorem mapTo_mem {g : Nat → Int → Int} {n : Nat} {ns : List Int} {P : Int → Prop} (h1 : ∀ v, v ∈ ns → P v) (h2 : ∀ i v, v ∈ ns → P (g i v)) : ∀ v, v ∈ mapTo g n ns → P v := by
  intro v hv
  obtain ⟨i, hi⟩ := List.mem_iff_getElem?.1 hv
  rw [mapTo_get] at hi
  cases e : ns[i]? with
  | none => rw [e] at hi; simp at hi
  | some u =>
    rw [e] at hi
    have hu : u ∈ ns := List.mem_iff_getElem?.2 ⟨i, e⟩
    simp only [Option.map_some, Option.some.injEq] at hi
    rw [← hi]; split
    · exact h2 _ _ hu
    · exact h1 _ hu
theorem cellAt_mem {row : List Int} {k : Nat} {v : Int} (h : v ∈ cellAt row k) : v ∈ row := List.mem_of_mem_drop (List.mem_of_mem_take h)
theorem rowSet_mem {row c : List Int} {k : Nat} {v : Int} (h : v ∈ rowSet row k c) : v ∈ row ∨ v ∈ c := by
  simp only [rowSet, List.mem_append] at h
  rcases h with (h | h) | h
  · exact Or.inl (List.mem_of_mem_take h)
  · exact Or.inr h
  · exact Or.inl (List.mem_of_mem_drop h)

theorem Program_sp {Q : Int → H → Prop} (hs : Sat h0 A h) (ci : At A i (chipE p C)) (page cell : Int) (x : List Int) (hx : x.length = 32) (k : ∀ h', Sat h0 (put A i (chipE p (programM C page cell x).1)) h' → Q (programM C page cell x).2 h') :
    F_chip_Chip_Program ⟨p, 0, none⟩ page cell x Q h := by
  unfold F_chip_Chip_Program G_chip_Chip_Program
  simp only [add_mk, Nat.zero_add, List.append_nil]
  intro nx _ hn
  replace hs := Sat.new hs hn
  clear hn
  refine asksCell_sp hs (ci.s) _ _ ?_
  unfold programM at k
  by_cases h1 : asksCellM C page cell = 0
  case neg =>
    rw [if_pos (by simpa using h1)]
    rw [if_pos (by simpa using h1)] at k
    exact k _ (ci.put_self.symm ▸ hs.drop)
  rw [if_neg (by simpa using h1)]
  rw [if_neg (by simpa using h1)] at k
  obtain ⟨w0, ok, _⟩ := (hs.front ci.s).open_
  obtain ⟨_, h2, h3, h4, h5, hj, hl, hk⟩ := asksCellM_zero ok h1
  have erow : rowOf C page = C.s.pages[page.toNat] := by simp [rowOf, List.getD, List.getElem?_eq_getElem hj]
  rw [erow] at k
  refine begins_sp hs ci.s ?_
  intro v h6 hs
  simp only [put_succ] at hs
  have ci2 := ((ci.put (chipE p C.act)).s (x := blk nx (ints .u8 x))).s (x := mayE v (maskAt C))
  have hsO := (hs.front ci2).open_
  obtain ⟨w, ok', hsO⟩ := hsO
  dsimp only [chipL, List.cons_append, List.nil_append, Cm.cells] at hsO
  rw [act_s] at hsO
  refine ⟨_, _, _, hsO.ld .z rfl, ?_⟩
  have rd := hsO.rdM (.s .z)
  have hlen := rd.len
  obtain ⟨q, y, q', e1, e2, e3, e4, e5⟩ := rd.cell hj hk
  rw [e1]
  refine ⟨_, rfl, h2, by (try dsimp only); omega, ?_⟩
  refine ⟨_, _, _, e2, ?_⟩
  refine ⟨_, e4, h4, by omega, ?_⟩
  have hcl := cellAt_length hk
  refine ⟨_, hcl, e5, ?_⟩
  intro no _ hn
  replace hs := Sat.new hs hn
  clear hn
  (refine ⟨Sat.can hs (by (repeat (first | exact At.z | apply At.s))) (by simp), ?_⟩; intro _ e; replace hs := Sat.wra hs (by (repeat (first | exact At.z | apply At.s))) e (by simp [*]); clear e; simp only [put] at hs)
  refine ⟨_, ?_, hs.row0 (by (repeat (first | exact At.z | apply At.s))), ?_⟩
  · exact hcl
  intro nn _ hn
  replace hs := Sat.new hs hn
  clear hn
  (refine ⟨Sat.can hs (by (repeat (first | exact At.z | apply At.s))) (by simp), ?_⟩; intro _ e; replace hs := Sat.wra hs (by (repeat (first | exact At.z | apply At.s))) e (by simp [*]); clear e; simp only [put] at hs)
  intro J hJ
  generalize hold : cellAt C.s.pages[page.toNat] cell.toNat = old at *
  let g := fun (i : Nat) (now : Int) => bits .andNot .u8 now (bits .andNot .u8 (maskAt C i) (x.getD i 0))
  refine loop_up 32 (fun i h => Sat h0 (blk nn (ints .u8 (mapTo g i old)) :: blk no (ints .u8 old) :: mayE v (maskAt C) :: blk nx (ints .u8 x) :: put A _ (chipE p C.act)) h) ?_ ?_ 0 _ (by omega) (by simpa using hs)
  · intro j h7 hjl hs hk'
    apply hJ
    rw [ltI_eq, if_pos (by simp; omega)]
    simp only [Int.toNat_natCast, Nat.mul_one]
    have hmj : j < (mapTo g j old).length := by simp; omega
    have eg : (mapTo g j old)[j] = old[j] := by
      have := mapTo_get g j old j
      rw [List.getElem?_eq_getElem hmj, List.getElem?_eq_getElem (by omega)] at this
      simpa using this
    refine ⟨by omega, by omega, _, hs.ld .z (by rw [ints_get, List.getElem?_eq_getElem hmj]; rfl), by omega, by omega, _, hs.ld (.s (.s (.s .z))) (by rw [ints_get, List.getElem?_eq_getElem (by omega)]; rfl), ?_⟩
    refine call_may hs (.s (.s .z)) j rfl ?_
    refine ⟨_, _, rfl, _, rfl, rfl, hcs_one (hs.ld (.s (.s (.s .z))) (by rw [ints_get, List.getElem?_eq_getElem (by omega)]; rfl)), hcs_one (hs.ld .z (by rw [ints_get, List.getElem?_eq_getElem hmj]; rfl)), by omega, by omega, hs.can .z (by simp; omega), ?_⟩
    intro h8 e8
    replace hs := hs.wr .z e8
    rw [wrap_succ (by omega)]
    refine hk' _ ?_
    simp only [splice_cons, splice_nil, ints_set, put] at hs
    have e9 := mapTo_succ g j old (by omega)
    rw [← e9]
    have e10 : x.getD j 0 = x[j] := by simp [List.getD, List.getElem?_eq_getElem (show j < x.length by omega)]
    rw [eg] at hs
    simpa only [g, e10] using hs
  · intro h7 hs
    apply hJ
    rw [ltI_eq, if_neg (by simp)]
    have hnl : (mapTo g 32 old).length = 32 := by simpa using hcl
    refine ⟨_, ?_, hs.row0 (by (repeat (first | exact At.z | apply At.s))), ?_⟩
    · exact hnl
    refine ⟨_, hcl, hs.row0 (.s .z), ?_⟩
    have ci3 := (ci2.s (x := blk no (ints .u8 old))).s (x := blk nn (ints .u8 (mapTo g 32 old)))
    obtain ⟨w', _, hsO⟩ := (hs.front ci3).open_
    dsimp only [chipL, List.cons_append, List.nil_append, Cm.cells] at hsO
    rw [act_s] at hsO
    have hrow : (C.s.pages[page.toNat].length : Int) = 32 * C.act.cfg.cells := by rw [act_cfg]; exact hl
    have ok2 := ok'.setPage (j := page.toNat) (row := rowSet C.s.pages[page.toNat] cell.toNat (mapTo g 32 old)) (by rw [rowSet_length hk hnl]; exact hrow) (by
      intro n hn
      rcases rowSet_mem hn with hn | hn
      · exact ok.typed.bytes _ (List.getElem_mem hj) n hn
      · refine mapTo_mem (P := isByte) (fun v hv => ?_) (fun i v hv => byte_bits _ _ _) n hn
        rw [← hold] at hv
        exact ok.typed.bytes _ (List.getElem_mem hj) v (cellAt_mem hv))
    split
    case isTrue hne =>
      refine ⟨_, _, _, hsO.ld .z rfl, ?_⟩
      have hl1 := (hsO.rdM (.s .z)).len
      obtain ⟨y', hd, R, e6, hsT, give⟩ := (hsO.front (.s .z)).row_take hj
      obtain ⟨⟨wp, wl, wc⟩, wb, wc', wm⟩ := w'
      dsimp only at hl1 hsT give
      have hl2 : C.s.pages.length = wl := hl1
      obtain ⟨qb, hq⟩ := hsT.sl_some (.s .z) (show 0 < wl by omega)
      subst hq
      refine ⟨_, rfl, h2, by dsimp only; omega, ?_⟩
      simp only [add_mk, Nat.zero_add, Nat.mul_one]
      refine ⟨_, _, _, hsT.sld (.s .z) e6, ?_⟩
      refine ⟨_, ?_, hs.row0 (by (repeat (first | exact At.z | apply At.s))), ?_⟩
      · exact hnl
      have hyl := hsT.sl_len .z
      simp only [ints_length] at hyl
      obtain ⟨yp, yl, yc⟩ := y'
      dsimp only at hyl
      obtain ⟨yb, hy⟩ := hsT.sl_some .z (by dsimp only; omega)
      dsimp only at hy
      subst hy
      refine ⟨_, rfl, h4, by dsimp only; omega, ?_⟩
      simp only [add_mk, Nat.zero_add]
      refine ⟨hsT.scan .z (by dsimp only; omega) (by simp; omega), ?_⟩
      intro h8 e8
      have hsW := hsT.swr .z e8 (by dsimp only; omega) (by simp [hcl]; omega) (ints_one _ _)
      rw [splice_rowSet hk hnl] at hsW
      have hsG := give _ _ _ hsW
      have hsC := chip_close (a := (some ⟨qb, 0, none⟩, wl, wc)) (b := wb) (c := wc') (m := wm) ok2 ci3 (by rw [Cm.setPage, act_s]; exact hsG.front (.s .z))
      simp only [put_succ, put_put] at hsC
      exact k _ hsC.drop.drop.drop.drop
    case isFalse hne =>
      have hne : mapTo g 32 old = old := by simpa using hne
      replace hne : progCell old x (maskAt C) = old := hne
      have e1 : rowSet C.s.pages[page.toNat] cell.toNat (cellAt C.s.pages[page.toNat] cell.toNat) = C.s.pages[page.toNat] := by
        unfold rowSet cellAt
        rw [List.append_assoc, ← List.drop_drop, List.take_append_drop, List.take_append_drop]
      have e2 : C.act.setPage page.toNat C.s.pages[page.toNat] = C.act := by
        have : C.act.s.pages.set page.toNat C.s.pages[page.toNat] = C.act.s.pages := by rw [act_s]; exact List.set_getElem_self hj
        unfold Cm.setPage; rw [this]
      rw [hne, ← hold, e1, e2] at k
      exact k _ hs.drop.drop.drop.drop

def eraseRow (row : List Int) (f : Nat → Int) : List Int := mapTo (fun i b => bits .or .u8 b (f i)) row.length row
def Cm.setErase (C : Cm) (j : Nat) (n : Int) : Cm := { C with s := { C.s with erases := C.s.erases.set j n } }
def eraseM (C : Cm) (page : Int) : Cm × Int :=
  if askedM C page C.s.pages.length ≠ 0 then (C, askedM C page C.s.pages.length)
  else if C.cfg.erases ≤ C.s.erases.getD page.toNat 0 then (C, 9)
  else ((C.act.setErase page.toNat (C.s.erases.getD page.toNat 0 + 1)).setPage page.toNat (eraseRow (rowOf C page) (maskAt C)), errM C)
theorem Cm.ok.setErase {C : Cm} (ok : C.ok) {j : Nat} {n : Int} (hn : -(2 ^ 63) ≤ n ∧ n < 2 ^ 63) : (C.setErase j n).ok := by
  refine ⟨ok.may, ⟨ok.fits.pages, ok.fits.cells, by simpa [Cm.setErase] using ok.fits.erases, ok.fits.blown⟩, ⟨ok.typed.bytes, ?_⟩, ok.left, ok.left2, ok.mask, ok.acts, ok.mlen⟩
  intro l hm
  rcases List.mem_or_eq_of_mem_set hm with hm | hm
  · exact ok.typed.erases l hm
  · rw [hm]; exact hn
/-- The first i entries of a row mapped, in place. -/
theorem mapTo_out {g : Nat → Int → Int} {i j : Nat} {ns : List Int} (h : i ≤ j) (hj : j < ns.length) : (mapTo g i ns)[j]? = some ns[j] := by
  rw [mapTo_get, List.getElem?_eq_getElem hj]; simp; omega

theorem Erase_sp {Q : Int → H → Prop} (hs : Sat h0 A h) (ci : At A i (chipE p C)) (page : Int) (k : ∀ h', Sat h0 (put A i (chipE p (eraseM C page).1)) h' → Q (eraseM C page).2 h') :
    F_chip_Chip_Erase ⟨p, 0, none⟩ page Q h := by
  unfold F_chip_Chip_Erase G_chip_Chip_Erase
  simp only [add_mk, Nat.zero_add]
  have hs' := hs
  obtain ⟨w, ok, hs⟩ := (hs.front ci).open_; dsimp only [chipL, List.cons_append, List.nil_append, Cm.cells] at hs
  have hlp := (hs.rdM (.s .z)).len
  have hle := hs.sl_len (i := 2) (.s (.s .z))
  simp only [ints_length, Nat.mul_one] at hle
  refine ⟨_, _, _, hs.ld .z rfl, ?_⟩
  rw [← hlp]
  refine asked_sp hs' ci _ _ ?_
  unfold eraseM at k
  by_cases h1 : askedM C page C.s.pages.length = 0
  case neg =>
    rw [if_pos (by simpa using h1)]
    rw [if_pos (by simpa using h1)] at k
    exact k _ (ci.put_self.symm ▸ hs')
  rw [if_neg (by simpa using h1)]
  rw [if_neg (by simpa using h1)] at k
  obtain ⟨_, h2, h3⟩ := askedM_zero h1
  have hf1 := ok.fits.pages
  have hf2 := ok.fits.erases
  have hje : page.toNat < C.s.erases.length := by omega
  have hjp : page.toNat < C.s.pages.length := by omega
  have eer : C.s.erases.getD page.toNat 0 = C.s.erases[page.toNat] := by simp [List.getD, List.getElem?_eq_getElem hje]
  have erow : rowOf C page = C.s.pages[page.toNat] := by simp [rowOf, List.getD, List.getElem?_eq_getElem hjp]
  rw [eer, erow] at k
  refine ⟨_, _, _, hs.ld .z rfl, ?_⟩
  obtain ⟨w1, ⟨ep, el, ec⟩, w3, w4⟩ := w
  replace hle : C.s.erases.length = el := hle
  obtain ⟨eb, he⟩ := hs.sl_some (i := 2) (.s (.s .z)) (show 0 < el by omega)
  dsimp only at he
  subst he
  refine ⟨_, rfl, h2, by (try dsimp only); omega, ?_⟩
  simp only [add_mk, Nat.zero_add, Nat.mul_one]
  refine ⟨_, hs.sld (i := 2) (.s (.s .z)) (by rw [ints_get, List.getElem?_eq_getElem hje]; rfl), ?_⟩
  refine ⟨_, Sat.ld hs (by (repeat (first | exact At.z | apply At.s))) (by rfl), ?_⟩
  by_cases h4 : C.cfg.erases ≤ C.s.erases[page.toNat]
  case pos =>
    rw [leI_eq, if_pos (by simpa using h4)]
    rw [if_pos h4] at k
    exact k _ (ci.put_self.symm ▸ hs')
  rw [leI_eq, if_neg (by simpa using h4)]
  rw [if_neg h4] at k
  refine begins_sp hs' ci ?_
  intro v h6 hs
  have ci2 := (ci.put (chipE p C.act)).s (x := mayE v (maskAt C))
  obtain ⟨w, ok', hs⟩ := (hs.front ci2).open_
  dsimp only [chipL, List.cons_append, List.nil_append, Cm.cells] at hs
  rw [act_s] at hs
  have hle := hs.sl_len (i := 2) (.s (.s .z))
  simp only [ints_length, Nat.mul_one] at hle
  have hlp := (hs.rdM (.s .z)).len
  obtain ⟨⟨pp, pl, pc⟩, ⟨ep, el, ec⟩, w3, w4⟩ := w
  replace hle : C.s.erases.length = el := hle
  replace hlp : C.s.pages.length = pl := hlp
  obtain ⟨eb, he⟩ := hs.sl_some (i := 2) (.s (.s .z)) (show 0 < el by omega)
  dsimp only at he
  subst he
  refine ⟨_, _, _, Sat.ld hs (by (repeat (first | exact At.z | apply At.s))) (by rfl), ?_⟩
  refine ⟨_, rfl, h2, by (try dsimp only); omega, ?_⟩
  simp only [add_mk, Nat.zero_add, Nat.mul_one]
  refine ⟨_, hs.sld (i := 2) (.s (.s .z)) (by rw [ints_get, List.getElem?_eq_getElem hje]; rfl), ?_⟩
  refine ⟨_, rfl, h2, by (try dsimp only); omega, ?_⟩
  simp only [add_mk, Nat.zero_add, Nat.mul_one]
  refine ⟨hs.scan (i := 2) (.s (.s .z)) (show 0 < el by omega) (by simp; omega), ?_⟩
  intro h7 e7
  replace hs := hs.swr (i := 2) (.s (.s .z)) e7 (show 0 < el by omega) (by simp; omega) (by simp)
  simp only [put, splice, ints_set] at hs
  have hce := ok.typed.erases _ (List.getElem_mem hje)
  have hcm := ok.may.erases
  rw [show IntKind.i64.wrap (C.s.erases[page.toNat] + 1) = C.s.erases[page.toNat] + 1 by rw [IntKind.wrap_i64]; omega] at hs
  have hs7 := hs
  refine ⟨_, _, _, Sat.ld hs (by (repeat (first | exact At.z | apply At.s))) (by rfl), ?_⟩
  obtain ⟨⟨yp, yl, yc⟩, hd, R, e8, hs, give⟩ := (hs.front (.s .z)).row_take hjp
  obtain ⟨qb, hq⟩ := hs.sl_some (.s .z) (show 0 < pl by omega)
  dsimp only at hq
  subst hq
  refine ⟨_, rfl, h2, by (try dsimp only); omega, ?_⟩
  simp only [add_mk, Nat.zero_add, Nat.mul_one]
  refine ⟨_, _, _, hs.sld (.s .z) e8, ?_⟩
  have hcl := ok.fits.cells _ (List.getElem_mem hjp)
  have hcc := ok.may.cells
  have hcs := ok.may.slots
  have hyl := hs.sl_len .z
  simp only [ints_length] at hyl
  obtain ⟨yb, hy⟩ := hs.sl_some .z (show 0 < yl by omega)
  dsimp only at hy
  subst hy
  have hbr := ok.typed.bytes _ (List.getElem_mem hjp)
  generalize C.s.pages[page.toNat] = row at *
  let g := fun (i : Nat) (b : Int) => bits .or .u8 b (maskAt C i)
  intro J hJ
  have hmg : ∀ n, (mapTo g n row).length = row.length := fun n => by simp
  refine loop_up C.cfg.cells.toNat (fun k h => Sat h0 (sE (some ⟨yb, 0, none⟩, yl, yc) 32 (ints .u8 (mapTo g (32 * k) row)) :: sE (some ⟨qb, 0, none⟩, pl, pc) 1 hd :: ((blk p (C.act.cells (some ⟨qb, 0, none⟩, pl, pc) (some ⟨eb, 0, none⟩, el, ec) w3 w4) ::
      sE (some ⟨eb, 0, none⟩, el, ec) 1 (ints .i64 (C.s.erases.set page.toNat (C.s.erases[page.toNat] + 1))) :: sE w3 1 (bools C.s.blown) :: sE w4 1 (ints .u8 C.act.mask) :: mayE v (maskAt C) :: del (put A i (chipE p C.act)) i) ++ R)) h) ?_ ?_ 0 _ (by omega) (by rw [Nat.mul_zero, mapTo_zero]; exact hs)
  · intro k h8 hk hs hk'
    apply hJ
    rw [ltI_eq, if_pos (by simp; omega)]
    simp only [Cm.cells] at hs
    refine ⟨_, _, _, hs.ld (.s (.s .z)) rfl, ?_⟩
    refine ⟨_, rfl, h2, by (try dsimp only); omega, ?_⟩
    simp only [add_mk, Nat.zero_add, Nat.mul_one]
    refine ⟨_, _, _, hs.sld (.s .z) e8, ?_⟩
    refine ⟨_, rfl, by omega, by (try dsimp only); omega, ?_⟩
    intro J2 hJ2
    refine loop_up 32 (fun j h => Sat h0 (sE (some ⟨yb, 0, none⟩, yl, yc) 32 (ints .u8 (mapTo g (32 * k + j) row)) :: sE (some ⟨qb, 0, none⟩, pl, pc) 1 hd :: ((blk p (C.act.cells (some ⟨qb, 0, none⟩, pl, pc) (some ⟨eb, 0, none⟩, el, ec) w3 w4) ::
      sE (some ⟨eb, 0, none⟩, el, ec) 1 (ints .i64 (C.s.erases.set page.toNat (C.s.erases[page.toNat] + 1))) :: sE w3 1 (bools C.s.blown) :: sE w4 1 (ints .u8 C.act.mask) :: mayE v (maskAt C) :: del (put A i (chipE p C.act)) i) ++ R)) h) ?_ ?_ 0 _ (by omega) (by rw [Nat.add_zero]; exact hs)
    · intro j h9 hj hs hk2
      apply hJ2
      rw [ltI_eq, if_pos (by simp; omega)]
      simp only [add_mk, Nat.zero_add, Nat.mul_one, Int.toNat_natCast]
      have hlt : k * 32 + j < row.length := by omega
      have ea : (mapTo g (32 * k + j) row)[k * 32 + j]? = some row[k * 32 + j] := mapTo_out (by omega) hlt
      have eb' : (ints .u8 (mapTo g (32 * k + j) row))[k * 32 + j]? = some (.int .u8 row[k * 32 + j]) := by rw [ints_get, ea]; rfl
      refine ⟨by omega, by omega, _, hs.sld .z eb', ?_⟩
      have ew : IntKind.i64.wrap (IntKind.i64.wrap ((k : Int) * 32) + (j : Int)) = ((k * 32 + j : Nat) : Int) := by rw [wrap_id (n := (k : Int) * 32) (by omega), wrap_id (by omega)]; omega
      rw [ew]
      refine call_may (i := 6) hs (.s (.s (.s (.s (.s (.s .z)))))) (k * 32 + j) rfl ?_
      refine ⟨_, _, rfl, _, rfl, rfl, hcs_one (hs.sld .z eb'), by omega, by omega, hs.scan .z (show 0 < yl by omega) (by simp; omega), ?_⟩
      intro h10 e10
      replace hs := hs.swr .z e10 (show 0 < yl by omega) (by simp; omega) (by simp)
      rw [wrap_succ (by omega)]
      refine hk2 _ ?_
      simp only [splice_cons, splice_nil, ints_set, put] at hs
      have e11 : (mapTo g (32 * k + j) row).set (k * 32 + j) (bits .or .u8 row[k * 32 + j] (maskAt C (k * 32 + j))) = mapTo g (32 * k + (j + 1)) row := by
        have := mapTo_succ g (32 * k + j) row (by omega)
        rw [show 32 * k + (j + 1) = 32 * k + j + 1 by omega, ← this]
        have e12 : 32 * k + j = k * 32 + j := by omega
        simp only [e12, g]
      rw [e11] at hs
      exact hs
    · intro h9 hs
      apply hJ2
      rw [ltI_eq, if_neg (by simp)]
      rw [wrap_succ (by omega)]
      exact hk' _ hs
  · intro h8 hs
    apply hJ
    rw [ltI_eq, if_neg (by simp; omega)]
    have e12 : mapTo g (32 * C.cfg.cells.toNat) row = eraseRow row (maskAt C) := by
      unfold eraseRow
      have : 32 * C.cfg.cells.toNat = row.length := by omega
      rw [this]
    rw [e12] at hs
    replace hs := (give _ _ _ hs).front (.s .z)
    have hce' : ((C.act.setErase page.toNat (C.s.erases[page.toNat] + 1)).setPage page.toNat (eraseRow row (maskAt C))).ok := by
      refine (ok'.setErase (by omega)).setPage ?_ ?_
      · show ((eraseRow row (maskAt C)).length : Int) = 32 * C.act.cfg.cells
        rw [act_cfg, ← e12, hmg]; exact hcl
      · refine mapTo_mem (P := isByte) (fun v hv => hbr v hv) (fun i v hv => byte_bits _ _ _)
    have hsC := chip_close (a := (some ⟨qb, 0, none⟩, pl, pc)) (b := (some ⟨eb, 0, none⟩, el, ec)) (c := w3) (m := w4) hce' ci2 (by rw [Cm.setPage, Cm.setErase, act_s]; exact hs)
    simp only [put_succ, put_put] at hsC
    exact k _ hsC.drop
end
end Go.Proofs.Ytamfkofcpoglnaa
