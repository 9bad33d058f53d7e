/- Contracts of the document's chip: Read, Blown, Erases, Restore, Cut, Blow. Own work. -/
import Derived.Test.YtamfkofcpoglnaaFa4
import Derived.Test.YtamfkofcpoglnaaRf3
set_option autoImplicit false
set_option linter.all false
set_option linter.unusedVariables false
namespace Go.Proofs.Ytamfkofcpoglnaa
open Go Go.Vc

section
variable {h0 h : H} {A : List Ent} {i p : Nat} {C : Cm}
theorem rRead_sp {Q : List Int → Int → H → Prop} (hs : Sat h0 A h) (ci : At A i (refE p C)) (page cell : Int) (k : ∀ h', Sat h0 A h' → Q (readM C page cell).1 (readM C page cell).2 h') :
    F_portcullisref04_Chip_Read ⟨p, 0, none⟩ page cell Q h := by
  unfold F_portcullisref04_Chip_Read G_portcullisref04_Chip_Read
  simp only [add_mk, Nat.zero_add, List.append_nil]
  (intro _ _ hn; replace hs := Sat.new hs hn; clear hn)
  have hs' := hs
  obtain ⟨⟨w, ms⟩, ⟨ok, _, _, _⟩, hs⟩ := (hs.front ci.s).open_
  dsimp only [refL, List.cons_append, List.nil_append, Cm.cells] at hs
  have hlp := (hs.rdM (.s .z)).len
  refine at_b (C := C) hs .z hlp _ _ ?_
  unfold readM at k
  by_cases h1 : asksCellM C page cell = 0
  case neg =>
    rw [if_pos (by simpa using h1)]
    rw [if_pos (by simpa using h1)] at k
    replace hs := hs'
    (refine ⟨Sat.can hs (by (repeat (first | exact At.z | apply At.s))) (by simp), ?_⟩; intro _ e; replace hs := Sat.wra hs (by (repeat (first | exact At.z | apply At.s))) e (by simp [*]); clear e; simp only [put] at hs)
    refine ⟨_, ?_, hs.row0 (by (repeat (first | exact At.z | apply At.s))), ?_⟩
    · simp
    exact k _ hs.drop
  rw [if_neg (by simpa using h1)]
  rw [if_neg (by simpa using h1)] at k
  obtain ⟨_, h2, h3, h4, h5, hj, hl, hk⟩ := asksCellM_zero ok h1
  refine ⟨_, _, _, hs.ld .z rfl, ?_⟩
  have rd := hs.rdM (.s .z)
  have hlen := rd.len
  obtain ⟨q, x, q', e1, e2, e3, e4, e5⟩ := rd.cell hj hk
  rw [e1]
  refine ⟨_, rfl, h2, by omega, ?_⟩
  refine ⟨_, _, _, e2, ?_⟩
  refine ⟨_, e4, h4, by omega, ?_⟩
  refine ⟨_, cellAt_length hk, e5, ?_⟩
  replace hs := hs'
  have hcl := cellAt_length hk
  (refine ⟨Sat.can hs (by (repeat (first | exact At.z | apply At.s))) (by simp), ?_⟩; intro _ e; replace hs := Sat.wra hs (by (repeat (first | exact At.z | apply At.s))) e (by simp [*]); clear e; simp only [put] at hs)
  refine ⟨_, ?_, hs.row0 (by (repeat (first | exact At.z | apply At.s))), ?_⟩
  · exact hcl
  have : C.s.pages.getD page.toNat [] = C.s.pages[page.toNat] := by simp [List.getD, List.getElem?_eq_getElem hj]
  rw [this] at k
  exact k _ hs.drop
theorem rBlown_sp {Q : Bool → Int → H → Prop} (hs : Sat h0 A h) (ci : At A i (refE p C)) (j : Int) (k : Q (blownM C j).1 (blownM C j).2 h) : F_portcullisref04_Chip_Blown ⟨p, 0, none⟩ j Q h := by
  unfold F_portcullisref04_Chip_Blown G_portcullisref04_Chip_Blown
  obtain ⟨⟨w, ms⟩, ⟨ok, mb, ml, me⟩, hs⟩ := (hs.front ci).open_; dsimp only [refL, List.cons_append, List.nil_append, Cm.cells] at hs; dsimp only at mb ml me
  simp only [add_mk, Nat.zero_add]
  have hl := hs.sl_len (i := 3) (.s (.s (.s .z)))
  simp only [bools_length, Nat.mul_one] at hl
  refine fuse_b (C := C) hs .z hl _ ?_
  unfold blownM at k
  by_cases h1 : askedM C j C.s.blown.length = 0
  · rw [if_neg (by simpa using h1)]
    rw [if_neg (by simpa using h1)] at k
    obtain ⟨_, h2, h3⟩ := askedM_zero h1
    refine ⟨_, _, _, hs.ld .z rfl, ?_⟩
    obtain ⟨q, hq⟩ := hs.sl_some (i := 3) (.s (.s (.s .z))) (by omega)
    obtain ⟨w1, w2, ⟨cp, cl, cc⟩, w4⟩ := w
    simp only at hq hl
    subst hq
    refine ⟨_, rfl, h2, by simp only; omega, _, ?_, k⟩
    simp only [add_mk, Nat.zero_add, Nat.mul_one]
    refine hs.sld (i := 3) (.s (.s (.s .z))) ?_
    rw [bools_get, List.getElem?_eq_getElem (by omega)]
    simp [List.getD, List.getElem?_eq_getElem (show j.toNat < C.s.blown.length by omega)]
  · rw [if_pos (by simpa using h1)]
    rw [if_pos (by simpa using h1)] at k
    exact k
theorem asksCellM_page (ok : C.ok) (page : Int) : asksCellM C page 0 = askedM C page C.s.pages.length := by
  have h1 := ok.may.cells; have h2 := ok.may.slots
  unfold asksCellM
  split
  · rfl
  · rename_i h3
    have h3 : askedM C page C.s.pages.length = 0 := by simpa using h3
    obtain ⟨h4, _, _⟩ := askedM_zero h3
    rw [h3]
    unfold askedM
    rw [if_neg (by simp [h4]), if_neg (by omega), if_neg (by omega)]
theorem rErases_sp {Q : Int → Int → H → Prop} (hs : Sat h0 A h) (ci : At A i (refE p C)) (j : Int) (k : Q (erasesM C j).1 (erasesM C j).2 h) : F_portcullisref04_Chip_Erases ⟨p, 0, none⟩ j Q h := by
  unfold F_portcullisref04_Chip_Erases G_portcullisref04_Chip_Erases
  obtain ⟨⟨w, ms⟩, ⟨ok, mb, ml, me⟩, hs⟩ := (hs.front ci).open_; dsimp only [refL, List.cons_append, List.nil_append, Cm.cells] at hs; dsimp only at mb ml me
  simp only [add_mk, Nat.zero_add]
  have hl := hs.sl_len (i := 2) (.s (.s .z))
  simp only [ints_length, Nat.mul_one] at hl
  have hl1 := (hs.rdM (.s .z)).len
  have hf := ok.fits
  have hnp := hf.pages
  have hne := hf.erases
  refine at_b (C := C) hs .z hl1 _ _ ?_
  rw [asksCellM_page ok]
  unfold erasesM at k
  by_cases h1 : askedM C j C.s.pages.length = 0
  · rw [if_neg (by simpa using h1)]
    rw [if_neg (by simpa using h1)] at k
    obtain ⟨_, h2, h3⟩ := askedM_zero h1
    refine ⟨_, _, _, hs.ld .z rfl, ?_⟩
    obtain ⟨q, hq⟩ := hs.sl_some (i := 2) (.s (.s .z)) (by omega)
    obtain ⟨w1, ⟨cp, cl, cc⟩, w2, w4⟩ := w
    simp only at hq hl
    subst hq
    refine ⟨_, rfl, h2, by simp only; omega, _, ?_, k⟩
    simp only [add_mk, Nat.zero_add, Nat.mul_one]
    refine hs.sld (i := 2) (.s (.s .z)) ?_
    rw [ints_get, List.getElem?_eq_getElem (by omega)]
    simp [List.getD, List.getElem?_eq_getElem (show j.toNat < C.s.erases.length by omega)]
  · rw [if_pos (by simpa using h1)]
    rw [if_pos (by simpa using h1)] at k
    exact k
theorem rRestore_sp {Q : H → Prop} (hs : Sat h0 A h) (ci : At A i (refE p C)) (k : ∀ h', Sat h0 (put A i (refE p { C with out := false })) h' → Q h') : F_portcullisref04_Chip_Restore ⟨p, 0, none⟩ Q h := by
  unfold F_portcullisref04_Chip_Restore G_portcullisref04_Chip_Restore
  obtain ⟨⟨w, ms⟩, ⟨ok, mb, ml, me⟩, hs⟩ := (hs.front ci).open_; dsimp only [refL, List.cons_append, List.nil_append, Cm.cells] at hs; dsimp only at mb ml me
  simp only [add_mk, Nat.zero_add]
  (refine ⟨Sat.can hs (by (repeat (first | exact At.z | apply At.s))) (by simp), ?_⟩; intro _ e; replace hs := Sat.wr hs (by (repeat (first | exact At.z | apply At.s))) e; clear e; simp only [put, splice, List.set] at hs)
  exact k _ (ref_close (C := { C with out := false }) (a := w.a) (b := w.b) (c := w.c) (m := w.m) ⟨ok.may, ok.fits, ok.typed, ok.left, ok.left2, ok.mask, ok.acts, ok.mlen⟩ mb ml me ci hs)
theorem rCut_sp {Q : H → Prop} {q : Option Addr} {l c : Nat} {bs : List Int} (hs : Sat h0 A h) (ci : At A i (refE p C)) (n : Int) (hn : n < 2 ^ 63) (rd : ∀ C' h', Sat h0 (put A i (refE p C')) h' → hsv h' q 1 l (ints .u8 bs)) (hb : bytesOk bs) (hl : bs.length ≤ 2 ^ 47)
    (k : ∀ h', Sat h0 (put A i (refE p (cutM C n bs))) h' → Q h') : F_portcullisref04_Chip_Cut ⟨p, 0, none⟩ n q l c Q h := by
  unfold F_portcullisref04_Chip_Cut G_portcullisref04_Chip_Cut
  obtain ⟨⟨w, ms⟩, ⟨ok, mb, ml, me⟩, hs⟩ := (hs.front ci).open_; dsimp only [refL, List.cons_append, List.nil_append, Cm.cells] at hs; dsimp only at mb ml me
  simp only [add_mk, Nat.zero_add]
  (refine ⟨Sat.can hs (by (repeat (first | exact At.z | apply At.s))) (by simp), ?_⟩; intro _ e; replace hs := Sat.wr hs (by (repeat (first | exact At.z | apply At.s))) e; clear e; simp only [put, splice, List.set] at hs)
  have ok1 : ({ cutM C n ms with acts := C.acts } : Cm).ok := ⟨ok.may, ok.fits, ok.typed, by simp only [cutM]; split <;> omega, by simp only [cutM]; split <;> omega, mb, ok.acts, ml⟩
  have rd1 := rd _ _ (ref_close (C := cutM C n ms) (a := w.a) (b := w.b) (c := w.c) (m := w.m) ok1 mb ml (fun _ => rfl) ci hs)
  intro n1 h1 hn
  have rd2 := hsv_ext hn.ext rd1 (fun _ _ x => x)
  replace hs := Sat.new hs hn; clear hn
  have hlen := rd1.1
  simp only [ints_length, Nat.mul_one] at hlen
  refine ⟨_, rd2, Sat.app_new hs rd2.1 rfl (ints_one _ _) (by omega) ?_⟩
  intro p' c' h2 hs
  (repeat first | refine ⟨_, Sat.ld hs (by (repeat (first | exact At.z | apply At.s))) (by rfl), ?_⟩ | refine ⟨_, _, _, Sat.ld hs (by (repeat (first | exact At.z | apply At.s))) (by rfl), ?_⟩ | (intro _ _ hn; replace hs := Sat.new hs hn; clear hn) | refine ⟨Sat.cs hs (by (repeat (first | exact At.z | apply At.s))) (by rfl), ?_⟩ | (refine ⟨Sat.can hs (by (repeat (first | exact At.z | apply At.s))) (by simp), ?_⟩; intro _ e; replace hs := Sat.wr hs (by (repeat (first | exact At.z | apply At.s))) e; clear e; simp only [put, splice, List.set] at hs))
  have okc : (cutM C n bs).ok := ⟨ok.may, ok.fits, ok.typed, by simp only [cutM]; split <;> omega, by simp only [cutM]; split <;> omega, hb, ok.acts, hl⟩
  refine k _ ?_
  replace hs := Sat.front hs (e := slE p' _ _ 1 (ints .u8 bs)) (by (repeat (first | exact At.z | apply At.s)))
  replace hs := Sat.front hs (e := slE _ _ _ 1 (bools C.s.blown)) (by (repeat (first | exact At.z | apply At.s)))
  replace hs := Sat.front hs (e := slE _ _ _ 1 (ints .i64 C.s.erases)) (by (repeat (first | exact At.z | apply At.s)))
  replace hs := Sat.front hs (e := matE 32 _ _) (by (repeat (first | exact At.z | apply At.s)))
  replace hs := Sat.front hs (e := blk p _) (by (repeat (first | exact At.z | apply At.s)))
  simp only [del] at hs
  exact (ref_close (C := cutM C n bs) (a := w.a) (b := w.b) (c := w.c) (m := (p', l, c')) okc hb hl (fun _ => rfl) ci.s.s hs).drop.drop
theorem act_me {ms : List Int} (ok : C.ok) (me : 0 ≤ C.left → ms = C.mask) : 0 ≤ C.act.left → ms = C.act.mask := by
  have := ok.left
  unfold Cm.act
  split
  · intro h; dsimp only at h ⊢; exact me (by omega)
  · intro h; dsimp only at h; omega
theorem maskAt_cut {ms : List Int} (me : 0 ≤ C.left → ms = C.mask) (h : C.left = 0) (n : Nat) : maskAt C n = if ms = [] then 0 else ms.getD (n % ms.length) 0 := by
  rw [me (by omega)]; unfold maskAt; rw [if_neg (by simpa using h)]
theorem maskAt_full (h : ¬ C.left = 0) (n : Nat) : maskAt C n = 255 := by unfold maskAt; rw [if_pos h]
theorem rBlow_sp {Q : Int → H → Prop} (hs : Sat h0 A h) (ci : At A i (refE p C)) (j : Int) (k : ∀ h', Sat h0 (put A i (refE p (blowM C j).1)) h' → Q (blowM C j).2 h') : F_portcullisref04_Chip_Blow ⟨p, 0, none⟩ j Q h := by
  unfold F_portcullisref04_Chip_Blow G_portcullisref04_Chip_Blow
  have hs' := hs
  obtain ⟨⟨w, ms⟩, ⟨ok, mb, ml, me⟩, hs⟩ := (hs.front ci).open_; dsimp only [refL, List.cons_append, List.nil_append, Cm.cells] at hs; dsimp only at mb ml me
  simp only [add_mk, Nat.zero_add]
  have hl := hs.sl_len (i := 3) (.s (.s (.s .z)))
  simp only [bools_length, Nat.mul_one] at hl
  refine fuse_b (C := C) hs .z hl _ ?_
  unfold blowM at k
  by_cases h1 : askedM C j C.s.blown.length = 0
  case neg =>
    rw [if_pos (by simpa using h1)]
    rw [if_pos (by simpa using h1)] at k
    exact k _ (ci.put_self.symm ▸ hs')
  rw [if_neg (by simpa using h1)]
  rw [if_neg (by simpa using h1)] at k
  obtain ⟨_, h2, h3⟩ := askedM_zero h1
  have hjb : j.toNat < C.s.blown.length := by omega
  refine act_b (C := C) hs .z ok ?_
  intro h5 hs
  simp only [put] at hs
  obtain ⟨q, hq⟩ := hs.sl_some (i := 3) (.s (.s (.s .z))) (by omega)
  obtain ⟨w1, w2, ⟨cp, cl, cc⟩, w4⟩ := w
  simp only at hq hl
  subst hq
  refine ⟨_, _, _, hs.ld .z rfl, ?_⟩
  refine ⟨_, _, _, hs.ld .z rfl, ?_⟩
  refine ⟨_, rfl, h2, by (try dsimp only); omega, ?_⟩
  simp only [add_mk, Nat.zero_add, Nat.mul_one]
  refine ⟨_, hs.sld (i := 3) (.s (.s (.s .z))) (by rw [bools_get, List.getElem?_eq_getElem hjb]; rfl), ?_⟩
  have eact := ok.act
  have fin : ∀ (b : Bool) h6, (b = (C.s.blown[j.toNat] || !decide (C.left = 0) || (bits .and .u8 (if ms = [] then 0 else ms.getD (0 % ms.length) 0) 1 == 1))) → Sat h0 (blk p (C.act.cells w1 w2 (some ⟨q, 0, none⟩, cl, cc) w4) :: matE 32 w1 C.s.pages :: sE w2 1 (ints .i64 C.s.erases) :: sE (some ⟨q, 0, none⟩, cl, cc) 1 ((bools C.s.blown).set j.toNat (.bool b)) :: sE w4 1 (ints .u8 ms) :: del A i) h6 →
      if decide (C.left = 0) = true then Q 8 h6 else Q 0 h6 := by
    intro b h6 hb hs
    have e6 : (bools C.s.blown).set j.toNat (Value.bool b) = bools (C.s.blown.set j.toNat b) := by simp [bools, List.map_set]
    rw [e6] at hs
    have eb : (if bits .and .u8 (maskAt C 0) 1 = 1 then { C.act with s := { C.s with blown := C.s.blown.set j.toNat true } } else C.act) = { C.act with s := { C.s with blown := C.s.blown.set j.toNat b } } := by
      by_cases hz : C.left = 0
      · have hb : b = (C.s.blown[j.toNat] || (bits .and .u8 (maskAt C 0) 1 == 1)) := by rw [hb, maskAt_cut me hz]; simp [hz]
        by_cases h7 : bits .and .u8 (maskAt C 0) 1 = 1
        · rw [if_pos h7]
          have : b = true := by rw [hb]; simp [h7]
          rw [this]
        · rw [if_neg h7]
          have : b = C.s.blown[j.toNat] := by rw [hb]; simp [h7]
          rw [this, List.set_getElem_self hjb]
          have := act_s C
          conv => rhs; rw [← this]
      · have : b = true := by rw [hb]; simp [hz]
        rw [this, maskAt_full hz, if_pos (by decide)]
    rw [eb] at k
    have ec : ({ C.act with s := { C.s with blown := C.s.blown.set j.toNat b } } : Cm).ok :=
      ⟨eact.may, ⟨by have := eact.fits.pages; rw [act_s] at this; exact this, by have := eact.fits.cells; rw [act_s] at this; exact this, by have := eact.fits.erases; rw [act_s] at this; exact this,
        by have := eact.fits.blown; rw [act_s] at this; simpa using this⟩, by have := eact.typed; rw [act_s] at this; exact ⟨this.bytes, this.erases⟩, eact.left, eact.left2, eact.mask, eact.acts, eact.mlen⟩
    have hk := k _ (ref_close (C := { C.act with s := { C.s with blown := C.s.blown.set j.toNat b } }) (a := w1) (b := w2) (c := (some ⟨q, 0, none⟩, cl, cc)) (m := w4) ec mb ml (act_me ok me) ci hs)
    unfold errM at hk
    by_cases hz : C.left = 0
    · simpa [hz] using hk
    · simpa [hz] using hk
  have put1 : ∀ (b : Bool) h6 (hs6 : h6 = hwr h5 ⟨q, j.toNat, none⟩ [.bool b]), Sat h0 (blk p (C.act.cells w1 w2 (some ⟨q, 0, none⟩, cl, cc) w4) :: matE 32 w1 C.s.pages :: sE w2 1 (ints .i64 C.s.erases) :: sE (some ⟨q, 0, none⟩, cl, cc) 1 ((bools C.s.blown).set j.toNat (.bool b)) :: sE w4 1 (ints .u8 ms) :: del A i) h6 := by
    intro b h6 e6
    exact hs.swr (i := 3) (.s (.s (.s .z))) e6 (by (try dsimp only); omega) (by simp; omega) (by simp)
  have can1 : hcan h5 ⟨q, j.toNat, none⟩ 1 := hs.scan (i := 3) (.s (.s (.s .z))) (by (try dsimp only); omega) (by simp; omega)
  split
  · rename_i h6
    refine ⟨_, rfl, h2, by (try dsimp only); omega, ?_⟩
    simp only [add_mk, Nat.zero_add, Nat.mul_one]
    refine ⟨can1, fun h7 e7 => fin true h7 (by simp [h6]) (put1 true h7 e7)⟩
  · rename_i h6
    split
    · rename_i h8
      refine ⟨_, rfl, h2, by (try dsimp only); omega, ?_⟩
      simp only [add_mk, Nat.zero_add, Nat.mul_one]
      refine ⟨can1, fun h7 e7 => fin true h7 (by simpa using Or.inl (Or.inr (by simpa using h8))) (put1 true h7 e7)⟩
    · rename_i h8
      refine bits_b (C := C.act) hs .z (j := 4) (.s (.s (.s (.s .z)))) 0 rfl ?_
      refine ⟨hcs_one (hs.ld .z rfl), _, rfl, h2, by (try dsimp only); omega, ?_⟩
      simp only [add_mk, Nat.zero_add, Nat.mul_one]
      refine ⟨can1, fun h7 e7 => fin _ h7 ?_ (put1 _ h7 e7)⟩
      have h9 : C.s.blown[j.toNat] = false := by simpa using h6
      have h10 : (!decide (C.left = 0)) = false := by simpa using h8
      rw [h9, h10]; simp
end
end Go.Proofs.Ytamfkofcpoglnaa
