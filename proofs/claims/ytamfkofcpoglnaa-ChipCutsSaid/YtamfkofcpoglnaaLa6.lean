/- ChipCuts: what a cut act leaves, bit by bit. Own work. -/
import Derived.Test.YtamfkofcpoglnaaLa5
set_option autoImplicit false
set_option linter.all false
set_option maxRecDepth 100000
set_option linter.unusedVariables false
namespace Go.Proofs.Ytamfkofcpoglnaa
open Go Go.Vc

/-! ### Bits -/
theorem mix_same {w : Int} (m : Int) (hw : isByte w) : bits .or .u8 (bits .andNot .u8 w m) (bits .and .u8 w m) = w := by
  simp only [bits_and8, bits_or8, bits_andNot8, b8_nat]
  have : b8 w &&& ~~~ b8 m ||| b8 w &&& b8 m = b8 w := by
    ext i hi
    simp [hi]
    cases (b8 w)[i] <;> cases (b8 m)[i] <;> rfl
  rw [this]
  obtain ⟨h1, h2⟩ := hw
  simp [b8]; omega
theorem mix_prog (w m x : Int) : bits .or .u8 (bits .andNot .u8 w m) (bits .and .u8 (bits .andNot .u8 w (bits .andNot .u8 255 x)) m) = bits .andNot .u8 w (bits .andNot .u8 m x) := by
  rw [← full_prog, cut_prog]
theorem mix_erase (w m : Int) : bits .or .u8 (bits .andNot .u8 w m) (bits .and .u8 (bits .or .u8 w 255) m) = bits .or .u8 w m := by
  rw [full_or]
  simp only [bits_and8, bits_or8, bits_andNot8, b8_nat]
  congr 1; congr 1
  have : b8 255 = BitVec.allOnes 8 := by decide
  rw [this]
  ext i hi
  simp only [BitVec.getElem_or, BitVec.getElem_and, BitVec.getElem_not, BitVec.getElem_allOnes]
  cases (b8 w)[i] <;> cases (b8 m)[i] <;> rfl

/-! ### What is left -/
def mk (mask : List Int) (n : Nat) : Int := if mask = [] then 0 else mask.getD (n % mask.length) 0
def doneM (C : Cm) (s : Stp) : Cm × Int := if s.kind = 2 then programM C s.a s.b s.x else if s.kind = 3 then eraseM C s.a else blowM C s.a
def plc (kind : Int) (k : Nat) : Nat := if kind = 3 then 32 * k else 0
def mixB (w m f : Int) : Int := bits .or .u8 (bits .andNot .u8 w m) (bits .and .u8 f m)
structure Mixed (kind : Int) (mask : List Int) (S Hf Wh : St) : Prop where
  np : Hf.pages.length = S.pages.length
  np2 : Wh.pages.length = S.pages.length
  nr : ∀ j (h1 : j < S.pages.length) (h2 : j < Hf.pages.length) (h3 : j < Wh.pages.length), Hf.pages[j].length = S.pages[j].length ∧ Wh.pages[j].length = S.pages[j].length ∧
    ∀ k i, i < 32 → ∀ (hk : k * 32 + i < S.pages[j].length) (hk2 : k * 32 + i < Hf.pages[j].length) (hk3 : k * 32 + i < Wh.pages[j].length),
      Hf.pages[j][k * 32 + i] = mixB S.pages[j][k * 32 + i] (mk mask (plc kind k + i)) Wh.pages[j][k * 32 + i]
  er : Hf.erases = Wh.erases
  ne : Hf.erases.length = S.erases.length
  nb : Hf.blown.length = S.blown.length
  nb2 : Wh.blown.length = S.blown.length
  bl : ∀ i (h1 : i < S.blown.length) (h2 : i < Hf.blown.length) (h3 : i < Wh.blown.length), Hf.blown[i] = if bits .and .u8 (mk mask 0) 1 = 1 then Wh.blown[i] else S.blown[i]

theorem mixed_same {kind : Int} {mask : List Int} {S : St} (ty : S.typed) : Mixed kind mask S S S := by
  refine ⟨rfl, rfl, fun j h1 _ _ => ⟨rfl, rfl, fun k i hi hk _ _ => ?_⟩, rfl, rfl, rfl, rfl, fun i h1 _ _ => by split <;> rfl⟩
  exact (mix_same _ (ty.bytes _ (List.getElem_mem h1) _ (List.getElem_mem hk))).symm
theorem mapTo_at {g : Nat → Int → Int} {n : Nat} {ns : List Int} {j : Nat} (h : j < (mapTo g n ns).length) : (mapTo g n ns)[j] = if j < n then g j (ns[j]'(by simpa using h)) else ns[j]'(by simpa using h) := by
  have := mapTo_get g n ns j
  rw [List.getElem?_eq_getElem h, List.getElem?_eq_getElem (by simpa using h)] at this
  simpa using this
theorem rowSet_at {row c : List Int} {q : Nat} (hk : (q + 1) * 32 ≤ row.length) (hc : c.length = 32) {n : Nat} (hn : n < (rowSet row q c).length) :
    (rowSet row q c)[n] = if h : q * 32 ≤ n ∧ n < q * 32 + 32 then c[n - q * 32]'(by omega) else row[n]'(by rw [rowSet_length hk hc] at hn; exact hn) := by
  have hl := rowSet_length hk hc
  have ht : (row.take (q * 32)).length = q * 32 := by simp; omega
  apply Option.some.inj
  rw [← List.getElem?_eq_getElem hn]
  simp only [rowSet]
  split
  · rename_i h
    rw [List.append_assoc, List.getElem?_append_right (by omega), List.getElem?_append_left (by omega), ht, List.getElem?_eq_getElem]
  · rename_i h
    rw [List.append_assoc]
    by_cases h1 : n < q * 32
    · rw [List.getElem?_append_left (by omega), List.getElem?_take_of_lt h1, List.getElem?_eq_getElem]
    · rw [List.getElem?_append_right (by omega), List.getElem?_append_right (by omega), List.getElem?_drop, ht, hc]
      rw [show q * 32 + 32 + (n - q * 32 - 32) = n by omega, List.getElem?_eq_getElem]

/-- A cut act, and the whole one. -/
theorem done_mixed {C X0 : Cm} {mask : List Int} (ok : C.ok) (ho : C.out = false) (hleft : C.left = -1) (xc : X0.cfg = C.cfg) (xs : X0.s = C.s) (xo : X0.out = false) (xl : X0.left = 0) (xm : X0.mask = mask) (a : Stp) (hx : a.x.length = 32) :
    ((doneM X0 a).2 = (doneM C a).2 ∧ (doneM X0 a).2 ≠ 0 ∧ (doneM X0 a).2 ≠ 8 ∧ (doneM X0 a).1 = X0) ∨
      ((doneM X0 a).2 = 8 ∧ (doneM C a).2 = 0 ∧ (doneM X0 a).1.out = true ∧ Mixed a.kind mask C.s (doneM X0 a).1.s (doneM C a).1.s) := by
  have ty := ok.typed
  have e1 : errM X0 = 8 := by unfold errM; rw [if_neg (by simp [xl])]
  have e2 : errM C = 0 := by unfold errM; rw [if_pos (by simp [hleft])]
  have o1 : X0.act.out = true := by unfold Cm.act; rw [if_neg (by simp [xl])]
  have m1 : ∀ n, maskAt X0 n = mk mask n := fun n => by unfold maskAt mk; rw [if_neg (by simp [xl]), xm]
  have m2 : ∀ n, maskAt C n = 255 := fun n => by unfold maskAt; rw [if_pos (by simp [hleft])]
  have ask : ∀ i n, askedM X0 i n = askedM C i n := fun i n => by unfold askedM; rw [xo, ho]
  have askc : ∀ i n, asksCellM X0 i n = asksCellM C i n := fun i n => by unfold asksCellM; rw [ask, ask, xs, xc]
  have rowX : ∀ i, rowOf X0 i = rowOf C i := fun i => by unfold rowOf; rw [xs]
  have ask8 : ∀ i n, askedM C i n ≠ 8 := by
    intro i n; unfold askedM; rw [if_neg (by simp [ho])]; split
    · decide
    · split <;> decide
  have sX : X0.act.s = C.s := by rw [act_s, xs]
  have sC : C.act.s = C.s := act_s C
  have hsame : ∀ {j : Nat} (g1 : j < C.s.pages.length) {n : Nat} (q1 : n < C.s.pages[j].length) (mm : Int), C.s.pages[j][n] = mixB C.s.pages[j][n] mm C.s.pages[j][n] := fun g1 _ q1 mm =>
    (mix_same _ (ty.bytes _ (List.getElem_mem g1) _ (List.getElem_mem q1))).symm
  by_cases h2 : a.kind = 2
  · have hX : doneM X0 a = programM X0 a.a a.b a.x := if_pos h2
    have hY : doneM C a = programM C a.a a.b a.x := if_pos h2
    rw [hX, hY]
    unfold programM
    rw [askc]
    by_cases h1 : asksCellM C a.a a.b = 0
    · right
      rw [if_neg (by simpa using h1), if_neg (by simpa using h1)]
      obtain ⟨_, _, _, _, _, hj, hl, hk⟩ := asksCellM_zero ok h1
      have er : rowOf C a.a = C.s.pages[a.a.toNat] := by simp [rowOf, List.getD, List.getElem?_eq_getElem hj]
      rw [rowX, er]
      refine ⟨e1, e2, o1, ?_⟩
      simp only [Cm.setPage, sX, sC]
      have hcl : (cellAt C.s.pages[a.a.toNat] a.b.toNat).length = 32 := cellAt_length hk
      have pl : ∀ f, (progCell (cellAt C.s.pages[a.a.toNat] a.b.toNat) a.x f).length = 32 := fun f => by simp [progCell, hcl]
      refine ⟨by simp, by simp, ?_, rfl, rfl, rfl, rfl, fun i _ _ _ => by simp⟩
      intro j g1 g2 g3
      simp only [List.getElem_set]
      by_cases hjj : a.a.toNat = j
      · subst hjj
        simp only [if_true]
        refine ⟨rowSet_length hk (pl _), rowSet_length hk (pl _), ?_⟩
        intro k i hi q1 q2 q3
        rw [rowSet_at hk (pl _), rowSet_at hk (pl _)]
        by_cases hin : a.b.toNat * 32 ≤ k * 32 + i ∧ k * 32 + i < a.b.toNat * 32 + 32
        · have hkk : k = a.b.toNat := by omega
          subst hkk
          rw [dif_pos hin, dif_pos hin]
          simp only [progCell]
          rw [mapTo_at, mapTo_at]
          have hi' : a.b.toNat * 32 + i - a.b.toNat * 32 = i := by omega
          simp only [hi', if_pos hi]
          have eo : (cellAt C.s.pages[a.a.toNat] a.b.toNat)[i]'(by omega) = C.s.pages[a.a.toNat][a.b.toNat * 32 + i] := by
            have := cellAt_get C.s.pages[a.a.toNat] a.b.toNat i hi
            rw [List.getElem?_eq_getElem (by omega), List.getElem?_eq_getElem q1] at this
            exact Option.some.inj this
          rw [eo, m1, m2]
          unfold mixB plc
          rw [h2, if_neg (by decide), Nat.zero_add, mix_prog]
        · rw [dif_neg hin, dif_neg hin]
          exact hsame g1 q1 _
      · simp only [if_neg hjj]
        exact ⟨trivial, trivial, fun k i hi q1 q2 q3 => hsame g1 q1 _⟩
    · left
      rw [if_pos (by simpa using h1), if_pos (by simpa using h1)]
      refine ⟨rfl, h1, ?_, rfl⟩
      show asksCellM C a.a a.b ≠ 8
      unfold asksCellM
      split <;> exact ask8 _ _
  by_cases h3 : a.kind = 3
  · have hX : doneM X0 a = eraseM X0 a.a := by unfold doneM; rw [if_neg h2, if_pos h3]
    have hY : doneM C a = eraseM C a.a := by unfold doneM; rw [if_neg h2, if_pos h3]
    rw [hX, hY]
    unfold eraseM
    rw [ask, xs, xc]
    by_cases h1 : askedM C a.a C.s.pages.length = 0
    · have n1 : ¬ askedM C a.a C.s.pages.length ≠ 0 := by simpa using h1
      rw [if_neg n1, if_neg n1]
      by_cases h4 : C.cfg.erases ≤ C.s.erases.getD a.a.toNat 0
      · left
        rw [if_pos h4, if_pos h4]
        exact ⟨rfl, by simp, by simp, rfl⟩
      · right
        rw [if_neg h4, if_neg h4]
        obtain ⟨_, g2, g3⟩ := askedM_zero h1
        have hj : a.a.toNat < C.s.pages.length := by omega
        have er : rowOf C a.a = C.s.pages[a.a.toNat] := by simp [rowOf, List.getD, List.getElem?_eq_getElem hj]
        rw [rowX, er]
        refine ⟨e1, e2, o1, ?_⟩
        simp only [Cm.setPage, Cm.setErase, sX, sC]
        refine ⟨by simp, by simp, ?_, rfl, by simp, rfl, rfl, fun i _ _ _ => by simp⟩
        intro j g1 g2 g3
        simp only [List.getElem_set]
        by_cases hjj : a.a.toNat = j
        · subst hjj
          simp only [if_true]
          refine ⟨by simp [eraseRow], by simp [eraseRow], ?_⟩
          intro k i hi q1 q2 q3
          simp only [eraseRow]
          rw [mapTo_at, mapTo_at, if_pos q1, if_pos q1, m1, m2]
          have ep : plc a.kind k + i = k * 32 + i := by unfold plc; rw [h3, if_pos rfl]; omega
          rw [ep]
          exact (mix_erase _ _).symm
        · simp only [if_neg hjj]
          exact ⟨trivial, trivial, fun k i hi q1 q2 q3 => hsame g1 q1 _⟩
    · left
      rw [if_pos h1, if_pos h1]
      exact ⟨rfl, h1, ask8 _ _, rfl⟩
  · have hX : doneM X0 a = blowM X0 a.a := by unfold doneM; rw [if_neg h2, if_neg h3]
    have hY : doneM C a = blowM C a.a := by unfold doneM; rw [if_neg h2, if_neg h3]
    rw [hX, hY]
    unfold blowM
    rw [ask, xs, m1, m2]
    by_cases h1 : askedM C a.a C.s.blown.length = 0
    · right
      have n1 : ¬ askedM C a.a C.s.blown.length ≠ 0 := by simpa using h1
      rw [if_neg n1, if_neg n1, if_pos (show bits .and .u8 255 1 = 1 by decide)]
      have hbl : (if bits .and .u8 (mk mask 0) 1 = 1 then { X0.act with s := { C.s with blown := C.s.blown.set a.a.toNat true } } else X0.act).s = { C.s with blown := if bits .and .u8 (mk mask 0) 1 = 1 then C.s.blown.set a.a.toNat true else C.s.blown } := by
        split
        · rfl
        · rw [sX]
      refine ⟨e1, e2, by dsimp only; split <;> exact o1, ?_⟩
      dsimp only
      rw [hbl]
      refine ⟨rfl, rfl, fun j g1 _ _ => ⟨rfl, rfl, fun k i hi q1 _ _ => hsame g1 q1 _⟩, rfl, rfl, by dsimp only; split <;> simp, by simp, ?_⟩
      intro i g1 g2 g3
      by_cases hb : bits .and .u8 (mk mask 0) 1 = 1
      · simp only [if_pos hb]
      · simp only [if_neg hb]
    · left
      rw [if_pos h1, if_pos h1]
      exact ⟨rfl, h1, ask8 _ _, rfl⟩
end Go.Proofs.Ytamfkofcpoglnaa
