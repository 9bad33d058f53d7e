/- PageHalf: what a cut act leaves of a sound page; laws about numbers alone. Own work. -/
import Derived.Test.YtamfkofcpoglnaaPg3
set_option autoImplicit false
set_option linter.all false
set_option maxRecDepth 100000
set_option linter.unusedVariables false
namespace Go.Proofs.Ytamfkofcpoglnaa
open Go Go.Vc

def sub8 (a b : Int) : Prop := bits .or .u8 a b = b
theorem byte_eq {x y : Int} (hx : isByte x) (hy : isByte y) (e : b8 x = b8 y) : x = y := by
  have h2 := congrArg BitVec.toNat e
  simp only [BitVec.toNat_ofInt] at h2
  obtain ⟨a1, a2⟩ := hx
  obtain ⟨a3, a4⟩ := hy
  omega
theorem b8_bits (x y : Int) : b8 (bits .or .u8 x y) = b8 x ||| b8 y := by rw [bits_or8, b8_nat]
theorem b8_xor (x y : Int) : b8 (bits .xor .u8 x y) = b8 x ^^^ b8 y := by rw [bits_xor8, b8_nat]
theorem b8_andNot (x y : Int) : b8 (bits .andNot .u8 x y) = b8 x &&& ~~~ b8 y := by rw [bits_andNot8, b8_nat]
theorem b8_255 : b8 255 = BitVec.allOnes 8 := by decide
/-- A sound pair below a byte and its complement is that byte and its complement. -/
theorem pair_eq {x y v : Int} (hx : isByte x) (hy : isByte y) (hv : isByte v) (s : bits .or .u8 x y = 255) (h1 : sub8 x v) (h2 : sub8 y (compl8 v)) : x = v ∧ y = compl8 v := by
  unfold sub8 at h1 h2
  have s' := congrArg b8 s
  have h1' := congrArg b8 h1
  have h2' := congrArg b8 h2
  unfold compl8 at h2' ⊢
  rw [b8_bits, b8_255] at s'
  rw [b8_bits] at h1'
  rw [b8_bits, b8_xor, b8_255] at h2'
  have key : ∀ i (hi : i < 8), (b8 x)[i] = (b8 v)[i] ∧ (b8 y)[i] = !(b8 v)[i] := by
    intro i hi
    have a1 := congrArg (fun z : BitVec 8 => z.getLsbD i) s'
    have a2 := congrArg (fun z : BitVec 8 => z.getLsbD i) h1'
    have a3 := congrArg (fun z : BitVec 8 => z.getLsbD i) h2'
    simp only [BitVec.getLsbD_or, BitVec.getLsbD_xor, BitVec.getLsbD_allOnes, hi, decide_true] at a1 a2 a3
    rw [BitVec.getElem_eq_testBit_toNat, BitVec.getElem_eq_testBit_toNat, BitVec.getElem_eq_testBit_toNat]
    change ((b8 x).getLsbD i = (b8 v).getLsbD i) ∧ ((b8 y).getLsbD i = !(b8 v).getLsbD i)
    revert a1 a2 a3
    cases (b8 x).getLsbD i <;> cases (b8 y).getLsbD i <;> cases (b8 v).getLsbD i <;> simp
  refine ⟨byte_eq hx hv ?_, byte_eq hy (byte_bits _ _ _) ?_⟩
  · ext i hi; exact (key i hi).1
  · rw [b8_xor, b8_255]
    ext i hi
    rw [(key i hi).2]
    simp only [BitVec.getElem_xor, BitVec.getElem_allOnes]
    cases (b8 v)[i] <;> rfl
theorem sub_or (a m : Int) (ha : isByte a) : sub8 a (bits .or .u8 a m) := by
  unfold sub8
  refine byte_eq (byte_bits _ _ _) (byte_bits _ _ _) ?_
  rw [b8_bits, b8_bits]
  ext i hi
  simp only [BitVec.getElem_or]
  cases (b8 a)[i] <;> cases (b8 m)[i] <;> rfl
theorem sound_or {a b : Int} (m m' : Int) (s : bits .or .u8 a b = 255) : bits .or .u8 (bits .or .u8 a m) (bits .or .u8 b m') = 255 := by
  have s' := congrArg b8 s
  rw [b8_bits, b8_255] at s'
  refine byte_eq (byte_bits _ _ _) ⟨by decide, by decide⟩ ?_
  rw [b8_bits, b8_bits, b8_bits, b8_255, ← s']
  ext i hi
  have a1 := congrArg (fun z : BitVec 8 => z[i]) s'
  simp only [BitVec.getElem_or, BitVec.getElem_allOnes] at a1 ⊢
  revert a1
  cases (b8 a)[i] <;> cases (b8 b)[i] <;> simp
/-- A blank byte, programmed with a mask. -/
theorem prog_blank (x m : Int) (hx : isByte x) : sub8 x (bits .andNot .u8 255 (bits .andNot .u8 m x)) := by
  unfold sub8
  refine byte_eq (byte_bits _ _ _) (byte_bits _ _ _) ?_
  rw [b8_bits, b8_andNot, b8_andNot, b8_255]
  ext i hi
  simp only [BitVec.getElem_or, BitVec.getElem_and, BitVec.getElem_not, BitVec.getElem_allOnes]
  cases (b8 x)[i] <;> cases (b8 m)[i] <;> rfl
theorem sound_sub {a b a' b' : Int} (s : bits .or .u8 a b = 255) (h1 : sub8 a a') (h2 : sub8 b b') : bits .or .u8 a' b' = 255 := by
  rw [← h1, ← h2]
  have : ∀ p q r t : Int, bits .or .u8 (bits .or .u8 p q) (bits .or .u8 r t) = bits .or .u8 (bits .or .u8 p q) (bits .or .u8 r t) := fun _ _ _ _ => rfl
  exact sound_or a' b' s
theorem prog_full (x : Int) (hx : isByte x) : bits .andNot .u8 255 (bits .andNot .u8 255 x) = x := by
  refine byte_eq (byte_bits _ _ _) hx ?_
  rw [b8_andNot, b8_andNot, b8_255]
  ext i hi
  simp only [BitVec.getElem_and, BitVec.getElem_not, BitVec.getElem_allOnes]
  cases (b8 x)[i] <;> rfl

/-- A cell whose bits are there once at least. -/
def cellS (x : List Int) : Prop := ∀ k, k < 16 → bits .or .u8 (x.getD k 0) (x.getD (16 + k) 0) = 255
theorem tab_getD {n : Nat} (f : Nat → Int) {k : Nat} (h : k < n) : (tab n f).getD k 0 = f k := by rw [List.getD_eq_getElem?_getD, tab_get, if_pos h]; rfl
theorem laid_get (kind slot n : Int) (k : Nat) (hk : k < 16) : (laidM kind slot n).getD k 0 = bodyM kind slot n k ∧ (laidM kind slot n).getD (16 + k) 0 = compl8 (bodyM kind slot n k) := by
  unfold laidM
  rw [tab_getD _ (by omega), tab_getD _ (by omega)]
  exact ⟨if_pos hk, by rw [if_neg (by omega), Nat.add_sub_cancel_left]⟩
theorem bodyM_byte {kind slot n : Int} (hk : isByte kind) (k : Nat) : isByte (bodyM kind slot n k) := by
  unfold bodyM
  split
  · exact wrap_u8_byte _
  · exact bodyF_byte hk k
theorem getD_byte {x : List Int} (hb : bytesOk x) (k : Nat) : isByte (x.getD k 0) := by
  rw [List.getD_eq_getElem?_getD]
  cases e : x[k]? with
  | none => exact ⟨by decide, by decide⟩
  | some v => exact hb v (List.mem_iff_getElem?.2 ⟨k, e⟩)
theorem cell_eq {x x' : List Int} (hx : x.length = 32) (hb : bytesOk x) (s : cellS x) (hs : ∀ k, k < 32 → sub8 (x.getD k 0) (x'.getD k 0)) {kind slot n : Int} (hk : isByte kind) (e : x' = laidM kind slot n) : x' = x := by
  rw [of_tab x, hx, e]
  refine tab_ext fun i hi => ?_
  have key : ∀ k, k < 16 → x.getD k 0 = bodyM kind slot n k ∧ x.getD (16 + k) 0 = compl8 (bodyM kind slot n k) := by
    intro k hk'
    obtain ⟨l1, l2⟩ := laid_get kind slot n k hk'
    have s1 := hs k (by omega)
    have s2 := hs (16 + k) (by omega)
    rw [e, l1] at s1
    rw [e, l2] at s2
    exact pair_eq (getD_byte hb _) (getD_byte hb _) (bodyM_byte hk k) (s k hk') s1 s2
  by_cases h : i < 16
  · rw [if_pos h, (key i h).1]
  · rw [if_neg h]
    have := (key (i - 16) (by omega)).2
    rw [show 16 + (i - 16) = i by omega] at this
    exact this.symm
theorem recM_kinds (x : List Int) : (recM x).1 = 0 ∨ (recM x).1 = 3 ∨ ∃ kind slot n : Int, isByte kind ∧ x = laidM kind slot n := by
  unfold recM
  split
  · exact Or.inl rfl
  · split
    · exact Or.inr (Or.inl rfl)
    · split
      · exact Or.inr (Or.inl rfl)
      · split
        · rename_i c; exact Or.inr (Or.inr ⟨_, _, _, ⟨by decide, by decide⟩, c.2⟩)
        · split
          · rename_i c; exact Or.inr (Or.inr ⟨_, _, _, ⟨by decide, by decide⟩, c.2.2⟩)
          · exact Or.inr (Or.inl rfl)
theorem rec_sub {x x' : List Int} (hx : x.length = 32) (hb : bytesOk x) (s : cellS x) (hs : ∀ k, k < 32 → sub8 (x.getD k 0) (x'.getD k 0)) : (recM x').1 = 0 ∨ (recM x').1 = 3 ∨ recM x' = recM x := by
  rcases recM_kinds x' with h | h | ⟨kind, slot, n, hk, e⟩
  · exact Or.inl h
  · exact Or.inr (Or.inl h)
  · exact Or.inr (Or.inr (by rw [cell_eq hx hb s hs hk e]))
theorem laid_sound (kind slot n : Int) (hk : isByte kind) : cellS (laidM kind slot n) := by
  intro k hk'
  obtain ⟨l1, l2⟩ := laid_get kind slot n k hk'
  rw [l1, l2]
  unfold compl8
  refine byte_eq (byte_bits _ _ _) ⟨by decide, by decide⟩ ?_
  rw [b8_bits, b8_xor, b8_255]
  ext i hi
  simp only [BitVec.getElem_or, BitVec.getElem_xor, BitVec.getElem_allOnes]
  cases (b8 (bodyM kind slot n k))[i] <;> rfl
theorem nums_grow (I : Inf) (n kind slot num : Int) (k : Nat) (hs : kind = 2 → slot.toNat < I.nums.length) : I.nums.getD k 0 ≤ (layM I n kind slot num).nums.getD k 0 := by
  unfold layM
  have e := nextM_nums I n kind
  generalize nextM I n kind = J at *
  rw [← e] at hs ⊢
  unfold layN
  split
  · exact Int.le_refl _
  · split
    · exact Int.le_refl _
    · split
      · rename_i c
        have hsl := hs c.1
        dsimp only
        by_cases h : slot.toNat = k
        · subst h
          have : (J.nums.set slot.toNat (if num > J.nums.getD slot.toNat 0 then num else J.nums.getD slot.toNat 0)).getD slot.toNat 0 = (if num > J.nums.getD slot.toNat 0 then num else J.nums.getD slot.toNat 0) := by
            simp [List.getD, hsl]
          rw [this]; split <;> omega
        · simp only [List.getD, List.getElem?_set_ne h]; exact Int.le_refl _
      · exact Int.le_refl _
theorem nums_mono (I J : Inf) (n kind slot num : Int) (hl : I.nums.length = J.nums.length) (hs : kind = 2 → slot.toNat < J.nums.length) (h : ∀ k, I.nums.getD k 0 ≤ J.nums.getD k 0) (k : Nat) : (layM I n kind slot num).nums.getD k 0 ≤ (layM J n kind slot num).nums.getD k 0 := by
  unfold layM
  have e1 := nextM_nums I n kind
  have e2 := nextM_nums J n kind
  generalize nextM I n kind = I' at *
  generalize nextM J n kind = J' at *
  rw [← e1, ← e2] at hl h
  rw [← e2] at hs
  unfold layN
  by_cases c1 : kind = 3
  · rw [if_pos c1, if_pos c1]; exact h k
  rw [if_neg c1, if_neg c1]
  by_cases c2 : kind = 1 ∧ n = 0
  · rw [if_pos c2, if_pos c2]; exact h k
  rw [if_neg c2, if_neg c2]
  by_cases c3 : kind = 2 ∧ 0 < n
  · rw [if_pos c3, if_pos c3]
    have hsl := hs c3.1
    dsimp only
    by_cases hk : slot.toNat = k
    · subst hk
      have hm := h slot.toNat
      have q1 : (I'.nums.set slot.toNat (if num > I'.nums.getD slot.toNat 0 then num else I'.nums.getD slot.toNat 0)).getD slot.toNat 0 = (if num > I'.nums.getD slot.toNat 0 then num else I'.nums.getD slot.toNat 0) := by
        have : slot.toNat < I'.nums.length := by omega
        simp [List.getD, this]
      have q2 : (J'.nums.set slot.toNat (if num > J'.nums.getD slot.toNat 0 then num else J'.nums.getD slot.toNat 0)).getD slot.toNat 0 = (if num > J'.nums.getD slot.toNat 0 then num else J'.nums.getD slot.toNat 0) := by
        simp [List.getD, hsl]
      rw [q1, q2]
      split <;> split <;> omega
    · have q1 : ∀ (L : List Int) (v : Int), (L.set slot.toNat v).getD k 0 = L.getD k 0 := by
        intro L v; simp only [List.getD, List.getElem?_set_ne hk]
      rw [q1, q1]; exact h k
  · rw [if_neg c3, if_neg c3]; exact h k
theorem lay_idle (I : Inf) (n kind slot num : Int) (hk : kind = 0 ∨ kind = 3) : (layM I n kind slot num).nums = I.nums ∧ (layM I n kind slot num).head = I.head := by
  unfold layM
  have e1 := nextM_nums I n kind
  have e2 : (nextM I n kind).head = I.head := by unfold nextM; split <;> rfl
  unfold layN
  by_cases c1 : kind = 3
  · rw [if_pos c1]; exact ⟨e1, e2⟩
  rw [if_neg c1, if_neg (by omega), if_neg (by omega)]
  exact ⟨e1, e2⟩
theorem lay_head (I : Inf) (n kind slot num : Int) (hn : n ≠ 0) : (layM I n kind slot num).head = I.head := by
  unfold layM
  have e2 : (nextM I n kind).head = I.head := by unfold nextM; split <;> rfl
  unfold layN
  split
  · exact e2
  · rw [if_neg (by omega)]
    split
    · exact e2
    · exact e2
theorem lay_head0 (I J : Inf) (kind slot num : Int) (h : I.head = J.head) : (layM I 0 kind slot num).head = (layM J 0 kind slot num).head := by
  unfold layM
  have e1 : (nextM I 0 kind).head = I.head := by unfold nextM; split <;> rfl
  have e2 : (nextM J 0 kind).head = J.head := by unfold nextM; split <;> rfl
  unfold layN
  by_cases c1 : kind = 3
  · rw [if_pos c1, if_pos c1]; exact e1.trans (h.trans e2.symm)
  rw [if_neg c1, if_neg c1]
  by_cases c2 : kind = 1
  · rw [if_pos ⟨c2, rfl⟩, if_pos ⟨c2, rfl⟩]
  have d1 : ¬ (kind = 1 ∧ (0 : Int) = 0) := fun y => c2 y.1
  have d2 : ¬ (kind = 2 ∧ (0 : Int) < 0) := fun y => absurd y.2 (by decide)
  rw [if_neg d1, if_neg d1, if_neg d2, if_neg d2]
  exact e1.trans (h.trans e2.symm)
/-- Rows of which one tells no more than the other. -/
theorem of_less (r z : List Int) (n : Nat) (hz : ∀ k, k < n → bytesOk (cellAt z k)) (h : ∀ k, k < n → (recM (cellAt r k)).1 = 0 ∨ (recM (cellAt r k)).1 = 3 ∨ recM (cellAt r k) = recM (cellAt z k)) :
    (∀ k, (ofM r n).nums.getD k 0 ≤ (ofM z n).nums.getD k 0) ∧ ((ofM r n).head = 0 ∨ (ofM r n).head = (ofM z n).head) ∧ (n = 0 → (ofM r n).head = (ofM z n).head) := by
  induction n with
  | zero => exact ⟨fun k => Int.le_refl _, Or.inl rfl, fun _ => rfl⟩
  | succ n ih =>
    obtain ⟨i1, i2, i3⟩ := ih (fun k hk => hz k (by omega)) (fun k hk => h k (by omega))
    have hl1 := ofM_len r n
    have hl2 := ofM_len z n
    have hslot : (recM (cellAt z n)).1 = 2 → (recM (cellAt z n)).2.1.toNat < (ofM z n).nums.length := by
      intro x
      obtain ⟨q1, q2⟩ := recM_slot _ (hz n (by omega)) x
      omega
    unfold ofM
    refine ⟨?_, ?_, fun x => by omega⟩
    · intro k
      rcases h n (by omega) with e | e | e
      · rw [(lay_idle _ _ _ _ _ (Or.inl e)).1]
        exact Int.le_trans (i1 k) (nums_grow _ _ _ _ _ k hslot)
      · rw [(lay_idle _ _ _ _ _ (Or.inr e)).1]
        exact Int.le_trans (i1 k) (nums_grow _ _ _ _ _ k hslot)
      · rw [e]
        exact nums_mono _ _ _ _ _ _ (by rw [hl1, hl2]) hslot i1 k
    · by_cases c : n = 0
      · subst c
        rcases h 0 (by omega) with e | e | e
        · exact Or.inl (lay_idle _ _ _ _ _ (Or.inl e)).2
        · exact Or.inl (lay_idle _ _ _ _ _ (Or.inr e)).2
        · rw [e]; exact Or.inr (lay_head0 _ _ _ _ _ rfl)
      · rw [lay_head _ _ _ _ _ (by omega), lay_head _ _ _ _ _ (by omega)]
        exact i2
def soundM (row : List Int) (l : Nat) : Prop := ∀ i, i < l → ∀ k, k < 16 → bits .or .u8 (row.getD (i * 32 + k) 0) (row.getD (i * 32 + (16 + k)) 0) = 255
instance (row : List Int) (l : Nat) : Decidable (soundM row l) := by unfold soundM; infer_instance
end Go.Proofs.Ytamfkofcpoglnaa
