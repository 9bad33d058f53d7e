/- Contract: slices.Repeat of one cell. Own work. -/
import Derived.Test.YtamfkofcpoglnaaFa1
import Derived.Test.YtamfkofcpoglnaaCh2
set_option autoImplicit false
set_option linter.all false
set_option linter.unusedVariables false
namespace Go.Proofs.Ytamfkofcpoglnaa
open Go Go.Vc

theorem wrap_u64_id {n : Int} (h : 0 ≤ n ∧ n < 2 ^ 64) : IntKind.u64.wrap n = n := by
  have : IntKind.u64.wrap n = n % 18446744073709551616 := by simp [IntKind.wrap, IntKind.bits, IntKind.signed]
  rw [this]; omega
theorem and32 {n : Int} (h : 0 ≤ n ∧ n < 2 ^ 32) : bits .and .u64 n 4294967295 = n := by
  have := bits_mask .u64 64 (by decide) (fun n h0 h1 => wrap_u64_id ⟨h0, h1⟩) 32 (by decide) n h.1 (by omega)
  have e : (2 : Int) ^ 32 - 1 = 4294967295 := by decide
  rw [e] at this
  rw [this]; omega
theorem fdiv32 {n : Int} (h : 0 ≤ n ∧ n < 2 ^ 32) : n.fdiv (2 ^ 32) = 0 := by
  rw [Int.fdiv_eq_ediv_of_nonneg _ (by decide)]; omega
theorem Mul_one (n : Int) (hn : 0 ≤ n ∧ n < 2 ^ 31) (Q : Int → Int → H → Prop) (h : H) (k : Q 0 n h) : F_math_bits_Mul 1 n Q h := by
  unfold F_math_bits_Mul G_math_bits_Mul F_math_bits_Mul64 G_math_bits_Mul64
  rintro i rfl
  refine ⟨by decide, ?_⟩
  rintro i rfl
  refine ⟨by decide, by decide, ?_⟩
  rintro i rfl
  refine ⟨by decide, by decide, ?_⟩
  have a1 : bits .and .u64 1 4294967295 = 1 := and32 (by decide)
  have a2 : bits .and .u64 n 4294967295 = n := and32 (by omega)
  have f1 : (1 : Int).fdiv (2 ^ 32) = 0 := fdiv32 (by decide)
  have f2 : n.fdiv (2 ^ 32) = 0 := fdiv32 (by omega)
  have w0 : IntKind.u64.wrap 0 = 0 := wrap_u64_id (by decide)
  have wn : IntKind.u64.wrap n = n := wrap_u64_id (by omega)
  have f0 : (0 : Int).fdiv (2 ^ 32) = 0 := fdiv32 (by decide)
  have a0 : bits .and .u64 0 4294967295 = 0 := and32 (by decide)
  simpa only [a1, a2, f1, f2, Int.zero_mul, Int.mul_zero, Int.one_mul, w0, wn, f0, a0, Int.add_zero, Int.zero_add] using k

theorem rep_add {α : Type} (a b : Nat) (X : List α) : (List.replicate (a + b) X).flatten = (List.replicate a X).flatten ++ (List.replicate b X).flatten := by
  rw [← List.replicate_append_replicate, List.flatten_append]

theorem Repeat_spec (p : Option Addr) (c : Nat) (n : Nat) (X : List Value) (hX : X.length = 32) (hn : 1 ≤ n ∧ n ≤ 2 ^ 20) (Q : Option Addr → Nat → Nat → H → Prop) (h : H) (hs : hsv h p 32 1 X)
    (k : ∀ b h', Ext none_ h h' → Blk h' b (List.replicate n X).flatten → h.size ≤ b → Q (some ⟨b, 0, none⟩) n n h') : F_slices_Repeat_api_Cell_api_Cell p 1 c n Q h := by
  unfold F_slices_Repeat_api_Cell_api_Cell G_slices_Repeat_api_Cell_api_Cell
  intro J7 hJ7
  rw [ltI_eq, if_neg (by simp)]
  apply hJ7
  have w1 : IntKind.u64.wrap ((1 : Nat) : Int) = 1 := wrap_u64_id (by decide)
  have wn : IntKind.u64.wrap (n : Int) = n := wrap_u64_id (by omega)
  have wi : IntKind.i64.wrap (n : Int) = n := wrap_id (by omega)
  rw [w1, wn]
  apply Mul_one _ (by omega)
  intro J12 hJ12
  rw [ltI_eq, if_neg (by simp)]
  rintro i rfl
  rw [ltI_eq, if_neg (by simp; omega)]
  apply hJ12
  simp only [wi, Int.toNat_natCast]
  refine ⟨by omega, by omega, by omega, by omega, ?_⟩
  intro b h15 hnw
  have m1 : Nat.min 1 n = 1 := Nat.min_eq_left hn.1
  simp only [m1]
  have hs' := hsv_ext hnw.ext hs (fun _ _ x => x)
  have lenr : ∀ m : Nat, (List.replicate m X).flatten.length = m * 32 := fun m => by rw [flatten_replicate_length, hX]
  refine ⟨X, hs', Or.inr ⟨_, rfl, hnw.blk.can ?_⟩, ?_⟩
  · rw [flatten_replicate_length]; simp; omega
  intro h19 e19
  intro J hJ
  have hb : h.size ≤ b := by rw [hnw.b]; exact Nat.le_refl _
  -- the block holds i copies, and something
  have main : ∀ d i h', n - i ≤ d → 1 ≤ i → i ≤ n → Ext none_ h h' → (∃ rest, rest.length = (n - i) * 32 ∧ Blk h' b ((List.replicate i X).flatten ++ rest)) → J [SV.dv (DV.one (Value.int IntKind.i64 (i : Int)))] h' := by
    intro d
    induction d with
    | zero =>
      rintro i h' hd h1 h2 hx ⟨rest, hr, kb⟩
      have : i = n := by omega
      subst this
      apply hJ
      rw [ltI_eq, if_neg (by simp)]
      have : rest = [] := List.eq_nil_of_length_eq_zero (by simp [hr])
      subst this
      exact k b h' hx (by simpa using kb) hb
    | succ d ih =>
      rintro i h' hd h1 h2 hx ⟨rest, hr, kb⟩
      apply hJ
      by_cases hin : i < n
      · rw [ltI_eq, if_pos (by simp; omega)]
        have s0 : subAddr (some (Addr.mk b 0 none)) 0 n 32 = some (Addr.mk b 0 none) := by unfold subAddr; rw [if_neg (by omega)]; simp
        have s1 : subAddr (some (Addr.mk b 0 none)) i n 32 = some (Addr.mk b (i * 32) none) := by unfold subAddr; rw [if_neg (by omega)]; simp
        simp only [Int.toNat_natCast, s0, s1, Nat.sub_zero]
        generalize hm : Nat.min i (n - i) = m
        have hm1 : m ≤ i := by rw [← hm]; exact Nat.min_le_left _ _
        have hm2 : m ≤ n - i := by rw [← hm]; exact Nat.min_le_right _ _
        have hm3 : 1 ≤ m := by rw [← hm]; exact Nat.le_min.2 ⟨h1, by omega⟩
        have spl : (List.replicate i X).flatten = (List.replicate m X).flatten ++ (List.replicate (i - m) X).flatten := by
          rw [← rep_add]; congr 2; omega
        refine ⟨by omega, by omega, by omega, by omega, (List.replicate m X).flatten, ⟨lenr m, ?_, Or.inr ⟨_, rfl, ?_⟩⟩, Or.inr ⟨_, rfl, kb.can ?_⟩, ?_⟩
        · intro v hv
          obtain ⟨l, hl, hv⟩ := List.mem_flatten.1 hv
          rw [List.eq_of_mem_replicate hl] at hv
          exact hs.2.1 v hv
        · apply kb.hcs
          intro j hj
          rw [Nat.zero_add, spl, List.append_assoc, List.getElem?_append_left hj]
        · simp [lenr, hr, hX]
          have : m * 32 ≤ (n - i) * 32 := Nat.mul_le_mul_right _ hm2
          omega
        · intro h26 e
          have w : IntKind.i64.wrap ((i : Int) + (m : Int)) = ((i + m : Nat) : Int) := by rw [wrap_id (by omega)]; omega
          rw [w]
          refine ih (i + m) h26 (by omega) (by omega) (by omega) ?_ ?_
          · rw [e]; exact hx.comp (Ext.wr h' b _ _) (by rintro x hlt rfl; omega)
          · have kw := kb.wr (i * 32) (List.replicate m X).flatten
            have e' : h26 = hwr h' ⟨b, i * 32, none⟩ (List.replicate m X).flatten := e
            rw [← e'] at kw
            refine ⟨rest.drop (m * 32), by simp [hr]; omega, ?_⟩
            have hrr : rest = rest.take (m * 32) ++ rest.drop (m * 32) := by simp
            have : splice ((List.replicate i X).flatten ++ rest) (i * 32) (List.replicate m X).flatten = (List.replicate (i + m) X).flatten ++ rest.drop (m * 32) := by
              rw [hrr, ← List.append_assoc, ← lenr i, splice_append, rep_add]
              · simp
              · simp [lenr, hr]
                have : m * 32 ≤ (n - i) * 32 := Nat.mul_le_mul_right _ hm2
                omega
            rw [this] at kw
            exact kw
      · have : i = n := by omega
        subst this
        rw [ltI_eq, if_neg (by simp)]
        have : rest = [] := List.eq_nil_of_length_eq_zero (by simp [hr])
        subst this
        exact k b h' hx (by simpa using kb) hb
  have e' : h19 = hwr h15 ⟨b, 0, none⟩ X := e19
  have kb := hnw.blk.wr 0 X
  rw [← e'] at kb
  refine main n 1 h19 (by omega) (by omega) hn.1 ?_ ⟨(List.replicate (n - 1) (ints .u8 (zeros 32))).flatten, by simp, ?_⟩
  · rw [e']; exact hnw.ext.comp (Ext.wr h15 b _ _) (by rintro x hlt rfl; omega)
  · have : splice (List.replicate n (ints .u8 (zeros 32))).flatten 0 X = (List.replicate 1 X).flatten ++ (List.replicate (n - 1) (ints .u8 (zeros 32))).flatten := by
      have e1 : (List.replicate n (ints .u8 (zeros 32))).flatten = [] ++ ints .u8 (zeros 32) ++ (List.replicate (n - 1) (ints .u8 (zeros 32))).flatten := by
        have : n = 1 + (n - 1) := by omega
        rw [this, rep_add]; simp
      rw [e1]
      have := splice_append [] (ints .u8 (zeros 32)) (List.replicate (n - 1) (ints .u8 (zeros 32))).flatten X (by simp [hX])
      simp only [List.length_nil] at this
      rw [this]; simp
    rw [this] at kb
    exact kb
end Go.Proofs.Ytamfkofcpoglnaa
