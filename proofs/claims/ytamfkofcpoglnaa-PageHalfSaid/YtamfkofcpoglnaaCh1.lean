/- Contracts of the chip's small functions. Own work. -/
import Derived.Test.YtamfkofcpoglnaaHs
import Derived.Test.YtamfkofcpoglnaaFa1
set_option autoImplicit false
set_option linter.all false
set_option linter.unusedVariables false
namespace Go.Proofs.Ytamfkofcpoglnaa
open Go Go.Vc

structure Cfg where
  cells : Int
  slots : Int
  fuses : Int
  step : Int
  keys : Int
  erases : Int
  area : Int

def Cfg.vals (c : Cfg) : List Value :=
  [.int .i64 c.cells, .int .i64 c.slots, .int .i64 c.fuses, .int .i64 c.step, .int .i64 c.keys, .int .i64 c.erases, .int .i64 c.area]

structure Cfg.may (c : Cfg) : Prop where
  slots : 1 ≤ c.slots ∧ c.slots ≤ 8
  cells : c.slots + 3 ≤ c.cells ∧ c.cells ≤ 256
  fuses : 1 ≤ c.fuses ∧ c.fuses ≤ 64
  step : 1 ≤ c.step ∧ c.step ≤ 65536
  keys : 1 ≤ c.keys ∧ c.keys ≤ 64
  erases : 0 ≤ c.erases ∧ c.erases ≤ 65536
  area : 0 ≤ c.area ∧ c.area ≤ 64

theorem within_spec (n a b : Int) (Q : Bool → H → Prop) (h : H) (k : Q (decide (a ≤ n) && decide (n ≤ b)) h) : F_chip_within n a b Q h := by
  unfold F_chip_within G_chip_within
  by_cases h1 : a ≤ n
  · simpa [h1] using k
  · simpa [h1] using k

theorem within_iff (n a b : Int) (Q : Bool → H → Prop) (h : H) : F_chip_within n a b Q h = Q (decide (a ≤ n) && decide (n ≤ b)) h := by
  unfold F_chip_within G_chip_within
  by_cases h1 : a ≤ n <;> simp [h1]
open Classical in
theorem May_spec (c : Cfg) (Q : Int → H → Prop) (h : H) (k : ∀ h', Ext none_ h h' → Q (if c.may then 0 else 1) h') :
    F_chip_May c.cells c.slots c.fuses c.step c.keys c.erases c.area Q h := by
  unfold F_chip_May G_chip_May
  intro b h' hn
  have kb := hn.blk
  have kx := k h' hn.ext
  have hc0 := kb.hc
  intro J hJ
  have fin : ∀ r : Bool, (r = true ↔ c.may) → J [SV.dv (DV.one (Value.bool r))] h' := by
    intro r hr
    apply hJ
    by_cases hm : c.may
    · rw [hr.2 hm]; rw [if_pos hm] at kx; simpa using kx
    · have : r = false := by cases r; rfl; exact absurd (hr.1 rfl) hm
      rw [this]; rw [if_neg hm] at kx; simpa using kx
  simp only [add_mk, hc0, Nat.zero_add, List.getElem?_cons_succ, List.getElem?_cons_zero, Option.some.injEq, Value.int.injEq, true_and, exists_eq_left']
  simp only [within_iff, hc0, List.getElem?_cons_succ, List.getElem?_cons_zero, Option.some.injEq, Value.int.injEq, true_and, exists_eq_left', Bool.and_eq_true, decide_eq_true_eq]
  have w3 : 1 ≤ c.slots ∧ c.slots ≤ 8 → IntKind.i64.wrap (c.slots + 3) = c.slots + 3 := by
    intro h1; rw [IntKind.wrap_i64]; omega
  split
  case isFalse h1 => exact fin false (by simp; intro hm; exact h1 hm.slots)
  rename_i h1
  rw [w3 h1]
  split
  case isFalse h2 => exact fin false (by simp; intro hm; exact h2 hm.cells)
  rename_i h2
  split
  case isFalse h3 => exact fin false (by simp; intro hm; exact h3 hm.fuses)
  rename_i h3
  split
  case isFalse h4 => exact fin false (by simp; intro hm; exact h4 hm.step)
  rename_i h4
  split
  case isFalse h5 => exact fin false (by simp; intro hm; exact h5 hm.keys)
  rename_i h5
  split
  case isFalse h6 => exact fin false (by simp; intro hm; exact h6 hm.erases)
  rename_i h6
  refine fin _ ?_
  simp only [Bool.and_eq_true, decide_eq_true_eq]
  exact ⟨fun h7 => ⟨h1, h2, h3, h4, h5, h6, h7⟩, fun hm => hm.area⟩

theorem pages_spec (c : Cfg) (hm : c.may) (Q : Int → H → Prop) (h : H) (k : ∀ h', Ext none_ h h' → Q (2 + 2 * c.area) h') :
    F_chip_pages c.cells c.slots c.fuses c.step c.keys c.erases c.area Q h := by
  unfold F_chip_pages G_chip_pages
  intro b h' hn
  have kx := k h' hn.ext
  have ha := hm.area
  have e : IntKind.i64.wrap (2 + IntKind.i64.wrap (2 * c.area)) = 2 + 2 * c.area := by simp only [IntKind.wrap_i64]; omega
  simpa [hn.blk.hc, e] using kx

theorem fuses_spec (c : Cfg) (hm : c.may) (Q : Int → H → Prop) (h : H) (k : ∀ h', Ext none_ h h' → Q (c.slots * c.fuses + c.keys) h') :
    F_chip_fuses c.cells c.slots c.fuses c.step c.keys c.erases c.area Q h := by
  unfold F_chip_fuses G_chip_fuses
  intro b h' hn
  have kx := k h' hn.ext
  have h1 := hm.slots; have h2 := hm.fuses; have h3 := hm.keys
  have e1 : 0 ≤ c.slots * c.fuses := Int.mul_nonneg (by omega) (by omega)
  have e2 : c.slots * c.fuses ≤ 8 * 64 := Int.mul_le_mul (by omega) (by omega) (by omega) (by omega)
  have e : IntKind.i64.wrap (IntKind.i64.wrap (c.slots * c.fuses) + c.keys) = c.slots * c.fuses + c.keys := by simp only [IntKind.wrap_i64]; omega
  simpa [hn.blk.hc, e] using kx
end Go.Proofs.Ytamfkofcpoglnaa
