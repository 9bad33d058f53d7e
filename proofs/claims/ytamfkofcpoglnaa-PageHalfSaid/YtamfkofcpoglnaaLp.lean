/- Loops that count up. Own work; generic over any program. -/
import Derived.Test.YtamfkofcpoglnaaHs
set_option autoImplicit false
set_option linter.all false
set_option linter.unusedVariables false
namespace Go.Vc
abbrev si (i : Nat) : SV := .dv (.one (.int .i64 (i : Int)))
theorem loop_up {J : List SV → H → Prop} (N : Nat) (Inv : Nat → H → Prop) (step : ∀ i h, i < N → Inv i h → (∀ h', Inv (i + 1) h' → J [si (i + 1)] h') → J [si i] h)
    (exit : ∀ h, Inv N h → J [si N] h) (i : Nat) (h : H) (hi : i ≤ N) (inv : Inv i h) : J [si i] h := by
  generalize e : N - i = n
  induction n generalizing i h with
  | zero =>
    have : i = N := by omega
    subst this; exact exit h inv
  | succ n ih => exact step i h (by omega) inv fun h' inv' => ih (i + 1) h' (by omega) inv' (by omega)
theorem wrap_succ {i : Nat} (h : i < 2 ^ 62) : IntKind.i64.wrap ((i : Int) + 1) = ((i + 1 : Nat) : Int) := by
  rw [IntKind.wrap_i64]; omega
theorem wrap_id {n : Int} (h : -(2 ^ 62) ≤ n ∧ n ≤ 2 ^ 62) : IntKind.i64.wrap n = n := by
  rw [IntKind.wrap_i64]; omega
theorem wrap_u8_id {n : Int} (h : 0 ≤ n ∧ n < 256) : IntKind.u8.wrap n = n := by
  rw [IntKind.wrap_u8]; omega

/-- The first i entries are mapped. -/
def mapTo (g : Nat → Int → Int) (i : Nat) (ns : List Int) : List Int := ns.mapIdx fun j v => if j < i then g j v else v
@[simp] theorem mapTo_length (g : Nat → Int → Int) (i : Nat) (ns : List Int) : (mapTo g i ns).length = ns.length := by simp [mapTo]
theorem mapTo_get (g : Nat → Int → Int) (i : Nat) (ns : List Int) (j : Nat) : (mapTo g i ns)[j]? = ns[j]?.map fun v => if j < i then g j v else v := by simp [mapTo]
@[simp] theorem mapTo_zero (g : Nat → Int → Int) (ns : List Int) : mapTo g 0 ns = ns := by
  apply List.ext_getElem?; intro j; rw [mapTo_get]; simp
theorem mapTo_succ (g : Nat → Int → Int) (i : Nat) (ns : List Int) (hi : i < ns.length) : (mapTo g i ns).set i (g i ns[i]) = mapTo g (i + 1) ns := by
  apply List.ext_getElem?; intro j
  by_cases h : i = j
  · subst h; rw [List.getElem?_set_self (by simpa using hi), mapTo_get]; simp [hi]
  · rw [List.getElem?_set_ne h, mapTo_get, mapTo_get]
    congr 1; funext v
    by_cases h1 : j < i
    · rw [if_pos h1, if_pos (by omega)]
    · rw [if_neg h1, if_neg (by omega)]
theorem ints_set (k : IntKind) (ns : List Int) (i : Nat) (n : Int) : (ints k ns).set i (.int k n) = ints k (ns.set i n) := by simp [ints, List.map_set]
end Go.Vc
