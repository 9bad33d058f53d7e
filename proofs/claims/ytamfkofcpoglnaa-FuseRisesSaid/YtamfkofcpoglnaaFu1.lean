/- The fuses' model: counts of a row, raising, revoking; laws about numbers alone. Own work. -/
import Derived.Test.YtamfkofcpoglnaaLa5
set_option autoImplicit false
set_option linter.all false
set_option maxRecDepth 100000
set_option linter.unusedVariables false
namespace Go.Proofs.Ytamfkofcpoglnaa
open Go Go.Vc

/-- A loop whose slots tell of a state. -/
theorem loop_st {J : List SV → H → Prop} {σ : Type} (N : Nat) (S : Nat → σ → List SV) (Inv : Nat → σ → H → Prop) (step : ∀ i s h, i < N → Inv i s h → (∀ s' h', Inv (i + 1) s' h' → J (S (i + 1) s') h') → J (S i s) h)
    (exit : ∀ s h, Inv N s h → J (S N s) h) (i : Nat) (s : σ) (h : H) (hi : i ≤ N) (inv : Inv i s h) : J (S i s) h := by
  generalize e : N - i = n
  induction n generalizing i s h with
  | zero =>
    have : i = N := by omega
    subst this; exact exit s h inv
  | succ n ih => exact step i s h (by omega) inv fun s' h' inv' => ih (i + 1) s' h' (by omega) inv' (by omega)

def cnt (bl : List Bool) (a : Nat) : Nat → Nat
  | 0 => 0
  | n + 1 => cnt bl a n + (if bl.getD (a + n) false = true then 1 else 0)
def lst (bl : List Bool) (a : Nat) : Nat → Option Nat
  | 0 => none
  | n + 1 => match lst bl a n with | some k => some k | none => if bl.getD (a + n) false = true then none else some (a + n)
def lstI : Option Nat → Int
  | none => -1
  | some k => k
theorem cnt_le (bl : List Bool) (a n : Nat) : cnt bl a n ≤ n := by
  induction n with
  | zero => exact Nat.le_refl _
  | succ n ih => unfold cnt; split <;> omega
theorem lst_none {bl : List Bool} {a n : Nat} (h : lst bl a n = none) : cnt bl a n = n := by
  induction n with
  | zero => rfl
  | succ n ih =>
    unfold lst at h
    cases e : lst bl a n with
    | some k => rw [e] at h; simp at h
    | none =>
      rw [e] at h
      dsimp only at h
      unfold cnt
      split at h
      · rename_i h1; rw [if_pos h1, ih e]
      · simp at h
theorem lst_some {bl : List Bool} {a n k : Nat} (h : lst bl a n = some k) : a ≤ k ∧ k < a + n ∧ bl.getD k false = false := by
  induction n with
  | zero => simp [lst] at h
  | succ n ih =>
    unfold lst at h
    cases e : lst bl a n with
    | some k' =>
      rw [e] at h
      dsimp only at h
      rw [h] at e
      obtain ⟨h1, h2, h3⟩ := ih e
      exact ⟨h1, by omega, h3⟩
    | none =>
      rw [e] at h
      dsimp only at h
      split at h
      · simp at h
      · rename_i h1
        injection h with h; subst h
        exact ⟨by omega, by omega, by simpa using h1⟩
theorem lst_all {bl : List Bool} {a n : Nat} (h : ∀ j, j < n → bl.getD (a + j) false = true) : lst bl a n = none := by
  induction n with
  | zero => rfl
  | succ n ih =>
    unfold lst
    rw [ih fun j hj => h j (by omega)]
    dsimp only
    rw [if_pos (h n (by omega))]
theorem lst_of {bl : List Bool} {a n i : Nat} (hi : i < n) (h : ∀ j, j < i → bl.getD (a + j) false = true) (hf : bl.getD (a + i) false = false) : lst bl a n = some (a + i) := by
  induction n with
  | zero => omega
  | succ n ih =>
    unfold lst
    by_cases e : i = n
    · subst e
      rw [lst_all h]
      dsimp only
      rw [if_neg (by rw [hf]; simp)]
    · rw [ih (by omega)]
theorem cnt_set {bl : List Bool} {a k : Nat} (n : Nat) (hk : k < bl.length) (hf : bl.getD k false = false) : cnt (bl.set k true) a n = cnt bl a n + (if a ≤ k ∧ k < a + n then 1 else 0) := by
  induction n with
  | zero => rw [if_neg (by omega)]; rfl
  | succ n ih =>
    unfold cnt
    rw [ih]
    by_cases e : a + n = k
    · subst e
      have : (bl.set (a + n) true).getD (a + n) false = true := by simp [List.getD, hk]
      rw [this, hf, if_neg (by omega), if_pos rfl, if_neg (by simp), if_pos (by omega)]
    · have : (bl.set k true).getD (a + n) false = bl.getD (a + n) false := by simp only [List.getD, List.getElem?_set_ne (Ne.symm e)]
      rw [this]
      by_cases h1 : a ≤ k ∧ k < a + n
      · rw [if_pos h1, if_pos (show a ≤ k ∧ k < a + (n + 1) by omega)]; omega
      · rw [if_neg h1, if_neg (show ¬ (a ≤ k ∧ k < a + (n + 1)) by omega)]; omega
theorem cnt_all {bl : List Bool} {a n : Nat} (h : ∀ j, j < n → bl.getD (a + j) false = true) : cnt bl a n = n := lst_none (lst_all h)

def countM (C : Cm) (slot : Int) : Int × Int :=
  if askedM C slot C.cfg.slots ≠ 0 then (0, askedM C slot C.cfg.slots) else (cnt C.s.blown (slot * C.cfg.fuses).toNat C.cfg.fuses.toNat, 0)
def raiseL (a f : Nat) (n : Int) : Nat → Cm → Cm × Int
  | 0, C => (C, 0)
  | m + 1, C => if n ≤ cnt C.s.blown a f then (C, 0) else
    match lst C.s.blown a f with
    | none => (C, 0)
    | some k => if (blowM C k).2 ≠ 0 then blowM C k else raiseL a f n m (blowM C k).1
def raiseM (C : Cm) (slot n : Int) : Cm × Int :=
  if askedM C slot C.cfg.slots ≠ 0 then (C, askedM C slot C.cfg.slots) else if n < 0 then (C, 2) else if C.cfg.fuses < n then (C, 2)
  else raiseL (slot * C.cfg.fuses).toNat C.cfg.fuses.toNat n C.cfg.fuses.toNat C
def revokedM (C : Cm) (key : Int) : Bool × Int :=
  if askedM C key C.cfg.keys ≠ 0 then (false, askedM C key C.cfg.keys) else (C.s.blown.getD (C.cfg.slots * C.cfg.fuses + key).toNat false, 0)
def revokeM (C : Cm) (key : Int) : Cm × Int :=
  if (revokedM C key).2 ≠ 0 then (C, (revokedM C key).2) else if (revokedM C key).1 = true then (C, (revokedM C key).2) else blowM C (C.cfg.slots * C.cfg.fuses + key)

theorem askedM_in {C : Cm} {i n : Int} (ho : C.out = false) (h1 : 0 ≤ i) (h2 : i < n) : askedM C i n = 0 := by
  unfold askedM; rw [if_neg (by simp [ho]), if_neg (by omega), if_neg (by omega)]
theorem askedM_neg {C : Cm} {i n : Int} (ho : C.out = false) (h1 : i < 0) : askedM C i n = 2 := by
  unfold askedM; rw [if_neg (by simp [ho]), if_pos h1]
theorem askedM_hi {C : Cm} {i n : Int} (ho : C.out = false) (h1 : n ≤ i) : askedM C i n = 2 := by
  unfold askedM
  simp only [ho, h1, Bool.false_eq_true, if_false, if_true]
  split <;> rfl
theorem blow_good {C : Cm} {k : Nat} (ho : C.out = false) (hk : k < C.s.blown.length) (hl : C.left ≠ 0) :
    blowM C k = ({ C.act with s := { C.s with blown := C.s.blown.set k true } }, 0) := by
  unfold blowM
  rw [if_neg (by rw [askedM_in ho (by omega) (by omega)]; simp), Int.toNat_natCast]
  unfold maskAt errM
  rw [if_pos hl, if_pos hl, if_pos (by decide)]
theorem blow_cut {C : Cm} {k : Nat} (ho : C.out = false) (hk : k < C.s.blown.length) (hl : C.left = 0) :
    (blowM C k).2 = 8 ∧ (blowM C k).1.cfg = C.cfg ∧ ((blowM C k).1.s.blown = C.s.blown ∨ (blowM C k).1.s.blown = C.s.blown.set k true) := by
  unfold blowM
  rw [if_neg (by rw [askedM_in ho (by omega) (by omega)]; simp), Int.toNat_natCast]
  have e8 : errM C = 8 := by unfold errM; rw [if_neg (by simpa using hl)]
  refine ⟨e8, ?_, ?_⟩
  all_goals dsimp only
  · split
    · exact act_cfg C
    · exact act_cfg C
  · split
    · exact Or.inr rfl
    · exact Or.inl (by rw [act_s])
theorem act_out {C : Cm} (ho : C.out = false) (hl : C.left ≠ 0) : C.act.out = false := by
  unfold Cm.act; rw [if_pos hl]; exact ho
/-- Places of a row. -/
theorem row_in {C : Cm} (ok : C.ok) {slot : Int} (h1 : 0 ≤ slot) (h2 : slot < C.cfg.slots) : ((slot * C.cfg.fuses).toNat : Int) = slot * C.cfg.fuses ∧ (C.cfg.fuses.toNat : Int) = C.cfg.fuses ∧ (slot * C.cfg.fuses).toNat + C.cfg.fuses.toNat ≤ C.s.blown.length ∧
    C.s.blown.length ≤ 576 ∧ (slot * C.cfg.fuses).toNat + C.cfg.fuses.toNat ≤ (C.cfg.slots * C.cfg.fuses).toNat ∧ C.cfg.fuses.toNat ≤ 64 := by
  have hb := ok.fits.blown
  have hf := ok.may.fuses
  have hn := ok.may.nf
  have hk := ok.may.keys
  unfold Cfg.nf at hb hn
  have e1 : 0 ≤ slot * C.cfg.fuses := Int.mul_nonneg h1 (by omega)
  have e2 : (slot + 1) * C.cfg.fuses ≤ C.cfg.slots * C.cfg.fuses := Int.mul_le_mul_of_nonneg_right (by omega) (by omega)
  rw [Int.add_mul] at e2
  omega
/-- What a Raise does to a row. -/
structure Raised (a f : Nat) (n : Int) (C D : Cm) (e : Int) : Prop where
  cfg : D.cfg = C.cfg
  len : D.s.blown.length = C.s.blown.length
  same : ∀ k, k < a ∨ a + f ≤ k → D.s.blown.getD k false = C.s.blown.getD k false
  up : ∀ k, C.s.blown.getD k false = true → D.s.blown.getD k false = true
  ge : cnt C.s.blown a f ≤ cnt D.s.blown a f
  le : (cnt D.s.blown a f : Int) ≤ max n (cnt C.s.blown a f)
  good : e = 0 → (cnt D.s.blown a f : Int) = max n (cnt C.s.blown a f)
  on : e = 0 → D.out = false
  bad : e ≠ 0 → e = 8 ∧ 0 ≤ C.left ∧ C.left < n - cnt C.s.blown a f
theorem set_up {bl : List Bool} {k j : Nat} (h : bl.getD j false = true) : (bl.set k true).getD j false = true := by
  by_cases e : k = j
  · subst e
    have hk : k < bl.length := by
      by_cases hk : k < bl.length
      · exact hk
      · rw [List.getD_eq_getElem?_getD, List.getElem?_eq_none (by omega)] at h; simp at h
    simp [List.getD, hk]
  · simp only [List.getD, List.getElem?_set_ne e] at h ⊢; exact h
theorem raised (a f : Nat) (n : Int) (hn : n ≤ f) : ∀ (m : Nat) (C : Cm), C.out = false → -1 ≤ C.left → a + f ≤ C.s.blown.length → n - cnt C.s.blown a f ≤ m → Raised a f n C (raiseL a f n m C).1 (raiseL a f n m C).2 := by
  intro m
  induction m with
  | zero =>
    intro C ho hl1 hl hm
    unfold raiseL
    exact ⟨rfl, rfl, fun _ _ => rfl, fun _ x => x, by simp, by simp; omega, fun _ => by simp; omega, fun _ => ho, fun x => absurd rfl x⟩
  | succ m ih =>
    intro C ho hl1 hl hm
    unfold raiseL
    by_cases h1 : n ≤ cnt C.s.blown a f
    · rw [if_pos h1]
      exact ⟨rfl, rfl, fun _ _ => rfl, fun _ x => x, by simp, by simp; omega, fun _ => by simp; omega, fun _ => ho, fun x => absurd rfl x⟩
    · rw [if_neg h1]
      cases e : lst C.s.blown a f with
      | none =>
        have := lst_none e
        omega
      | some k =>
        dsimp only
        obtain ⟨k1, k2, k3⟩ := lst_some e
        have hc := cnt_set (a := a) f (show k < C.s.blown.length by omega) k3
        rw [if_pos ⟨k1, k2⟩] at hc
        have far : ∀ j, j < a ∨ a + f ≤ j → (C.s.blown.set k true).getD j false = C.s.blown.getD j false := by
          intro j hj
          simp only [List.getD, List.getElem?_set_ne (show k ≠ j by omega)]
        by_cases h2 : C.left = 0
        · obtain ⟨b1, b2, b3⟩ := blow_cut ho (show k < C.s.blown.length by omega) h2
          rw [if_pos (by rw [b1]; simp)]
          rcases b3 with b3 | b3
          · exact ⟨b2, by rw [b3], fun j _ => by rw [b3], fun j x => by rw [b3]; exact x, by rw [b3]; omega, by rw [b3]; omega, fun x => by rw [b1] at x; simp at x, fun x => by rw [b1] at x; simp at x, fun _ => ⟨b1, by omega, by omega⟩⟩
          · exact ⟨b2, by rw [b3, List.length_set], fun j x => by rw [b3]; exact far j x, fun j x => by rw [b3]; exact set_up x, by rw [b3, hc]; omega, by rw [b3, hc]; omega, fun x => by rw [b1] at x; simp at x, fun x => by rw [b1] at x; simp at x, fun _ => ⟨b1, by omega, by omega⟩⟩
        · rw [blow_good ho (by omega) h2, if_neg (by simp)]
          have hact : -1 ≤ C.act.left := by unfold Cm.act; rw [if_pos h2]; dsimp only; split <;> omega
          have r := ih { C.act with s := { C.s with blown := C.s.blown.set k true } } (act_out ho h2) hact (by simpa using hl) (by dsimp only; rw [hc]; omega)
          dsimp only
          obtain ⟨X, hX⟩ : ∃ X, X = raiseL a f n m { C.act with s := { C.s with blown := C.s.blown.set k true } } := ⟨_, rfl⟩
          rw [← hX] at r ⊢
          have hl3 : 0 ≤ C.act.left → 0 ≤ C.left ∧ C.act.left = C.left - 1 := by
            unfold Cm.act; rw [if_pos h2]; dsimp only; intro x; split at x
            · rename_i h3; rw [if_pos h3]; omega
            · omega
          have r4 := r.ge; have r5 := r.le; have r6 := r.good; have r7 := r.bad
          dsimp only at r4 r5 r6 r7
          rw [hc] at r4 r5 r6 r7
          refine ⟨r.cfg.trans (act_cfg C), by have := r.len; simpa using this, fun j x => (r.same j x).trans (far j x), fun j x => r.up j (set_up x), by omega, by omega, fun x => by have := r6 x; omega, r.on, fun x => ?_⟩
          obtain ⟨x1, x2, x3⟩ := r7 x
          obtain ⟨x4, x5⟩ := hl3 x2
          exact ⟨x1, x4, by omega⟩
end Go.Proofs.Ytamfkofcpoglnaa
