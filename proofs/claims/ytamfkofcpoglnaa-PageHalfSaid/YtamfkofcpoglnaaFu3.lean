/- The fuses' model: counts of a row, raising, revoking; laws about numbers alone. Own work. -/
import Derived.Test.YtamfkofcpoglnaaFa1
import Derived.Test.YtamfkofcpoglnaaFa6
import Derived.Test.YtamfkofcpoglnaaFa7
import Derived.Test.YtamfkofcpoglnaaLa5
set_option autoImplicit false
set_option linter.all false
set_option maxRecDepth 100000
set_option linter.unusedVariables false
namespace Go.Proofs.Ytamfkofcpoglnaa
open Go Go.Vc

/-- A loop whose slots tell of a state. -/
theorem loop_st {J : List SV → H → Prop} {σ : Type} (N : Nat) (S : Nat → σ → List SV) (Inv : Nat → σ → H → Prop) (step : ∀ i s h, i < N → Inv i s h → (∀ s' h', Inv (i + 1) s' h' → J (S (i + 1) s') h') → J (S i s) h)
    (exit : ∀ s h, Inv N s h → J (S N s) h) (i : Nat) (s : σ) (h : H) (hi : i ≤ N) (inv : Inv i s h) : J (S i s) h := by
  generalize e : N - i = n
  induction n generalizing i s h with
  | zero =>
    have : i = N := by omega
    subst this; exact exit s h inv
  | succ n ih => exact step i s h (by omega) inv fun s' h' inv' => ih (i + 1) s' h' (by omega) inv' (by omega)

def cnt (bl : List Bool) (a : Nat) : Nat → Nat
  | 0 => 0
  | n + 1 => cnt bl a n + (if bl.getD (a + n) false = true then 1 else 0)
def lst (bl : List Bool) (a : Nat) : Nat → Option Nat
  | 0 => none
  | n + 1 => match lst bl a n with | some k => some k | none => if bl.getD (a + n) false = true then none else some (a + n)
def lstI : Option Nat → Int
  | none => -1
  | some k => k
theorem cnt_le (bl : List Bool) (a n : Nat) : cnt bl a n ≤ n := by
  induction n with
  | zero => exact Nat.le_refl _
  | succ n ih => unfold cnt; split <;> omega
theorem lst_none {bl : List Bool} {a n : Nat} (h : lst bl a n = none) : cnt bl a n = n := by
  induction n with
  | zero => rfl
  | succ n ih =>
    unfold lst at h
    cases e : lst bl a n with
    | some k => rw [e] at h; simp at h
    | none =>
      rw [e] at h
      dsimp only at h
      unfold cnt
      split at h
      · rename_i h1; rw [if_pos h1, ih e]
      · simp at h
theorem lst_some {bl : List Bool} {a n k : Nat} (h : lst bl a n = some k) : a ≤ k ∧ k < a + n ∧ bl.getD k false = false := by
  induction n with
  | zero => simp [lst] at h
  | succ n ih =>
    unfold lst at h
    cases e : lst bl a n with
    | some k' =>
      rw [e] at h
      dsimp only at h
      rw [h] at e
      obtain ⟨h1, h2, h3⟩ := ih e
      exact ⟨h1, by omega, h3⟩
    | none =>
      rw [e] at h
      dsimp only at h
      split at h
      · simp at h
      · rename_i h1
        injection h with h; subst h
        exact ⟨by omega, by omega, by simpa using h1⟩
theorem lst_all {bl : List Bool} {a n : Nat} (h : ∀ j, j < n → bl.getD (a + j) false = true) : lst bl a n = none := by
  induction n with
  | zero => rfl
  | succ n ih =>
    unfold lst
    rw [ih fun j hj => h j (by omega)]
    dsimp only
    rw [if_pos (h n (by omega))]
theorem lst_of {bl : List Bool} {a n i : Nat} (hi : i < n) (h : ∀ j, j < i → bl.getD (a + j) false = true) (hf : bl.getD (a + i) false = false) : lst bl a n = some (a + i) := by
  induction n with
  | zero => omega
  | succ n ih =>
    unfold lst
    by_cases e : i = n
    · subst e
      rw [lst_all h]
      dsimp only
      rw [if_neg (by rw [hf]; simp)]
    · rw [ih (by omega)]
theorem cnt_set {bl : List Bool} {a k : Nat} (n : Nat) (hk : k < bl.length) (hf : bl.getD k false = false) : cnt (bl.set k true) a n = cnt bl a n + (if a ≤ k ∧ k < a + n then 1 else 0) := by
  induction n with
  | zero => rw [if_neg (by omega)]; rfl
  | succ n ih =>
    unfold cnt
    rw [ih]
    by_cases e : a + n = k
    · subst e
      have : (bl.set (a + n) true).getD (a + n) false = true := by simp [List.getD, hk]
      rw [this, hf, if_neg (by omega), if_pos rfl, if_neg (by simp), if_pos (by omega)]
    · have : (bl.set k true).getD (a + n) false = bl.getD (a + n) false := by simp only [List.getD, List.getElem?_set_ne (Ne.symm e)]
      rw [this]
      by_cases h1 : a ≤ k ∧ k < a + n
      · rw [if_pos h1, if_pos (show a ≤ k ∧ k < a + (n + 1) by omega)]; omega
      · rw [if_neg h1, if_neg (show ¬ (a ≤ k ∧ k < a + (n + 1)) by omega)]; omega
theorem cnt_all {bl : List Bool} {a n : Nat} (h : ∀ j, j < n → bl.getD (a + j) false = true) : cnt bl a n = n := lst_none (lst_all h)

def countM (C : Cm) (slot : Int) : Int × Int :=
  if askedM C slot C.cfg.slots ≠ 0 then (0, askedM C slot C.cfg.slots) else (cnt C.s.blown (slot * C.cfg.fuses).toNat C.cfg.fuses.toNat, 0)
def raiseL (a f : Nat) (n : Int) : Nat → Cm → Cm × Int
  | 0, C => (C, 0)
  | m + 1, C => if n ≤ cnt C.s.blown a f then (C, 0) else
    match lst C.s.blown a f with
    | none => (C, 0)
    | some k => if (blowM C k).2 ≠ 0 then blowM C k else raiseL a f n m (blowM C k).1
def raiseM (C : Cm) (slot n : Int) : Cm × Int :=
  if askedM C slot C.cfg.slots ≠ 0 then (C, askedM C slot C.cfg.slots) else if n < 0 then (C, 2) else if C.cfg.fuses < n then (C, 2)
  else raiseL (slot * C.cfg.fuses).toNat C.cfg.fuses.toNat n C.cfg.fuses.toNat C
def revokedM (C : Cm) (key : Int) : Bool × Int :=
  if askedM C key C.cfg.keys ≠ 0 then (false, askedM C key C.cfg.keys) else (C.s.blown.getD (C.cfg.slots * C.cfg.fuses + key).toNat false, 0)
def revokeM (C : Cm) (key : Int) : Cm × Int :=
  if (revokedM C key).2 ≠ 0 then (C, (revokedM C key).2) else if (revokedM C key).1 = true then (C, (revokedM C key).2) else blowM C (C.cfg.slots * C.cfg.fuses + key)

theorem askedM_in {C : Cm} {i n : Int} (ho : C.out = false) (h1 : 0 ≤ i) (h2 : i < n) : askedM C i n = 0 := by
  unfold askedM; rw [if_neg (by simp [ho]), if_neg (by omega), if_neg (by omega)]
theorem askedM_neg {C : Cm} {i n : Int} (ho : C.out = false) (h1 : i < 0) : askedM C i n = 2 := by
  unfold askedM; rw [if_neg (by simp [ho]), if_pos h1]
theorem askedM_hi {C : Cm} {i n : Int} (ho : C.out = false) (h1 : n ≤ i) : askedM C i n = 2 := by
  unfold askedM
  simp only [ho, h1, Bool.false_eq_true, if_false, if_true]
  split <;> rfl
theorem blow_good {C : Cm} {k : Nat} (ho : C.out = false) (hk : k < C.s.blown.length) (hl : C.left ≠ 0) :
    blowM C k = ({ C.act with s := { C.s with blown := C.s.blown.set k true } }, 0) := by
  unfold blowM
  rw [if_neg (by rw [askedM_in ho (by omega) (by omega)]; simp), Int.toNat_natCast]
  unfold maskAt errM
  rw [if_pos hl, if_pos hl, if_pos (by decide)]
theorem blow_cut {C : Cm} {k : Nat} (ho : C.out = false) (hk : k < C.s.blown.length) (hl : C.left = 0) :
    (blowM C k).2 = 8 ∧ (blowM C k).1.cfg = C.cfg ∧ ((blowM C k).1.s.blown = C.s.blown ∨ (blowM C k).1.s.blown = C.s.blown.set k true) := by
  unfold blowM
  rw [if_neg (by rw [askedM_in ho (by omega) (by omega)]; simp), Int.toNat_natCast]
  have e8 : errM C = 8 := by unfold errM; rw [if_neg (by simpa using hl)]
  refine ⟨e8, ?_, ?_⟩
  all_goals dsimp only
  · split
    · exact act_cfg C
    · exact act_cfg C
  · split
    · exact Or.inr rfl
    · exact Or.inl (by rw [act_s])
theorem act_out {C : Cm} (ho : C.out = false) (hl : C.left ≠ 0) : C.act.out = false := by
  unfold Cm.act; rw [if_pos hl]; exact ho
/-- Places of a row. -/
theorem row_in {C : Cm} (ok : C.ok) {slot : Int} (h1 : 0 ≤ slot) (h2 : slot < C.cfg.slots) : ((slot * C.cfg.fuses).toNat : Int) = slot * C.cfg.fuses ∧ (C.cfg.fuses.toNat : Int) = C.cfg.fuses ∧ (slot * C.cfg.fuses).toNat + C.cfg.fuses.toNat ≤ C.s.blown.length ∧
    C.s.blown.length ≤ 576 ∧ (slot * C.cfg.fuses).toNat + C.cfg.fuses.toNat ≤ (C.cfg.slots * C.cfg.fuses).toNat ∧ C.cfg.fuses.toNat ≤ 64 := by
  have hb := ok.fits.blown
  have hf := ok.may.fuses
  have hn := ok.may.nf
  have hk := ok.may.keys
  unfold Cfg.nf at hb hn
  have e1 : 0 ≤ slot * C.cfg.fuses := Int.mul_nonneg h1 (by omega)
  have e2 : (slot + 1) * C.cfg.fuses ≤ C.cfg.slots * C.cfg.fuses := Int.mul_le_mul_of_nonneg_right (by omega) (by omega)
  rw [Int.add_mul] at e2
  omega
/-- What a Raise does to a row. -/
structure Raised (a f : Nat) (n : Int) (C D : Cm) (e : Int) : Prop where
  cfg : D.cfg = C.cfg
  len : D.s.blown.length = C.s.blown.length
  same : ∀ k, k < a ∨ a + f ≤ k → D.s.blown.getD k false = C.s.blown.getD k false
  up : ∀ k, C.s.blown.getD k false = true → D.s.blown.getD k false = true
  ge : cnt C.s.blown a f ≤ cnt D.s.blown a f
  le : (cnt D.s.blown a f : Int) ≤ max n (cnt C.s.blown a f)
  good : e = 0 → (cnt D.s.blown a f : Int) = max n (cnt C.s.blown a f)
  on : e = 0 → D.out = false
  bad : e ≠ 0 → e = 8 ∧ 0 ≤ C.left ∧ C.left < n - cnt C.s.blown a f
theorem set_up {bl : List Bool} {k j : Nat} (h : bl.getD j false = true) : (bl.set k true).getD j false = true := by
  by_cases e : k = j
  · subst e
    have hk : k < bl.length := by
      by_cases hk : k < bl.length
      · exact hk
      · rw [List.getD_eq_getElem?_getD, List.getElem?_eq_none (by omega)] at h; simp at h
    simp [List.getD, hk]
  · simp only [List.getD, List.getElem?_set_ne e] at h ⊢; exact h
theorem raised (a f : Nat) (n : Int) (hn : n ≤ f) : ∀ (m : Nat) (C : Cm), C.out = false → -1 ≤ C.left → a + f ≤ C.s.blown.length → n - cnt C.s.blown a f ≤ m → Raised a f n C (raiseL a f n m C).1 (raiseL a f n m C).2 := by
  intro m
  induction m with
  | zero =>
    intro C ho hl1 hl hm
    unfold raiseL
    exact ⟨rfl, rfl, fun _ _ => rfl, fun _ x => x, by simp, by simp; omega, fun _ => by simp; omega, fun _ => ho, fun x => absurd rfl x⟩
  | succ m ih =>
    intro C ho hl1 hl hm
    unfold raiseL
    by_cases h1 : n ≤ cnt C.s.blown a f
    · rw [if_pos h1]
      exact ⟨rfl, rfl, fun _ _ => rfl, fun _ x => x, by simp, by simp; omega, fun _ => by simp; omega, fun _ => ho, fun x => absurd rfl x⟩
    · rw [if_neg h1]
      cases e : lst C.s.blown a f with
      | none =>
        have := lst_none e
        omega
      | some k =>
        dsimp only
        obtain ⟨k1, k2, k3⟩ := lst_some e
        have hc := cnt_set (a := a) f (show k < C.s.blown.length by omega) k3
        rw [if_pos ⟨k1, k2⟩] at hc
        have far : ∀ j, j < a ∨ a + f ≤ j → (C.s.blown.set k true).getD j false = C.s.blown.getD j false := by
          intro j hj
          simp only [List.getD, List.getElem?_set_ne (show k ≠ j by omega)]
        by_cases h2 : C.left = 0
        · obtain ⟨b1, b2, b3⟩ := blow_cut ho (show k < C.s.blown.length by omega) h2
          rw [if_pos (by rw [b1]; simp)]
          rcases b3 with b3 | b3
          · exact ⟨b2, by rw [b3], fun j _ => by rw [b3], fun j x => by rw [b3]; exact x, by rw [b3]; omega, by rw [b3]; omega, fun x => by rw [b1] at x; simp at x, fun x => by rw [b1] at x; simp at x, fun _ => ⟨b1, by omega, by omega⟩⟩
          · exact ⟨b2, by rw [b3, List.length_set], fun j x => by rw [b3]; exact far j x, fun j x => by rw [b3]; exact set_up x, by rw [b3, hc]; omega, by rw [b3, hc]; omega, fun x => by rw [b1] at x; simp at x, fun x => by rw [b1] at x; simp at x, fun _ => ⟨b1, by omega, by omega⟩⟩
        · rw [blow_good ho (by omega) h2, if_neg (by simp)]
          have hact : -1 ≤ C.act.left := by unfold Cm.act; rw [if_pos h2]; dsimp only; split <;> omega
          have r := ih { C.act with s := { C.s with blown := C.s.blown.set k true } } (act_out ho h2) hact (by simpa using hl) (by dsimp only; rw [hc]; omega)
          dsimp only
          obtain ⟨X, hX⟩ : ∃ X, X = raiseL a f n m { C.act with s := { C.s with blown := C.s.blown.set k true } } := ⟨_, rfl⟩
          rw [← hX] at r ⊢
          have hl3 : 0 ≤ C.act.left → 0 ≤ C.left ∧ C.act.left = C.left - 1 := by
            unfold Cm.act; rw [if_pos h2]; dsimp only; intro x; split at x
            · rename_i h3; rw [if_pos h3]; omega
            · omega
          have r4 := r.ge; have r5 := r.le; have r6 := r.good; have r7 := r.bad
          dsimp only at r4 r5 r6 r7
          rw [hc] at r4 r5 r6 r7
          refine ⟨r.cfg.trans (act_cfg C), by have := r.len; simpa using this, fun j x => (r.same j x).trans (far j x), fun j x => r.up j (set_up x), by omega, by omega, fun x => by have := r6 x; omega, r.on, fun x => ?_⟩
          obtain ⟨x1, x2, x3⟩ := r7 x
          obtain ⟨x4, x5⟩ := hl3 x2
          exact ⟨x1, x4, by omega⟩
end Go.Proofs.Ytamfkofcpoglnaa

/- Contracts of the fuses' package. Own work. -/
set_option autoImplicit false
set_option maxRecDepth 100000
set_option linter.unusedVariables false
namespace Go.Proofs.Ytamfkofcpoglnaa
open Go Go.Vc

section
variable {h0 h : H} {A : List Ent} {i j p r : Nat} {C : Cm}
theorem fasked_sp {Q : Int → H → Prop} (hs : Sat h0 A h) (ci : At A i (chipE p C)) (n j : Int) (k : Q (askedM C j n) h) : F_fuse_asked ⟨p, 0, none⟩ j n Q h := by
  unfold F_fuse_asked G_fuse_asked
  refine Out_sp hs ci ?_
  unfold askedM at k
  simp only [ltI_eq, leI_eq, decide_eq_true_eq]
  split
  · simpa [*] using k
  · split
    · simpa [*] using k
    · split <;> simpa [*] using k
abbrev rowS (bl : List Bool) (a : Nat) (n : Nat) : List SV := [.dv (.one (.int .i64 (cnt bl a n : Int))), .dv (.one (.int .i64 (lstI (lst bl a n)))), .dv (.one (.int .i64 (n : Int)))]
theorem lst_succ (bl : List Bool) (a n : Nat) : lst bl a (n + 1) = match lst bl a n with | some k => some k | none => if bl.getD (a + n) false = true then none else some (a + n) := rfl
theorem frow_sp {Q : Int → Int → Int → H → Prop} (hs : Sat h0 A h) (ci : At A i (chipE p C)) (ho : C.out = false) {slot : Int} (h1 : 0 ≤ slot) (h2 : slot < C.cfg.slots)
    (k : ∀ h', Sat h0 A h' → Q (cnt C.s.blown (slot * C.cfg.fuses).toNat C.cfg.fuses.toNat) (lstI (lst C.s.blown (slot * C.cfg.fuses).toNat C.cfg.fuses.toNat)) 0 h') : F_fuse_row ⟨p, 0, none⟩ slot Q h := by
  unfold F_fuse_row G_fuse_row
  refine Config_sp hs ci ?_
  intro h1' hs
  have ok := chip_ok hs ci
  obtain ⟨e1, e2, e3, e4, e5, e6⟩ := row_in ok h1 h2
  have hsl := ok.may.slots
  intro J hJ
  generalize hf : C.cfg.fuses.toNat = f at *
  generalize ha : (slot * C.cfg.fuses).toNat = a at *
  refine loop_st f (fun n (_ : Unit) => rowS C.s.blown a n) (fun _ _ h => Sat h0 A h) ?_ ?_ 0 () _ (by omega) hs
  · intro n _ h2 hn hs hk
    apply hJ
    rw [ltI_eq, if_pos (by simp; omega)]
    have ew : IntKind.i64.wrap (IntKind.i64.wrap (slot * C.cfg.fuses) + n) = ((a + n : Nat) : Int) := by
      rw [wrap_id (n := slot * C.cfg.fuses) (by omega), wrap_id (by omega)]; omega
    rw [ew]
    have eb : blownM C ((a + n : Nat) : Int) = (C.s.blown.getD (a + n) false, 0) := by
      unfold blownM; rw [askedM_in ho (by omega) (by omega), if_neg (by simp), Int.toNat_natCast]
    refine Blown_sp hs ci _ ?_
    rw [eb]
    rw [if_neg (by simp)]
    have hcl := cnt_le C.s.blown a n
    have hk := hk () _ hs
    have ls := lst_succ C.s.blown a n
    by_cases hb : C.s.blown.getD (a + n) false = true
    · rw [if_pos (by simpa using hb), wrap_succ (by omega), wrap_succ (by omega)]
      have e7 : cnt C.s.blown a (n + 1) = cnt C.s.blown a n + 1 := by rw [cnt, if_pos hb]
      have e8 : lst C.s.blown a (n + 1) = lst C.s.blown a n := by
        rw [ls]
        cases lst C.s.blown a n with
        | none => exact if_pos hb
        | some k => rfl
      simp only [rowS, e7, e8] at hk
      exact hk
    · rw [if_neg (by simpa using hb), wrap_succ (by omega)]
      have e7 : cnt C.s.blown a (n + 1) = cnt C.s.blown a n := by rw [cnt, if_neg hb]; rfl
      cases e : lst C.s.blown a n with
      | none =>
        rw [e] at ls
        dsimp only at ls
        rw [if_neg hb] at ls
        rw [ltI_eq, if_pos (by simp [lstI])]
        simp only [rowS, e7, ls, lstI] at hk
        exact hk
      | some x =>
        rw [e] at ls
        dsimp only at ls
        have e10 : ¬ (decide (lstI (some x) < 0) = true) := by
          have : (0 : Int) ≤ (x : Int) := Int.natCast_nonneg x
          rw [decide_eq_true_eq]
          exact Int.not_lt.2 this
        rw [ltI_eq, if_neg e10]
        simp only [rowS, e7, ls, lstI] at hk
        exact hk
  · intro _ h2 hs
    apply hJ
    rw [ltI_eq, if_neg (by simp; omega)]
    exact k _ hs
theorem Count_sp {Q : Int → Int → H → Prop} (hs : Sat h0 A h) (ci : At A i (chipE p C)) (slot : Int) (k : ∀ h', Sat h0 A h' → Q (countM C slot).1 (countM C slot).2 h') : F_fuse_Count ⟨p, 0, none⟩ slot Q h := by
  unfold F_fuse_Count G_fuse_Count
  refine Config_sp hs ci ?_
  intro h1 hs
  refine fasked_sp hs ci _ _ ?_
  unfold countM at k
  by_cases e : askedM C slot C.cfg.slots = 0
  · obtain ⟨ho, h1, h2⟩ := askedM_zero e
    rw [if_neg (by simpa using e)] at k ⊢
    exact frow_sp hs ci ho h1 h2 fun h' hs' => k _ hs'
  · rw [if_pos (by simpa using e)] at k ⊢
    exact k _ hs
theorem raise_loop {Q : Int → H → Prop} {slot n : Int} (a f : Nat) (n2 : n ≤ f) : ∀ (m : Nat) (C : Cm) (h : H) (A : List Ent) (ci : At A i (chipE p C)) (hs : Sat h0 A h) (ho : C.out = false) (h1 : 0 ≤ slot) (h2 : slot < C.cfg.slots) (ea : (slot * C.cfg.fuses).toNat = a) (ef : C.cfg.fuses.toNat = f) (hm : n - cnt C.s.blown a f ≤ m)
    (k : ∀ h', Sat h0 (put A i (chipE p (raiseL a f n m C).1)) h' → Q (raiseL a f n m C).2 h') (J : List SV → H → Prop)
    (hJ : ∀ h, F_fuse_row ⟨p, 0, none⟩ slot (fun x y e h => if (e != 0) = true then Q e h else if leI n x = true then Q e h else F_chip_Chip_Blow ⟨p, 0, none⟩ y (fun e h => if (e != 0) = true then Q e h else J [] h) h) h → J [] h), J [] h := by
  intro m
  induction m with
  | zero =>
    intro C h A ci hs ho h1 h2 ea ef hm k J hJ
    apply hJ
    refine frow_sp hs ci ho h1 h2 ?_
    intro h3 hs
    rw [ea, ef]
    rw [if_neg (by simp), leI_eq, if_pos (by simp; omega)]
    exact k _ (by unfold raiseL; rw [ci.put_self]; exact hs)
  | succ m ih =>
    intro C h A ci hs ho h1 h2 ea ef hm k J hJ
    have ok := chip_ok hs ci
    obtain ⟨e1, e2, e3, e4, e5, e6⟩ := row_in ok h1 h2
    apply hJ
    refine frow_sp hs ci ho h1 h2 ?_
    intro h3 hs
    rw [ea, ef]
    rw [ea, ef] at e3
    rw [ea] at e1
    rw [ef] at e2
    unfold raiseL at k
    by_cases hn : n ≤ cnt C.s.blown a f
    · rw [if_pos hn] at k
      rw [if_neg (by simp), leI_eq, if_pos (by simpa using hn)]
      exact k _ (by rw [ci.put_self]; exact hs)
    · rw [if_neg hn] at k
      rw [if_neg (by simp), leI_eq, if_neg (by simpa using hn)]
      cases e : lst C.s.blown a f with
      | none => have := lst_none e; omega
      | some x =>
        rw [e] at k
        dsimp only at k
        obtain ⟨k1, k2, k3⟩ := lst_some e
        refine Blow_sp hs ci _ ?_
        intro h4 hs
        dsimp only [lstI]
        dsimp only [lstI] at hs
        by_cases hl : C.left = 0
        · obtain ⟨b1, b2, b3⟩ := blow_cut ho (show x < C.s.blown.length by omega) hl
          rw [if_pos (by rw [b1]; simp)] at k ⊢
          exact k _ hs
        · rw [blow_good ho (show x < C.s.blown.length by omega) hl] at k hs ⊢
          dsimp only at k hs ⊢
          rw [if_neg (by simp)] at k ⊢
          have hc := cnt_set (a := a) f (show x < C.s.blown.length by omega) k3
          rw [if_pos ⟨k1, k2⟩] at hc
          refine ih _ _ _ (ci.put _) hs (act_out ho hl) h1 (by dsimp only; rw [act_cfg]; exact h2) (by dsimp only; rw [act_cfg]; exact ea) (by dsimp only; rw [act_cfg]; exact ef) (by dsimp only; rw [hc]; omega) ?_ J hJ
          intro h5 hs
          rw [put_put] at hs
          exact k _ hs
theorem Raise_sp {Q : Int → H → Prop} (hs : Sat h0 A h) (ci : At A i (chipE p C)) (slot n : Int) (k : ∀ h', Sat h0 (put A i (chipE p (raiseM C slot n).1)) h' → Q (raiseM C slot n).2 h') : F_fuse_Raise ⟨p, 0, none⟩ slot n Q h := by
  unfold F_fuse_Raise G_fuse_Raise
  refine Config_sp hs ci ?_
  intro h1 hs
  refine fasked_sp hs ci _ _ ?_
  unfold raiseM at k
  by_cases e : askedM C slot C.cfg.slots = 0
  case neg =>
    rw [if_pos (by simpa using e)] at k ⊢
    exact k _ (by rw [ci.put_self]; exact hs)
  obtain ⟨ho, h1, h2⟩ := askedM_zero e
  rw [if_neg (by simpa using e)] at k ⊢
  intro J hJ
  by_cases hn : n < 0
  · rw [if_pos hn] at k
    rw [ltI_eq, if_pos (by simpa using hn)]
    exact k _ (by rw [ci.put_self]; exact hs)
  rw [if_neg hn] at k
  rw [ltI_eq, if_neg (by simpa using hn)]
  refine Config_sp hs ci ?_
  intro h3 hs
  by_cases hf : C.cfg.fuses < n
  · rw [if_pos hf] at k
    rw [ltI_eq, if_pos (by simpa using hf)]
    exact k _ (by rw [ci.put_self]; exact hs)
  rw [if_neg hf] at k
  rw [ltI_eq, if_neg (by simpa using hf)]
  apply hJ
  intro J2 hJ2
  exact raise_loop _ _ (by omega) _ C h3 A ci hs ho h1 h2 rfl rfl (by omega) k J2 hJ2
theorem key_in (ok : C.ok) {key : Int} (h1 : 0 ≤ key) (h2 : key < C.cfg.keys) : IntKind.i64.wrap (IntKind.i64.wrap (C.cfg.slots * C.cfg.fuses) + key) = C.cfg.slots * C.cfg.fuses + key ∧ 0 ≤ C.cfg.slots * C.cfg.fuses + key ∧ C.cfg.slots * C.cfg.fuses + key < C.s.blown.length := by
  have hb := ok.fits.blown
  have hn := ok.may.nf
  have hk := ok.may.keys
  have hf := ok.may.fuses
  have hsl := ok.may.slots
  unfold Cfg.nf at hb hn
  have e1 : 0 ≤ C.cfg.slots * C.cfg.fuses := Int.mul_nonneg (by omega) (by omega)
  refine ⟨?_, by omega, by omega⟩
  rw [wrap_id (n := C.cfg.slots * C.cfg.fuses) (by omega), wrap_id (by omega)]
theorem of_sp {Q : Int → H → Prop} (hs : Sat h0 A h) (ci : At A i (chipE p C)) (key : Int) (h1 : 0 ≤ key) (h2 : key < C.cfg.keys) (k : ∀ h', Sat h0 A h' → Q (C.cfg.slots * C.cfg.fuses + key) h') : F_fuse_of ⟨p, 0, none⟩ key Q h := by
  unfold F_fuse_of G_fuse_of
  refine Config_sp hs ci ?_
  intro h3 hs
  refine Config_sp hs ci ?_
  intro h4 hs
  rw [(key_in (chip_ok hs ci) h1 h2).1]
  exact k _ hs
theorem Revoked_sp {Q : Bool → Int → H → Prop} (hs : Sat h0 A h) (ci : At A i (chipE p C)) (key : Int) (k : ∀ h', Sat h0 A h' → Q (revokedM C key).1 (revokedM C key).2 h') : F_fuse_Revoked ⟨p, 0, none⟩ key Q h := by
  unfold F_fuse_Revoked G_fuse_Revoked
  refine Config_sp hs ci ?_
  intro h1 hs
  refine fasked_sp hs ci _ _ ?_
  unfold revokedM at k
  by_cases e : askedM C key C.cfg.keys = 0
  case neg =>
    rw [if_pos (by simpa using e)] at k ⊢
    exact k _ hs
  obtain ⟨ho, h1, h2⟩ := askedM_zero e
  rw [if_neg (by simpa using e)] at k ⊢
  refine of_sp hs ci key h1 h2 ?_
  intro h3 hs
  obtain ⟨x1, x2, x3⟩ := key_in (chip_ok hs ci) h1 h2
  refine Blown_sp hs ci _ ?_
  have eb : blownM C (C.cfg.slots * C.cfg.fuses + key) = (C.s.blown.getD (C.cfg.slots * C.cfg.fuses + key).toNat false, 0) := by
    unfold blownM; rw [askedM_in ho x2 x3, if_neg (by simp)]
  rw [eb]
  exact k _ hs
theorem revoked_ok {key : Int} (e : (revokedM C key).2 = 0) : 0 ≤ key ∧ key < C.cfg.keys := by
  unfold revokedM at e
  split at e
  · rename_i h1; exact absurd e h1
  · rename_i h1
    obtain ⟨_, h2, h3⟩ := askedM_zero (show askedM C key C.cfg.keys = 0 by simpa using h1)
    exact ⟨h2, h3⟩
theorem Revoke_sp {Q : Int → H → Prop} (hs : Sat h0 A h) (ci : At A i (chipE p C)) (key : Int) (k : ∀ h', Sat h0 (put A i (chipE p (revokeM C key).1)) h' → Q (revokeM C key).2 h') : F_fuse_Revoke ⟨p, 0, none⟩ key Q h := by
  unfold F_fuse_Revoke G_fuse_Revoke
  refine Revoked_sp hs ci key ?_
  intro h1 hs
  unfold revokeM at k
  by_cases e : (revokedM C key).2 = 0
  case neg =>
    rw [if_pos (by simpa using e)] at k ⊢
    exact k _ (by rw [ci.put_self]; exact hs)
  obtain ⟨h1, h2⟩ := revoked_ok e
  rw [if_neg (by simpa using e)] at k ⊢
  by_cases e2 : (revokedM C key).1 = true
  · rw [if_pos e2] at k ⊢
    exact k _ (by rw [ci.put_self]; exact hs)
  rw [if_neg e2] at k ⊢
  refine of_sp hs ci key h1 h2 ?_
  intro h3 hs
  exact Blow_sp hs ci _ fun h' hs' => k _ hs'
end
end Go.Proofs.Ytamfkofcpoglnaa

/- Contracts of the document's fuses. Own work. -/
set_option autoImplicit false
set_option maxRecDepth 100000
set_option linter.unusedVariables false
namespace Go.Proofs.Ytamfkofcpoglnaa
open Go Go.Vc

section
variable {h0 h : H} {A : List Ent} {i j p r : Nat} {C : Cm}
theorem ref_bl (hs : Sat h0 A h) (cj : At A j (refE r C)) : ∃ w : Pl, C.ok ∧ (∀ o v, (C.cells w.a w.b w.c w.m)[o]? = some v → hc h ⟨r, o, none⟩ = some v) ∧ w.c.2.1 = C.s.blown.length ∧
    ∀ k, k < C.s.blown.length → ∃ q, w.c.1 = some ⟨q, 0, none⟩ ∧ hc h ⟨q, k, none⟩ = some (.bool (C.s.blown.getD k false)) := by
  obtain ⟨⟨w, ms⟩, ⟨ok, _, _, _⟩, hs⟩ := (hs.front cj).open_
  dsimp only [refL, List.cons_append, List.nil_append] at hs
  have hl := hs.sl_len (i := 3) (.s (.s (.s .z)))
  simp only [bools_length, Nat.mul_one] at hl
  refine ⟨w, ok, fun o v e => hs.ld .z e, hl.symm, ?_⟩
  intro k hk
  obtain ⟨q, hq⟩ := hs.sl_some (i := 3) (.s (.s (.s .z))) (by omega)
  refine ⟨q, hq, ?_⟩
  obtain ⟨w1, w2, ⟨cp, cl, cc⟩, w4⟩ := w
  simp only at hq hl
  subst hq
  refine hs.sld (i := 3) (.s (.s (.s .z))) ?_
  rw [bools_get, List.getElem?_eq_getElem hk]
  simp [List.getD, List.getElem?_eq_getElem hk]
theorem rmay_sp {Q : Int → H → Prop} (hs : Sat h0 A h) (ci : At A i (refE p C)) (n j : Int) (k : Q (askedM C j n) h) : F_portcullisref07_may ⟨p, 0, none⟩ j n Q h := by
  unfold F_portcullisref07_may G_portcullisref07_may
  simp only [add_mk, Nat.zero_add]
  obtain ⟨w, ok, ld, hl, el⟩ := ref_bl hs ci
  refine ⟨_, ld 11 _ rfl, ?_⟩
  unfold askedM at k
  simp only [ltI_eq, leI_eq, decide_eq_true_eq]
  split
  · simpa [*] using k
  · split
    · simpa [*] using k
    · split <;> simpa [*] using k
theorem rCount_sp {Q : Int → Int → H → Prop} (hs : Sat h0 A h) (ci : At A i (refE p C)) (slot : Int) (k : ∀ h', Sat h0 A h' → Q (countM C slot).1 (countM C slot).2 h') : F_portcullisref07_Count ⟨p, 0, none⟩ slot Q h := by
  unfold F_portcullisref07_Count G_portcullisref07_Count
  simp only [add_mk, Nat.zero_add]
  obtain ⟨w, ok, ld, hl, el⟩ := ref_bl hs ci
  refine ⟨_, ld 1 _ rfl, ?_⟩
  refine rmay_sp hs ci _ _ ?_
  unfold countM at k
  by_cases e : askedM C slot C.cfg.slots = 0
  case neg =>
    rw [if_pos (by simpa using e)] at k ⊢
    exact k _ hs
  obtain ⟨ho, h1, h2⟩ := askedM_zero e
  rw [if_neg (by simpa using e)] at k ⊢
  obtain ⟨e1, e2, e3, e4, e5, e6⟩ := row_in ok h1 h2
  have hsl := ok.may.slots
  clear w ld hl el
  intro J hJ
  generalize hf : C.cfg.fuses.toNat = f at *
  generalize ha : (slot * C.cfg.fuses).toNat = a at *
  refine loop_st f (fun n (_ : Unit) => [.dv (.one (.int .i64 (cnt C.s.blown a n : Int))), .dv (.one (.int .i64 (n : Int)))]) (fun _ _ h => Sat h0 A h) ?_ ?_ 0 () _ (by omega) hs
  · intro n _ h2 hn hs hk
    apply hJ
    obtain ⟨w, ok, ld, hl, el⟩ := ref_bl hs ci
    refine ⟨_, ld 2 _ rfl, ?_⟩
    rw [ltI_eq, if_pos (by simp; omega)]
    refine ⟨_, _, _, ld 9 _ rfl, ?_⟩
    refine ⟨_, ld 2 _ rfl, ?_⟩
    have ew : IntKind.i64.wrap (IntKind.i64.wrap (slot * C.cfg.fuses) + n) = ((a + n : Nat) : Int) := by
      rw [wrap_id (n := slot * C.cfg.fuses) (by omega), wrap_id (by omega)]; omega
    rw [ew]
    obtain ⟨q, hq, hb⟩ := el (a + n) (by omega)
    refine ⟨_, hq, by omega, by omega, _, by rw [add_mk, Int.toNat_natCast, Nat.mul_one, Nat.zero_add]; exact hb, ?_⟩
    have hcl := cnt_le C.s.blown a n
    have hk := hk () _ hs
    by_cases hb : C.s.blown.getD (a + n) false = true
    · rw [if_pos (by simpa using hb), wrap_succ (by omega), wrap_succ (by omega)]
      have e7 : cnt C.s.blown a (n + 1) = cnt C.s.blown a n + 1 := by rw [cnt, if_pos hb]
      rw [e7] at hk
      exact hk
    · rw [if_neg (by simpa using hb), wrap_succ (by omega)]
      have e7 : cnt C.s.blown a (n + 1) = cnt C.s.blown a n := by rw [cnt, if_neg hb]; rfl
      rw [e7] at hk
      exact hk
  · intro _ h2 hs
    apply hJ
    obtain ⟨w, ok, ld, hl, el⟩ := ref_bl hs ci
    refine ⟨_, ld 2 _ rfl, ?_⟩
    rw [ltI_eq, if_neg (by simp; omega)]
    exact k _ hs
theorem raiseL_done {C : Cm} {a f : Nat} {n : Int} (h : n ≤ cnt C.s.blown a f) (m : Nat) : raiseL a f n m C = (C, 0) := by
  cases m with
  | zero => rfl
  | succ m => unfold raiseL; rw [if_pos h]
/-- The loop of the document's Raise. -/
def RaiseI (C0 : Cm) (a f : Nat) (n : Int) (R : Cm × Int) (x : Nat) (D : Cm) (k e : Int) : Prop :=
  (e = 0 ∧ k = cnt D.s.blown a f ∧ D.out = false ∧ D.cfg = C0.cfg ∧ a + f ≤ D.s.blown.length ∧ (∀ j, j < x → D.s.blown.getD (a + j) false = true) ∧ ∃ m : Nat, n - cnt D.s.blown a f ≤ m ∧ raiseL a f n m D = R) ∨ (e ≠ 0 ∧ D.cfg = C0.cfg ∧ R = (D, e))
theorem rRaise_sp {Q : Int → H → Prop} (hs : Sat h0 A h) (ci : At A i (refE p C)) (slot n : Int) (k : ∀ h', Sat h0 (put A i (refE p (raiseM C slot n).1)) h' → Q (raiseM C slot n).2 h') : F_portcullisref07_Raise ⟨p, 0, none⟩ slot n Q h := by
  unfold F_portcullisref07_Raise G_portcullisref07_Raise
  simp only [add_mk, Nat.zero_add]
  refine rCount_sp hs ci _ ?_
  intro h1 hs
  intro J hJ
  unfold raiseM at k
  by_cases e : askedM C slot C.cfg.slots = 0
  case neg =>
    rw [if_pos (by simpa using e)] at k
    have ec : countM C slot = (0, askedM C slot C.cfg.slots) := by unfold countM; rw [if_pos (by simpa using e)]
    rw [ec] at hJ ⊢
    rw [if_neg (by simpa using e)]
    apply hJ
    intro J2 hJ2
    apply hJ2
    intro J3 hJ3
    clear hJ3
    obtain ⟨w, ok, ld, hl, el⟩ := ref_bl hs ci
    refine ⟨_, ld 2 _ rfl, ?_⟩
    have kk := k _ (show Sat h0 (put A i (refE p C)) h1 by rw [ci.put_self]; exact hs)
    split
    · split
      · rw [if_neg (by simpa using e)]; exact kk
      · exact kk
    · exact kk
  obtain ⟨ho, h1', h2⟩ := askedM_zero e
  rw [if_neg (by simpa using e)] at k
  have ec : countM C slot = (((cnt C.s.blown (slot * C.cfg.fuses).toNat C.cfg.fuses.toNat : Nat) : Int), 0) := by unfold countM; rw [if_neg (by simpa using e)]
  rw [ec] at hJ ⊢
  rw [if_pos (by simp)]
  have range : ∀ (hr : Q 2 h1), J [.dv (.one (.int .i64 2))] h1 := by
    intro hr
    apply hJ
    intro J2 hJ2
    apply hJ2
    intro J3 hJ3
    clear hJ3
    obtain ⟨w, ok, ld, hl, el⟩ := ref_bl hs ci
    refine ⟨_, ld 2 _ rfl, ?_⟩
    split
    · split
      · rw [if_neg (by simp)]; exact hr
      · exact hr
    · exact hr
  by_cases hn : n < 0
  · rw [if_pos hn] at k
    rw [ltI_eq, if_pos (by simpa using hn)]
    exact range (k _ (by rw [ci.put_self]; exact hs))
  rw [if_neg hn] at k
  rw [ltI_eq, if_neg (by simpa using hn)]
  obtain ⟨w, ok, ld, hl, el⟩ := ref_bl hs ci
  refine ⟨_, ld 2 _ rfl, ?_⟩
  by_cases hf : C.cfg.fuses < n
  · rw [if_pos hf] at k
    rw [ltI_eq, if_pos (by simpa using hf)]
    exact range (k _ (by rw [ci.put_self]; exact hs))
  rw [if_neg hf] at k
  rw [ltI_eq, if_neg (by simpa using hf)]
  clear range
  obtain ⟨e1, e2, e3, e4, e5, e6⟩ := row_in ok h1' h2
  have hsl := ok.may.slots
  have hlen : C.s.blown.length ≤ 576 := e4
  clear w ld hl el
  apply hJ
  clear hJ J
  intro J hJ
  generalize hff : C.cfg.fuses.toNat = f at *
  generalize ha : (slot * C.cfg.fuses).toNat = a at *
  generalize hR : raiseL a f n f C = R at *
  have h00 : ∃ D : Cm, Sat h0 (put A i (refE p D)) h1 ∧ RaiseI C a f n R 0 D (cnt C.s.blown a f) 0 := ⟨C, by rw [ci.put_self]; exact hs, Or.inl ⟨rfl, rfl, ho, rfl, e3, fun j hj => by omega, f, by omega, hR⟩⟩
  refine loop_st f (fun x (s : Int × Int) => [.dv (.one (.int .i64 s.1)), .dv (.one (.int .i64 s.2)), .dv (.one (.int .i64 (x : Int)))]) (fun x s h => ∃ D : Cm, Sat h0 (put A i (refE p D)) h ∧ RaiseI C a f n R x D s.1 s.2) ?_ ?_ 0 ((cnt C.s.blown a f : Int), (0 : Int)) _ (by omega) h00
  · rintro x ⟨kk, ee⟩ h2' hx ⟨D, hs, inv⟩ hk
    apply hJ
    intro J3 hJ3
    have hcf : D.cfg = C.cfg := by rcases inv with inv | inv; exact inv.2.2.2.1; exact inv.2.1
    obtain ⟨w, ok, ld, hl, el⟩ := ref_bl hs (ci.put _)
    refine ⟨_, ld 2 _ rfl, ?_⟩
    rw [hcf]
    rw [ltI_eq, if_pos (by simp; omega)]
    dsimp only at inv ⊢
    by_cases hkn : kk < n
    case neg =>
      rw [ltI_eq, if_neg (by simpa using hkn)]
      rcases inv with ⟨i1, i2, i3, i4, i5, i6, m, i7, i8⟩ | ⟨i1, i2, i3⟩
      · rw [raiseL_done (by omega)] at i8
        rw [← i8] at k
        rw [i1]
        exact k _ hs
      · rw [i3] at k; exact k _ hs
    rw [ltI_eq, if_pos (by simpa using hkn)]
    rcases inv with ⟨i1, i2, i3, i4, i5, i6, m, i7, i8⟩ | ⟨i1, i2, i3⟩
    case inr => rw [if_neg (by simpa using i1)]; rw [i3] at k; exact k _ hs
    rw [if_pos (by simpa using i1)]
    apply hJ3
    refine ⟨_, _, _, ld 9 _ rfl, ?_⟩
    refine ⟨_, ld 2 _ rfl, ?_⟩
    rw [hcf]
    have hl6 : D.s.blown.length ≤ 576 := by
      have h3 := ok.fits.blown
      have h4 := ok.may.nf
      omega
    have ew : IntKind.i64.wrap (IntKind.i64.wrap (slot * C.cfg.fuses) + x) = ((a + x : Nat) : Int) := by
      rw [wrap_id (n := slot * C.cfg.fuses) (by omega), wrap_id (by omega)]; omega
    rw [ew]
    obtain ⟨q, hq, hb⟩ := el (a + x) (by omega)
    refine ⟨_, hq, by omega, by omega, _, by rw [add_mk, Int.toNat_natCast, Nat.mul_one, Nat.zero_add]; exact hb, ?_⟩
    have hcl := cnt_le D.s.blown a f
    by_cases hbx : D.s.blown.getD (a + x) false = true
    · rw [if_neg (by simpa using hbx), wrap_succ (by omega)]
      refine hk (kk, ee) _ ⟨D, hs, Or.inl ⟨i1, i2, i3, i4, i5, ?_, m, i7, i8⟩⟩
      intro j hj
      by_cases e : j = x
      · rw [e]; exact hbx
      · exact i6 j (by omega)
    · rw [if_pos (by simpa using hbx)]
      refine ⟨_, ld 2 _ rfl, ?_⟩
      rw [hcf, ew]
      have hls := lst_of (n := f) hx i6 (by simpa using hbx)
      have hbf : D.s.blown.getD (a + x) false = false := by simpa using hbx
      refine rBlow_sp hs (ci.put _) _ ?_
      intro h3 hs
      rw [put_put] at hs
      rw [wrap_succ (by omega)]
      cases m with
      | zero => omega
      | succ m =>
        unfold raiseL at i8
        rw [if_neg (by omega), hls] at i8
        dsimp only at i8
        by_cases hl0 : D.left = 0
        · obtain ⟨b1, b2, b3⟩ := blow_cut i3 (show a + x < D.s.blown.length by omega) hl0
          rw [if_pos (by rw [b1]; simp)] at i8
          exact hk (IntKind.i64.wrap (kk + 1), _) _ ⟨_, hs, Or.inr ⟨fun h9 => absurd (b1.symm.trans h9) (by decide), b2.trans hcf, i8.symm⟩⟩
        · have bg := blow_good i3 (show a + x < D.s.blown.length by omega) hl0
          rw [bg] at i8 hs ⊢
          dsimp only at i8 hs ⊢
          rw [if_neg (by simp)] at i8
          have hc := cnt_set (a := a) f (show a + x < D.s.blown.length by omega) hbf
          rw [if_pos ⟨by omega, by omega⟩] at hc
          refine hk (IntKind.i64.wrap (kk + 1), 0) _ ⟨_, hs, Or.inl ⟨rfl, ?_, act_out i3 hl0, (act_cfg D).trans hcf, by simpa using i5, ?_, m, by dsimp only; rw [hc]; omega, i8⟩⟩
          · dsimp only; rw [hc, i2, wrap_succ (by omega)]
          · intro j hj
            by_cases e : j = x
            · subst e; simp [List.getD, show a + j < D.s.blown.length by omega]
            · exact set_up (i6 j (by omega))
  · rintro ⟨kk, ee⟩ h2' ⟨D, hs, inv⟩
    apply hJ
    intro J3 hJ3
    clear hJ3
    have hcf : D.cfg = C.cfg := by rcases inv with inv | inv; exact inv.2.2.2.1; exact inv.2.1
    obtain ⟨w, ok, ld, hl, el⟩ := ref_bl hs (ci.put _)
    refine ⟨_, ld 2 _ rfl, ?_⟩
    rw [hcf]
    rw [ltI_eq, if_neg (by simp; omega)]
    dsimp only at inv ⊢
    rcases inv with ⟨i1, i2, i3, i4, i5, i6, m, i7, i8⟩ | ⟨i1, i2, i3⟩
    · rw [raiseL_done (by rw [cnt_all i6]; omega)] at i8
      rw [← i8] at k
      rw [i1]
      exact k _ hs
    · rw [i3] at k; exact k _ hs
theorem rRevoked_sp {Q : Bool → Int → H → Prop} (hs : Sat h0 A h) (ci : At A i (refE p C)) (key : Int) (k : ∀ h', Sat h0 A h' → Q (revokedM C key).1 (revokedM C key).2 h') : F_portcullisref07_Revoked ⟨p, 0, none⟩ key Q h := by
  unfold F_portcullisref07_Revoked G_portcullisref07_Revoked
  simp only [add_mk, Nat.zero_add]
  obtain ⟨w, ok, ld, hl, el⟩ := ref_bl hs ci
  refine ⟨_, ld 4 _ rfl, ?_⟩
  refine rmay_sp hs ci _ _ ?_
  unfold revokedM at k
  by_cases e : askedM C key C.cfg.keys = 0
  case neg =>
    rw [if_pos (by simpa using e)] at k ⊢
    exact k _ hs
  obtain ⟨ho, h1, h2⟩ := askedM_zero e
  rw [if_neg (by simpa using e)] at k ⊢
  obtain ⟨x1, x2, x3⟩ := key_in ok h1 h2
  refine ⟨_, _, _, ld 9 _ rfl, _, ld 1 _ rfl, _, ld 2 _ rfl, ?_⟩
  rw [x1]
  obtain ⟨q, hq, hb⟩ := el (C.cfg.slots * C.cfg.fuses + key).toNat (by omega)
  exact ⟨_, hq, by omega, by omega, _, by rw [add_mk, Nat.mul_one, Nat.zero_add]; exact hb, k _ hs⟩
theorem rRevoke_sp {Q : Int → H → Prop} (hs : Sat h0 A h) (ci : At A i (refE p C)) (key : Int) (k : ∀ h', Sat h0 (put A i (refE p (revokeM C key).1)) h' → Q (revokeM C key).2 h') : F_portcullisref07_Revoke ⟨p, 0, none⟩ key Q h := by
  unfold F_portcullisref07_Revoke G_portcullisref07_Revoke
  simp only [add_mk, Nat.zero_add]
  refine rRevoked_sp hs ci key ?_
  intro h1 hs
  unfold revokeM at k
  by_cases e : (revokedM C key).2 = 0
  case neg =>
    rw [if_pos (by simpa using e)] at k ⊢
    exact k _ (by rw [ci.put_self]; exact hs)
  obtain ⟨h1, h2⟩ := revoked_ok e
  rw [if_neg (by simpa using e)] at k ⊢
  by_cases e2 : (revokedM C key).1 = true
  · rw [if_pos e2] at k ⊢
    exact k _ (by rw [ci.put_self]; exact hs)
  rw [if_neg e2] at k ⊢
  obtain ⟨w, ok, ld, hl, el⟩ := ref_bl hs ci
  refine ⟨_, ld 1 _ rfl, _, ld 2 _ rfl, ?_⟩
  rw [(key_in ok h1 h2).1]
  exact rBlow_sp hs ci _ fun h' hs' => k _ hs'
end
end Go.Proofs.Ytamfkofcpoglnaa
