/- GateKeeps: what is proved and its parts, laid together by a program of ours: Rf8 La2 La5 Fu3 Fu4 Ce4 -/
import Derived.Test.YtaglicdidpgkpaaGreatDoorK10
set_option autoImplicit false
set_option linter.all false
/- Contracts: equal states are told so. Own work. -/
section
set_option linter.unusedVariables false
namespace Go.Proofs.YtaglicdidpgkpaaGreatDoor
open Go Go.Vc

section
variable {h0 h : H} {A : List Ent} {i p : Nat} {C : Cm}
theorem rdm_row {h : H} {a : Sl} {rows : List (List Int)} (r : RdM h 32 a rows) {j : Nat} (hj : j < rows.length) :
  ∃ q x, a.1 = some q ∧ hc h (q.add (j * 1)) = some (Sl.v x) ∧ rows[j].length = x.2.1 * 32 := by
 obtain ⟨q, x, h1, h2, h3⟩ := r.at hj
 exact ⟨q, x, h1, h2, by have := h3.1; simpa using this⟩
end
end Go.Proofs.YtaglicdidpgkpaaGreatDoor

/- Contracts of the document's chip: Copy, Lay. Own work. -/
set_option linter.unusedVariables false
namespace Go.Proofs.YtaglicdidpgkpaaGreatDoor
open Go Go.Vc

section
variable {h0 h : H} {A : List Ent} {i p : Nat} {C : Cm}
theorem Fits_sp {a b c' : Sl} {s : St} (c : Cfg) (hm : c.may) {Q : Bool → H → Prop} (hs : Sat h0 A h) (rd : ∀ h', Sat h0 A h' → RdS h' a b c' s)
  (k1 : ¬ s.lays c → ∀ h', Sat h0 A h' → Q false h') (k2 : s.lays c → ∀ h', Sat h0 A h' → Q true h') :
  F_portcullisref04_Fits c.cells c.slots c.fuses c.step c.keys c.erases c.area a.1 a.2.1 a.2.2 b.1 b.2.1 b.2.2 c'.1 c'.2.1 c'.2.2 Q h := by
 unfold F_portcullisref04_Fits G_portcullisref04_Fits
 try simp only [add_mk, Nat.zero_add]
 intro n1 _ hn; replace hs := Sat.new hs hn; clear hn
 intro n2 h2 hn; replace hs := Sat.new hs hn; clear hn
 refine ⟨_, Sat.ld hs (by (repeat (first | exact At.z | apply At.s))) (by rfl), ?_⟩
 simp only [wnp hm, wnf hm]
 have hnp := hm.np
 have hnf := hm.nf
 have hcl := hm.cells
 intro J25 hJ25
 have r1 := rd _ hs.drop.drop
 have l1 := r1.pg.len
 have l2 : s.erases.length = b.2.1 := by have := r1.er.1; simpa using this
 have l3 : s.blown.length = c'.2.1 := by have := r1.bl.1; simpa using this
 have bad : ¬ s.lays c → Q false h2 := fun nf => k1 nf _ hs.drop.drop
 refine ⟨_, _, _, Sat.ld hs (by (repeat (first | exact At.z | apply At.s))) (by rfl), ?_⟩
 by_cases e1 : (s.pages.length : Int) = c.np
 case neg => rw [if_pos (by simp; omega)]; exact bad (fun f => e1 f.fits.pages)
 rw [if_neg (by simp; omega)]
 refine ⟨_, _, _, Sat.ld hs (by (repeat (first | exact At.z | apply At.s))) (by rfl), ?_⟩
 by_cases e2 : (s.erases.length : Int) = c.np
 case neg => rw [if_pos (by simp; omega)]; exact bad (fun f => e2 f.fits.erases)
 rw [if_neg (by simp; omega)]
 refine ⟨_, _, _, Sat.ld hs (by (repeat (first | exact At.z | apply At.s))) (by rfl), ?_⟩
 refine ⟨_, Sat.ld hs (by (repeat (first | exact At.z | apply At.s))) (by rfl), ?_⟩
 refine ⟨_, Sat.ld hs (by (repeat (first | exact At.z | apply At.s))) (by rfl), ?_⟩
 refine ⟨_, Sat.ld hs (by (repeat (first | exact At.z | apply At.s))) (by rfl), ?_⟩
 by_cases e3 : (s.blown.length : Int) = c.nf
 case neg => rw [wnf hm, if_pos (by simp; omega)]; exact bad (fun f => e3 f.fits.blown)
 rw [wnf hm, if_neg (by simp; omega)]
 apply hJ25
 intro J27 hJ27
 refine loop_up c.np.toNat (fun i h' => h' = h2 ∧ ∀ j (hj : j < s.pages.length) (hj2 : j < s.erases.length), j < i → (s.pages[j].length : Int) = 32 * c.cells ∧ 0 ≤ s.erases[j]) ?_ ?_ 0 _ (by omega) ⟨rfl, fun j _ _ hj => by omega⟩
 ·rintro j h' hj ⟨rfl, hinv⟩ hk
  apply hJ27
  rw [ltI_eq, if_pos (by simp; omega)]
  have hj1 : j < s.pages.length := by omega
  have hj2 : j < s.erases.length := by omega
  obtain ⟨q1, x1, f1, f2, f3⟩ := rdm_row r1.pg hj1
  obtain ⟨q2, g1, g2⟩ := hsv_get r1.er (i := j) (v := .int .i64 s.erases[j]) (by rw [ints_get, List.getElem?_eq_getElem hj2]; rfl)
  refine ⟨_, _, _, Sat.ld hs (by (repeat (first | exact At.z | apply At.s))) (by rfl), ?_⟩
  refine ⟨_, f1, by omega, by omega, _, _, _, f2, ?_⟩
  refine ⟨_, Sat.ld hs (by (repeat (first | exact At.z | apply At.s))) (by rfl), ?_⟩
  by_cases e4 : (s.pages[j].length : Int) = 32 * c.cells
  case neg => rw [if_pos (by simp; omega)]; exact bad (fun f => e4 (f.fits.cells _ (List.getElem_mem hj1)))
  rw [if_neg (by simp; omega)]
  refine ⟨_, _, _, Sat.ld hs (by (repeat (first | exact At.z | apply At.s))) (by rfl), ?_⟩
  refine ⟨_, g1, by omega, by omega, _, by simpa using g2, ?_⟩
  rw [ltI_eq]
  by_cases e5 : s.erases[j] < 0
  ·rw [if_pos (by simpa using e5)]; exact bad (fun f => by have := f.pos _ (List.getElem_mem hj2); omega)
  ·rw [if_neg (by simpa using e5), wrap_succ (by omega)]
   refine hk _ ⟨rfl, fun m hm1 hm2 hmj => ?_⟩
   by_cases e : m = j
   ·subst e; exact ⟨e4, by omega⟩
   ·exact hinv m hm1 hm2 (by omega)
 ·rintro h' ⟨rfl, hinv⟩
  apply hJ27
  rw [ltI_eq, if_neg (by simp; omega)]
  refine k2 ⟨⟨e1, ?_, e2, e3⟩, ?_⟩ _ hs.drop.drop
  ·intro l hl
   obtain ⟨j, hj, rfl⟩ := List.mem_iff_getElem.1 hl
   exact (hinv j hj (by omega) (by omega)).1
  ·intro n hn
   obtain ⟨j, hj, rfl⟩ := List.mem_iff_getElem.1 hn
   exact (hinv j (by omega) hj (by omega)).2
theorem rLay_sp {a b c' : Sl} {s : St} (c : Cfg) {Q : Option Addr → Int → H → Prop} (hs : Sat h0 A h) (rd : ∀ h', Sat h0 A h' → RdS h' a b c' s) (ty : s.typed)
  (k1 : ¬ c.may → ∀ h', Sat h0 A h' → Q none 1 h') (k2 : c.may → ¬ s.lays c → ∀ h', Sat h0 A h' → Q none 5 h')
  (k3 : c.may → s.lays c → ∀ p h', Sat h0 (refE p (layC c s) :: A) h' → Q (some ⟨p, 0, none⟩) 0 h') :
  F_portcullisref04_Lay c.cells c.slots c.fuses c.step c.keys c.erases c.area a.1 a.2.1 a.2.2 b.1 b.2.1 b.2.2 c'.1 c'.2.1 c'.2.2 Q h := by
 unfold F_portcullisref04_Lay G_portcullisref04_Lay
 try simp only [add_mk, Nat.zero_add]
 intro n1 _ hn; replace hs := Sat.new hs hn; clear hn
 intro n2 _ hn; replace hs := Sat.new hs hn; clear hn
 (repeat first | refine ⟨_, Sat.ld hs (by (repeat (first | exact At.z | apply At.s))) (by rfl), ?_⟩ | refine ⟨_, _, _, Sat.ld hs (by (repeat (first | exact At.z | apply At.s))) (by rfl), ?_⟩ | (intro _ _ hn; replace hs := Sat.new hs hn; clear hn) | refine ⟨Sat.cs hs (by (repeat (first | exact At.z | apply At.s))) (by rfl), ?_⟩ | (refine ⟨Sat.can hs (by (repeat (first | exact At.z | apply At.s))) (by simp), ?_⟩; intro _ e; replace hs := Sat.wr hs (by (repeat (first | exact At.z | apply At.s))) e; clear e; simp only [put, splice, List.set] at hs))
 refine rMay_sp c hs ?_
 intro h1 hs
 unfold Cfg.may?
 by_cases hm : c.may
 case neg =>
  rw [if_neg hm, if_pos (by decide)]
  exact k1 hm _ hs.drop.drop
 rw [if_pos hm, if_neg (by decide)]
 (repeat first | refine ⟨_, Sat.ld hs (by (repeat (first | exact At.z | apply At.s))) (by rfl), ?_⟩ | refine ⟨_, _, _, Sat.ld hs (by (repeat (first | exact At.z | apply At.s))) (by rfl), ?_⟩ | (intro _ _ hn; replace hs := Sat.new hs hn; clear hn) | refine ⟨Sat.cs hs (by (repeat (first | exact At.z | apply At.s))) (by rfl), ?_⟩ | (refine ⟨Sat.can hs (by (repeat (first | exact At.z | apply At.s))) (by simp), ?_⟩; intro _ e; replace hs := Sat.wr hs (by (repeat (first | exact At.z | apply At.s))) e; clear e; simp only [put, splice, List.set] at hs))
 refine Fits_sp (a := a) (b := b) (c' := c') c hm hs (fun h' hs' => rd _ hs'.drop.drop) ?_ ?_
 ·intro nf h2 hs
  rw [if_pos (by decide)]
  exact k2 hm nf _ hs.drop.drop
 intro ly h2 hs
 rw [if_neg (by decide)]
 have ok := layC_ok hm ly ty
 (repeat first | refine ⟨_, Sat.ld hs (by (repeat (first | exact At.z | apply At.s))) (by rfl), ?_⟩ | refine ⟨_, _, _, Sat.ld hs (by (repeat (first | exact At.z | apply At.s))) (by rfl), ?_⟩ | (intro _ _ hn; replace hs := Sat.new hs hn; clear hn) | refine ⟨Sat.cs hs (by (repeat (first | exact At.z | apply At.s))) (by rfl), ?_⟩ | (refine ⟨Sat.can hs (by (repeat (first | exact At.z | apply At.s))) (by simp), ?_⟩; intro _ e; replace hs := Sat.wr hs (by (repeat (first | exact At.z | apply At.s))) e; clear e; simp only [put, splice, List.set] at hs))
 refine CopyState_sp (a := a) (b := b) (c := c') (s := s) hs (fun h' hs' => rd _ hs'.drop.drop) ok.small ?_
 intro a2 b2 c2 h5 hs
 replace hs : Sat h0 (matE 32 a2 s.pages :: sE b2 1 (ints .i64 s.erases) :: sE c2 1 (bools s.blown) :: blk n2 [a.v, b.v, c'.v] :: blk n1 [.int .i64 c.cells, .int .i64 c.slots, .int .i64 c.fuses, .int .i64 c.step, .int .i64 c.keys, .int .i64 c.erases, .int .i64 c.area] :: A) h5 := hs
 (repeat first | refine ⟨_, Sat.ld hs (by (repeat (first | exact At.z | apply At.s))) (by rfl), ?_⟩ | refine ⟨_, _, _, Sat.ld hs (by (repeat (first | exact At.z | apply At.s))) (by rfl), ?_⟩ | (intro _ _ hn; replace hs := Sat.new hs hn; clear hn) | refine ⟨Sat.cs hs (by (repeat (first | exact At.z | apply At.s))) (by rfl), ?_⟩ | (refine ⟨Sat.can hs (by (repeat (first | exact At.z | apply At.s))) (by simp), ?_⟩; intro _ e; replace hs := Sat.wr hs (by (repeat (first | exact At.z | apply At.s))) e; clear e; simp only [put, splice, List.set] at hs))
 refine k3 hm ly _ _ ?_
 replace hs := hs.sl_nil 1 none
 replace hs := Sat.front hs (e := slE _ _ _ 1 (bools _)) (by (repeat (first | exact At.z | apply At.s)))
 replace hs := Sat.front hs (e := slE _ _ _ 1 (ints .i64 _)) (by (repeat (first | exact At.z | apply At.s)))
 replace hs := Sat.front hs (e := matE 32 _ _) (by (repeat (first | exact At.z | apply At.s)))
 replace hs := Sat.front hs (e := blk _ [_, _, _, _, _, _, _, _, _, _, _, _, _, _]) (by (repeat (first | exact At.z | apply At.s)))
 simp only [del] at hs
 exact (ref_make (C := layC c s) (a := a2) (b := b2) (c := c2) (m := (none, 0, 0)) (ms := []) ok (by intro n hn; simp at hn) (by simp) (fun _ => rfl) hs).sub (by (repeat (first | exact List.Sublist.refl _ | apply List.Sublist.cons_cons | apply List.Sublist.cons)))
end
end Go.Proofs.YtaglicdidpgkpaaGreatDoor
end

/- Contracts of the chip's statements: a state is written over. Own work. -/
section
set_option linter.unusedVariables false
namespace Go.Proofs.YtaglicdidpgkpaaGreatDoor
open Go Go.Vc

section
variable {h0 h : H} {A : List Ent} {i p : Nat} {C : Cm}
end
end Go.Proofs.YtaglicdidpgkpaaGreatDoor

/- Contracts of the chip's statements: pairs of chips. Own work. -/
set_option maxRecDepth 100000
set_option linter.unusedVariables false
namespace Go.Proofs.YtaglicdidpgkpaaGreatDoor
open Go Go.Vc

section
variable {h0 h : H} {A : List Ent} {i j p r : Nat} {C : Cm}
theorem chip_ok (hs : Sat h0 A h) (ci : At A i (chipE p C)) : C.ok := by
 obtain ⟨w, ok, _⟩ := (hs.front ci).open_
 exact ok
end
end Go.Proofs.YtaglicdidpgkpaaGreatDoor
end

/- Contracts of the chip's statements: a step. Own work. -/
section
set_option maxRecDepth 100000
set_option linter.unusedVariables false
namespace Go.Proofs.YtaglicdidpgkpaaGreatDoor
open Go Go.Vc

structure Stp where
 kind : Int
 a : Int
 b : Int
 x : List Int
 mask : List Int
structure Stp.ok (s : Stp) : Prop where
 a : -(2 ^ 63) ≤ s.a ∧ s.a < 2 ^ 63
 x : s.x.length = 32
 mb : bytesOk s.mask
 ml : s.mask.length + 4096 ≤ 2 ^ 47
section
variable {h0 h : H} {A : List Ent} {i j p r : Nat} {C : Cm}
end
end Go.Proofs.YtaglicdidpgkpaaGreatDoor

/- Contracts of the chip's statements: games; calls whose answers are fixed. Own work. -/
set_option maxRecDepth 100000
set_option linter.unusedVariables false
namespace Go.Proofs.YtaglicdidpgkpaaGreatDoor
open Go Go.Vc

section
variable {h0 h : H} {A : List Ent} {i j p r : Nat} {C : Cm}
structure ScriptRd (h : H) (p : Option Addr) (l : Nat) (sc : List Stp) : Prop where
 len : sc.length = l
 small : l < 2 ^ 62
 el : ∀ i (hi : i < sc.length), ∃ (q : Addr) (mp : Option Addr) (ml mc : Nat), p = some q ∧ hc h (q.add (i * 36)) = some (.int .i64 sc[i].kind) ∧ hc h ((q.add (i * 36)).add 1) = some (.int .i64 sc[i].a) ∧
  hc h ((q.add (i * 36)).add 2) = some (.int .i64 sc[i].b) ∧ hrow h ((q.add (i * 36)).add 3) .u8 sc[i].x ∧ hc h ((q.add (i * 36)).add 35) = some (.slice mp ml mc) ∧ hsv h mp 1 ml (ints .u8 sc[i].mask) ∧ sc[i].ok
end
end Go.Proofs.YtaglicdidpgkpaaGreatDoor

/- Contracts of the chip's statements: ChipLays. Own work. -/
set_option maxRecDepth 100000
set_option linter.unusedVariables false
namespace Go.Proofs.YtaglicdidpgkpaaGreatDoor
open Go Go.Vc

section
variable {h0 h : H} {A : List Ent} {i j p r : Nat} {C : Cm}
end
end Go.Proofs.YtaglicdidpgkpaaGreatDoor
end

/- The fuses' model: counts of a row, raising, revoking; laws about numbers alone. Own work. -/
section
set_option maxRecDepth 100000
set_option linter.unusedVariables false
namespace Go.Proofs.YtaglicdidpgkpaaGreatDoor
open Go Go.Vc

theorem loop_st {J : List SV → H → Prop} {σ : Type} (N : Nat) (S : Nat → σ → List SV) (Inv : Nat → σ → H → Prop) (step : ∀ i s h, i < N → Inv i s h → (∀ s' h', Inv (i + 1) s' h' → J (S (i + 1) s') h') → J (S i s) h)
  (exit : ∀ s h, Inv N s h → J (S N s) h) (i : Nat) (s : σ) (h : H) (hi : i ≤ N) (inv : Inv i s h) : J (S i s) h := by
 generalize e : N - i = n
 induction n generalizing i s h with
 | zero =>
  have : i = N := by omega
  subst this; exact exit s h inv
 | succ n ih => exact step i s h (by omega) inv fun s' h' inv' => ih (i + 1) s' h' (by omega) inv' (by omega)

def cnt (bl : List Bool) (a : Nat) : Nat → Nat
 | 0 => 0
 | n + 1 => cnt bl a n + (if bl.getD (a + n) false = true then 1 else 0)
def lst (bl : List Bool) (a : Nat) : Nat → Option Nat
 | 0 => none
 | n + 1 => match lst bl a n with | some k => some k | none => if bl.getD (a + n) false = true then none else some (a + n)
def lstI : Option Nat → Int
 | none => -1
 | some k => k
theorem cnt_le (bl : List Bool) (a n : Nat) : cnt bl a n ≤ n := by
 induction n with
 | zero => exact Nat.le_refl _
 | succ n ih => unfold cnt; split <;> omega
theorem lst_none {bl : List Bool} {a n : Nat} (h : lst bl a n = none) : cnt bl a n = n := by
 induction n with
 | zero => rfl
 | succ n ih =>
  unfold lst at h
  cases e : lst bl a n with
  | some k => rw [e] at h; simp at h
  | none =>
   rw [e] at h
   dsimp only at h
   unfold cnt
   split at h
   ·rename_i h1; rw [if_pos h1, ih e]
   ·simp at h
theorem lst_some {bl : List Bool} {a n k : Nat} (h : lst bl a n = some k) : a ≤ k ∧ k < a + n ∧ bl.getD k false = false := by
 induction n with
 | zero => simp [lst] at h
 | succ n ih =>
  unfold lst at h
  cases e : lst bl a n with
  | some k' =>
   rw [e] at h
   dsimp only at h
   rw [h] at e
   obtain ⟨h1, h2, h3⟩ := ih e
   exact ⟨h1, by omega, h3⟩
  | none =>
   rw [e] at h
   dsimp only at h
   split at h
   ·simp at h
   ·rename_i h1
    injection h with h; subst h
    exact ⟨by omega, by omega, by simpa using h1⟩
theorem cnt_set {bl : List Bool} {a k : Nat} (n : Nat) (hk : k < bl.length) (hf : bl.getD k false = false) : cnt (bl.set k true) a n = cnt bl a n + (if a ≤ k ∧ k < a + n then 1 else 0) := by
 induction n with
 | zero => rw [if_neg (by omega)]; rfl
 | succ n ih =>
  unfold cnt
  rw [ih]
  by_cases e : a + n = k
  ·subst e
   have : (bl.set (a + n) true).getD (a + n) false = true := by simp [List.getD, hk]
   rw [this, hf, if_neg (by omega), if_pos rfl, if_neg (by simp), if_pos (by omega)]
  ·have : (bl.set k true).getD (a + n) false = bl.getD (a + n) false := by simp only [List.getD, List.getElem?_set_ne (Ne.symm e)]
   rw [this]
   by_cases h1 : a ≤ k ∧ k < a + n
   ·rw [if_pos h1, if_pos (show a ≤ k ∧ k < a + (n + 1) by omega)]; omega
   ·rw [if_neg h1, if_neg (show ¬ (a ≤ k ∧ k < a + (n + 1)) by omega)]; omega
def countM (C : Cm) (slot : Int) : Int × Int :=
 if askedM C slot C.cfg.slots ≠ 0 then (0, askedM C slot C.cfg.slots) else (cnt C.s.blown (slot * C.cfg.fuses).toNat C.cfg.fuses.toNat, 0)
def raiseL (a f : Nat) (n : Int) : Nat → Cm → Cm × Int
 | 0, C => (C, 0)
 | m + 1, C => if n ≤ cnt C.s.blown a f then (C, 0) else
  match lst C.s.blown a f with
  | none => (C, 0)
  | some k => if (blowM C k).2 ≠ 0 then blowM C k else raiseL a f n m (blowM C k).1
def raiseM (C : Cm) (slot n : Int) : Cm × Int :=
 if askedM C slot C.cfg.slots ≠ 0 then (C, askedM C slot C.cfg.slots) else if n < 0 then (C, 2) else if C.cfg.fuses < n then (C, 2)
 else raiseL (slot * C.cfg.fuses).toNat C.cfg.fuses.toNat n C.cfg.fuses.toNat C
def revokedM (C : Cm) (key : Int) : Bool × Int :=
 if askedM C key C.cfg.keys ≠ 0 then (false, askedM C key C.cfg.keys) else (C.s.blown.getD (C.cfg.slots * C.cfg.fuses + key).toNat false, 0)
def revokeM (C : Cm) (key : Int) : Cm × Int :=
 if (revokedM C key).2 ≠ 0 then (C, (revokedM C key).2) else if (revokedM C key).1 = true then (C, (revokedM C key).2) else blowM C (C.cfg.slots * C.cfg.fuses + key)

theorem askedM_in {C : Cm} {i n : Int} (ho : C.out = false) (h1 : 0 ≤ i) (h2 : i < n) : askedM C i n = 0 := by
 unfold askedM; rw [if_neg (by simp [ho]), if_neg (by omega), if_neg (by omega)]
theorem askedM_neg {C : Cm} {i n : Int} (ho : C.out = false) (h1 : i < 0) : askedM C i n = 2 := by
 unfold askedM; rw [if_neg (by simp [ho]), if_pos h1]
theorem askedM_hi {C : Cm} {i n : Int} (ho : C.out = false) (h1 : n ≤ i) : askedM C i n = 2 := by
 unfold askedM
 simp only [ho, h1, Bool.false_eq_true, if_false, if_true]
 split <;> rfl
theorem blow_good {C : Cm} {k : Nat} (ho : C.out = false) (hk : k < C.s.blown.length) (hl : C.left ≠ 0) :
  blowM C k = ({ C.act with s := { C.s with blown := C.s.blown.set k true } }, 0) := by
 unfold blowM
 rw [if_neg (by rw [askedM_in ho (by omega) (by omega)]; simp), Int.toNat_natCast]
 unfold maskAt errM
 rw [if_pos hl, if_pos hl, if_pos (by decide)]
theorem blow_cut {C : Cm} {k : Nat} (ho : C.out = false) (hk : k < C.s.blown.length) (hl : C.left = 0) :
  (blowM C k).2 = 8 ∧ (blowM C k).1.cfg = C.cfg ∧ ((blowM C k).1.s.blown = C.s.blown ∨ (blowM C k).1.s.blown = C.s.blown.set k true) := by
 unfold blowM
 rw [if_neg (by rw [askedM_in ho (by omega) (by omega)]; simp), Int.toNat_natCast]
 have e8 : errM C = 8 := by unfold errM; rw [if_neg (by simpa using hl)]
 refine ⟨e8, ?_, ?_⟩
 all_goals dsimp only
 ·split
  ·exact act_cfg C
  ·exact act_cfg C
 ·split
  ·exact Or.inr rfl
  ·exact Or.inl (by rw [act_s])
theorem act_out {C : Cm} (ho : C.out = false) (hl : C.left ≠ 0) : C.act.out = false := by
 unfold Cm.act; rw [if_pos hl]; exact ho
theorem row_in {C : Cm} (ok : C.ok) {slot : Int} (h1 : 0 ≤ slot) (h2 : slot < C.cfg.slots) : ((slot * C.cfg.fuses).toNat : Int) = slot * C.cfg.fuses ∧ (C.cfg.fuses.toNat : Int) = C.cfg.fuses ∧ (slot * C.cfg.fuses).toNat + C.cfg.fuses.toNat ≤ C.s.blown.length ∧
  C.s.blown.length ≤ 576 ∧ (slot * C.cfg.fuses).toNat + C.cfg.fuses.toNat ≤ (C.cfg.slots * C.cfg.fuses).toNat ∧ C.cfg.fuses.toNat ≤ 64 := by
 have hb := ok.fits.blown
 have hf := ok.may.fuses
 have hn := ok.may.nf
 have hk := ok.may.keys
 unfold Cfg.nf at hb hn
 have e1 : 0 ≤ slot * C.cfg.fuses := Int.mul_nonneg h1 (by omega)
 have e2 : (slot + 1) * C.cfg.fuses ≤ C.cfg.slots * C.cfg.fuses := Int.mul_le_mul_of_nonneg_right (by omega) (by omega)
 rw [Int.add_mul] at e2
 omega
structure Raised (a f : Nat) (n : Int) (C D : Cm) (e : Int) : Prop where
 cfg : D.cfg = C.cfg
 len : D.s.blown.length = C.s.blown.length
 same : ∀ k, k < a ∨ a + f ≤ k → D.s.blown.getD k false = C.s.blown.getD k false
 up : ∀ k, C.s.blown.getD k false = true → D.s.blown.getD k false = true
 ge : cnt C.s.blown a f ≤ cnt D.s.blown a f
 le : (cnt D.s.blown a f : Int) ≤ max n (cnt C.s.blown a f)
 good : e = 0 → (cnt D.s.blown a f : Int) = max n (cnt C.s.blown a f)
 on : e = 0 → D.out = false
 bad : e ≠ 0 → e = 8 ∧ 0 ≤ C.left ∧ C.left < n - cnt C.s.blown a f
theorem set_up {bl : List Bool} {k j : Nat} (h : bl.getD j false = true) : (bl.set k true).getD j false = true := by
 by_cases e : k = j
 ·subst e
  have hk : k < bl.length := by
   by_cases hk : k < bl.length
   ·exact hk
   ·rw [List.getD_eq_getElem?_getD, List.getElem?_eq_none (by omega)] at h; simp at h
  simp [List.getD, hk]
 ·simp only [List.getD, List.getElem?_set_ne e] at h ⊢; exact h
theorem raised (a f : Nat) (n : Int) (hn : n ≤ f) : ∀ (m : Nat) (C : Cm), C.out = false → -1 ≤ C.left → a + f ≤ C.s.blown.length → n - cnt C.s.blown a f ≤ m → Raised a f n C (raiseL a f n m C).1 (raiseL a f n m C).2 := by
 intro m
 induction m with
 | zero =>
  intro C ho hl1 hl hm
  unfold raiseL
  exact ⟨rfl, rfl, fun _ _ => rfl, fun _ x => x, by simp, by simp; omega, fun _ => by simp; omega, fun _ => ho, fun x => absurd rfl x⟩
 | succ m ih =>
  intro C ho hl1 hl hm
  unfold raiseL
  by_cases h1 : n ≤ cnt C.s.blown a f
  ·rw [if_pos h1]
   exact ⟨rfl, rfl, fun _ _ => rfl, fun _ x => x, by simp, by simp; omega, fun _ => by simp; omega, fun _ => ho, fun x => absurd rfl x⟩
  ·rw [if_neg h1]
   cases e : lst C.s.blown a f with
   | none =>
    have := lst_none e
    omega
   | some k =>
    dsimp only
    obtain ⟨k1, k2, k3⟩ := lst_some e
    have hc := cnt_set (a := a) f (show k < C.s.blown.length by omega) k3
    rw [if_pos ⟨k1, k2⟩] at hc
    have far : ∀ j, j < a ∨ a + f ≤ j → (C.s.blown.set k true).getD j false = C.s.blown.getD j false := by
     intro j hj
     simp only [List.getD, List.getElem?_set_ne (show k ≠ j by omega)]
    by_cases h2 : C.left = 0
    ·obtain ⟨b1, b2, b3⟩ := blow_cut ho (show k < C.s.blown.length by omega) h2
     rw [if_pos (by rw [b1]; simp)]
     rcases b3 with b3 | b3
     ·exact ⟨b2, by rw [b3], fun j _ => by rw [b3], fun j x => by rw [b3]; exact x, by rw [b3]; omega, by rw [b3]; omega, fun x => by rw [b1] at x; simp at x, fun x => by rw [b1] at x; simp at x, fun _ => ⟨b1, by omega, by omega⟩⟩
     ·exact ⟨b2, by rw [b3, List.length_set], fun j x => by rw [b3]; exact far j x, fun j x => by rw [b3]; exact set_up x, by rw [b3, hc]; omega, by rw [b3, hc]; omega, fun x => by rw [b1] at x; simp at x, fun x => by rw [b1] at x; simp at x, fun _ => ⟨b1, by omega, by omega⟩⟩
    ·rw [blow_good ho (by omega) h2, if_neg (by simp)]
     have hact : -1 ≤ C.act.left := by unfold Cm.act; rw [if_pos h2]; dsimp only; split <;> omega
     have r := ih { C.act with s := { C.s with blown := C.s.blown.set k true } } (act_out ho h2) hact (by simpa using hl) (by dsimp only; rw [hc]; omega)
     dsimp only
     obtain ⟨X, hX⟩ : ∃ X, X = raiseL a f n m { C.act with s := { C.s with blown := C.s.blown.set k true } } := ⟨_, rfl⟩
     rw [← hX] at r ⊢
     have hl3 : 0 ≤ C.act.left → 0 ≤ C.left ∧ C.act.left = C.left - 1 := by
      unfold Cm.act; rw [if_pos h2]; dsimp only; intro x; split at x
      ·rename_i h3; rw [if_pos h3]; omega
      ·omega
     have r4 := r.ge; have r5 := r.le; have r6 := r.good; have r7 := r.bad
     dsimp only at r4 r5 r6 r7
     rw [hc] at r4 r5 r6 r7
     refine ⟨r.cfg.trans (act_cfg C), by have := r.len; simpa using this, fun j x => (r.same j x).trans (far j x), fun j x => r.up j (set_up x), by omega, by omega, fun x => by have := r6 x; omega, r.on, fun x => ?_⟩
     obtain ⟨x1, x2, x3⟩ := r7 x
     obtain ⟨x4, x5⟩ := hl3 x2
     exact ⟨x1, x4, by omega⟩
end Go.Proofs.YtaglicdidpgkpaaGreatDoor

/- Contracts of the fuses' package. Own work. -/
set_option maxRecDepth 100000
set_option linter.unusedVariables false
namespace Go.Proofs.YtaglicdidpgkpaaGreatDoor
open Go Go.Vc

section
variable {h0 h : H} {A : List Ent} {i j p r : Nat} {C : Cm}
theorem fasked_sp {Q : Int → H → Prop} (hs : Sat h0 A h) (ci : At A i (chipE p C)) (n j : Int) (k : Q (askedM C j n) h) : F_fuse_asked ⟨p, 0, none⟩ j n Q h := by
 unfold F_fuse_asked G_fuse_asked
 refine Out_sp hs ci ?_
 unfold askedM at k
 simp only [ltI_eq, leI_eq, decide_eq_true_eq]
 split
 ·simpa [*] using k
 ·split
  ·simpa [*] using k
  ·split <;> simpa [*] using k
abbrev rowS (bl : List Bool) (a : Nat) (n : Nat) : List SV := [.dv (.one (.int .i64 (cnt bl a n : Int))), .dv (.one (.int .i64 (lstI (lst bl a n)))), .dv (.one (.int .i64 (n : Int)))]
theorem lst_succ (bl : List Bool) (a n : Nat) : lst bl a (n + 1) = match lst bl a n with | some k => some k | none => if bl.getD (a + n) false = true then none else some (a + n) := rfl
theorem frow_sp {Q : Int → Int → Int → H → Prop} (hs : Sat h0 A h) (ci : At A i (chipE p C)) (ho : C.out = false) {slot : Int} (h1 : 0 ≤ slot) (h2 : slot < C.cfg.slots)
  (k : ∀ h', Sat h0 A h' → Q (cnt C.s.blown (slot * C.cfg.fuses).toNat C.cfg.fuses.toNat) (lstI (lst C.s.blown (slot * C.cfg.fuses).toNat C.cfg.fuses.toNat)) 0 h') : F_fuse_row ⟨p, 0, none⟩ slot Q h := by
 unfold F_fuse_row G_fuse_row
 refine Config_sp hs ci ?_
 intro h1' hs
 have ok := chip_ok hs ci
 obtain ⟨e1, e2, e3, e4, e5, e6⟩ := row_in ok h1 h2
 have hsl := ok.may.slots
 intro J hJ
 generalize hf : C.cfg.fuses.toNat = f at *
 generalize ha : (slot * C.cfg.fuses).toNat = a at *
 refine loop_st f (fun n (_ : Unit) => rowS C.s.blown a n) (fun _ _ h => Sat h0 A h) ?_ ?_ 0 () _ (by omega) hs
 ·intro n _ h2 hn hs hk
  apply hJ
  rw [ltI_eq, if_pos (by simp; omega)]
  have ew : IntKind.i64.wrap (IntKind.i64.wrap (slot * C.cfg.fuses) + n) = ((a + n : Nat) : Int) := by
   rw [wrap_id (n := slot * C.cfg.fuses) (by omega), wrap_id (by omega)]; omega
  rw [ew]
  have eb : blownM C ((a + n : Nat) : Int) = (C.s.blown.getD (a + n) false, 0) := by
   unfold blownM; rw [askedM_in ho (by omega) (by omega), if_neg (by simp), Int.toNat_natCast]
  refine Blown_sp hs ci _ ?_
  rw [eb]
  rw [if_neg (by simp)]
  have hcl := cnt_le C.s.blown a n
  have hk := hk () _ hs
  have ls := lst_succ C.s.blown a n
  by_cases hb : C.s.blown.getD (a + n) false = true
  ·rw [if_pos (by simpa using hb), wrap_succ (by omega), wrap_succ (by omega)]
   have e7 : cnt C.s.blown a (n + 1) = cnt C.s.blown a n + 1 := by rw [cnt, if_pos hb]
   have e8 : lst C.s.blown a (n + 1) = lst C.s.blown a n := by
    rw [ls]
    cases lst C.s.blown a n with
    | none => exact if_pos hb
    | some k => rfl
   simp only [rowS, e7, e8] at hk
   exact hk
  ·rw [if_neg (by simpa using hb), wrap_succ (by omega)]
   have e7 : cnt C.s.blown a (n + 1) = cnt C.s.blown a n := by rw [cnt, if_neg hb]; rfl
   cases e : lst C.s.blown a n with
   | none =>
    rw [e] at ls
    dsimp only at ls
    rw [if_neg hb] at ls
    rw [ltI_eq, if_pos (by simp [lstI])]
    simp only [rowS, e7, ls, lstI] at hk
    exact hk
   | some x =>
    rw [e] at ls
    dsimp only at ls
    have e10 : ¬ (decide (lstI (some x) < 0) = true) := by
     have : (0 : Int) ≤ (x : Int) := Int.natCast_nonneg x
     rw [decide_eq_true_eq]
     exact Int.not_lt.2 this
    rw [ltI_eq, if_neg e10]
    simp only [rowS, e7, ls, lstI] at hk
    exact hk
 ·intro _ h2 hs
  apply hJ
  rw [ltI_eq, if_neg (by simp; omega)]
  exact k _ hs
theorem Count_sp {Q : Int → Int → H → Prop} (hs : Sat h0 A h) (ci : At A i (chipE p C)) (slot : Int) (k : ∀ h', Sat h0 A h' → Q (countM C slot).1 (countM C slot).2 h') : F_fuse_Count ⟨p, 0, none⟩ slot Q h := by
 unfold F_fuse_Count G_fuse_Count
 refine Config_sp hs ci ?_
 intro h1 hs
 refine fasked_sp hs ci _ _ ?_
 unfold countM at k
 by_cases e : askedM C slot C.cfg.slots = 0
 ·obtain ⟨ho, h1, h2⟩ := askedM_zero e
  rw [if_neg (by simpa using e)] at k ⊢
  exact frow_sp hs ci ho h1 h2 fun h' hs' => k _ hs'
 ·rw [if_pos (by simpa using e)] at k ⊢
  exact k _ hs
theorem key_in (ok : C.ok) {key : Int} (h1 : 0 ≤ key) (h2 : key < C.cfg.keys) : IntKind.i64.wrap (IntKind.i64.wrap (C.cfg.slots * C.cfg.fuses) + key) = C.cfg.slots * C.cfg.fuses + key ∧ 0 ≤ C.cfg.slots * C.cfg.fuses + key ∧ C.cfg.slots * C.cfg.fuses + key < C.s.blown.length := by
 have hb := ok.fits.blown
 have hn := ok.may.nf
 have hk := ok.may.keys
 have hf := ok.may.fuses
 have hsl := ok.may.slots
 unfold Cfg.nf at hb hn
 have e1 : 0 ≤ C.cfg.slots * C.cfg.fuses := Int.mul_nonneg (by omega) (by omega)
 refine ⟨?_, by omega, by omega⟩
 rw [wrap_id (n := C.cfg.slots * C.cfg.fuses) (by omega), wrap_id (by omega)]
theorem of_sp {Q : Int → H → Prop} (hs : Sat h0 A h) (ci : At A i (chipE p C)) (key : Int) (h1 : 0 ≤ key) (h2 : key < C.cfg.keys) (k : ∀ h', Sat h0 A h' → Q (C.cfg.slots * C.cfg.fuses + key) h') : F_fuse_of ⟨p, 0, none⟩ key Q h := by
 unfold F_fuse_of G_fuse_of
 refine Config_sp hs ci ?_
 intro h3 hs
 refine Config_sp hs ci ?_
 intro h4 hs
 rw [(key_in (chip_ok hs ci) h1 h2).1]
 exact k _ hs
theorem Revoked_sp {Q : Bool → Int → H → Prop} (hs : Sat h0 A h) (ci : At A i (chipE p C)) (key : Int) (k : ∀ h', Sat h0 A h' → Q (revokedM C key).1 (revokedM C key).2 h') : F_fuse_Revoked ⟨p, 0, none⟩ key Q h := by
 unfold F_fuse_Revoked G_fuse_Revoked
 refine Config_sp hs ci ?_
 intro h1 hs
 refine fasked_sp hs ci _ _ ?_
 unfold revokedM at k
 by_cases e : askedM C key C.cfg.keys = 0
 case neg =>
  rw [if_pos (by simpa using e)] at k ⊢
  exact k _ hs
 obtain ⟨ho, h1, h2⟩ := askedM_zero e
 rw [if_neg (by simpa using e)] at k ⊢
 refine of_sp hs ci key h1 h2 ?_
 intro h3 hs
 obtain ⟨x1, x2, x3⟩ := key_in (chip_ok hs ci) h1 h2
 refine Blown_sp hs ci _ ?_
 have eb : blownM C (C.cfg.slots * C.cfg.fuses + key) = (C.s.blown.getD (C.cfg.slots * C.cfg.fuses + key).toNat false, 0) := by
  unfold blownM; rw [askedM_in ho x2 x3, if_neg (by simp)]
 rw [eb]
 exact k _ hs
end
end Go.Proofs.YtaglicdidpgkpaaGreatDoor

/- Contracts of the document's fuses. Own work. -/
set_option maxRecDepth 100000
set_option linter.unusedVariables false
namespace Go.Proofs.YtaglicdidpgkpaaGreatDoor
open Go Go.Vc

section
variable {h0 h : H} {A : List Ent} {i j p r : Nat} {C : Cm}
theorem ref_bl (hs : Sat h0 A h) (cj : At A j (refE r C)) : ∃ w : Pl, C.ok ∧ (∀ o v, (C.cells w.a w.b w.c w.m)[o]? = some v → hc h ⟨r, o, none⟩ = some v) ∧ w.c.2.1 = C.s.blown.length ∧
  ∀ k, k < C.s.blown.length → ∃ q, w.c.1 = some ⟨q, 0, none⟩ ∧ hc h ⟨q, k, none⟩ = some (.bool (C.s.blown.getD k false)) := by
 obtain ⟨⟨w, ms⟩, ⟨ok, _, _, _⟩, hs⟩ := (hs.front cj).open_
 dsimp only [refL, List.cons_append, List.nil_append] at hs
 have hl := hs.sl_len (i := 3) (.s (.s (.s .z)))
 simp only [bools_length, Nat.mul_one] at hl
 refine ⟨w, ok, fun o v e => hs.ld .z e, hl.symm, ?_⟩
 intro k hk
 obtain ⟨q, hq⟩ := hs.sl_some (i := 3) (.s (.s (.s .z))) (by omega)
 refine ⟨q, hq, ?_⟩
 obtain ⟨w1, w2, ⟨cp, cl, cc⟩, w4⟩ := w
 simp only at hq hl
 subst hq
 refine hs.sld (i := 3) (.s (.s (.s .z))) ?_
 rw [bools_get, List.getElem?_eq_getElem hk]
 simp [List.getD, List.getElem?_eq_getElem hk]
theorem rmay_sp {Q : Int → H → Prop} (hs : Sat h0 A h) (ci : At A i (refE p C)) (n j : Int) (k : Q (askedM C j n) h) : F_portcullisref07_may ⟨p, 0, none⟩ j n Q h := by
 unfold F_portcullisref07_may G_portcullisref07_may
 try simp only [add_mk, Nat.zero_add]
 obtain ⟨w, ok, ld, hl, el⟩ := ref_bl hs ci
 refine ⟨_, ld 11 _ rfl, ?_⟩
 unfold askedM at k
 simp only [ltI_eq, leI_eq, decide_eq_true_eq]
 split
 ·simpa [*] using k
 ·split
  ·simpa [*] using k
  ·split <;> simpa [*] using k
theorem rCount_sp {Q : Int → Int → H → Prop} (hs : Sat h0 A h) (ci : At A i (refE p C)) (slot : Int) (k : ∀ h', Sat h0 A h' → Q (countM C slot).1 (countM C slot).2 h') : F_portcullisref07_Count ⟨p, 0, none⟩ slot Q h := by
 unfold F_portcullisref07_Count G_portcullisref07_Count
 try simp only [add_mk, Nat.zero_add]
 obtain ⟨w, ok, ld, hl, el⟩ := ref_bl hs ci
 refine ⟨_, ld 1 _ rfl, ?_⟩
 refine rmay_sp hs ci _ _ ?_
 unfold countM at k
 by_cases e : askedM C slot C.cfg.slots = 0
 case neg =>
  rw [if_pos (by simpa using e)] at k ⊢
  exact k _ hs
 obtain ⟨ho, h1, h2⟩ := askedM_zero e
 rw [if_neg (by simpa using e)] at k ⊢
 obtain ⟨e1, e2, e3, e4, e5, e6⟩ := row_in ok h1 h2
 have hsl := ok.may.slots
 clear w ld hl el
 intro J hJ
 generalize hf : C.cfg.fuses.toNat = f at *
 generalize ha : (slot * C.cfg.fuses).toNat = a at *
 refine loop_st f (fun n (_ : Unit) => [.dv (.one (.int .i64 (cnt C.s.blown a n : Int))), .dv (.one (.int .i64 (n : Int)))]) (fun _ _ h => Sat h0 A h) ?_ ?_ 0 () _ (by omega) hs
 ·intro n _ h2 hn hs hk
  apply hJ
  obtain ⟨w, ok, ld, hl, el⟩ := ref_bl hs ci
  refine ⟨_, ld 2 _ rfl, ?_⟩
  rw [ltI_eq, if_pos (by simp; omega)]
  refine ⟨_, _, _, ld 9 _ rfl, ?_⟩
  refine ⟨_, ld 2 _ rfl, ?_⟩
  have ew : IntKind.i64.wrap (IntKind.i64.wrap (slot * C.cfg.fuses) + n) = ((a + n : Nat) : Int) := by
   rw [wrap_id (n := slot * C.cfg.fuses) (by omega), wrap_id (by omega)]; omega
  rw [ew]
  obtain ⟨q, hq, hb⟩ := el (a + n) (by omega)
  refine ⟨_, hq, by omega, by omega, _, by rw [add_mk, Int.toNat_natCast, Nat.mul_one, Nat.zero_add]; exact hb, ?_⟩
  have hcl := cnt_le C.s.blown a n
  have hk := hk () _ hs
  by_cases hb : C.s.blown.getD (a + n) false = true
  ·rw [if_pos (by simpa using hb), wrap_succ (by omega), wrap_succ (by omega)]
   have e7 : cnt C.s.blown a (n + 1) = cnt C.s.blown a n + 1 := by rw [cnt, if_pos hb]
   rw [e7] at hk
   exact hk
  ·rw [if_neg (by simpa using hb), wrap_succ (by omega)]
   have e7 : cnt C.s.blown a (n + 1) = cnt C.s.blown a n := by rw [cnt, if_neg hb]; rfl
   rw [e7] at hk
   exact hk
 ·intro _ h2 hs
  apply hJ
  obtain ⟨w, ok, ld, hl, el⟩ := ref_bl hs ci
  refine ⟨_, ld 2 _ rfl, ?_⟩
  rw [ltI_eq, if_neg (by simp; omega)]
  exact k _ hs
theorem rRevoked_sp {Q : Bool → Int → H → Prop} (hs : Sat h0 A h) (ci : At A i (refE p C)) (key : Int) (k : ∀ h', Sat h0 A h' → Q (revokedM C key).1 (revokedM C key).2 h') : F_portcullisref07_Revoked ⟨p, 0, none⟩ key Q h := by
 unfold F_portcullisref07_Revoked G_portcullisref07_Revoked
 try simp only [add_mk, Nat.zero_add]
 obtain ⟨w, ok, ld, hl, el⟩ := ref_bl hs ci
 refine ⟨_, ld 4 _ rfl, ?_⟩
 refine rmay_sp hs ci _ _ ?_
 unfold revokedM at k
 by_cases e : askedM C key C.cfg.keys = 0
 case neg =>
  rw [if_pos (by simpa using e)] at k ⊢
  exact k _ hs
 obtain ⟨ho, h1, h2⟩ := askedM_zero e
 rw [if_neg (by simpa using e)] at k ⊢
 obtain ⟨x1, x2, x3⟩ := key_in ok h1 h2
 refine ⟨_, _, _, ld 9 _ rfl, _, ld 1 _ rfl, _, ld 2 _ rfl, ?_⟩
 rw [x1]
 obtain ⟨q, hq, hb⟩ := el (C.cfg.slots * C.cfg.fuses + key).toNat (by omega)
 exact ⟨_, hq, by omega, by omega, _, by rw [add_mk, Nat.mul_one, Nat.zero_add]; exact hb, k _ hs⟩
end
end Go.Proofs.YtaglicdidpgkpaaGreatDoor
end

/- Contracts of the fuses' statements: FuseDoes. Own work. -/
section
set_option maxRecDepth 100000
set_option linter.unusedVariables false
namespace Go.Proofs.YtaglicdidpgkpaaGreatDoor
open Go Go.Vc

section
variable {h0 h : H} {A : List Ent} {i j p r : Nat} {C : Cm}
structure Stp7 where
 kind : Int
 a : Int
 n : Int
structure Stp7.ok (s : Stp7) : Prop where
 n : s.n < 2 ^ 63
structure Script7 (h : H) (p : Option Addr) (l : Nat) (sc : List Stp7) : Prop where
 len : sc.length = l
 small : l < 2 ^ 62
 el : ∀ i (hi : i < sc.length), ∃ (q : Addr), p = some q ∧ hc h (q.add (i * 3)) = some (.int .i64 sc[i].kind) ∧ hc h ((q.add (i * 3)).add 1) = some (.int .i64 sc[i].a) ∧
  hc h ((q.add (i * 3)).add 2) = some (.int .i64 sc[i].n) ∧ sc[i].ok
end
end Go.Proofs.YtaglicdidpgkpaaGreatDoor
end

/- Cells' bytes: tables, bytes of numbers, the sum of bytes; laws about numbers alone. Own work. -/
section
set_option maxRecDepth 100000
set_option linter.unusedVariables false
namespace Go.Proofs.YtaglicdidpgkpaaGreatDoor
open Go Go.Vc

def tab (n : Nat) (f : Nat → Int) : List Int := (List.range n).map f
@[simp] theorem tab_length (n : Nat) (f : Nat → Int) : (tab n f).length = n := by simp [tab]
theorem tab_get (n : Nat) (f : Nat → Int) (i : Nat) : (tab n f)[i]? = if i < n then some (f i) else none := by
 unfold tab
 rw [List.getElem?_map]
 by_cases h : i < n
 ·rw [List.getElem?_range h, if_pos h]; rfl
 ·rw [if_neg h, List.getElem?_eq_none (by simpa using h)]; rfl
theorem tab_set (n : Nat) (f : Nat → Int) (k : Nat) (v : Int) : (tab n f).set k v = tab n (fun i => if i = k then v else f i) := by
 apply List.ext_getElem?
 intro i
 rw [List.getElem?_set, tab_get, tab_get]
 by_cases h : k = i
 ·subst h; simp
 ·rw [if_neg h]; simp only [show (i = k) = False by simp; omega, if_false]
theorem tab_ext {n : Nat} {f g : Nat → Int} (h : ∀ i, i < n → f i = g i) : tab n f = tab n g := by
 apply List.ext_getElem?
 intro i
 rw [tab_get, tab_get]
 split
 ·rw [h i (by assumption)]
 ·rfl
theorem zeros_tab (n : Nat) : zeros n = tab n fun _ => 0 := by
 apply List.ext_getElem?
 intro i
 rw [tab_get]
 unfold zeros
 by_cases h : i < n
 ·rw [List.getElem?_replicate, if_pos h]
  try rw [if_pos h]
 ·rw [List.getElem?_replicate, if_neg h]
  try rw [if_neg h]
theorem of_tab (l : List Int) : l = tab l.length fun i => l.getD i 0 := by
 apply List.ext_getElem?
 intro i
 rw [tab_get]
 by_cases h : i < l.length
 ·rw [if_pos h]; simp [List.getD, List.getElem?_eq_getElem h]
 ·rw [if_neg h, List.getElem?_eq_none (by omega)]
theorem ints_tab_set (k : IntKind) (n : Nat) (f : Nat → Int) (j : Nat) (v : Int) : splice (ints k (tab n f)) j [.int k v] = ints k (tab n (fun i => if i = j then v else f i)) := by
 rw [splice_cons, splice_nil, ints_set, tab_set]
def byteAt (n : Int) (i : Nat) : Int := IntKind.u8.wrap (n.fdiv (2 ^ (8 * i)))
theorem wrap_u8_byte (n : Int) : isByte (IntKind.u8.wrap n) := by unfold isByte; rw [IntKind.wrap_u8]; omega
def compl8 (x : Int) : Int := bits .xor .u8 255 x

/-! ### The sum -/
abbrev b32 (x : Int) : BitVec 32 := BitVec.ofInt 32 x
theorem w32_nat (v : BitVec 32) : IntKind.u32.wrap (v.toNat : Int) = (v.toNat : Int) := by
 have := v.isLt
 rw [IntKind.wrap_u32]; omega
theorem b32_nat (v : BitVec 32) : b32 (v.toNat : Int) = v := by simp [b32]
theorem bits_xor32 (x y : Int) : bits .xor .u32 x y = ((b32 x ^^^ b32 y).toNat : Int) := w32_nat (b32 x ^^^ b32 y)
theorem bits_and32 (x y : Int) : bits .and .u32 x y = ((b32 x &&& b32 y).toNat : Int) := w32_nat (b32 x &&& b32 y)
def is32 (x : Int) : Prop := 0 ≤ x ∧ x < 2 ^ 32
theorem is32_nat (v : BitVec 32) : is32 (v.toNat : Int) := by have := v.isLt; unfold is32; omega
theorem of32 {x : Int} (h : is32 x) : ((b32 x).toNat : Int) = x := by
 unfold is32 at h
 simp only [BitVec.toNat_ofInt]
 omega
def crcStep (x : Int) : Int := if bits .and .u32 x 1 = 1 then bits .xor .u32 (x.fdiv (2 ^ 1)) 3988292384 else x.fdiv (2 ^ 1)
def crcIt : Nat → Int → Int
 | 0, x => x
 | n + 1, x => crcIt n (crcStep x)
def vStep (v : BitVec 32) : BitVec 32 := if v.getLsbD 0 = true then (v >>> 1) ^^^ 3988292384#32 else v >>> 1
def vIt : Nat → BitVec 32 → BitVec 32
 | 0, v => v
 | n + 1, v => vIt n (vStep v)
theorem shr_nat (v : BitVec 32) (k : Nat) : ((v.toNat : Int)).fdiv (2 ^ k) = ((v >>> k).toNat : Int) := by
 rw [BitVec.toNat_ushiftRight, Nat.shiftRight_eq_div_pow, Int.fdiv_eq_ediv_of_nonneg _ (Int.le_of_lt (Int.pow_pos (by decide)))]
 simp
theorem crcStep_v (v : BitVec 32) : crcStep (v.toNat : Int) = ((vStep v).toNat : Int) := by
 unfold crcStep vStep
 rw [bits_and32, shr_nat, b32_nat]
 have : ((((v &&& b32 1).toNat : Nat) : Int) = 1) ↔ v.getLsbD 0 = true := by
  have e1 : b32 1 = 1#32 := by decide
  rw [e1]
  have : (v &&& 1#32).toNat = v.toNat % 2 := by
   rw [BitVec.toNat_and]
   exact Nat.and_one_is_mod _
  rw [this]
  have : v.getLsbD 0 = decide (v.toNat % 2 = 1) := by
   rw [BitVec.getLsbD, Nat.testBit_zero]
  rw [this, decide_eq_true_eq]; omega
 by_cases h : v.getLsbD 0 = true
 ·rw [if_pos (this.2 h), if_pos h, bits_xor32, b32_nat]; rfl
 ·rw [if_neg (fun x => h (this.1 x)), if_neg h]
theorem crcIt_v (n : Nat) : ∀ v : BitVec 32, crcIt n (v.toNat : Int) = ((vIt n v).toNat : Int) := by
 induction n with
 | zero => intro v; rfl
 | succ n ih => intro v; unfold crcIt vIt; rw [crcStep_v, ih]
theorem vStep_xor (v w : BitVec 32) : vStep (v ^^^ w) = vStep v ^^^ vStep w := by
 unfold vStep
 have e : (v ^^^ w) >>> 1 = (v >>> 1) ^^^ (w >>> 1) := BitVec.ushiftRight_xor_distrib v w 1
 rw [BitVec.getLsbD_xor, e]
 generalize v >>> 1 = a
 generalize w >>> 1 = b
 generalize 3988292384#32 = P
 cases v.getLsbD 0 <;> cases w.getLsbD 0 <;> simp only [Bool.xor_true, Bool.xor_false, Bool.not_true, Bool.not_false, Bool.false_eq_true, if_true, if_false]
 all_goals
  ext i hi
  simp only [BitVec.getElem_xor]
  cases a[i] <;> cases b[i] <;> cases P[i] <;> rfl
theorem vIt_xor (n : Nat) : ∀ v w : BitVec 32, vIt n (v ^^^ w) = vIt n v ^^^ vIt n w := by
 induction n with
 | zero => intro v w; rfl
 | succ n ih => intro v w; unfold vIt; rw [vStep_xor, ih]
theorem vIt_low (n : Nat) : ∀ v : BitVec 32, (∀ i, i < n → v.getLsbD i = false) → vIt n v = v >>> n := by
 induction n with
 | zero => intro v _; simp [vIt]
 | succ n ih =>
  intro v h
  unfold vIt
  have : vStep v = v >>> 1 := by unfold vStep; rw [h 0 (by omega)]; simp
  rw [this, ih]
  ·rw [← BitVec.shiftRight_add, Nat.add_comm]
  ·intro i hi
   rw [BitVec.getLsbD_ushiftRight]
   have := h (1 + i) (by omega)
   exact this
theorem crc_one (v : BitVec 32) (c : Int) (hc : isByte c) : bits .xor .u32 (crcIt 8 (IntKind.u32.wrap (bits .xor .u8 (IntKind.u8.wrap (v.toNat : Int)) c))) ((v.toNat : Int).fdiv (2 ^ 8)) = crcIt 8 (bits .xor .u32 (v.toNat : Int) (IntKind.u32.wrap c)) := by
 rw [shr_nat, bits_xor8, bits_xor32, bits_xor32]
 obtain ⟨c1, c2⟩ := hc
 have hw : IntKind.u32.wrap c = c := by rw [IntKind.wrap_u32]; omega
 rw [hw]
 have low : (IntKind.u32.wrap ((b8 (IntKind.u8.wrap (v.toNat : Int)) ^^^ b8 c).toNat : Int)) = (((v &&& 255#32) ^^^ b32 c).toNat : Int) := by
  have h1 : (b8 (IntKind.u8.wrap (v.toNat : Int)) ^^^ b8 c).toNat < 256 := (b8 (IntKind.u8.wrap (v.toNat : Int)) ^^^ b8 c).isLt
  rw [IntKind.wrap_u32]
  have h2 : (b8 (IntKind.u8.wrap (v.toNat : Int)) ^^^ b8 c).toNat = ((v &&& 255#32) ^^^ b32 c).toNat := by
   rw [BitVec.toNat_xor, BitVec.toNat_xor, BitVec.toNat_and]
   have e1 : (b8 (IntKind.u8.wrap (v.toNat : Int))).toNat = v.toNat % 256 := by
    simp only [BitVec.toNat_ofInt]; rw [IntKind.wrap_u8]; omega
   have e2 : (b8 c).toNat = c.toNat := by simp only [BitVec.toNat_ofInt]; omega
   have e3 : (b32 c).toNat = c.toNat := by simp only [BitVec.toNat_ofInt]; omega
   have e4 : v.toNat &&& (255#32).toNat = v.toNat % 256 := Nat.and_two_pow_sub_one_eq_mod v.toNat 8
   rw [e1, e2, e3, e4]
  omega
 rw [low, crcIt_v, b32_nat, b32_nat, b32_nat, crcIt_v]
 congr 1
 have split : v ^^^ b32 c = ((v &&& 255#32) ^^^ b32 c) ^^^ (v &&& ~~~ 255#32) := by
  ext i hi
  simp only [BitVec.getElem_xor, BitVec.getElem_and, BitVec.getElem_not]
  cases v[i] <;> cases (b32 c)[i] <;> cases (255#32)[i] <;> rfl
 rw [split, vIt_xor 8 (v &&& 255#32 ^^^ b32 c) (v &&& ~~~ 255#32)]
 congr 1
 have hb : ∀ i, i < 8 → (v &&& ~~~ 255#32).getLsbD i = false := by
  intro i hi
  have : (~~~ 255#32).getLsbD i = false := by
   have : ∀ i, i < 8 → (~~~ 255#32).getLsbD i = false := by decide
   exact this i hi
  rw [BitVec.getLsbD_and, this, Bool.and_false]
 rw [vIt_low 8 _ hb]
 congr 1
 ext i hi
 simp only [BitVec.getElem_ushiftRight, BitVec.getLsbD_and]
 have : ∀ j, j < 32 → (~~~ 255#32).getLsbD j = decide (8 ≤ j) := by decide
 by_cases hj : 8 + i < 32
 ·rw [this _ hj]; simp
 ·rw [BitVec.getLsbD_of_ge _ _ (by omega)]; simp
def crcF (x : Int) (c : Int) : Int := bits .xor .u32 (crcIt 8 (IntKind.u32.wrap (bits .xor .u8 (IntKind.u8.wrap x) c))) (x.fdiv (2 ^ 8))
def crcG (x : Int) (c : Int) : Int := crcIt 8 (bits .xor .u32 x (IntKind.u32.wrap c))
theorem crcFG {x c : Int} (hx : is32 x) (hc : isByte c) : crcF x c = crcG x c ∧ is32 (crcG x c) := by
 have e := of32 hx
 have := crc_one (b32 x) c hc
 rw [e] at this
 refine ⟨this, ?_⟩
 unfold crcG
 rw [bits_xor32, crcIt_v]
 exact is32_nat _
def crcM (bs : List Int) : Int := bits .xor .u32 4294967295 (bs.foldl crcG 4294967295)
theorem crc_fold (bs : List Int) (hb : bytesOk bs) : ∀ x, is32 x → bs.foldl crcF x = bs.foldl crcG x := by
 induction bs with
 | nil => intro x _; rfl
 | cons c r ih =>
  intro x hx
  obtain ⟨e1, e2⟩ := crcFG hx (hb c (by simp))
  rw [List.foldl_cons, List.foldl_cons, e1]
  exact ih (fun n hn => hb n (by simp [hn])) _ e2
theorem crcM_is (bs : List Int) : is32 (crcM bs) := by unfold crcM; rw [bits_xor32]; exact is32_nat _

/-! ### Numbers of eight bytes -/
abbrev b64 (x : Int) : BitVec 64 := BitVec.ofInt 64 x
theorem wrap_u64' (n : Int) : IntKind.u64.wrap n = n % 18446744073709551616 := by simp [IntKind.wrap, IntKind.bits, IntKind.signed]
theorem b64_nat (v : BitVec 64) : b64 (v.toNat : Int) = v := by simp [b64]
theorem or_u64 (x y : Int) : b64 (bits .or .u64 x y) = b64 x ||| b64 y := by
 have : bits .or .u64 x y = IntKind.u64.wrap ((b64 x ||| b64 y).toNat : Int) := rfl
 rw [this]
 have h := (b64 x ||| b64 y).isLt
 have : IntKind.u64.wrap ((b64 x ||| b64 y).toNat : Int) = ((b64 x ||| b64 y).toNat : Int) := by rw [wrap_u64']; omega
 rw [this, b64_nat]
theorem wrap_b64u (x : Int) : b64 (IntKind.u64.wrap x) = b64 x := by
 apply BitVec.eq_of_toNat_eq
 simp only [BitVec.toNat_ofInt]
 rw [wrap_u64']; omega
theorem wrap_b64i (x : Int) : b64 (IntKind.i64.wrap x) = b64 x := by
 apply BitVec.eq_of_toNat_eq
 simp only [BitVec.toNat_ofInt]
 rw [IntKind.wrap_i64]; omega
theorem or_i64 (x y : Int) : b64 (bits .or .i64 x y) = b64 x ||| b64 y := by
 have : bits .or .i64 x y = IntKind.i64.wrap ((b64 x ||| b64 y).toNat : Int) := rfl
 rw [this, wrap_b64i, b64_nat]
theorem wrap_of_b64 {x y : Int} (h : b64 x = b64 y) : IntKind.i64.wrap x = IntKind.i64.wrap y := by
 have h2 := congrArg BitVec.toNat h
 simp only [BitVec.toNat_ofInt] at h2
 rw [IntKind.wrap_i64, IntKind.wrap_i64]; omega
def gotU (l : List Int) : Nat → Int
 | 0 => 0
 | n + 1 => bits .or .u64 (gotU l n) (IntKind.u64.wrap (IntKind.u64.wrap (l.getD n 0) * 2 ^ (8 * n)))
def gotI (l : List Int) : Nat → Int
 | 0 => 0
 | n + 1 => bits .or .i64 (gotI l n) (IntKind.i64.wrap (IntKind.i64.wrap (l.getD n 0) * 2 ^ (8 * n)))
theorem got_b (l : List Int) (hb : bytesOk l) (n : Nat) : b64 (gotU l n) = b64 (gotI l n) := by
 induction n with
 | zero => rfl
 | succ n ih =>
  unfold gotU gotI
  rw [or_u64, or_i64, ih, wrap_b64u, wrap_b64i]
  have : isByte (l.getD n 0) := by
   rw [List.getD_eq_getElem?_getD]
   cases e : l[n]? with
   | none => exact ⟨by decide, by decide⟩
   | some v => exact hb v (List.mem_iff_getElem?.2 ⟨n, e⟩)
  obtain ⟨h1, h2⟩ := this
  have e1 : IntKind.u64.wrap (l.getD n 0) = l.getD n 0 := by rw [wrap_u64']; omega
  have e2 : IntKind.i64.wrap (l.getD n 0) = l.getD n 0 := by rw [IntKind.wrap_i64]; omega
  rw [e1, e2]
theorem gotI_range (l : List Int) (n : Nat) : IntKind.i64.wrap (gotI l n) = gotI l n := by
 cases n with
 | zero => exact (by decide : IntKind.i64.wrap 0 = 0)
 | succ n =>
  unfold gotI
  have : ∀ x y, IntKind.i64.wrap (bits .or .i64 x y) = bits .or .i64 x y := by
   intro x y
   have : bits .or .i64 x y = IntKind.i64.wrap ((b64 x ||| b64 y).toNat : Int) := rfl
   rw [this, IntKind.wrap_i64, IntKind.wrap_i64]; omega
  exact this _ _
theorem got_eq (l : List Int) (hb : bytesOk l) (n : Nat) : IntKind.i64.wrap (gotU l n) = gotI l n := by
 rw [wrap_of_b64 (got_b l hb n), gotI_range]
end Go.Proofs.YtaglicdidpgkpaaGreatDoor

/- Contracts of sums, rails and cells. Own work. -/
set_option maxRecDepth 100000
set_option linter.unusedVariables false
namespace Go.Proofs.YtaglicdidpgkpaaGreatDoor
open Go Go.Vc

section
variable {h0 h : H} {A : List Ent} {i j p r b : Nat} {C : Cm}
theorem max32 : (if IntKind.u32.signed = true then (-1 : Int) else IntKind.u32.max) = 4294967295 := by decide
theorem max8 : (if IntKind.u8.signed = true then (-1 : Int) else IntKind.u8.max) = 255 := by decide
theorem Sat.tab_to {N : Nat} {f g : Nat → Int} {k : IntKind} (hs : Sat h0 (blk b (ints k (tab N f)) :: A) h) (e : ∀ i, i < N → f i = g i) : Sat h0 (blk b (ints k (tab N g)) :: A) h := by
 rw [← tab_ext e]; exact hs
theorem Sat.part (hs : Sat h0 A h) {ms xs : List Int} {k : IntKind} (m : At A i (blk b (ints k ms))) (o : Nat) (e : (ms.drop o).take xs.length = xs) : hsv h (some ⟨b, o, none⟩) 1 xs.length (ints k xs) := by
 refine ⟨by simp, ints_one _ _, Or.inr ⟨_, rfl, hs.cs m ?_⟩⟩
 rw [ints_length]
 unfold ints
 rw [← List.map_drop, ← List.map_take, e]
theorem hsv_int {p : Option Addr} {l : Nat} {k : IntKind} {ns : List Int} {x : Nat} (rd : hsv h p 1 l (ints k ns)) (hx : x < l) : ∃ q, p = some q ∧ hc h (q.add x) = some (.int k (ns.getD x 0)) := by
 have hl : ns.length = l := by have := rd.1; simpa using this
 obtain ⟨q, hq, g⟩ := hsv_get rd (i := x) (v := .int k (ns.getD x 0)) (by rw [ints_get, List.getElem?_eq_getElem (by omega)]; simp [List.getD, List.getElem?_eq_getElem (show x < ns.length by omega)])
 exact ⟨q, hq, g⟩
theorem eight_sp {Q : Int → H → Prop} {x : Int} (hs : Sat h0 A h) (k : ∀ h', Sat h0 A h' → Q (crcIt 8 (IntKind.u32.wrap x)) h') : F_crc_eight x Q h := by
 unfold F_crc_eight G_crc_eight
 intro J hJ
 generalize hR : crcIt 8 (IntKind.u32.wrap x) = R at k
 refine loop_st 8 (fun n (y : Int) => [.dv (.one (.int .u32 y)), .dv (.one (.int .i64 (n : Int)))]) (fun n y h => Sat h0 A h ∧ crcIt (8 - n) y = R) ?_ ?_ 0 _ _ (by omega) ⟨hs, hR⟩
 ·rintro n y h1 hn ⟨hs, hy⟩ hk
  apply hJ
  rw [ltI_eq, if_pos (by simp; omega)]
  refine ⟨by decide, ?_⟩
  obtain ⟨m, hm⟩ : ∃ m, 8 - n = m + 1 := ⟨7 - n, by omega⟩
  rw [hm] at hy
  unfold crcIt crcStep at hy
  rw [wrap_succ (by omega)]
  split
  ·rename_i h2
   intro _ e; subst e
   refine hk _ _ ⟨hs, ?_⟩
   rw [if_pos (by simpa using h2)] at hy
   rw [show 8 - (n + 1) = m by omega]; exact hy
  ·rename_i h2
   refine hk _ _ ⟨hs, ?_⟩
   rw [if_neg (by simpa using h2)] at hy
   rw [show 8 - (n + 1) = m by omega]; exact hy
 ·rintro y h1 ⟨hs, hy⟩
  apply hJ
  rw [ltI_eq, if_neg (by simp)]
  have hy : y = R := hy
  rw [hy]
  exact k _ hs
theorem getD_snoc (bs : List Int) (n : Nat) (hn : n < bs.length) (f : Int → Int → Int) (x : Int) : (bs.take (n + 1)).foldl f x = f ((bs.take n).foldl f x) (bs.getD n 0) := by
 rw [List.take_succ, List.foldl_append]
 simp [List.getElem?_eq_getElem hn]
theorem Write_sp {Q : H → Prop} {t : Int} {s : Nat} {q : Option Addr} {l c : Nat} {bs : List Int} (hs : Sat h0 A h) (m : At A i (blk s [.int .u32 t])) (rd : ∀ h', Sat h0 A h' → hsv h' q 1 l (ints .u8 bs)) (hl : l < 2 ^ 62)
  (k : ∀ h', Sat h0 (put A i (blk s [.int .u32 (bits .xor .u32 4294967295 (bs.foldl crcF (bits .xor .u32 4294967295 t)))])) h' → Q h') : F_crc_Sum_Write ⟨s, 0, none⟩ q l c Q h := by
 unfold F_crc_Sum_Write G_crc_Sum_Write
 simp only [max32]
 refine ⟨_, hs.ld m rfl, ?_⟩
 have hbl : bs.length = l := by have := (rd _ hs).1; simpa using this
 intro J hJ
 refine loop_st l (fun n (_ : Unit) => [.dv (.one (.int .u32 ((bs.take n).foldl crcF (bits .xor .u32 4294967295 t)))), .dv (.one (.int .i64 (n : Int)))]) (fun n _ h => Sat h0 A h) ?_ ?_ 0 () _ (by omega) hs
 ·intro n _ h1 hn hs hk
  apply hJ
  rw [ltI_eq, if_pos (by simp; omega)]
  obtain ⟨q', hq, g⟩ := hsv_int (rd _ hs) hn
  refine ⟨_, hq, by omega, by omega, _, by rw [Int.toNat_natCast, Nat.mul_one]; exact g, ?_⟩
  refine eight_sp hs ?_
  intro h2 hs
  refine ⟨by decide, ?_⟩
  have := hk () _ hs
  rw [getD_snoc bs n (by omega)] at this
  rw [wrap_succ (by omega)]
  exact this
 ·intro _ h1 hs
  apply hJ
  rw [ltI_eq, if_neg (by simp), List.take_of_length_le (by omega)]
  refine ⟨hs.can m (by simp), ?_⟩
  intro h2 e
  exact k _ (hs.wr m e)
theorem crcOf_sp {Q : Int → H → Prop} {q : Option Addr} {l c : Nat} {bs : List Int} (hs : Sat h0 A h) (rd : ∀ h', Sat h0 A h' → hsv h' q 1 l (ints .u8 bs)) (hb : bytesOk bs) (hl : l < 2 ^ 62)
  (k : ∀ h', Sat h0 A h' → Q (crcM bs) h') : F_crc_Of q l c Q h := by
 unfold F_crc_Of G_crc_Of F_crc_New G_crc_New
 intro n1 _ hn; replace hs := Sat.new hs hn; clear hn
 refine ⟨_, rfl, ?_⟩
 refine Write_sp hs .z (fun h' hs' => rd h' hs'.drop) hl ?_
 intro h1 hs
 refine ⟨_, rfl, ?_⟩
 unfold F_crc_Sum_Sum G_crc_Sum_Sum
 refine ⟨_, hs.ld (.z) rfl, ?_⟩
 have e0 : bits .xor .u32 4294967295 0 = 4294967295 := by decide
 rw [e0, crc_fold bs hb _ ⟨by decide, by decide⟩]
 exact k _ hs.drop
theorem step8_eq {n : Nat} (h : n < 8) : min (IntKind.i64.wrap (8 * (n : Int))).toNat 64 = 8 * n := by
 rw [wrap_id (by omega)]; omega
theorem put_sp {Q : H → Prop} {N o l c : Nat} {f : Nat → Int} (x : Int) (hs : Sat h0 A h) (m : At A i (blk b (ints .u8 (tab N f)))) (hl : l ≤ 8) (ho : o + l ≤ N)
  (k : ∀ h', Sat h0 (put A i (blk b (ints .u8 (tab N fun k => if o ≤ k ∧ k < o + l then byteAt x (k - o) else f k)))) h' → Q h') : F_cell_put (some ⟨b, o, none⟩) l c x Q h := by
 unfold F_cell_put G_cell_put
 intro J hJ
 refine loop_up l (fun n h => Sat h0 (put A i (blk b (ints .u8 (tab N fun k => if o ≤ k ∧ k < o + n then byteAt x (k - o) else f k)))) h) ?_ ?_ 0 _ (by omega) ?_
 ·intro n h1 hn hs hk
  apply hJ
  rw [ltI_eq, if_pos (by simp; omega)]
  rw [step8_eq (by omega)]
  refine ⟨by rw [wrap_id (by omega)]; omega, _, rfl, by omega, by omega, ?_⟩
  rw [Int.toNat_natCast, Nat.mul_one, add_mk]
  refine ⟨hs.can (m.put _) (by simp; omega), ?_⟩
  intro h2 e
  replace hs := hs.wr (m.put _) e
  rw [put_put, ints_tab_set] at hs
  rw [wrap_succ (by omega)]
  refine hk _ ?_
  have : (tab N fun k => if o ≤ k ∧ k < o + (n + 1) then byteAt x (k - o) else f k) = tab N (fun i => if i = o + n then IntKind.u8.wrap (x.fdiv (2 ^ (8 * n))) else if o ≤ i ∧ i < o + n then byteAt x (i - o) else f i) := by
   apply tab_ext
   intro i hi
   by_cases e : i = o + n
   ·rw [if_pos e, if_pos (by omega), e, Nat.add_sub_cancel_left]; rfl
   ·rw [if_neg e]
    by_cases e2 : o ≤ i ∧ i < o + n
    ·rw [if_pos e2, if_pos (by omega)]
    ·rw [if_neg e2, if_neg (by omega)]
  rw [this]; exact hs
 ·intro h1 hs
  apply hJ
  rw [ltI_eq, if_neg (by simp)]
  exact k _ hs
 ·have : (tab N fun k => if o ≤ k ∧ k < o + 0 then byteAt x (k - o) else f k) = tab N f := tab_ext fun i _ => if_neg (by omega)
  rw [this, m.put_self]; exact hs
theorem got_sp {Q : Int → H → Prop} {q : Option Addr} {l c : Nat} {bs : List Int} (hs : Sat h0 A h) (rd : ∀ h', Sat h0 A h' → hsv h' q 1 l (ints .u8 bs)) (hl : l ≤ 8) (k : ∀ h', Sat h0 A h' → Q (gotU bs l) h') : F_cell_got q l c Q h := by
 unfold F_cell_got G_cell_got
 intro J hJ
 refine loop_st l (fun n (_ : Unit) => [.dv (.one (.int .u64 (gotU bs n))), .dv (.one (.int .i64 (n : Int)))]) (fun n _ h => Sat h0 A h) ?_ ?_ 0 () _ (by omega) hs
 ·intro n _ h1 hn hs hk
  apply hJ
  rw [ltI_eq, if_pos (by simp; omega)]
  obtain ⟨q', hq, g⟩ := hsv_int (rd _ hs) hn
  refine ⟨_, hq, by omega, by omega, _, by rw [Int.toNat_natCast, Nat.mul_one]; exact g, by rw [wrap_id (by omega)]; omega, ?_⟩
  rw [step8_eq (by omega), wrap_succ (by omega)]
  exact hk () _ hs
 ·intro _ h1 hs
  apply hJ
  rw [ltI_eq, if_neg (by simp)]
  exact k _ hs
theorem flat_bytes (n : Nat) : (List.replicate n [Value.int .u8 0]).flatten = ints .u8 (tab n fun _ => 0) := by
 rw [← zeros_tab]; simp [ints, zeros]
theorem railPut_sp {Q : Option Addr → Nat → Nat → H → Prop} {q : Option Addr} {l c : Nat} {bs : List Int} (hs : Sat h0 A h) (rd : ∀ h', Sat h0 A h' → hsv h' q 1 l (ints .u8 bs)) (hl : l ≤ 2 ^ 40)
  (k : ∀ n h', Sat h0 (blk n (ints .u8 (tab (2 * l) fun k => if k < l then bs.getD k 0 else compl8 (bs.getD (k - l) 0))) :: A) h' → Q (some ⟨n, 0, none⟩) (2 * l) (2 * l) h') : F_rail_Put q l c Q h := by
 unfold F_rail_Put G_rail_Put
 have e1 : IntKind.i64.wrap (2 * (l : Int)) = ((2 * l : Nat) : Int) := by rw [wrap_id (by omega)]; omega
 simp only [e1, max8, Int.toNat_natCast]
 refine ⟨by omega, by omega, by omega, by omega, ?_⟩
 intro n1 _ hn
 rw [flat_bytes] at hn
 replace hs := Sat.new hs hn; clear hn
 unfold F_rail_halves G_rail_halves
 have e2 : IntKind.i64.wrap ((((2 * l : Nat) : Int)).tdiv 2) = (l : Int) := by rw [Int.tdiv_eq_ediv_of_nonneg (by omega), wrap_id (by omega)]; omega
 simp only [e2, e1, Int.toNat_natCast]
 refine ⟨by decide, by omega, by omega, by omega, by omega, by omega, by omega, by omega, ?_⟩
 have hbl : bs.length = l := by have := (rd _ hs.drop).1; simpa using this
 intro J hJ
 have a1 : 0 < l → subAddr (some ⟨n1, 0, none⟩) 0 l 1 = some ⟨n1, 0, none⟩ := by
  intro h; unfold subAddr; rw [if_neg (by omega)]; simp [add_mk]
 have a2 : 0 < l → subAddr (some ⟨n1, 0, none⟩) l (2 * l) 1 = some ⟨n1, l, none⟩ := by
  intro h; unfold subAddr; rw [if_neg (by omega)]; simp [add_mk]
 refine loop_up l (fun n h => Sat h0 (blk n1 (ints .u8 (tab (2 * l) fun k => if k < n then bs.getD k 0 else if l ≤ k ∧ k < l + n then compl8 (bs.getD (k - l) 0) else 0)) :: A) h) ?_ ?_ 0 _ (by omega) ?_
 ·intro n h1 hn hs hk
  apply hJ
  rw [ltI_eq, if_pos (by simp; omega)]
  obtain ⟨q', hq, g⟩ := hsv_int (rd _ hs.drop) hn
  refine ⟨_, hq, by omega, by omega, _, by rw [Int.toNat_natCast, Nat.mul_one]; exact g, ?_⟩
  refine ⟨_, hq, by omega, by omega, _, by rw [Int.toNat_natCast, Nat.mul_one]; exact g, ?_⟩
  refine ⟨_, a1 (by omega), by omega, by omega, ?_⟩
  rw [Int.toNat_natCast, Nat.mul_one, add_mk]
  refine ⟨hs.can .z (by simp; omega), ?_⟩
  intro h2 e
  replace hs := hs.wr .z e
  rw [put_zero, ints_tab_set] at hs
  refine ⟨_, a2 (by omega), by omega, by omega, ?_⟩
  rw [add_mk]
  refine ⟨hs.can .z (by simp; omega), ?_⟩
  intro h3 e
  replace hs := hs.wr .z e
  rw [put_zero, ints_tab_set] at hs
  rw [wrap_succ (by omega)]
  refine hk _ ?_
  refine Sat.tab_to hs fun i hi => ?_
  by_cases e : i = l + n
  ·rw [if_pos e, if_neg (by omega), if_pos (by omega), e, Nat.add_sub_cancel_left]; rfl
  ·rw [if_neg e]
   by_cases e2 : i = 0 + n
   ·rw [if_pos e2, if_pos (by omega), show i = n by omega]
   ·rw [if_neg e2]
    by_cases e3 : i < n
    ·rw [if_pos e3, if_pos (by omega)]
    ·rw [if_neg e3]
     by_cases e4 : l ≤ i ∧ i < l + n
     ·rw [if_pos e4, if_neg (show ¬ i < n + 1 by omega), if_pos (show l ≤ i ∧ i < l + (n + 1) by omega)]
     ·rw [if_neg e4, if_neg (show ¬ i < n + 1 by omega), if_neg (show ¬ (l ≤ i ∧ i < l + (n + 1)) by omega)]
 ·intro h1 hs
  apply hJ
  rw [ltI_eq, if_neg (by simp)]
  refine k _ _ ?_
  refine Sat.tab_to hs fun i hi => ?_
  by_cases e : i < l
  ·rw [if_pos e, if_pos e]
  ·rw [if_neg e, if_neg e, if_pos (by omega)]
 ·refine Sat.tab_to hs fun i hi => ?_
  rw [if_neg (by omega), if_neg (by omega)]
def bodyF (kind slot n : Int) (k : Nat) : Int := if k = 0 then kind else if k = 1 then IntKind.u8.wrap slot else if k < 4 then 0 else if k < 12 then byteAt (IntKind.u64.wrap n) (k - 4) else 0
def bodyM (kind slot n : Int) (k : Nat) : Int := if 12 ≤ k then byteAt (crcM (tab 12 (bodyF kind slot n))) (k - 12) else bodyF kind slot n k
def laidM (kind slot n : Int) : List Int := tab 32 fun k => if k < 16 then bodyM kind slot n k else compl8 (bodyM kind slot n (k - 16))
theorem bodyF_byte {kind slot n : Int} (hk : isByte kind) (k : Nat) : isByte (bodyF kind slot n k) := by
 unfold bodyF
 repeat' split
 ·exact hk
 ·exact wrap_u8_byte _
 ·exact ⟨by decide, by decide⟩
 ·exact wrap_u8_byte _
 ·exact ⟨by decide, by decide⟩
theorem tab_bytes {n : Nat} {f : Nat → Int} (h : ∀ k, isByte (f k)) : bytesOk (tab n f) := by
 intro x hx
 simp only [tab, List.mem_map] at hx
 obtain ⟨k, _, rfl⟩ := hx
 exact h k
theorem laid_sp {Q : List Int → H → Prop} (kind slot n : Int) (hk : isByte kind) (hs : Sat h0 A h) (k : ∀ h', Sat h0 A h' → Q (laidM kind slot n) h') : F_cell_laid kind slot n Q h := by
 unfold F_cell_laid G_cell_laid
 try simp only [add_mk, Nat.zero_add, List.append_nil]
 intro n1 _ hn; replace hs := Sat.new hs hn; clear hn
 intro n2 _ hn; replace hs := Sat.new hs hn; clear hn
 (refine ⟨Sat.can hs (by (repeat (first | exact At.z | apply At.s))) (by simp), ?_⟩; intro _ e; replace hs := Sat.wra hs (by (repeat (first | exact At.z | apply At.s))) e (by simp [*]); clear e; simp only [put] at hs)
 have e0 : [kind, IntKind.u8.wrap slot, 0, 0, 0, 0, 0, 0, 0, 0, 0, 0, 0, 0, 0, 0] = tab 16 (fun k => if k = 0 then kind else if k = 1 then IntKind.u8.wrap slot else 0) := rfl
 rw [e0] at hs
 refine ⟨by decide, by decide, by decide, ?_⟩
 rw [show subAddr (some ⟨n2, 0, none⟩) 4 16 1 = some ⟨n2, 4, none⟩ from rfl]
 refine put_sp (IntKind.u64.wrap n) hs .z (by decide) (by decide) ?_
 intro h1 hs
 rw [put_zero] at hs
 have e1 : (tab 16 fun k => if 4 ≤ k ∧ k < 4 + 8 then byteAt (IntKind.u64.wrap n) (k - 4) else if k = 0 then kind else if k = 1 then IntKind.u8.wrap slot else 0) = tab 16 (bodyF kind slot n) := by
  apply tab_ext
  intro i hi
  unfold bodyF
  by_cases q1 : i = 0
  ·rw [if_neg (by omega), if_pos q1, if_pos q1]
  by_cases q2 : i = 1
  ·rw [if_neg (by omega), if_neg q1, if_pos q2, if_neg q1, if_pos q2]
  rw [if_neg q1, if_neg q2, if_neg q1, if_neg q2]
  by_cases q3 : i < 4
  ·rw [if_neg (by omega), if_pos q3]
  rw [if_neg q3]
  by_cases q4 : i < 12
  ·rw [if_pos (by omega), if_pos q4]
  ·rw [if_neg (by omega), if_neg q4]
 rw [e1] at hs
 refine ⟨by decide, by decide, by decide, by decide, ?_⟩
 have e2 : ((tab 16 (bodyF kind slot n)).drop 0).take (tab 12 (bodyF kind slot n)).length = tab 12 (bodyF kind slot n) := rfl
 refine crcOf_sp (bs := tab 12 (bodyF kind slot n)) hs (fun h' hs' => Sat.part hs' .z 0 e2) (tab_bytes (bodyF_byte hk)) (by decide) ?_
 intro h2 hs
 have e3 : IntKind.u64.wrap (crcM (tab 12 (bodyF kind slot n))) = crcM (tab 12 (bodyF kind slot n)) := by
  obtain ⟨c1, c2⟩ := crcM_is (tab 12 (bodyF kind slot n))
  rw [wrap_u64']; omega
 rw [e3]
 refine put_sp (crcM (tab 12 (bodyF kind slot n))) hs .z (by decide) (by decide) ?_
 intro h3 hs
 rw [put_zero] at hs
 have e4 : (tab 16 fun k => if 12 ≤ k ∧ k < 12 + 4 then byteAt (crcM (tab 12 (bodyF kind slot n))) (k - 12) else bodyF kind slot n k) = tab 16 (bodyM kind slot n) := by
  apply tab_ext
  intro i hi
  unfold bodyM
  by_cases q1 : 12 ≤ i
  ·rw [if_pos (by omega), if_pos q1]
  ·rw [if_neg (by omega), if_neg q1]
 rw [e4] at hs
 intro n3 _ hn; replace hs := Sat.new hs hn; clear hn
 have e5 : ((tab 16 (bodyM kind slot n)).drop 0).take (tab 16 (bodyM kind slot n)).length = tab 16 (bodyM kind slot n) := rfl
 refine railPut_sp (bs := tab 16 (bodyM kind slot n)) hs (fun h' hs' => Sat.part hs' (.s .z) 0 e5) (by decide) ?_
 intro n4 h4 hs
 have e6 : (tab (2 * 16) fun k => if k < 16 then (tab 16 (bodyM kind slot n)).getD k 0 else compl8 ((tab 16 (bodyM kind slot n)).getD (k - 16) 0)) = laidM kind slot n := rfl
 rw [e6] at hs
 have hll : (laidM kind slot n).length = 32 := rfl
 refine ⟨ints .u8 (laidM kind slot n), ⟨by rw [ints_length, hll]; rfl, ints_one _ _, Or.inr ⟨_, rfl, hs.cs .z (by rw [ints_length, hll]; exact List.take_of_length_le (by rw [List.drop_zero, ints_length, hll]; decide))⟩⟩, Or.inr ⟨_, rfl, hs.can (.s .z) (by decide)⟩, ?_⟩
 intro h5 e
 replace hs := Sat.wra hs (.s .z) e (by rw [ints_length, ints_length, hll]; rfl)
 simp only [put] at hs
 refine ⟨_, hll, hs.row0 (.s .z), ?_⟩
 (refine ⟨Sat.can hs (by (repeat (first | exact At.z | apply At.s))) (by simp), ?_⟩; intro _ e; replace hs := Sat.wra hs (by (repeat (first | exact At.z | apply At.s))) e (by simp [*]); clear e; simp only [put] at hs)
 refine ⟨_, hll, hs.row0 (by (repeat (first | exact At.z | apply At.s))), ?_⟩
 exact k _ hs.drop.drop.drop.drop
end
end Go.Proofs.YtaglicdidpgkpaaGreatDoor

/- Contracts of cells: Head, Value, Blank, Read. Own work. -/
set_option maxRecDepth 100000
set_option linter.unusedVariables false
namespace Go.Proofs.YtaglicdidpgkpaaGreatDoor
open Go Go.Vc

section
variable {h0 h : H} {A : List Ent} {i j p r b : Nat} {C : Cm}
theorem Sat.whole (hs : Sat h0 A h) {vs : List Value} (m : At A i (blk b vs)) : hcs h ⟨b, 0, none⟩ vs := hs.cs m (by rw [List.drop_zero, List.take_length])
def most : Int := 4611686018427387904
theorem laidM_length (kind slot n : Int) : (laidM kind slot n).length = 32 := rfl
def headM (n : Int) : List Int × Int := if n < 1 then (zeros 32, 2) else if most < n then (zeros 32, 2) else (laidM 1 0 n, 0)
def valueM (slot n : Int) : List Int × Int := if slot < 0 then (zeros 32, 2) else if 8 < slot then (zeros 32, 2) else if n < 1 then (zeros 32, 2) else if most < n then (zeros 32, 2) else (laidM 2 slot n, 0)
theorem headM_length (n : Int) : (headM n).1.length = 32 := by unfold headM; (repeat' split) <;> rfl
theorem valueM_length (slot n : Int) : (valueM slot n).1.length = 32 := by unfold valueM; (repeat' split) <;> rfl
def ffs : List Int := tab 32 fun _ => 255
theorem Blank_sp {Q : List Int → H → Prop} (hs : Sat h0 A h) (k : ∀ h', Sat h0 A h' → Q ffs h') : F_cell_Blank Q h := by
 unfold F_cell_Blank G_cell_Blank
 try simp only [add_mk, Nat.zero_add, List.append_nil]
 intro n1 _ hn; replace hs := Sat.new hs hn; clear hn
 intro n2 _ hn; replace hs := Sat.new hs hn; clear hn
 rw [zeros_tab] at hs
 intro J hJ
 refine loop_up 32 (fun n h => Sat h0 (blk n2 (ints .u8 (tab 32 fun i => if i < n then 255 else 0)) :: blk n1 (ints .u8 (tab 32 fun _ => 0)) :: A) h) ?_ ?_ 0 _ (by omega) ?_
 ·intro n h1 hn hs hk
  apply hJ
  rw [ltI_eq, if_pos (by simp; omega)]
  refine ⟨by omega, by omega, ?_⟩
  rw [Int.toNat_natCast, Nat.mul_one]
  refine ⟨hs.can .z (by simp; omega), ?_⟩
  intro h2 e
  replace hs := hs.wr .z e
  rw [put_zero, ints_tab_set] at hs
  rw [wrap_succ (by omega)]
  refine hk _ (Sat.tab_to hs fun i hi => ?_)
  by_cases e : i = n
  ·rw [if_pos e, if_pos (by omega)]
  ·rw [if_neg e]
   by_cases e2 : i < n
   ·rw [if_pos e2, if_pos (by omega)]
   ·rw [if_neg e2, if_neg (by omega)]
 ·intro h1 hs
  apply hJ
  rw [ltI_eq, if_neg (by simp)]
  replace hs := Sat.tab_to (g := fun _ => 255) hs fun i hi => if_pos hi
  refine ⟨ffs, rfl, hs.row0 .z, ?_⟩
  have hll : ffs.length = 32 := rfl
  (refine ⟨Sat.can hs (by (repeat (first | exact At.z | apply At.s))) (by simp), ?_⟩; intro _ e; replace hs := Sat.wra hs (by (repeat (first | exact At.z | apply At.s))) e (by simp [*]); clear e; simp only [put] at hs)
  refine ⟨_, hll, hs.row0 (by (repeat (first | exact At.z | apply At.s))), ?_⟩
  exact k _ hs.drop.drop
 ·exact Sat.tab_to hs fun i hi => (if_neg (by omega)).symm
def recM (x : List Int) : Int × Int × Int :=
 if x = ffs then (0, 0, 0)
 else if gotI ((x.drop 4).take 8) 8 < 1 then (3, 0, 0)
 else if most < gotI ((x.drop 4).take 8) 8 then (3, 0, 0)
 else if x.getD 0 0 = 1 ∧ x = laidM 1 0 (gotI ((x.drop 4).take 8) 8) then (1, 0, gotI ((x.drop 4).take 8) 8)
 else if x.getD 0 0 = 2 ∧ x.getD 1 0 ≤ 8 ∧ x = laidM 2 (x.getD 1 0) (gotI ((x.drop 4).take 8) 8) then (2, x.getD 1 0, gotI ((x.drop 4).take 8) 8)
 else (3, 0, 0)
theorem Read3_sp {Q : Int → Int → Int → H → Prop} (x : List Int) (hx : x.length = 32) (hb : bytesOk x) (hs : Sat h0 A h) (k : ∀ h', Sat h0 A h' → Q (recM x).1 (recM x).2.1 (recM x).2.2 h') : F_cell_Read x Q h := by
 unfold F_cell_Read G_cell_Read
 try simp only [add_mk, Nat.zero_add, List.append_nil]
 intro n1 _ hn; replace hs := Sat.new hs hn; clear hn
 intro n2 _ hn; replace hs := Sat.new hs hn; clear hn
 refine ⟨by decide, by decide, by decide, ?_⟩
 rw [show subAddr (some ⟨n1, 0, none⟩) 4 32 1 = some ⟨n1, 4, none⟩ from rfl]
 have el : ((x.drop 4).take 8).length = 8 := by simp [hx]
 have e2 : (x.drop 4).take ((x.drop 4).take 8).length = (x.drop 4).take 8 := by rw [el]
 have hsub : bytesOk ((x.drop 4).take 8) := fun v hv => hb v (List.mem_of_mem_drop (List.mem_of_mem_take hv))
 refine got_sp (bs := (x.drop 4).take 8) hs (fun h' hs' => by
  have := Sat.part hs' (.s .z) 4 e2
  rw [el] at this; exact this) (by decide) ?_
 intro h1 hs
 unfold recM at k
 have eg := got_eq ((x.drop 4).take 8) hsub 8
 rw [eg]
 generalize gotI ((x.drop 4).take 8) 8 = g at k
 have x0 := hb (x.getD 0 0) (by rw [List.getD_eq_getElem?_getD, List.getElem?_eq_getElem (by omega)]; exact List.getElem_mem _)
 have x1 := hb (x.getD 1 0) (by rw [List.getD_eq_getElem?_getD, List.getElem?_eq_getElem (by omega)]; exact List.getElem_mem _)
 have g0 : (ints .u8 x)[0]? = some (.int .u8 (x.getD 0 0)) := by rw [ints_get, List.getElem?_eq_getElem (by omega)]; simp [List.getD, List.getElem?_eq_getElem (show 0 < x.length by omega)]
 have g1 : (ints .u8 x)[1]? = some (.int .u8 (x.getD 1 0)) := by rw [ints_get, List.getElem?_eq_getElem (by omega)]; simp [List.getD, List.getElem?_eq_getElem (show 1 < x.length by omega)]
 refine ⟨by decide, by decide, _, hs.ld (.s .z) g1, x, hx, hs.row0 (.s .z), ?_⟩
 have ew1 : IntKind.i64.wrap (x.getD 1 0) = x.getD 1 0 := by obtain ⟨q1, q2⟩ := x1; rw [wrap_id (by omega)]
 rw [ew1]
 refine Blank_sp hs ?_
 intro h2 hs
 refine ⟨Sat.whole hs (.s .z), ?_⟩
 by_cases c1 : x = ffs
 ·rw [if_pos c1] at k
  rw [if_pos (by rw [c1]; simp)]
  (refine ⟨Sat.can hs (by (repeat (first | exact At.z | apply At.s))) (by simp), ?_⟩; intro _ e; replace hs := Sat.wra hs (by (repeat (first | exact At.z | apply At.s))) e (by simp [*]); clear e; simp only [put] at hs)
  refine ⟨_, Sat.ld hs (by (repeat (first | exact At.z | apply At.s))) (by rfl), ?_⟩
  refine ⟨_, Sat.ld hs (by (repeat (first | exact At.z | apply At.s))) (by rfl), ?_⟩
  refine ⟨_, Sat.ld hs (by (repeat (first | exact At.z | apply At.s))) (by rfl), ?_⟩
  exact k _ hs.drop.drop
 rw [if_neg c1] at k
 rw [if_neg (by simpa using c1)]
 intro J hJ
 have torn : ∀ (bb : Bool), (bb = true → g < 1 ∨ most < g) → (bb = false → ¬ g < 1 ∧ ¬ most < g) → J [.dv (.one (.bool bb))] h2 := by
  intro bb b1 b2
  apply hJ
  by_cases c2 : bb = true
  ·rw [if_pos c2]
   (refine ⟨Sat.can hs (by (repeat (first | exact At.z | apply At.s))) (by simp), ?_⟩; intro _ e; replace hs := Sat.wra hs (by (repeat (first | exact At.z | apply At.s))) e (by simp [*]); clear e; simp only [put] at hs)
   refine ⟨_, Sat.ld hs (by (repeat (first | exact At.z | apply At.s))) (by rfl), ?_⟩
   refine ⟨_, Sat.ld hs (by (repeat (first | exact At.z | apply At.s))) (by rfl), ?_⟩
   refine ⟨_, Sat.ld hs (by (repeat (first | exact At.z | apply At.s))) (by rfl), ?_⟩
   rcases b1 c2 with b1 | b1
   ·rw [if_pos b1] at k
    exact k _ hs.drop.drop
   ·rw [if_neg (by unfold most at b1; omega), if_pos b1] at k
    exact k _ hs.drop.drop
  rw [if_neg c2]
  obtain ⟨b3, b4⟩ := b2 (by simpa using c2)
  rw [if_neg b3, if_neg b4] at k
  intro J2 hJ2
  have two : ∀ (cc : Bool), (cc = true ↔ x.getD 0 0 = 1 ∧ x = laidM 1 0 g) → ∀ h3, Sat h0 (blk n2 [.int .i64 0, .int .i64 0, .int .i64 0] :: blk n1 (ints .u8 x) :: A) h3 → J2 [.dv (.one (.bool cc))] h3 := by
   intro cc c3 h3 hs
   apply hJ2
   by_cases c4 : cc = true
   ·rw [if_pos c4]
    rw [if_pos (c3.1 c4)] at k
    (refine ⟨Sat.can hs (by (repeat (first | exact At.z | apply At.s))) (by simp), ?_⟩; intro _ e; replace hs := Sat.wra hs (by (repeat (first | exact At.z | apply At.s))) e (by simp [*]); clear e; simp only [put] at hs)
    refine ⟨_, Sat.ld hs (by (repeat (first | exact At.z | apply At.s))) (by rfl), ?_⟩
    refine ⟨_, Sat.ld hs (by (repeat (first | exact At.z | apply At.s))) (by rfl), ?_⟩
    refine ⟨_, Sat.ld hs (by (repeat (first | exact At.z | apply At.s))) (by rfl), ?_⟩
    exact k _ hs.drop.drop
   rw [if_neg c4]
   rw [if_neg (fun y => c4 (c3.2 y))] at k
   refine ⟨by decide, by decide, _, hs.ld (.s .z) g0, ?_⟩
   by_cases c5 : x.getD 0 0 = 2
   case neg =>
    rw [if_neg (fun y => c5 y.1)] at k
    rw [if_neg (by rw [beq_iff_eq]; exact c5)]
    (refine ⟨Sat.can hs (by (repeat (first | exact At.z | apply At.s))) (by simp), ?_⟩; intro _ e; replace hs := Sat.wra hs (by (repeat (first | exact At.z | apply At.s))) e (by simp [*]); clear e; simp only [put] at hs)
    refine ⟨_, Sat.ld hs (by (repeat (first | exact At.z | apply At.s))) (by rfl), ?_⟩
    refine ⟨_, Sat.ld hs (by (repeat (first | exact At.z | apply At.s))) (by rfl), ?_⟩
    refine ⟨_, Sat.ld hs (by (repeat (first | exact At.z | apply At.s))) (by rfl), ?_⟩
    exact k _ hs.drop.drop
   rw [if_pos (by rw [beq_iff_eq]; exact c5)]
   by_cases c6 : x.getD 1 0 ≤ 8
   case neg =>
    rw [if_neg (fun y => c6 y.2.1)] at k
    rw [leI_eq, if_neg (by rw [decide_eq_true_eq]; exact c6)]
    (refine ⟨Sat.can hs (by (repeat (first | exact At.z | apply At.s))) (by simp), ?_⟩; intro _ e; replace hs := Sat.wra hs (by (repeat (first | exact At.z | apply At.s))) e (by simp [*]); clear e; simp only [put] at hs)
    refine ⟨_, Sat.ld hs (by (repeat (first | exact At.z | apply At.s))) (by rfl), ?_⟩
    refine ⟨_, Sat.ld hs (by (repeat (first | exact At.z | apply At.s))) (by rfl), ?_⟩
    refine ⟨_, Sat.ld hs (by (repeat (first | exact At.z | apply At.s))) (by rfl), ?_⟩
    exact k _ hs.drop.drop
   rw [leI_eq, if_pos (by rw [decide_eq_true_eq]; exact c6)]
   refine ⟨x, hx, hs.row0 (.s .z), ?_⟩
   refine laid_sp 2 (x.getD 1 0) g ⟨by decide, by decide⟩ hs ?_
   intro h4 hs
   refine ⟨Sat.whole hs (.s .z), ?_⟩
   by_cases c7 : x = laidM 2 (x.getD 1 0) g
   ·rw [if_pos ⟨c5, c6, c7⟩] at k
    rw [if_pos (by rw [beq_iff_eq]; exact c7)]
    clear c7
    (refine ⟨Sat.can hs (by (repeat (first | exact At.z | apply At.s))) (by simp), ?_⟩; intro _ e; replace hs := Sat.wra hs (by (repeat (first | exact At.z | apply At.s))) e (by simp [*]); clear e; simp only [put] at hs)
    refine ⟨_, Sat.ld hs (by (repeat (first | exact At.z | apply At.s))) (by rfl), ?_⟩
    refine ⟨_, Sat.ld hs (by (repeat (first | exact At.z | apply At.s))) (by rfl), ?_⟩
    refine ⟨_, Sat.ld hs (by (repeat (first | exact At.z | apply At.s))) (by rfl), ?_⟩
    exact k _ hs.drop.drop
   ·rw [if_neg (fun y => c7 y.2.2)] at k
    rw [if_neg (by rw [beq_iff_eq]; exact c7)]
    (refine ⟨Sat.can hs (by (repeat (first | exact At.z | apply At.s))) (by simp), ?_⟩; intro _ e; replace hs := Sat.wra hs (by (repeat (first | exact At.z | apply At.s))) e (by simp [*]); clear e; simp only [put] at hs)
    refine ⟨_, Sat.ld hs (by (repeat (first | exact At.z | apply At.s))) (by rfl), ?_⟩
    refine ⟨_, Sat.ld hs (by (repeat (first | exact At.z | apply At.s))) (by rfl), ?_⟩
    refine ⟨_, Sat.ld hs (by (repeat (first | exact At.z | apply At.s))) (by rfl), ?_⟩
    exact k _ hs.drop.drop
  refine ⟨by decide, by decide, _, hs.ld (.s .z) g0, ?_⟩
  by_cases c5 : x.getD 0 0 = 1
  ·rw [if_pos (by rw [beq_iff_eq]; exact c5)]
   refine ⟨x, hx, hs.row0 (.s .z), ?_⟩
   refine laid_sp 1 0 g ⟨by decide, by decide⟩ hs ?_
   intro h4 hs
   refine ⟨Sat.whole hs (.s .z), ?_⟩
   refine two _ ?_ _ hs
   rw [beq_iff_eq]
   exact ⟨fun y => ⟨c5, y⟩, fun y => y.2⟩
  ·rw [if_neg (by rw [beq_iff_eq]; exact c5)]
   exact two _ ⟨fun y => by simp at y, fun y => absurd y.1 c5⟩ _ hs
 by_cases c2 : g < 1
 ·rw [ltI_eq, if_pos (by simpa using c2)]
  exact torn true (fun _ => Or.inl c2) (fun y => by simp at y)
 ·rw [ltI_eq, if_neg (by simpa using c2)]
  intro _ e; subst e
  rw [ltI_eq]
  refine torn _ (fun y => Or.inr (by simpa [most] using y)) (fun y => ⟨c2, by simpa [most] using y⟩)
end
end Go.Proofs.YtaglicdidpgkpaaGreatDoor

/- Contracts of the document's cells. Own work. -/
set_option maxRecDepth 100000
set_option linter.unusedVariables false
namespace Go.Proofs.YtaglicdidpgkpaaGreatDoor
open Go Go.Vc

section
variable {h0 h : H} {A : List Ent} {i j p r b : Nat} {C : Cm}
theorem tab_succ (n : Nat) (f : Nat → Int) : tab (n + 1) f = tab n f ++ [f n] := by simp [tab, List.range_succ]
theorem rstep_sp {Q : Int → H → Prop} {x : Int} (hs : Sat h0 A h) (k : ∀ h', Sat h0 A h' → Q (crcStep x) h') : F_portcullisref01_step x Q h := by
 unfold F_portcullisref01_step G_portcullisref01_step
 unfold crcStep at k
 split
 ·rename_i h1
  refine ⟨by decide, ?_⟩
  intro _ e; subst e
  rw [if_pos (by simpa using h1)] at k
  exact k _ hs
 ·rename_i h1
  refine ⟨by decide, ?_⟩
  rw [if_neg (by simpa using h1)] at k
  exact k _ hs
theorem reight_sp {Q : Int → H → Prop} {x : Int} (hs : Sat h0 A h) (k : ∀ h', Sat h0 A h' → Q (crcIt 8 x) h') : F_portcullisref01_eight x Q h := by
 unfold F_portcullisref01_eight G_portcullisref01_eight
 intro J hJ
 generalize hR : crcIt 8 x = R at k
 refine loop_st 8 (fun n (y : Int) => [.dv (.one (.int .u32 y)), .dv (.one (.int .i64 (n : Int)))]) (fun n y h => Sat h0 A h ∧ crcIt (8 - n) y = R) ?_ ?_ 0 _ _ (by omega) ⟨hs, hR⟩
 ·rintro n y h1 hn ⟨hs, hy⟩ hk
  apply hJ
  rw [ltI_eq, if_pos (by simp; omega)]
  obtain ⟨m, hm⟩ : ∃ m, 8 - n = m + 1 := ⟨7 - n, by omega⟩
  rw [hm] at hy
  unfold crcIt at hy
  refine rstep_sp hs ?_
  intro h2 hs
  rw [wrap_succ (by omega)]
  exact hk _ _ ⟨hs, by rw [show 8 - (n + 1) = m by omega]; exact hy⟩
 ·rintro y h1 ⟨hs, hy⟩
  apply hJ
  rw [ltI_eq, if_neg (by simp)]
  have hy : y = R := hy
  rw [hy]
  exact k _ hs
theorem rOf_sp {Q : Int → H → Prop} {q : Option Addr} {l c : Nat} {bs : List Int} (hs : Sat h0 A h) (rd : ∀ h', Sat h0 A h' → hsv h' q 1 l (ints .u8 bs)) (hl : l < 2 ^ 62)
  (k : ∀ h', Sat h0 A h' → Q (crcM bs) h') : F_portcullisref01_Of q l c Q h := by
 unfold F_portcullisref01_Of G_portcullisref01_Of
 simp only [max32]
 have hbl : bs.length = l := by have := (rd _ hs).1; simpa using this
 intro J hJ
 refine loop_st l (fun n (_ : Unit) => [.dv (.one (.int .u32 ((bs.take n).foldl crcG 4294967295))), .dv (.one (.int .i64 (n : Int)))]) (fun n _ h => Sat h0 A h) ?_ ?_ 0 () _ (by omega) hs
 ·intro n _ h1 hn hs hk
  apply hJ
  rw [ltI_eq, if_pos (by simp; omega)]
  obtain ⟨q', hq, g⟩ := hsv_int (rd _ hs) hn
  refine ⟨_, hq, by omega, by omega, _, by rw [Int.toNat_natCast, Nat.mul_one]; exact g, ?_⟩
  refine reight_sp hs ?_
  intro h2 hs
  have := hk () _ hs
  rw [getD_snoc bs n (by omega)] at this
  rw [wrap_succ (by omega)]
  exact this
 ·intro _ h1 hs
  apply hJ
  rw [ltI_eq, if_neg (by simp), List.take_of_length_le (by omega)]
  exact k _ hs
theorem rcell_sp {Q : List Int → H → Prop} (kind slot n : Int) (hk : kind = 1 ∨ kind = 2) (n1 : 1 ≤ n) (n2 : n ≤ most) (hs : Sat h0 A h) (k : ∀ h', Sat h0 A h' → Q (laidM kind slot n) h') : F_portcullisref06_cell kind slot n Q h := by
 unfold F_portcullisref06_cell G_portcullisref06_cell
 try simp only [add_mk, Nat.zero_add, List.append_nil, max8]
 unfold most at n2
 have ek : IntKind.u8.wrap kind = kind := by rcases hk with e | e <;> subst e <;> decide
 have en : IntKind.u64.wrap n = n := by rw [wrap_u64']; omega
 rw [ek]
 intro b1 _ hn; replace hs := Sat.new hs hn; clear hn
 intro b2 _ hn; replace hs := Sat.new hs hn; clear hn
 have e0 : [Value.int .u8 kind, .int .u8 (IntKind.u8.wrap slot), .int .u8 0, .int .u8 0] = ints .u8 (tab 4 (bodyF kind slot n)) := rfl
 rw [e0] at hs
 replace hs := hs.as_sl (i := 0) (l := 4) (sz := 1) .z rfl (ints_one _ _)
 rw [put_zero] at hs
 intro J hJ
 refine loop_st 8 (fun m (s : Option Addr × Nat) => [.dv (.one (.slice s.1 (4 + m) s.2)), .dv (.one (.int .i64 (m : Int)))]) (fun m s h => Sat h0 (slE s.1 (4 + m) s.2 1 (ints .u8 (tab (4 + m) (bodyF kind slot n))) :: blk b1 (ints .u8 (zeros 32)) :: A) h) ?_ ?_ 0 (some ⟨b2, 0, none⟩, 4) _ (by omega) hs
 ·rintro m ⟨sp, sc⟩ h1 hm hs hkk
  apply hJ
  rw [ltI_eq, if_pos (by simp; omega)]
  refine ⟨by rw [wrap_id (by omega)]; omega, ?_⟩
  rw [step8_eq (by omega)]
  intro b3 _ hn; replace hs := Sat.new hs hn; clear hn
  refine ⟨_, hs.bv (l := 1) .z (by simp) (by simp), ?_⟩
  refine Sat.app hs (.s .z) (by simp) rfl (by simp) (by omega) ?_
  intro p' c' h2 hs
  rw [put_succ, put_zero] at hs
  rw [wrap_succ (by omega)]
  refine hkk (p', c') _ ?_
  have e1 : tab (4 + (m + 1)) (bodyF kind slot n) = tab (4 + m) (bodyF kind slot n) ++ [IntKind.u8.wrap (n.fdiv (2 ^ (8 * m)))] := by
   rw [show 4 + (m + 1) = (4 + m) + 1 by omega, tab_succ]
   congr 2
   unfold bodyF
   rw [if_neg (by omega), if_neg (by omega), if_neg (by omega), if_pos (by omega), en, show 4 + m - 4 = m by omega]
   rfl
  rw [e1]
  have := hs.drop
  rw [Nat.add_assoc] at this
  simpa [ints] using this
 ·rintro ⟨sp, sc⟩ h1 hs
  apply hJ
  rw [ltI_eq, if_neg (by simp)]
  clear hJ J
  dsimp only at hs
  refine rOf_sp (bs := tab 12 (bodyF kind slot n)) hs (fun h' hs' => hs'.sv .z) (by omega) ?_
  intro h2 hs
  generalize hcr : crcM (tab 12 (bodyF kind slot n)) = cr
  intro J hJ
  have e2 : tab 12 (bodyF kind slot n) = tab 12 (bodyM kind slot n) := tab_ext fun i hi => by unfold bodyM; rw [if_neg (by omega)]
  have hs1 : Sat h0 (slE sp (12 + 0) sc 1 (ints .u8 (tab (12 + 0) (bodyM kind slot n))) :: blk b1 (ints .u8 (zeros 32)) :: A) h2 := by
   rw [Nat.add_zero, ← e2]; exact hs
  refine loop_st 4 (fun m (s : Option Addr × Nat) => [.dv (.one (.slice s.1 (12 + m) s.2)), .dv (.one (.int .i64 (m : Int)))]) (fun m s h => Sat h0 (slE s.1 (12 + m) s.2 1 (ints .u8 (tab (12 + m) (bodyM kind slot n))) :: blk b1 (ints .u8 (zeros 32)) :: A) h) ?_ ?_ 0 (sp, sc) _ (by omega) hs1
  ·rintro m ⟨sp, sc⟩ h1 hm hs hkk
   apply hJ
   rw [ltI_eq, if_pos (by simp; omega)]
   refine ⟨by rw [wrap_id (by omega)]; omega, ?_⟩
   have e8 : min (IntKind.i64.wrap (8 * (m : Int))).toNat 32 = 8 * m := by rw [wrap_id (by omega)]; omega
   rw [e8]
   intro b3 _ hn; replace hs := Sat.new hs hn; clear hn
   refine ⟨_, hs.bv (l := 1) .z (by simp) (by simp), ?_⟩
   refine Sat.app hs (.s .z) (by simp) rfl (by simp) (by omega) ?_
   intro p' c' h2 hs
   rw [put_succ, put_zero] at hs
   rw [wrap_succ (by omega)]
   refine hkk (p', c') _ ?_
   have e1 : tab (12 + (m + 1)) (bodyM kind slot n) = tab (12 + m) (bodyM kind slot n) ++ [IntKind.u8.wrap (cr.fdiv (2 ^ (8 * m)))] := by
    rw [show 12 + (m + 1) = (12 + m) + 1 by omega, tab_succ]
    congr 2
    unfold bodyM
    rw [if_pos (by omega), hcr, show 12 + m - 12 = m by omega]
    rfl
   rw [e1]
   have := hs.drop
   rw [Nat.add_assoc] at this
   simpa [ints] using this
  ·rintro ⟨sp, sc⟩ h1 hs
   apply hJ
   rw [ltI_eq, if_neg (by simp)]
   clear hJ J
   dsimp only at hs ⊢
   intro b4 _ hn; replace hs := Sat.new hs hn; clear hn
   (refine ⟨Sat.can hs (by (repeat (first | exact At.z | apply At.s))) (by simp), ?_⟩; intro _ e; replace hs := Sat.wra hs (by (repeat (first | exact At.z | apply At.s))) e (by simp [*]); clear e; simp only [put] at hs)
   intro J hJ
   rw [zeros_tab] at hs
   replace hs := Sat.tab_to (g := fun k => if k < 0 then bodyM kind slot n k else if 16 ≤ k ∧ k < 16 + 0 then compl8 (bodyM kind slot n (k - 16)) else 0) hs fun i hi => by rw [if_neg (by omega), if_neg (by omega)]
   rw [← zeros_tab] at hs
   refine loop_up 16 (fun m h => Sat h0 (blk b4 (ints .u8 (tab 32 fun k => if k < m then bodyM kind slot n k else if 16 ≤ k ∧ k < 16 + m then compl8 (bodyM kind slot n (k - 16)) else 0)) :: slE sp 16 sc 1 (ints .u8 (tab 16 (bodyM kind slot n))) :: blk b1 (ints .u8 (zeros 32)) :: A) h) ?_ ?_ 0 _ (by omega) hs
   ·intro m h3 hm hs hkk
    apply hJ
    rw [ltI_eq, if_pos (by simp; omega)]
    obtain ⟨q', hq, g⟩ := hsv_int (hs.sv (i := 1) (.s .z)) hm
    have eg : (tab 16 (bodyM kind slot n)).getD m 0 = bodyM kind slot n m := by
     rw [List.getD_eq_getElem?_getD, tab_get, if_pos hm]; rfl
    rw [eg] at g
    refine ⟨_, hq, by omega, by omega, _, by rw [Int.toNat_natCast, Nat.mul_one]; exact g, by omega, by omega, ?_⟩
    rw [Int.toNat_natCast, Nat.mul_one]
    refine ⟨hs.can .z (by simp; omega), ?_⟩
    intro h4 e
    replace hs := hs.wr .z e
    rw [put_zero, ints_tab_set] at hs
    obtain ⟨q', hq, g⟩ := hsv_int (hs.sv (i := 1) (.s .z)) hm
    rw [eg] at g
    have ew : IntKind.i64.wrap (16 + (m : Int)) = ((16 + m : Nat) : Int) := by rw [wrap_id (by omega)]; omega
    refine ⟨_, hq, by omega, by omega, _, g, by rw [ew]; omega, by rw [ew]; omega, ?_⟩
    rw [ew, Int.toNat_natCast, Nat.mul_one]
    refine ⟨hs.can .z (by simp; omega), ?_⟩
    intro h5 e
    replace hs := hs.wr .z e
    rw [put_zero, ints_tab_set] at hs
    rw [wrap_succ (by omega)]
    refine hkk _ (Sat.tab_to hs fun i hi => ?_)
    by_cases e : i = 16 + m
    ·rw [if_pos e, if_neg (by omega), if_pos (by omega), e, Nat.add_sub_cancel_left]; rfl
    ·rw [if_neg e]
     by_cases e2 : i = m
     ·rw [if_pos e2, if_pos (by omega), e2]
     ·rw [if_neg e2]
      by_cases e3 : i < m
      ·rw [if_pos e3, if_pos (by omega)]
      ·rw [if_neg e3]
       by_cases e4 : 16 ≤ i ∧ i < 16 + m
       ·rw [if_pos e4, if_neg (show ¬ i < m + 1 by omega), if_pos (show 16 ≤ i ∧ i < 16 + (m + 1) by omega)]
       ·rw [if_neg e4, if_neg (show ¬ i < m + 1 by omega), if_neg (show ¬ (16 ≤ i ∧ i < 16 + (m + 1)) by omega)]
   ·intro h3 hs
    apply hJ
    rw [ltI_eq, if_neg (by simp)]
    replace hs := Sat.tab_to (g := fun k => if k < 16 then bodyM kind slot n k else compl8 (bodyM kind slot n (k - 16))) hs fun i hi => by
     by_cases e : i < 16
     ·rw [if_pos e, if_pos e]
     ·rw [if_neg e, if_neg e, if_pos (by omega)]
    replace hs : Sat h0 (blk b4 (ints .u8 (laidM kind slot n)) :: slE sp 16 sc 1 (ints .u8 (tab 16 (bodyM kind slot n))) :: blk b1 (ints .u8 (zeros 32)) :: A) h3 := hs
    have hll := laidM_length kind slot n
    refine ⟨_, hll, hs.row0 .z, ?_⟩
    (refine ⟨Sat.can hs (by (repeat (first | exact At.z | apply At.s))) (by simp), ?_⟩; intro _ e; replace hs := Sat.wra hs (by (repeat (first | exact At.z | apply At.s))) e (by simp [*]); clear e; simp only [put] at hs)
    refine ⟨_, hll, hs.row0 (by (repeat (first | exact At.z | apply At.s))), ?_⟩
    exact k _ hs.drop.drop.drop
theorem rHead_sp {Q : List Int → Int → H → Prop} (n : Int) (hs : Sat h0 A h) (k : ∀ h', Sat h0 A h' → Q (headM n).1 (headM n).2 h') : F_portcullisref06_Head n Q h := by
 unfold F_portcullisref06_Head G_portcullisref06_Head
 try simp only [add_mk, Nat.zero_add, List.append_nil]
 intro n1 _ hn; replace hs := Sat.new hs hn; clear hn
 unfold headM at k
 by_cases h1 : n < 1
 ·rw [if_pos h1] at k
  rw [ltI_eq, if_pos (by simpa using h1)]
  (refine ⟨Sat.can hs (by (repeat (first | exact At.z | apply At.s))) (by simp), ?_⟩; intro _ e; replace hs := Sat.wra hs (by (repeat (first | exact At.z | apply At.s))) e (by simp [*]); clear e; simp only [put] at hs)
  refine ⟨_, rfl, hs.row0 (by (repeat (first | exact At.z | apply At.s))), ?_⟩
  exact k _ hs.drop
 rw [if_neg h1] at k
 rw [ltI_eq, if_neg (by simpa using h1)]
 intro _ e; subst e
 by_cases h2 : most < n
 ·rw [if_pos h2] at k
  rw [ltI_eq, if_pos (by simpa [most] using h2)]
  (refine ⟨Sat.can hs (by (repeat (first | exact At.z | apply At.s))) (by simp), ?_⟩; intro _ e; replace hs := Sat.wra hs (by (repeat (first | exact At.z | apply At.s))) e (by simp [*]); clear e; simp only [put] at hs)
  refine ⟨_, rfl, hs.row0 (by (repeat (first | exact At.z | apply At.s))), ?_⟩
  exact k _ hs.drop
 rw [if_neg h2] at k
 rw [ltI_eq, if_neg (by simpa [most] using h2)]
 refine rcell_sp 1 0 n (Or.inl rfl) (by omega) (by omega) hs ?_
 intro h3 hs
 have hll := laidM_length 1 0 n
 (refine ⟨Sat.can hs (by (repeat (first | exact At.z | apply At.s))) (by simp), ?_⟩; intro _ e; replace hs := Sat.wra hs (by (repeat (first | exact At.z | apply At.s))) e (by simp [*]); clear e; simp only [put] at hs)
 refine ⟨_, hll, hs.row0 (by (repeat (first | exact At.z | apply At.s))), ?_⟩
 exact k _ hs.drop
theorem rValue_sp {Q : List Int → Int → H → Prop} (slot n : Int) (hs : Sat h0 A h) (k : ∀ h', Sat h0 A h' → Q (valueM slot n).1 (valueM slot n).2 h') : F_portcullisref06_Value slot n Q h := by
 unfold F_portcullisref06_Value G_portcullisref06_Value
 try simp only [add_mk, Nat.zero_add, List.append_nil]
 intro n1 _ hn; replace hs := Sat.new hs hn; clear hn
 unfold valueM at k
 by_cases h1 : slot < 0
 ·rw [if_pos h1] at k
  rw [ltI_eq, if_pos (by simpa using h1)]
  (refine ⟨Sat.can hs (by (repeat (first | exact At.z | apply At.s))) (by simp), ?_⟩; intro _ e; replace hs := Sat.wra hs (by (repeat (first | exact At.z | apply At.s))) e (by simp [*]); clear e; simp only [put] at hs)
  refine ⟨_, rfl, hs.row0 (by (repeat (first | exact At.z | apply At.s))), ?_⟩
  exact k _ hs.drop
 rw [if_neg h1] at k
 rw [ltI_eq, if_neg (by simpa using h1)]
 by_cases h1 : 8 < slot
 ·rw [if_pos h1] at k
  rw [ltI_eq, if_pos (by simpa using h1)]
  (refine ⟨Sat.can hs (by (repeat (first | exact At.z | apply At.s))) (by simp), ?_⟩; intro _ e; replace hs := Sat.wra hs (by (repeat (first | exact At.z | apply At.s))) e (by simp [*]); clear e; simp only [put] at hs)
  refine ⟨_, rfl, hs.row0 (by (repeat (first | exact At.z | apply At.s))), ?_⟩
  exact k _ hs.drop
 rw [if_neg h1] at k
 rw [ltI_eq, if_neg (by simpa using h1)]
 by_cases h1 : n < 1
 ·rw [if_pos h1] at k
  rw [ltI_eq, if_pos (by simpa using h1)]
  (refine ⟨Sat.can hs (by (repeat (first | exact At.z | apply At.s))) (by simp), ?_⟩; intro _ e; replace hs := Sat.wra hs (by (repeat (first | exact At.z | apply At.s))) e (by simp [*]); clear e; simp only [put] at hs)
  refine ⟨_, rfl, hs.row0 (by (repeat (first | exact At.z | apply At.s))), ?_⟩
  exact k _ hs.drop
 rw [if_neg h1] at k
 rw [ltI_eq, if_neg (by simpa using h1)]
 intro _ e; subst e
 by_cases h2 : most < n
 ·rw [if_pos h2] at k
  rw [ltI_eq, if_pos (by simpa [most] using h2)]
  (refine ⟨Sat.can hs (by (repeat (first | exact At.z | apply At.s))) (by simp), ?_⟩; intro _ e; replace hs := Sat.wra hs (by (repeat (first | exact At.z | apply At.s))) e (by simp [*]); clear e; simp only [put] at hs)
  refine ⟨_, rfl, hs.row0 (by (repeat (first | exact At.z | apply At.s))), ?_⟩
  exact k _ hs.drop
 rw [if_neg h2] at k
 rw [ltI_eq, if_neg (by simpa [most] using h2)]
 refine rcell_sp 2 slot n (Or.inr rfl) (by omega) (by omega) hs ?_
 intro h3 hs
 have hll := laidM_length 2 slot n
 (refine ⟨Sat.can hs (by (repeat (first | exact At.z | apply At.s))) (by simp), ?_⟩; intro _ e; replace hs := Sat.wra hs (by (repeat (first | exact At.z | apply At.s))) e (by simp [*]); clear e; simp only [put] at hs)
 refine ⟨_, hll, hs.row0 (by (repeat (first | exact At.z | apply At.s))), ?_⟩
 exact k _ hs.drop
theorem rBlank6_sp {Q : List Int → H → Prop} (hs : Sat h0 A h) (k : ∀ h', Sat h0 A h' → Q ffs h') : F_portcullisref06_Blank Q h := by
 unfold F_portcullisref06_Blank G_portcullisref06_Blank
 try simp only [add_mk, Nat.zero_add, List.append_nil]
 intro n1 _ hn; replace hs := Sat.new hs hn; clear hn
 intro n2 _ hn; replace hs := Sat.new hs hn; clear hn
 (refine ⟨Sat.can hs (by (repeat (first | exact At.z | apply At.s))) (by simp), ?_⟩; intro _ e; replace hs := Sat.wra hs (by (repeat (first | exact At.z | apply At.s))) e (by simp [*]); clear e; simp only [put] at hs)
 rw [zeros_tab] at hs
 intro J hJ
 replace hs := Sat.tab_to (g := fun i => if i < 0 then 255 else 0) hs fun i hi => (if_neg (by omega)).symm
 refine loop_up 32 (fun n h => Sat h0 (blk n2 (ints .u8 (tab 32 fun i => if i < n then 255 else 0)) :: blk n1 (ints .u8 (tab 32 fun _ => 0)) :: A) h) ?_ ?_ 0 _ (by omega) hs
 ·intro n h1 hn hs hk
  apply hJ
  rw [ltI_eq, if_pos (by simp; omega)]
  refine ⟨by omega, by omega, ?_⟩
  rw [Int.toNat_natCast, Nat.mul_one]
  refine ⟨hs.can .z (by simp; omega), ?_⟩
  intro h2 e
  replace hs := hs.wr .z e
  rw [put_zero, ints_tab_set] at hs
  rw [wrap_succ (by omega)]
  refine hk _ (Sat.tab_to hs fun i hi => ?_)
  by_cases e : i = n
  ·rw [if_pos e, if_pos (by omega)]
  ·rw [if_neg e]
   by_cases e2 : i < n
   ·rw [if_pos e2, if_pos (by omega)]
   ·rw [if_neg e2, if_neg (by omega)]
 ·intro h1 hs
  apply hJ
  rw [ltI_eq, if_neg (by simp)]
  replace hs := Sat.tab_to (g := fun _ => 255) hs fun i hi => if_pos hi
  refine ⟨ffs, rfl, hs.row0 .z, ?_⟩
  have hll : ffs.length = 32 := rfl
  (refine ⟨Sat.can hs (by (repeat (first | exact At.z | apply At.s))) (by simp), ?_⟩; intro _ e; replace hs := Sat.wra hs (by (repeat (first | exact At.z | apply At.s))) e (by simp [*]); clear e; simp only [put] at hs)
  refine ⟨_, hll, hs.row0 (by (repeat (first | exact At.z | apply At.s))), ?_⟩
  exact k _ hs.drop.drop
theorem laid_0 (kind slot n : Int) : (laidM kind slot n).getD 0 0 = kind := rfl
theorem rRead6_sp {Q : Int → Int → Int → H → Prop} (x : List Int) (hx : x.length = 32) (hb : bytesOk x) (hs : Sat h0 A h) (k : ∀ h', Sat h0 A h' → Q (recM x).1 (recM x).2.1 (recM x).2.2 h') : F_portcullisref06_Read x Q h := by
 unfold F_portcullisref06_Read G_portcullisref06_Read
 try simp only [add_mk, Nat.zero_add, List.append_nil]
 intro n1 _ hn; replace hs := Sat.new hs hn; clear hn
 intro n2 _ hn; replace hs := Sat.new hs hn; clear hn
 refine ⟨x, hx, hs.row0 (.s .z), ?_⟩
 refine rBlank6_sp hs ?_
 intro h1 hs
 refine ⟨Sat.whole hs (.s .z), ?_⟩
 unfold recM at k
 by_cases c1 : x = ffs
 ·rw [if_pos c1] at k
  rw [if_pos (by rw [c1]; simp)]
  (refine ⟨Sat.can hs (by (repeat (first | exact At.z | apply At.s))) (by simp), ?_⟩; intro _ e; replace hs := Sat.wra hs (by (repeat (first | exact At.z | apply At.s))) e (by simp [*]); clear e; simp only [put] at hs)
  refine ⟨_, Sat.ld hs (by (repeat (first | exact At.z | apply At.s))) (by rfl), ?_⟩
  refine ⟨_, Sat.ld hs (by (repeat (first | exact At.z | apply At.s))) (by rfl), ?_⟩
  refine ⟨_, Sat.ld hs (by (repeat (first | exact At.z | apply At.s))) (by rfl), ?_⟩
  exact k _ hs.drop.drop
 rw [if_neg c1] at k
 rw [if_neg (by simpa using c1)]
 intro J hJ
 have el : ((x.drop 4).take 8).length = 8 := by simp [hx]
 refine loop_st 8 (fun n (_ : Unit) => [.dv (.one (.int .i64 (gotI ((x.drop 4).take 8) n))), .dv (.one (.int .i64 (n : Int)))]) (fun n _ h => Sat h0 (blk n2 [.int .i64 0, .int .i64 0, .int .i64 0] :: blk n1 (ints .u8 x) :: A) h) ?_ ?_ 0 () _ (by omega) hs
 ·intro n _ h2 hn hs hk
  apply hJ
  have ew : IntKind.i64.wrap (4 + (n : Int)) = ((4 + n : Nat) : Int) := by rw [wrap_id (by omega)]; omega
  rw [ltI_eq, if_pos (by simp; omega)]
  have gn : (ints .u8 x)[4 + n]? = some (.int .u8 (((x.drop 4).take 8).getD n 0)) := by
   rw [ints_get, List.getElem?_eq_getElem (by omega), List.getD_eq_getElem?_getD, List.getElem?_take, if_pos hn, List.getElem?_drop, List.getElem?_eq_getElem (by omega)]
   rfl
  refine ⟨by rw [ew]; omega, by rw [ew]; omega, _, by rw [ew, Int.toNat_natCast, Nat.mul_one]; exact hs.ld (.s .z) gn, by rw [wrap_id (by omega)]; omega, ?_⟩
  rw [step8_eq hn, wrap_succ (by omega)]
  exact hk () _ hs
 intro _ h2 hs
 apply hJ
 rw [ltI_eq, if_neg (by simp)]
 clear hJ J
 generalize gotI ((x.drop 4).take 8) 8 = g at k ⊢
 intro J hJ
 have x1 := hb (x.getD 1 0) (by rw [List.getD_eq_getElem?_getD, List.getElem?_eq_getElem (by omega)]; exact List.getElem_mem _)
 have g1 : (ints .u8 x)[1]? = some (.int .u8 (x.getD 1 0)) := by rw [ints_get, List.getElem?_eq_getElem (by omega)]; simp [List.getD, List.getElem?_eq_getElem (show 1 < x.length by omega)]
 have ew1 : IntKind.i64.wrap (x.getD 1 0) = x.getD 1 0 := by obtain ⟨q1, q2⟩ := x1; rw [wrap_id (by omega)]
 have hh := headM_length g
 have hv := valueM_length (x.getD 1 0) g
 -- what is said where it is no head
 have rest : ¬ ((headM g).2 = 0 ∧ (headM g).1 = x) → ∀ h3, Sat h0 (blk n2 [.int .i64 0, .int .i64 0, .int .i64 0] :: blk n1 (ints .u8 x) :: A) h3 → J [] h3 := by
  intro nh h3 hs
  apply hJ
  refine ⟨by decide, by decide, _, hs.ld (.s .z) g1, ?_⟩
  rw [ew1]
  refine rValue_sp _ _ hs ?_
  intro h4 hs
  intro n3 _ hn; replace hs := Sat.new hs hn; clear hn
  generalize hV : valueM (x.getD 1 0) g = V at *
  refine ⟨Sat.can hs (by (repeat (first | exact At.z | apply At.s))) (by simp [hv]), ?_⟩
  intro _ e; replace hs := Sat.wra hs (by (repeat (first | exact At.z | apply At.s))) e (by rw [ints_length, ints_length, hv]; rfl); clear e; simp only [put] at hs
  have nhead : ¬ (x.getD 0 0 = 1 ∧ x = laidM 1 0 g) ∨ g < 1 ∨ most < g := by
   by_cases q1 : g < 1
   ·exact Or.inr (Or.inl q1)
   by_cases q2 : most < g
   ·exact Or.inr (Or.inr q2)
   refine Or.inl fun y => nh ?_
   unfold headM
   rw [if_neg q1, if_neg q2]
   exact ⟨rfl, y.2.symm⟩
  have tornk : ¬ (V.2 = 0 ∧ V.1 = x) → ∀ h', Sat h0 A h' → Q 3 0 0 h' := by
   intro nv h' hs'
   have := k h' hs'
   by_cases q1 : g < 1
   ·rw [if_pos q1] at this; exact this
   rw [if_neg q1] at this
   by_cases q2 : most < g
   ·rw [if_pos q2] at this; exact this
   rw [if_neg q2] at this
   rw [if_neg (by rcases nhead with y | y | y; exact y; exact absurd y q1; exact absurd y q2)] at this
   rw [if_neg ?_] at this
   ·exact this
   ·rintro ⟨y1, y2, y3⟩
    refine nv ?_
    rw [← hV]
    unfold valueM
    obtain ⟨q3, q4⟩ := x1
    rw [if_neg (by omega), if_neg (by omega), if_neg q1, if_neg q2]
    exact ⟨rfl, y3.symm⟩
  by_cases c2 : V.2 = 0
  case neg =>
   rw [if_neg (by simpa using c2)]
   replace tornk := tornk fun y => c2 y.1
   (refine ⟨Sat.can hs (by (repeat (first | exact At.z | apply At.s))) (by simp), ?_⟩; intro _ e; replace hs := Sat.wra hs (by (repeat (first | exact At.z | apply At.s))) e (by simp [*]); clear e; simp only [put] at hs)
   refine ⟨_, Sat.ld hs (by (repeat (first | exact At.z | apply At.s))) (by rfl), ?_⟩
   refine ⟨_, Sat.ld hs (by (repeat (first | exact At.z | apply At.s))) (by rfl), ?_⟩
   refine ⟨_, Sat.ld hs (by (repeat (first | exact At.z | apply At.s))) (by rfl), ?_⟩
   exact tornk _ hs.drop.drop.drop
  rw [if_pos (by simpa using c2)]
  refine ⟨_, hv, hs.row0 (by (repeat (first | exact At.z | apply At.s))), x, hx, hs.row0 (.s (.s .z)), ?_⟩
  by_cases c3 : V.1 = x
  case neg =>
   rw [if_neg (by rw [beq_iff_eq]; exact c3)]
   replace tornk := tornk fun y => c3 y.2
   (refine ⟨Sat.can hs (by (repeat (first | exact At.z | apply At.s))) (by simp), ?_⟩; intro _ e; replace hs := Sat.wra hs (by (repeat (first | exact At.z | apply At.s))) e (by simp [*]); clear e; simp only [put] at hs)
   refine ⟨_, Sat.ld hs (by (repeat (first | exact At.z | apply At.s))) (by rfl), ?_⟩
   refine ⟨_, Sat.ld hs (by (repeat (first | exact At.z | apply At.s))) (by rfl), ?_⟩
   refine ⟨_, Sat.ld hs (by (repeat (first | exact At.z | apply At.s))) (by rfl), ?_⟩
   exact tornk _ hs.drop.drop.drop
  rw [if_pos (by rw [beq_iff_eq]; exact c3)]
  refine ⟨by decide, by decide, _, hs.ld (.s (.s .z)) g1, ?_⟩
  rw [ew1]
  have good : ∀ h', Sat h0 A h' → Q 2 (x.getD 1 0) g h' := by
   intro h' hs'
   have := k h' hs'
   rw [← hV] at c2 c3
   unfold valueM at c2 c3
   obtain ⟨q3, q4⟩ := x1
   rw [if_neg (by omega)] at c2 c3
   by_cases z1 : 8 < x.getD 1 0
   ·rw [if_pos z1] at c2; simp at c2
   rw [if_neg z1] at c2 c3
   by_cases q1 : g < 1
   ·rw [if_pos q1] at c2; simp at c2
   rw [if_neg q1] at c2 c3 this
   by_cases q2 : most < g
   ·rw [if_pos q2] at c2; simp at c2
   rw [if_neg q2] at c2 c3 this
   rw [if_neg (by rcases nhead with y | y | y; exact y; exact absurd y q1; exact absurd y q2)] at this
   dsimp only at c3
   rw [if_pos ⟨by rw [← c3]; exact laid_0 _ _ _, by omega, c3.symm⟩] at this
   exact this
  clear c3
  (refine ⟨Sat.can hs (by (repeat (first | exact At.z | apply At.s))) (by simp), ?_⟩; intro _ e; replace hs := Sat.wra hs (by (repeat (first | exact At.z | apply At.s))) e (by simp [*]); clear e; simp only [put] at hs)
  refine ⟨_, Sat.ld hs (by (repeat (first | exact At.z | apply At.s))) (by rfl), ?_⟩
  refine ⟨_, Sat.ld hs (by (repeat (first | exact At.z | apply At.s))) (by rfl), ?_⟩
  refine ⟨_, Sat.ld hs (by (repeat (first | exact At.z | apply At.s))) (by rfl), ?_⟩
  exact good _ hs.drop.drop.drop
 refine rHead_sp g hs ?_
 intro h3 hs
 intro n3 _ hn; replace hs := Sat.new hs hn; clear hn
 generalize hV : headM g = V at *
 refine ⟨Sat.can hs (by (repeat (first | exact At.z | apply At.s))) (by simp [hh]), ?_⟩
 intro _ e; replace hs := Sat.wra hs (by (repeat (first | exact At.z | apply At.s))) e (by rw [ints_length, ints_length, hh]; rfl); clear e; simp only [put] at hs
 by_cases c2 : V.2 = 0
 case neg =>
  rw [if_neg (by simpa using c2)]
  exact rest (fun y => c2 y.1) _ hs.drop
 rw [if_pos (by simpa using c2)]
 refine ⟨_, hh, hs.row0 (by (repeat (first | exact At.z | apply At.s))), x, hx, hs.row0 (.s (.s .z)), ?_⟩
 by_cases c3 : V.1 = x
 case neg =>
  rw [if_neg (by rw [beq_iff_eq]; exact c3)]
  exact rest (fun y => c3 y.2) _ hs.drop
 rw [if_pos (by rw [beq_iff_eq]; exact c3)]
 have good : ∀ h', Sat h0 A h' → Q 1 0 g h' := by
  intro h' hs'
  have := k h' hs'
  rw [← hV] at c2 c3
  unfold headM at c2 c3
  by_cases q1 : g < 1
  ·rw [if_pos q1] at c2; simp at c2
  rw [if_neg q1] at c2 c3 this
  by_cases q2 : most < g
  ·rw [if_pos q2] at c2; simp at c2
  rw [if_neg q2] at c2 c3 this
  dsimp only at c3
  rw [if_pos ⟨by rw [← c3]; exact laid_0 _ _ _, c3.symm⟩] at this
  exact this
 clear c3 rest
 (refine ⟨Sat.can hs (by (repeat (first | exact At.z | apply At.s))) (by simp), ?_⟩; intro _ e; replace hs := Sat.wra hs (by (repeat (first | exact At.z | apply At.s))) e (by simp [*]); clear e; simp only [put] at hs)
 refine ⟨_, Sat.ld hs (by (repeat (first | exact At.z | apply At.s))) (by rfl), ?_⟩
 refine ⟨_, Sat.ld hs (by (repeat (first | exact At.z | apply At.s))) (by rfl), ?_⟩
 refine ⟨_, Sat.ld hs (by (repeat (first | exact At.z | apply At.s))) (by rfl), ?_⟩
 exact good _ hs.drop.drop.drop
end
end Go.Proofs.YtaglicdidpgkpaaGreatDoor
end
