/- GateHands: what is proved and its parts, laid together by a program of ours: Lw2 Lw3 St1 St4 Tq2 Tq4 Av Im1 Im2 Gt1 Gt3 GtW Gt4 Tq5 Gt5 St7 St8 Gt6 Gt7 -/
import Derived.Test.YtaglicdidpgkpaaGreatDoorK10
set_option autoImplicit false
set_option linter.all false
/- The log's laws, plain: a turn, a lay. Own work. -/
section
set_option maxRecDepth 100000
set_option linter.unusedVariables false
namespace Go.Proofs.YtaglicdidpgkpaaGreatDoor
open Go Go.Vc

abbrev nof (C : Cm) (t k : Nat) : Int := (pI C t).nums.getD k 0
abbrev numOf (C : Cm) (k : Nat) : Int := (infoM C).nums.getD k 0
abbrev lOf (C : Cm) : Nat := C.cfg.cells.toNat
section
variable {u : Bool}
structure Part (u : Bool) (C D : Cm) (t m : Nat) (e : Int) : Prop where
 ok : D.ok
 cfg : D.cfg = C.cfg
 pgs : ∀ y, y ≠ t → D.pg y = C.pg y
 snd : sndU u D
 ec : e = 0 ∨ e = 8
 out0 : e = 0 → D.out = false
 out8 : e = 8 → D.out = true
 acts : 0 ≤ C.acts → C.acts + m < 2 ^ 60 → C.acts ≤ D.acts ∧ D.acts ≤ C.acts + m
 un : u = true → e = 0
theorem Part.trans {C D E : Cm} {t m n : Nat} {e : Int} (a : Part u C D t m 0) (b : Part u D E t n e) : Part u C E t (m + n) e :=
 ⟨b.ok, b.cfg.trans a.cfg, fun y h => (b.pgs y h).trans (a.pgs y h), b.snd, b.ec, b.out0, b.out8, fun h1 h2 => by
  have := a.acts h1 (by omega)
  have := b.acts (by omega) (by omega)
  omega, b.un⟩
theorem Part.more {C D : Cm} {t m n : Nat} {e : Int} (a : Part u C D t m e) (h : m ≤ n) : Part u C D t n e :=
 ⟨a.ok, a.cfg, a.pgs, a.snd, a.ec, a.out0, a.out8, fun h1 h2 => by have := a.acts h1 (by omega); omega, a.un⟩
theorem Part.refl {C : Cm} (ok : C.ok) (ho : C.out = false) (snd : sndU u C) (t : Nat) : Part u C C t 0 0 :=
 ⟨ok, rfl, fun _ _ => rfl, snd, Or.inl rfl, fun _ => ho, fun h => absurd h (by decide), fun _ _ => by omega, fun _ => rfl⟩
structure Turned (u : Bool) (C D : Cm) (t : Nat) (nums : List Int) (e : Int) : Prop where
 part : Part u C D t (C.cfg.slots.toNat + 3) e
 ero : ∀ y, y ≠ t → D.er y = C.er y
 ert : D.er t = C.er t ∨ (D.er t = C.er t + 1 ∧ C.er t < C.cfg.erases)
 erb : (pI C t).blank = true → D.er t = C.er t
 ern : (pI C t).blank = false → D.er t = C.er t + 1
 head : (pI D t).head = 0 ∨ (pI D t).head = (pI C t).head ∨ ((pI D t).head = (infoM C).head + 1 ∧ ∀ k : Nat, (k : Int) ≤ C.cfg.slots → nof D t k = nums.getD k 0)
 headf : e = 0 → (pI D t).head = (infoM C).head + 1 ∧ ∀ k : Nat, (k : Int) ≤ C.cfg.slots → nof D t k = nums.getD k 0
 free : e = 0 → ∀ k : Nat, C.cfg.slots.toNat + 2 ≤ k → k < lOf C → (rk (D.pg t) k).1 = 0
end
end Go.Proofs.YtaglicdidpgkpaaGreatDoor
end

/- The log's laws, plain: what a lay leaves of the numbers. Own work. -/
section
set_option maxRecDepth 100000
set_option linter.unusedVariables false
namespace Go.Proofs.YtaglicdidpgkpaaGreatDoor
open Go Go.Vc
section
variable {u : Bool}

structure Laid (u : Bool) (C D : Cm) (slot : Nat) (n e : Int) : Prop where
 ok : D.ok
 cfg : D.cfg = C.cfg
 snd : sndU u D
 ec : e = 0 ∨ e = 8 ∨ e = 9
 e9 : e = 9 → D = C
 out0 : e = 0 → D.out = false
 other : ∀ k : Nat, (k : Int) ≤ C.cfg.slots → k ≠ slot → numOf D k = numOf C k
 me : numOf D slot = numOf C slot ∨ numOf D slot = n
 done : e = 0 → numOf D slot = n
end
end Go.Proofs.YtaglicdidpgkpaaGreatDoor
end

/- The store: contracts of the program's. Own work. -/
section
set_option maxRecDepth 100000
set_option linter.unusedVariables false
namespace Go.Proofs.YtaglicdidpgkpaaGreatDoor
open Go Go.Vc

abbrev storeE (s p r : Nat) : Ent := blk s [.pointer (some ⟨p, 0, none⟩), .pointer (some ⟨r, 0, none⟩)]
def lastM (c : Cfg) : Int := c.step * c.fuses + c.step - 1
theorem lastM_in {c : Cfg} (m : c.may) : 0 ≤ lastM c ∧ lastM c ≤ 4259839 ∧ c.step * c.fuses ≤ 4194304 ∧ 0 ≤ c.step * c.fuses := by
 have h1 := m.step
 have h2 := m.fuses
 have a : c.step * c.fuses ≤ 65536 * 64 := Int.mul_le_mul h1.2 h2.2 (by omega) (by decide)
 have b : 0 ≤ c.step * c.fuses := Int.mul_nonneg (by omega) (by omega)
 unfold lastM
 omega
def valS (C : Cm) (slot : Int) : Int := if (countM C slot).1 * C.cfg.step < numOf C slot.toNat then numOf C slot.toNat else (countM C slot).1 * C.cfg.step
def sRead (C : Cm) (slot : Int) : Int × Int := if askedM C slot C.cfg.slots ≠ 0 then (0, askedM C slot C.cfg.slots) else (valS C slot, 0)
theorem count_in {C : Cm} (ok : C.ok) (slot : Int) : 0 ≤ (countM C slot).1 ∧ (countM C slot).1 ≤ C.cfg.fuses := by
 have h2 := ok.may.fuses
 unfold countM
 split
 ·exact ⟨Int.le_refl 0, by show (0 : Int) ≤ _; omega⟩
 ·have := cnt_le C.s.blown (slot * C.cfg.fuses).toNat C.cfg.fuses.toNat
  dsimp only
  omega
theorem valS_in {C : Cm} (ok : C.ok) (slot : Int) : 0 ≤ (countM C slot).1 * C.cfg.step ∧ (countM C slot).1 * C.cfg.step ≤ 4194304 ∧ 0 ≤ valS C slot ∧ valS C slot ≤ most := by
 have h1 := ok.may.step
 have h2 := ok.may.fuses
 obtain ⟨c0, c1⟩ := count_in ok slot
 have a : (countM C slot).1 * C.cfg.step ≤ 64 * 65536 := Int.mul_le_mul (by omega) h1.2 (by omega) (by decide)
 have b : 0 ≤ (countM C slot).1 * C.cfg.step := Int.mul_nonneg c0 (by omega)
 have d := (infoM_ok ok).nums slot.toNat
 have hm := most_val
 refine ⟨b, by omega, ?_⟩
 unfold valS
 split
 ·exact d
 ·omega
section
variable {h0 h : H} {A : List Ent} {i j p r b s m : Nat} {C : Cm}
theorem sMount_sp {Q : Option Addr → Int → H → Prop} (hs : Sat h0 A h) (ci : At A i (chipE p C)) (k1 : C.out = true → Q none 8 h) (k2 : C.out = false → ∀ s l h', Sat h0 (storeE s p l :: logE l p :: A) h' → Q (some ⟨s, 0, none⟩) 0 h') : F_store_Mount ⟨p, 0, none⟩ Q h := by
 unfold F_store_Mount G_store_Mount
 refine Mount_sp hs ci ?_ ?_
 ·intro ho
  rw [if_pos (by simp)]
  exact k1 ho
 ·intro ho l h1 hs
  rw [if_neg (by simp)]
  intro n7 _ hn; replace hs := Sat.new hs hn; clear hn
  exact k2 ho n7 l _ hs
theorem sLast_sp {Q : Int → H → Prop} (hs : Sat h0 A h) (ci : At A i (chipE p C)) (st : At A m (storeE s p r)) (k : ∀ h', Sat h0 A h' → Q (lastM C.cfg) h') : F_store_Store_Last ⟨s, 0, none⟩ Q h := by
 unfold F_store_Store_Last G_store_Store_Last
 try simp only [add_mk, Nat.zero_add]
 have ok := chip_ok hs ci
 obtain ⟨l0, l1, l2, l3⟩ := lastM_in ok.may
 have h1 := ok.may.step
 refine ⟨_, hs.ld st rfl, _, rfl, ?_⟩
 refine Config_sp hs ci ?_
 intro h1 hs
 intro n14 _ hn; replace hs := Sat.new hs hn; clear hn
 refine ⟨Sat.can hs (i := 0) .z (by decide), ?_⟩
 intro h2 e
 replace hs := Sat.wra hs (i := 0) .z e rfl
 clear e
 simp only [put] at hs
 refine ⟨_, hs.ld (i := 0) .z rfl, _, hs.ld (i := 0) .z rfl, _, hs.ld (i := 0) .z rfl, ?_⟩
 rw [wrap_id (n := C.cfg.step * C.cfg.fuses) (by omega), wrap_id (n := C.cfg.step * C.cfg.fuses + C.cfg.step) (by omega), wrap_id (by unfold lastM at l0 l1; omega)]
 exact k _ hs.drop
theorem sAsked_sp {Q : Int → H → Prop} (hs : Sat h0 A h) (ci : At A i (chipE p C)) (st : At A m (storeE s p r)) (x n : Int) (k : Q (askedM C x n) h) : F_store_Store_asked ⟨s, 0, none⟩ x n Q h := by
 unfold F_store_Store_asked G_store_Store_asked
 refine ⟨_, hs.ld st rfl, _, rfl, ?_⟩
 refine Out_sp hs ci ?_
 unfold askedM at k
 by_cases ho : C.out = true
 ·rw [if_pos ho] at k; rw [if_pos ho]; exact k
 rw [if_neg ho] at k; rw [if_neg ho]
 by_cases g1 : x < 0
 ·rw [if_pos g1] at k; rw [ltI_eq, if_pos (by simpa using g1)]; exact k
 rw [if_neg g1] at k; rw [ltI_eq, if_neg (by simpa using g1)]
 by_cases g2 : n ≤ x
 ·rw [if_pos g2] at k; rw [leI_eq, if_pos (by simpa using g2)]; exact k
 rw [if_neg g2] at k; rw [leI_eq, if_neg (by simpa using g2)]; exact k
theorem sRead_sp {Q : Int → Int → H → Prop} (hs : Sat h0 A h) (ci : At A i (chipE p C)) (cl : At A j (logE r p)) (st : At A m (storeE s p r)) (slot : Int) (k : ∀ h', Sat h0 A h' → Q (sRead C slot).1 (sRead C slot).2 h') : F_store_Store_Read ⟨s, 0, none⟩ slot Q h := by
 unfold F_store_Store_Read G_store_Store_Read
 try simp only [add_mk, Nat.zero_add, List.append_nil]
 have ok := chip_ok hs ci
 refine ⟨_, hs.ld st rfl, _, rfl, ?_⟩
 refine Config_sp hs ci ?_
 intro h1 hs
 refine sAsked_sp hs ci st _ _ ?_
 unfold sRead at k
 by_cases ha : askedM C slot C.cfg.slots = 0
 case neg =>
  rw [if_pos (by simpa using ha)]
  rw [if_pos ha] at k
  exact k _ hs
 rw [if_neg (fun y => y ha)] at k
 rw [if_neg (by simpa using ha)]
 obtain ⟨ho, g0, g1⟩ := askedM_zero ha
 refine ⟨_, hs.ld st rfl, _, rfl, ?_⟩
 refine Count_sp hs ci slot ?_
 intro h2 hs
 have ec : (countM C slot).2 = 0 := by unfold countM; rw [if_neg (fun y => y ha)]
 rw [ec, if_neg (by simp)]
 refine ⟨_, hs.ld st rfl, _, rfl, ?_⟩
 refine Number_sp hs ci cl slot ?_
 intro h3 hs
 have en : numberM C slot = (numOf C slot.toNat, 0) := by
  unfold numberM
  rw [if_neg (by simp [ho]), if_neg (fun y => y ⟨g0, by omega⟩)]
 rw [en, if_neg (by simp)]
 refine ⟨_, hs.ld st rfl, _, rfl, ?_⟩
 refine Config_sp hs ci ?_
 intro h4 hs
 obtain ⟨v0, v1, _⟩ := valS_in ok slot
 rw [wrap_id (by omega)]
 intro n40 _ hn; replace hs := Sat.new hs hn; clear hn
 refine ⟨Sat.can hs (i := 0) .z (by simp [zeros]), ?_⟩
 intro h5 e
 replace hs := Sat.wra hs (i := 0) .z e (by simp [zeros])
 clear e
 simp only [put] at hs
 refine ⟨by decide, by decide, _, hs.ld (i := 0) .z rfl, by decide, by decide, _, hs.ld (i := 0) .z rfl, ?_⟩
 exact k _ hs.drop
theorem sRevoked_sp {Q : Bool → Int → H → Prop} (hs : Sat h0 A h) (ci : At A i (chipE p C)) (st : At A m (storeE s p r)) (key : Int)
  (k : ∀ h', Sat h0 A h' → Q (revokedM C key).1 (revokedM C key).2 h') : F_store_Store_Revoked ⟨s, 0, none⟩ key Q h := by
 unfold F_store_Store_Revoked G_store_Store_Revoked
 refine ⟨_, hs.ld st rfl, _, rfl, ?_⟩
 refine Config_sp hs ci ?_
 intro h1 hs
 refine sAsked_sp hs ci st _ _ ?_
 by_cases ha : askedM C key C.cfg.keys = 0
 case neg =>
  rw [if_pos (by simpa using ha)]
  have e1 : revokedM C key = (false, askedM C key C.cfg.keys) := by unfold revokedM; rw [if_pos ha]
  rw [e1] at k
  exact k _ hs
 rw [if_neg (by simpa using ha)]
 refine ⟨_, hs.ld st rfl, _, rfl, ?_⟩
 exact Revoked_sp hs ci key k
end
end Go.Proofs.YtaglicdidpgkpaaGreatDoor
end

/- The document's store. Own work. -/
section
set_option maxRecDepth 100000
set_option linter.unusedVariables false
namespace Go.Proofs.YtaglicdidpgkpaaGreatDoor
open Go Go.Vc

def sActive (C : Cm) : Int × Int := numberM C C.cfg.slots
section
variable {h0 h : H} {A : List Ent} {i j p r b s m : Nat} {C : Cm}
theorem sActive_sp {Q : Int → Int → H → Prop} (hs : Sat h0 A h) (ci : At A i (chipE p C)) (cl : At A j (logE r p)) (st : At A m (storeE s p r)) (k : ∀ h', Sat h0 A h' → Q (sActive C).1 (sActive C).2 h') : F_store_Store_Active ⟨s, 0, none⟩ Q h := by
 unfold F_store_Store_Active G_store_Store_Active
 try simp only [add_mk, Nat.zero_add]
 refine ⟨_, hs.ld st rfl, _, rfl, ?_⟩
 refine Out_sp hs ci ?_
 by_cases ho : C.out = true
 ·rw [if_pos ho]
  have e : sActive C = (0, 8) := by unfold sActive numberM; rw [if_pos ho]
  rw [e] at k
  exact k _ hs
 rw [if_neg ho]
 refine ⟨_, hs.ld st rfl, _, hs.ld st rfl, _, rfl, ?_⟩
 refine Config_sp hs ci ?_
 intro h1 hs
 refine ⟨hcs_one (hs.ld st rfl), _, rfl, ?_⟩
 refine Number_sp hs ci cl C.cfg.slots ?_
 intro h2 hs
 exact k _ hs
end
end Go.Proofs.YtaglicdidpgkpaaGreatDoor
end

/- Tokens: what keeps a wish from meeting a caveat; whether a token lets somebody do that. Own work. -/
section
set_option maxRecDepth 100000
set_option linter.unusedVariables false
namespace Go.Proofs.YtaglicdidpgkpaaGreatDoor
open Go Go.Vc
attribute [local irreducible] macM

structure WiM where
 kind : Int
 slot : Int
 ver : Int
section
variable {h0 h : H} {A : List Ent} {i j p r b s m : Nat} {C : Cm}
theorem sActive_out (ok : C.ok) : (sActive C).2 = if C.out = true then 8 else 0 := by
 have hm := ok.may.slots
 unfold sActive numberM
 by_cases ho : C.out = true
 ·rw [if_pos ho, if_pos ho]
 ·rw [if_neg ho, if_neg ho, if_neg (fun y => y ⟨by omega, Int.le_refl _⟩)]
theorem revoked_err (ho : ¬ C.out = true) {key : Int} (hk : 0 ≤ key) : (revokedM C key).2 = if C.cfg.keys ≤ key then 2 else 0 := by
 have a : askedM C key C.cfg.keys = if C.cfg.keys ≤ key then 2 else 0 := by unfold askedM; rw [if_neg ho, if_neg (by omega)]
 unfold revokedM
 rw [a]
 by_cases g : C.cfg.keys ≤ key
 ·rw [if_pos g, if_pos (by decide)]
 ·rw [if_neg g, if_neg (by decide)]
end
end Go.Proofs.YtaglicdidpgkpaaGreatDoor
end

/- Law 24: the scene: a chip, its store, keys, the program's and the document's. Own work. -/
section
set_option maxRecDepth 100000
set_option linter.unusedVariables false
namespace Go.Proofs.YtaglicdidpgkpaaGreatDoor
open Go Go.Vc
attribute [local irreducible] macM

theorem goM_ne (L : List Sec) : ∀ k e i, goM L k = some (e, i) → e ≠ 0
 | 0, e, i, h => by cases h
 | k + 1, e, i, h => by
  unfold goM at h
  by_cases c : badM (L.take (L.length - (k + 1))) (L.getD (L.length - (k + 1)) (0, [])) = 0
  ·rw [if_pos c] at h
   exact goM_ne L k e i h
  ·rw [if_neg c] at h
   injection h with h
   injection h with h1 h2
   rw [← h1]; exact c
theorem newM_ne {L : List Sec} {e i : Int} (h : newM L = some (e, i)) : e ≠ 0 := by
 unfold newM at h
 by_cases c : 64 < L.length
 ·rw [if_pos c] at h
  injection h with h
  injection h with h1 h2
  omega
 ·rw [if_neg c] at h
  exact goM_ne L _ _ _ h
section
variable {h0 h : H} {A : List Ent} {i j p r b s m : Nat} {C : Cm}
abbrev scnV (c : Cfg) (a b c' : Sl) (lp : Option Addr) (ll lc : Nat) : List Value := [.int .i64 c.cells, .int .i64 c.slots, .int .i64 c.fuses, .int .i64 c.step, .int .i64 c.keys, .int .i64 c.erases, .int .i64 c.area, a.v, b.v, c'.v, .slice lp ll lc]
end
end Go.Proofs.YtaglicdidpgkpaaGreatDoor
end

/- What arguments of the statements are: scenes. Own work. -/
section
set_option maxRecDepth 100000
set_option linter.unusedVariables false
namespace Go.Proofs.YtaglicdidpgkpaaGreatDoor
open Go Go.Vc Go.ChangeShapes Go.WideShapes Go.ChangeAt Go.RowKit
theorem xScn : xsh PP 8 31 = some [.int .i64, .int .i64, .int .i64, .int .i64, .int .i64, .int .i64, .int .i64, .slc 165, .slc 3, .slc 4, .slc 89] := by kernel_rfl
section
variable {D : Type} {enc : TypeId × Value → D} {W : World}
theorem sceneC_of {v : Value} {base : Nat} (h : Rdt enc PP W 31 v.cells.toList) (ho : Value.okWide PP W .any base 31 v) :
  ∃ (c : Cfg) (a b c' : Sl) (s : St) (X : List SR) (lp : Option Addr) (ll lc : Nat), v = .agg (scnV c a b c' lp ll lc).toArray ∧ RdS W.heap a b c' s ∧ s.typed ∧ s.small ∧ SecsAt W.heap lp ll X ∧ ll < 2 ^ 47 ∧ ∀ i (hi : i < X.length), X[i].bytes.length ≤ X[i].c := by
 have e := okw_agg (by kernel_rfl) ho
 obtain ⟨a1, r1, e1, _, a2, r2, rfl, _, a3, r3, rfl, _, a4, r4, rfl, _, a5, r5, rfl, _, a6, r6, rfl, _, a7, r7, rfl, _, p1, l1, c1, q1, rfl, s1, p2, l2, c2, q2, rfl, s2, p3, l3, c3, q3, rfl, s3, p4, l4, c4, q4, rfl, s4, hr⟩ := Rdt.xm 8 _ _ _ xScn h
 simp only [XM] at hr
 subst hr
 obtain ⟨rows, m1, m2, m3⟩ := mat_of s1
 obtain ⟨es, i1, i2, i3⟩ := ints_of s2
 obtain ⟨bs, b1, b2⟩ := bools_of s3
 obtain ⟨X, x1, x2, x3⟩ := secsC_of s4
 refine ⟨⟨a1, a2, a3, a4, a5, a6, a7⟩, (p1, l1, c1), (p2, l2, c2), (p3, l3, c3), ⟨rows, es, bs⟩, X, p4, l4, c4, ?_, ⟨m1, i1, b1⟩, ⟨fun l hl => (m2 l hl).1, i2⟩, ⟨m3, fun l hl => (m2 l hl).2, i3, b2⟩, x1, x2, x3⟩
 rw [e]
 congr 1
 rw [← Array.toArray_toList (xs := v.cells), e1]
theorem ok_scn (c : Cfg) (a b c' : Sl) (lp : Option Addr) (ll lc : Nat) : (DV.agg [.c (.int .i64 c.cells), .c (.int .i64 c.slots), .c (.int .i64 c.fuses), .c (.int .i64 c.step), .c (.int .i64 c.keys), .c (.int .i64 c.erases), .c (.int .i64 c.area), .c a.v, .c b.v, .c c'.v, .c (.slice lp ll lc)]).ok := by
 intro y hy; simp only [List.mem_cons, List.not_mem_nil, or_false] at hy
 rcases hy with rfl | rfl | rfl | rfl | rfl | rfl | rfl | rfl | rfl | rfl | rfl <;> rfl
end
end Go.Proofs.YtaglicdidpgkpaaGreatDoor
end

/- Images: numbers of four bytes; what is wrong with bytes. Own work. -/
section
set_option maxRecDepth 100000
set_option linter.unusedVariables false
namespace Go.Proofs.YtaglicdidpgkpaaGreatDoor
open Go Go.Vc

theorem b64_ofNat (n : Nat) : b64 (n : Int) = BitVec.ofNat 64 n := by
 apply BitVec.eq_of_toNat_eq
 simp only [BitVec.toNat_ofInt, BitVec.toNat_ofNat]; omega
theorem or_low {x y : Int} (k : Nat) (hx : 0 ≤ x ∧ x < 2 ^ k) (hy : 0 ≤ y) (hxy : x + y * 2 ^ k < 2 ^ 63) : bits .or .i64 x (y * 2 ^ k) = x + y * 2 ^ k := by
 obtain ⟨a, rfl⟩ := Int.eq_ofNat_of_zero_le hx.1
 obtain ⟨b, rfl⟩ := Int.eq_ofNat_of_zero_le hy
 have ha : a < 2 ^ k := by have := hx.2; exact_mod_cast this
 have e1 : ((b : Int) * 2 ^ k) = ((b * 2 ^ k : Nat) : Int) := by simp
 rw [e1] at hxy ⊢
 have : bits .or .i64 (a : Int) ((b * 2 ^ k : Nat) : Int) = IntKind.i64.wrap ((b64 (a : Int) ||| b64 ((b * 2 ^ k : Nat) : Int)).toNat : Int) := rfl
 rw [this, b64_ofNat, b64_ofNat]
 have e2 : a ||| (b * 2 ^ k) = a + b * 2 ^ k := by
  have := Nat.shiftLeft_add_eq_or_of_lt ha b
  rw [Nat.shiftLeft_eq] at this
  rw [Nat.or_comm, ← this]; omega
 have e3 : (BitVec.ofNat 64 a ||| BitVec.ofNat 64 (b * 2 ^ k)).toNat = a + b * 2 ^ k := by
  rw [BitVec.toNat_or, BitVec.toNat_ofNat, BitVec.toNat_ofNat, Nat.mod_eq_of_lt (by omega), Nat.mod_eq_of_lt (by omega), e2]
 rw [e3, IntKind.wrap_i64]; omega
def num4 (bs : List Int) (o : Nat) : Int := bs.getD o 0 + 256 * bs.getD (o + 1) 0 + 65536 * bs.getD (o + 2) 0 + 16777216 * bs.getD (o + 3) 0
theorem or4 {a b c d : Int} (ha : isByte a) (hb : isByte b) (hc : isByte c) (hd : isByte d) :
  bits .or .i64 (bits .or .i64 (bits .or .i64 (IntKind.i64.wrap a) (IntKind.i64.wrap (IntKind.i64.wrap b * 2 ^ 8))) (IntKind.i64.wrap (IntKind.i64.wrap c * 2 ^ 16))) (IntKind.i64.wrap (IntKind.i64.wrap d * 2 ^ 24)) = a + 256 * b + 65536 * c + 16777216 * d := by
 obtain ⟨a1, a2⟩ := ha; obtain ⟨b1, b2⟩ := hb; obtain ⟨c1, c2⟩ := hc; obtain ⟨d1, d2⟩ := hd
 have w : ∀ n : Int, 0 ≤ n ∧ n < 2 ^ 40 → IntKind.i64.wrap n = n := fun n hn => by rw [IntKind.wrap_i64]; omega
 rw [w a (by omega), w b (by omega), w c (by omega), w d (by omega), w (b * 2 ^ 8) (by omega), w (c * 2 ^ 16) (by omega), w (d * 2 ^ 24) (by omega)]
 rw [or_low 8 (by omega) b1 (by omega), or_low 16 (by omega) c1 (by omega), or_low 24 (by omega) d1 (by omega)]
 omega
theorem num4_range {bs : List Int} (hb : bytesOk bs) (o : Nat) : 0 ≤ num4 bs o ∧ num4 bs o < 2 ^ 32 := by
 have g : ∀ x, isByte (bs.getD x 0) := fun x => by
  rw [List.getD_eq_getElem?_getD]
  cases e : bs[x]? with
  | none => exact ⟨by decide, by decide⟩
  | some v => exact hb v (List.mem_iff_getElem?.2 ⟨x, e⟩)
 have g0 := g o; have g1 := g (o + 1); have g2 := g (o + 2); have g3 := g (o + 3)
 unfold isByte at *
 unfold num4; omega
theorem byte_getD {bs : List Int} (hb : bytesOk bs) (x : Nat) : isByte (bs.getD x 0) := by
 rw [List.getD_eq_getElem?_getD]
 cases e : bs[x]? with
 | none => exact ⟨by decide, by decide⟩
 | some v => exact hb v (List.mem_iff_getElem?.2 ⟨x, e⟩)
theorem sub_rd {h : H} {q : Option Addr} {l o n m : Nat} {k : IntKind} {bs : List Int} (rd : hsv h q 1 l (ints k bs)) (ho : o + n ≤ l) (hm : m = o → n = 0) : hsv h (subAddr q o m 1) 1 n (ints k ((bs.drop o).take n)) := by
 have hl : bs.length = l := by have := rd.1; simpa using this
 refine ⟨by rw [ints_length, List.length_take, List.length_drop]; omega, ints_one _ _, ?_⟩
 by_cases c : n = 0
 ·subst c; exact Or.inl rfl
 unfold subAddr
 rw [if_neg (fun y => c (hm y))]
 obtain ⟨_, _, rd⟩ := rd
 rcases rd with rd | ⟨q', rfl, g⟩
 ·have := congrArg List.length rd
  rw [ints_length, List.length_nil] at this; omega
 ·refine Or.inr ⟨_, rfl, ?_⟩
  intro i v hv
  have hi : i < n := by
   have h1 : i < (ints k ((bs.drop o).take n)).length := (List.getElem?_eq_some_iff.1 hv).1
   rw [ints_length, List.length_take] at h1
   exact Nat.lt_of_lt_of_le h1 (Nat.min_le_left _ _)
  have e := g (o + i) v (by
   rw [ints_get] at hv ⊢
   rw [List.getElem?_take_of_lt hi, List.getElem?_drop] at hv
   exact hv)
  rw [Nat.mul_one, add_add]
  exact e
theorem drop_getD (bs : List Int) (o n x : Nat) (hx : x < n) : ((bs.drop o).take n).getD x 0 = bs.getD (o + x) 0 := by
 rw [List.getD_eq_getElem?_getD, List.getD_eq_getElem?_getD, List.getElem?_take_of_lt hx, List.getElem?_drop]
theorem drop_bytes {bs : List Int} (hb : bytesOk bs) (o n : Nat) : bytesOk ((bs.drop o).take n) := fun v hv => hb v (List.mem_of_mem_drop (List.mem_of_mem_take hv))
theorem num4_drop (bs : List Int) (o n : Nat) (hn : 4 ≤ n) : num4 ((bs.drop o).take n) 0 = num4 bs o := by
 unfold num4
 rw [drop_getD _ _ _ _ (by omega), drop_getD _ _ _ _ (by omega), drop_getD _ _ _ _ (by omega), drop_getD _ _ _ _ (by omega)]
 rfl
def markB (x : Nat) : Int := (((ByteArray.mk #[80, 67, 85, 76]).data.toList.getD x 0).toNat : Int)
def mayB (x : Nat) (c : Int) : Bool := if x < 4 then c == markB x else if x = 4 then c == 1 else if x = 5 then decide (c < 8) else if x = 6 then decide (c < 64) else if x = 7 then c == 0 else true
def headW (bs : List Int) : Nat → Nat → Option (Int × Int)
 | 0, _ => none
 | m + 1, x => if x = bs.length then some (6, x) else if mayB x (bs.getD x 0) = true then headW bs m (x + 1) else some (5, x)
def parseW (bs : List Int) : Int × Int :=
 if 524288 < bs.length then (4, 524288) else match headW bs 16 0 with
 | some w => w
 | none => if 524240 < num4 bs 12 then (5, 12) else if (bs.length : Int) < 48 + num4 bs 12 then (6, bs.length) else if 48 + num4 bs 12 < bs.length then (7, 48 + num4 bs 12) else (0, 0)
section
variable {h0 h : H} {A : List Ent} {i j p r b : Nat}
theorem number_sp {Q : Int → H → Prop} {q : Option Addr} {l c : Nat} {bs : List Int} (rd : hsv h q 1 l (ints .u8 bs)) (hb : bytesOk bs) (hl : 4 ≤ l) (k : Q (num4 bs 0) h) : F_image_number q l c Q h := by
 unfold F_image_number G_image_number
 have g : ∀ x, x < l → ∃ q', q = some q' ∧ hc h (q'.add x) = some (.int .u8 (bs.getD x 0)) := fun x hx => hsv_int rd hx
 obtain ⟨q0, e0, g0⟩ := g 0 (by omega)
 obtain ⟨q1, e1, g1⟩ := g 1 (by omega)
 obtain ⟨q2, e2, g2⟩ := g 2 (by omega)
 obtain ⟨q3, e3, g3⟩ := g 3 (by omega)
 rw [add_zero] at g0
 refine ⟨_, e0, by omega, by omega, _, g0, _, e1, by omega, by omega, _, g1, by omega, _, e2, by omega, by omega, _, g2, by omega, _, e3, by omega, by omega, _, g3, by omega, ?_⟩
 rw [or4 (byte_getD hb _) (byte_getD hb _) (byte_getD hb _) (byte_getD hb _)]
 exact k
theorem may_sp {Q : Bool → H → Prop} (x : Nat) (c : Int) (k : Q (mayB x c) h) : F_image_may (x : Int) c Q h := by
 unfold F_image_may G_image_may
 unfold mayB at k
 by_cases g : x < 4
 ·rw [if_pos g] at k
  rw [ltI_eq, if_pos (by simp; omega)]
  refine ⟨by omega, by omega, ?_⟩
  rw [Int.toNat_natCast]; exact k
 rw [if_neg g] at k
 rw [ltI_eq, if_neg (by simp; omega)]
 by_cases g4 : x = 4
 ·rw [if_pos g4] at k; rw [if_pos (by simp; omega)]; exact k
 rw [if_neg g4] at k; rw [if_neg (by simp; omega)]
 by_cases g5 : x = 5
 ·rw [if_pos g5] at k; rw [if_pos (by simp; omega), ltI_eq]; exact k
 rw [if_neg g5] at k; rw [if_neg (by simp; omega)]
 by_cases g6 : x = 6
 ·rw [if_pos g6] at k; rw [if_pos (by simp; omega), ltI_eq]; exact k
 rw [if_neg g6] at k; rw [if_neg (by simp; omega)]
 by_cases g7 : x = 7
 ·rw [if_pos g7] at k; rw [if_pos (by simp; omega)]; exact k
 rw [if_neg g7] at k; rw [if_neg (by simp; omega)]
 exact k
end
end Go.Proofs.YtaglicdidpgkpaaGreatDoor
end

/- Images: taken apart. Own work. -/
section
set_option maxRecDepth 100000
set_option linter.unusedVariables false
namespace Go.Proofs.YtaglicdidpgkpaaGreatDoor
open Go Go.Vc

abbrev imgL (a b v : Int) (x : Sl) (t : List Int) : List Value := .int .i64 a :: .int .i64 b :: .int .i64 v :: x.v :: ints .u8 t
section
variable {h0 h : H} {A : List Ent} {i j p r b : Nat}
theorem img_len {a b v : Int} {x : Sl} {t : List Int} (ht : t.length = 32) : (imgL a b v x t).length = 36 := by simp [ht]
theorem img_row {a b' v : Int} {x : Sl} {t : List Int} (hs : Sat h0 A h) (m : At A i (blk b (imgL a b' v x t))) (ht : t.length = 32) : hrow h ⟨b, 4, none⟩ .u8 t := by
 refine hs.cs m ?_
 show (ints .u8 t).take (ints .u8 t).length = _
 rw [List.take_length]
theorem img_s4 {a b' v : Int} {x : Sl} {u : List Int} (hu : u.length = 32) : splice (imgL a b' v x (zeros 32)) 4 (ints .u8 u) = imgL a b' v x u := by
 have e : imgL a b' v x (zeros 32) = [.int .i64 a, .int .i64 b', .int .i64 v, x.v] ++ ints .u8 (zeros 32) := rfl
 have e2 : ∀ (vs xs : List Value) (o : Nat) (pre : List Value), splice (pre ++ vs) (pre.length + o) xs = pre ++ splice vs o xs := by
  intro vs xs
  induction xs generalizing vs with
  | nil => intro o pre; rfl
  | cons y ys ih =>
   intro o pre
   rw [splice_cons, splice_cons, set_app pre vs [], Nat.add_assoc]
   exact ih (vs.set o y) (o + 1) pre
 rw [e]
 have := e2 (ints .u8 (zeros 32)) (ints .u8 u) 0 [.int .i64 a, .int .i64 b', .int .i64 v, x.v]
 rw [splice_all _ _ (by simp [hu])] at this
 exact this
theorem Parse_sp {Q : Int → Int → Int → Option Addr → Nat → Nat → List Int → Value → H → Prop} {q : Option Addr} {l c : Nat} {bs : List Int} (hs : Sat h0 A h) (rd : ∀ h', Sat h0 A h' → hsv h' q 1 l (ints .u8 bs)) (hb : bytesOk bs) (hlc : l ≤ c) (hl : l < 2 ^ 50)
  (k1 : ∀ e at_ w h', parseW bs = (e, at_) → e ≠ 0 → Sat h0 (blk w [.int .i64 e, .int .i64 at_] :: A) h' → Q 0 0 0 none 0 0 (zeros 32) (.iface 200 (.pointer (some ⟨w, 0, none⟩))) h')
  (k2 : ∀ (own : Sl) (n : Nat) h', parseW bs = (0, 0) → num4 bs 12 = n → Sat h0 (sE own 1 (ints .u8 bs) :: A) h' → Q (bs.getD 5 0) (bs.getD 6 0) (num4 bs 8) (subAddr own.1 16 (16 + n) 1) n n ((bs.drop (16 + n)).take 32) .nilIface h') :
  F_image_Parse q l c Q h := by
 unfold F_image_Parse G_image_Parse
 try simp only [add_mk, Nat.zero_add, List.append_nil]
 have hbl : bs.length = l := by have := (rd _ hs).1; simpa using this
 intro n7 _ hn; replace hs := Sat.new hs hn; clear hn
 replace hs : Sat h0 (blk n7 (imgL 0 0 0 (none, 0, 0) (zeros 32)) :: A) _ := hs
 have bad : ∀ e at_ h', parseW bs = (e, at_) → e ≠ 0 → Sat h0 (blk n7 (imgL 0 0 0 (none, 0, 0) (zeros 32)) :: A) h' → ∀ (n10 : Nat) (h11 : H), hnew h' n10 [.int .i64 e, .int .i64 at_] h11 → hcan h11 ⟨n7, 0, none⟩ 36 ∧ ∀ h13, h13 = hwr h11 ⟨n7, 0, none⟩ (imgL 0 0 0 (none, 0, 0) (zeros 32)) →
   ∃ i15 : Int, hc h13 ⟨n7, 0, none⟩ = some (.int .i64 i15) ∧ ∃ i16 : Int, hc h13 ⟨n7, 1, none⟩ = some (.int .i64 i16) ∧ ∃ i17 : Int, hc h13 ⟨n7, 2, none⟩ = some (.int .i64 i17) ∧ ∃ (o18 : Option Addr) (n19 n20 : Nat), hc h13 ⟨n7, 3, none⟩ = some (.slice o18 n19 n20) ∧
    ∃ l21 : List Int, l21.length = 32 ∧ hrow h13 ⟨n7, 4, none⟩ .u8 l21 ∧ Q i15 i16 i17 o18 n19 n20 l21 (.iface 200 (.pointer (some ⟨n10, 0, none⟩))) h13 := by
  intro e at_ h' hw he hs n10 h11 hn
  replace hs := Sat.new hs hn
  refine ⟨Sat.can hs (i := 1) (.s .z) (by decide), ?_⟩
  intro h13 e13
  replace hs := Sat.wra hs (i := 1) (.s .z) e13 rfl
  simp only [put] at hs
  refine ⟨_, Sat.ld hs (i := 1) (.s .z) rfl, _, Sat.ld hs (i := 1) (.s .z) rfl, _, Sat.ld hs (i := 1) (.s .z) rfl, _, _, _, Sat.ld hs (i := 1) (.s .z) rfl, _, rfl, img_row hs (.s .z) rfl, ?_⟩
  exact k1 e at_ n10 _ hw he (hs.sub (by (repeat (first | exact List.Sublist.refl _ | apply List.Sublist.cons_cons | apply List.Sublist.cons))))
 by_cases g1 : 524288 < l
 ·rw [ltI_eq, if_pos (by simp; omega)]
  exact bad _ _ _ (by unfold parseW; rw [if_pos (by omega)]) (by decide) hs
 rw [ltI_eq, if_neg (by simp; omega)]
 have hP : parseW bs = match headW bs 16 0 with
  | some w => w
  | none => if 524240 < num4 bs 12 then (5, 12) else if (bs.length : Int) < 48 + num4 bs 12 then (6, bs.length) else if 48 + num4 bs 12 < bs.length then (7, 48 + num4 bs 12) else (0, 0) := by
  unfold parseW; rw [if_neg (by omega)]; try rfl
 clear k1
 generalize hW : headW bs 16 0 = W at hP
 intro J hJ
 refine loop_up 16 (fun x h => Sat h0 (blk n7 (imgL 0 0 0 (none, 0, 0) (zeros 32)) :: A) h ∧ W = headW bs (16 - x) x ∧ x ≤ l) ?_ ?_ 0 _ (by omega) ⟨hs, hW.symm, by omega⟩
 ·rintro x h1 hx ⟨hs, hh, hxl⟩ hk
  apply hJ
  rw [ltI_eq, if_pos (by simp; omega)]
  obtain ⟨m, hm⟩ : ∃ m, 16 - x = m + 1 := ⟨16 - x - 1, by omega⟩
  rw [hm] at hh
  unfold headW at hh
  by_cases g2 : x = l
  ·rw [if_pos (show x = bs.length by omega)] at hh
   rw [if_pos (by simp; omega)]
   exact bad 6 x _ (by rw [hP, hh]) (by decide) hs
  rw [if_neg (show ¬ x = bs.length by omega)] at hh
  rw [if_neg (by simp; omega)]
  obtain ⟨q', hq, g⟩ := hsv_int (rd _ hs.drop) (x := x) (by omega)
  refine ⟨_, hq, by omega, by omega, _, by rw [Int.toNat_natCast, Nat.mul_one]; exact g, ?_⟩
  refine may_sp x _ ?_
  by_cases g3 : mayB x (bs.getD x 0) = true
  ·rw [if_pos g3] at hh
   rw [if_neg (by rw [g3]; decide), wrap_succ (by omega)]
   exact hk _ ⟨hs, by rw [hh, show 16 - (x + 1) = m by omega], by omega⟩
  ·rw [if_neg g3] at hh
   rw [if_pos (by rw [Bool.not_eq_true] at g3; rw [g3]; rfl)]
   exact bad 5 x _ (by rw [hP, hh]) (by decide) hs
 rintro h1 ⟨hs, hh, hxl⟩
 apply hJ
 rw [ltI_eq, if_neg (by simp)]
 clear hJ J
 have hh : W = none := hh
 rw [hh] at hP
 dsimp only at hP
 refine ⟨by omega, by omega, ?_⟩
 have rd12 := sub_rd (o := 12) (n := l - 12) (m := c) (rd _ hs.drop) (by omega) (by omega)
 refine number_sp rd12 (drop_bytes hb _ _) (by omega) ?_
 rw [num4_drop _ _ _ (by omega)]
 obtain ⟨r1, r2⟩ := num4_range hb 12
 obtain ⟨n, hnn⟩ := Int.eq_ofNat_of_zero_le r1
 rw [hnn] at hP r2 ⊢
 have ew : IntKind.i64.wrap (16 + (n : Int)) = ((16 + n : Nat) : Int) := by rw [wrap_id (by omega)]; omega
 have ew2 : IntKind.i64.wrap (((16 + n : Nat) : Int) + 32) = ((48 + n : Nat) : Int) := by rw [wrap_id (by omega)]; omega
 rw [ew, ew2]
 by_cases g2 : 524240 < n
 ·rw [if_pos (by omega)] at hP
  rw [ltI_eq, if_pos (by simp; omega)]
  exact bad 5 12 _ hP (by decide) hs
 rw [if_neg (by omega)] at hP
 rw [ltI_eq, if_neg (by simp; omega)]
 by_cases g3 : l < 48 + n
 ·rw [if_pos (by omega), hbl] at hP
  rw [ltI_eq, if_pos (by simp; omega)]
  exact bad 6 l _ hP (by decide) hs
 rw [if_neg (by omega)] at hP
 rw [ltI_eq, if_neg (by simp; omega)]
 by_cases g4 : 48 + n < l
 ·rw [if_pos (by omega)] at hP
  rw [ltI_eq, if_pos (by simp; omega)]
  exact bad 7 _ _ (by rw [hP]; congr 1) (by decide) hs
 rw [if_neg (by omega)] at hP
 rw [ltI_eq, if_neg (by simp; omega)]
 have hw := hP
 clear bad hP
 have hl48 : l = 48 + n := by omega
 refine ⟨_, rd _ hs.drop, ?_⟩
 refine Sat.app_new hs (by simp [hbl]) rfl (ints_one _ _) (by omega) ?_
 intro o c2 h2 hs
 obtain ⟨own, hown⟩ : ∃ own : Sl, own = (o, l, c2) := ⟨_, rfl⟩
 have hcap := sl_cap hs (i := 0) .z
 replace hs : Sat h0 (sE own 1 (ints .u8 bs) :: blk n7 (imgL 0 0 0 (none, 0, 0) (zeros 32)) :: A) h2 := by rw [hown]; exact hs
 have eo1 : o = own.1 := by rw [hown]
 have eo2 : own.2.1 = l := by rw [hown]
 rw [eo1]
 have B : ∀ x, x < l → ∀ {A' : List Ent} {h' : H}, Sat h0 A h' → ∃ q', q = some q' ∧ hc h' (q'.add x) = some (.int .u8 (bs.getD x 0)) := fun x hx A' h' hs' => hsv_int (rd _ hs') hx
 obtain ⟨q', hq, g5⟩ := hsv_int (rd _ hs.drop.drop) (x := 5) (by omega)
 obtain ⟨q2, hq2, g6⟩ := hsv_int (rd _ hs.drop.drop) (x := 6) (by omega)
 rw [hq] at hq2
 injection hq2 with hq2
 subst hq2
 have c5 : ∀ h', Sat h0 A h' → hcs h' (q'.add 5) [.int .u8 (bs.getD 5 0)] := fun h' hs' => by
  obtain ⟨q2, hq2, g⟩ := hsv_int (rd _ hs') (x := 5) (by omega)
  rw [hq] at hq2; injection hq2 with hq2; subst hq2; exact hcs_one g
 have c6 : ∀ h', Sat h0 A h' → hcs h' (q'.add 6) [.int .u8 (bs.getD 6 0)] := fun h' hs' => by
  obtain ⟨q2, hq2, g⟩ := hsv_int (rd _ hs') (x := 6) (by omega)
  rw [hq] at hq2; injection hq2 with hq2; subst hq2; exact hcs_one g
 have b5 := byte_getD hb 5
 have b6 := byte_getD hb 6
 unfold isByte at b5 b6
 have w5 : IntKind.i64.wrap (bs.getD 5 0) = bs.getD 5 0 := by rw [IntKind.wrap_i64]; omega
 have w6 : IntKind.i64.wrap (bs.getD 6 0) = bs.getD 6 0 := by rw [IntKind.wrap_i64]; omega
 have ht32 : ((bs.drop (16 + n)).take 32).length = 32 := by rw [List.length_take, List.length_drop]; omega
 refine ⟨_, hq, by omega, by omega, _, g5, _, hq, by omega, by omega, _, g6, by omega, by omega, by omega, by omega, by omega, by omega, ?_⟩
 rw [Int.toNat_natCast, Nat.add_sub_cancel_left]
 have rd8 : ∀ h', Sat h0 A h' → hsv h' (subAddr q 8 c 1) 1 (l - 8) (ints .u8 ((bs.drop 8).take (l - 8))) := fun h' hs' => sub_rd (o := 8) (n := l - 8) (m := c) (rd _ hs') (by omega) (by omega)
 rw [w5, w6, show Nat.min (l - (16 + n)) 32 = 32 by show min _ _ = _; omega]
 constructor
 ·refine number_sp (rd8 _ hs.drop.drop) (drop_bytes hb _ _) (by omega) ?_
  rw [num4_drop _ _ _ (by omega)]
  refine ⟨c6 _ hs.drop.drop, c5 _ hs.drop.drop, ?_⟩
  intro nb _ hn; replace hs := Sat.new hs hn; clear hn
  refine ⟨c6 _ hs.drop.drop.drop, c5 _ hs.drop.drop.drop, ?_⟩
  (refine ⟨Sat.can hs (i := 0) .z (by decide), ?_⟩; intro h20 e20; replace hs := Sat.wra hs (i := 0) .z e20 (by rfl); clear e20; simp only [put] at hs; replace hs : Sat h0 (blk nb (imgL (bs.getD 5 0) (bs.getD 6 0) (num4 bs 8) (subAddr own.1 16 (16 + n) 1, n, n) (zeros 32)) :: sE own 1 (ints .u8 bs) :: blk n7 (imgL 0 0 0 (none, 0, 0) (zeros 32)) :: A) h20 := hs; refine ⟨by omega, by omega, _, sub_rd (n := 32) (hs.sv (i := 1) (.s .z)) (by omega) (by omega), Or.inr ⟨_, rfl, Sat.can hs (i := 0) .z (by rw [img_len rfl]; decide)⟩, ?_⟩; intro h21 e21; replace hs := Sat.wr hs (i := 0) .z (o := 4) e21; clear e21; rw [img_s4 (by rw [List.length_take, List.length_drop]; omega)] at hs; simp only [put] at hs; refine ⟨_, Sat.ld hs (i := 0) .z rfl, _, Sat.ld hs (i := 0) .z rfl, _, Sat.ld hs (i := 0) .z rfl, _, _, _, Sat.ld hs (i := 0) .z rfl, _, ht32, img_row hs .z ht32, Sat.can hs (i := 2) (.s (.s .z)) (by decide), ?_⟩; intro h22 e22; replace hs := Sat.wra hs (i := 2) (.s (.s .z)) e22 (by rw [img_len ht32]; rfl); clear e22; simp only [put] at hs; replace hs : Sat h0 (blk nb (imgL (bs.getD 5 0) (bs.getD 6 0) (num4 bs 8) (subAddr own.1 16 (16 + n) 1, n, n) ((bs.drop (16 + n)).take 32)) :: sE own 1 (ints .u8 bs) :: blk n7 (imgL (bs.getD 5 0) (bs.getD 6 0) (num4 bs 8) (subAddr own.1 16 (16 + n) 1, n, n) ((bs.drop (16 + n)).take 32)) :: A) h22 := hs; refine ⟨_, Sat.ld hs (i := 2) (.s (.s .z)) rfl, _, Sat.ld hs (i := 2) (.s (.s .z)) rfl, _, Sat.ld hs (i := 2) (.s (.s .z)) rfl, _, _, _, Sat.ld hs (i := 2) (.s (.s .z)) rfl, _, ht32, img_row hs (.s (.s .z)) ht32, ?_⟩; exact k2 own n _ hw hnn (hs.sub (by (repeat (first | exact List.Sublist.refl _ | apply List.Sublist.cons_cons | apply List.Sublist.cons)))))
 ·intro nb _ hn; replace hs := Sat.new hs hn; clear hn
  refine ⟨c6 _ hs.drop.drop.drop, c5 _ hs.drop.drop.drop, ?_⟩
  refine number_sp (rd8 _ hs.drop.drop.drop) (drop_bytes hb _ _) (by omega) ?_
  rw [num4_drop _ _ _ (by omega)]
  refine ⟨c6 _ hs.drop.drop.drop, c5 _ hs.drop.drop.drop, ?_⟩
  (refine ⟨Sat.can hs (i := 0) .z (by decide), ?_⟩; intro h20 e20; replace hs := Sat.wra hs (i := 0) .z e20 (by rfl); clear e20; simp only [put] at hs; replace hs : Sat h0 (blk nb (imgL (bs.getD 5 0) (bs.getD 6 0) (num4 bs 8) (subAddr own.1 16 (16 + n) 1, n, n) (zeros 32)) :: sE own 1 (ints .u8 bs) :: blk n7 (imgL 0 0 0 (none, 0, 0) (zeros 32)) :: A) h20 := hs; refine ⟨by omega, by omega, _, sub_rd (n := 32) (hs.sv (i := 1) (.s .z)) (by omega) (by omega), Or.inr ⟨_, rfl, Sat.can hs (i := 0) .z (by rw [img_len rfl]; decide)⟩, ?_⟩; intro h21 e21; replace hs := Sat.wr hs (i := 0) .z (o := 4) e21; clear e21; rw [img_s4 (by rw [List.length_take, List.length_drop]; omega)] at hs; simp only [put] at hs; refine ⟨_, Sat.ld hs (i := 0) .z rfl, _, Sat.ld hs (i := 0) .z rfl, _, Sat.ld hs (i := 0) .z rfl, _, _, _, Sat.ld hs (i := 0) .z rfl, _, ht32, img_row hs .z ht32, Sat.can hs (i := 2) (.s (.s .z)) (by decide), ?_⟩; intro h22 e22; replace hs := Sat.wra hs (i := 2) (.s (.s .z)) e22 (by rw [img_len ht32]; rfl); clear e22; simp only [put] at hs; replace hs : Sat h0 (blk nb (imgL (bs.getD 5 0) (bs.getD 6 0) (num4 bs 8) (subAddr own.1 16 (16 + n) 1, n, n) ((bs.drop (16 + n)).take 32)) :: sE own 1 (ints .u8 bs) :: blk n7 (imgL (bs.getD 5 0) (bs.getD 6 0) (num4 bs 8) (subAddr own.1 16 (16 + n) 1, n, n) ((bs.drop (16 + n)).take 32)) :: A) h22 := hs; refine ⟨_, Sat.ld hs (i := 2) (.s (.s .z)) rfl, _, Sat.ld hs (i := 2) (.s (.s .z)) rfl, _, Sat.ld hs (i := 2) (.s (.s .z)) rfl, _, _, _, Sat.ld hs (i := 2) (.s (.s .z)) rfl, _, ht32, img_row hs (.s (.s .z)) ht32, ?_⟩; exact k2 own n _ hw hnn (hs.sub (by (repeat (first | exact List.Sublist.refl _ | apply List.Sublist.cons_cons | apply List.Sublist.cons)))))
end
end Go.Proofs.YtaglicdidpgkpaaGreatDoor
end

/- The gate: whether an image may be started; the program. Own work. -/
section
set_option maxRecDepth 100000
set_option linter.unusedVariables false
namespace Go.Proofs.YtaglicdidpgkpaaGreatDoor
open Go Go.Vc
attribute [local irreducible] macM

def gateM (C : Cm) (L : List Sec) (bs : List Int) : Int :=
 if C.out = true then 8 else if (parseW bs).1 ≠ 0 then (parseW bs).1
 else if C.cfg.slots ≤ bs.getD 5 0 then 5
 else match L.find? (fun x => x.1 == bs.getD 6 0) with
  | none => 13
  | some s => if C.cfg.keys ≤ bs.getD 6 0 then 13 else if (revokedM C (bs.getD 6 0)).1 = true then 14
   else if macM s.2 (bs.take (bs.length - 32)) ≠ (bs.drop (bs.length - 32)).take 32 then 15
   else if num4 bs 8 < (sRead C (bs.getD 5 0)).1 then 16 else if lastM C.cfg < num4 bs 8 then 16 else 0
theorem head_all {bs : List Int} : ∀ (m x : Nat), headW bs m x = none → ∀ y, x ≤ y → y < x + m → mayB y (bs.getD y 0) = true
 | 0, x, _, y, h1, h2 => by omega
 | m + 1, x, h, y, h1, h2 => by
  unfold headW at h
  by_cases c : x = bs.length
  ·rw [if_pos c] at h; cases h
  rw [if_neg c] at h
  by_cases g : mayB x (bs.getD x 0) = true
  ·rw [if_pos g] at h
   by_cases e : y = x
   ·rw [e]; exact g
   ·exact head_all m (x + 1) h y (by omega) (by omega)
  ·rw [if_neg g] at h; cases h
theorem parse_ok {bs : List Int} (hb : bytesOk bs) {n : Nat} (h : parseW bs = (0, 0)) (hn : num4 bs 12 = n) : bs.length = 48 + n ∧ (0 ≤ bs.getD 5 0 ∧ bs.getD 5 0 < 8) ∧ (0 ≤ bs.getD 6 0 ∧ bs.getD 6 0 < 64) ∧ n ≤ 524240 := by
 unfold parseW at h
 by_cases c1 : 524288 < bs.length
 ·rw [if_pos c1] at h; injection h with h; cases h
 rw [if_neg c1] at h
 have hh : headW bs 16 0 = none := by
  cases e : headW bs 16 0 with
  | none => rfl
  | some w =>
   rw [e] at h
   dsimp only at h
   exfalso
   have key : ∀ m x, headW bs m x = some w → w.1 ≠ 0 := by
    intro m
    induction m with
    | zero => intro x y; cases y
    | succ m ih =>
     intro x y
     unfold headW at y
     by_cases c : x = bs.length
     ·rw [if_pos c] at y; injection y with y; rw [← y]; exact (by decide : (6 : Int) ≠ 0)
     rw [if_neg c] at y
     by_cases g : mayB x (bs.getD x 0) = true
     ·rw [if_pos g] at y; exact ih _ y
     ·rw [if_neg g] at y; injection y with y; rw [← y]; exact (by decide : (5 : Int) ≠ 0)
   have := key 16 0 e
   rw [h] at this
   exact this rfl
 rw [hh] at h
 dsimp only at h
 have m5 := head_all 16 0 hh 5 (by decide) (by decide)
 have m6 := head_all 16 0 hh 6 (by decide) (by decide)
 have e5 : bs.getD 5 0 < 8 := by
  have : mayB 5 (bs.getD 5 0) = decide (bs.getD 5 0 < 8) := rfl
  rw [this] at m5; exact of_decide_eq_true m5
 have e6 : bs.getD 6 0 < 64 := by
  have : mayB 6 (bs.getD 6 0) = decide (bs.getD 6 0 < 64) := rfl
  rw [this] at m6; exact of_decide_eq_true m6
 have b5 := byte_getD hb 5
 have b6 := byte_getD hb 6
 unfold isByte at b5 b6
 rw [hn] at h
 by_cases c2 : (524240 : Int) < (n : Int)
 ·rw [if_pos c2] at h; injection h with h; cases h
 rw [if_neg c2] at h
 by_cases c3 : (bs.length : Int) < 48 + (n : Int)
 ·rw [if_pos c3] at h; injection h with h; cases h
 rw [if_neg c3] at h
 by_cases c4 : 48 + (n : Int) < bs.length
 ·rw [if_pos c4] at h; injection h with h; cases h
 exact ⟨by omega, ⟨b5.1, e5⟩, ⟨b6.1, e6⟩, by omega⟩
theorem sread_err {C : Cm} (ho : ¬ C.out = true) {slot : Int} (hs : 0 ≤ slot) : (sRead C slot).2 = if C.cfg.slots ≤ slot then 2 else 0 := by
 have a : askedM C slot C.cfg.slots = if C.cfg.slots ≤ slot then 2 else 0 := by unfold askedM; rw [if_neg ho, if_neg (by omega)]
 unfold sRead
 rw [a]
 by_cases g : C.cfg.slots ≤ slot
 ·rw [if_pos g, if_pos (by decide)]
 ·rw [if_neg g, if_neg (by decide)]
theorem callFn_of {f : FuncId} {run : Run} {c : Array Value} {ds : List DV} {Q : List DV → H → Prop} {h : H} (hr : RunOk PP f run) (hd : ∀ x, x ∈ ds → x.ok) (hc : c.toList = ds.map DV.flat) (hrun : run ds Q h) : callFn PP (.func (.func f) (Array.mk []) c) [] Q h := by
 refine ⟨f, Array.mk [], c, rfl, ?_⟩
 have := hr ds Q h hd hrun
 rw [← hc] at this
 simpa using this
theorem addrs_ok (l : List Addr) : ∀ x, x ∈ l.map DV.addr → x.ok := by
 intro x hx
 obtain ⟨a, _, rfl⟩ := List.mem_map.1 hx
 trivial
section
variable {h0 h : H} {A : List Ent} {i j p r b s m : Nat} {C : Cm}
theorem kcheck_sp {Q : Bool → Int → H → Prop} {key : Int} {bb tag : List Int} {bp : Option Addr} {bl bc : Nat} {R : List SR} {x : SR} (hs : Sat h0 A h) (cr : At A i (blk r [.map (some m)])) (cm : At A j (mapE m (R.map SR.ent))) (gd : SR.good R)
  (rR : ∀ x, x ∈ R → ∀ h', Sat h0 A h' → hsv h' x.p 1 x.bytes.length (ints .u8 x.bytes)) (hx : SR.at_ R key = some x) (ht : tag.length = 32) (htb : isBy tag) (hbc : bl ≤ bc) (hbl : bl < 2 ^ 40)
  (rb : ∀ h', Sat h0 A h' → hsv h' bp 1 bl (ints .u8 bb)) (k : ∀ h', Sat h0 A h' → Q (decide (macM x.bytes bb = tag)) 0 h') : F_keys_Ring_Check ⟨r, 0, none⟩ key bp bl bc tag Q h := by
 unfold F_keys_Ring_Check G_keys_Ring_Check
 try simp only [add_mk, Nat.zero_add, List.append_nil]
 have hx2 : x ∈ R := List.mem_of_find?_eq_some hx
 have hg := gd x hx2
 have ml : mlook (.int .i64 key) (.one (.slice none 0 0)) (R.map SR.ent) = some (.one (.slice x.p x.bytes.length x.c), true) := by rw [mlook_at, hx]
 intro tb _ hn; replace hs := Sat.new hs hn; clear hn
 refine sign_sp hs cr.s cm.s ml hg.2.1 (by omega) hbc hbl (fun h' hs' => rR x hx2 _ hs'.drop) (fun h' hs' => rb _ hs'.drop) ?_
 intro h3 hs
 intro nb _ hn; replace hs := Sat.new hs hn; clear hn
 refine ⟨Sat.can hs (i := 0) .z (by simp [zeros]), ?_⟩
 intro h4 e
 replace hs := Sat.wra (xs := ints .u8 (macM x.bytes bb)) hs (i := 0) .z e (by simp [zeros, macM_len])
 clear e
 simp only [put_zero] at hs
 rw [if_neg (by decide)]
 refine equal_sp (isBy_mac _ _) htb (macM_len _ _) ht (hs.row0 (i := 0) .z) (hs.row0 (i := 1) (.s .z)) ?_
 exact k _ hs.drop.drop
theorem ibody_sp {Q : Option Addr → Nat → Nat → H → Prop} {bs : List Int} {q : Option Addr} {l c : Nat} (hs : Sat h0 A h) (rd : hsv h q 1 l (ints .u8 bs)) (hl : 32 ≤ l) (hlc : l ≤ c) (hl2 : l < 2 ^ 40)
  (k : ∀ p' c' h', l - 32 ≤ c' → Sat h0 (slE p' (l - 32) c' 1 (ints .u8 (bs.take (l - 32))) :: A) h' → Q p' (l - 32) c' h') : F_image_Body q l c Q h := by
 unfold F_image_Body G_image_Body
 have hbl : bs.length = l := by have := rd.1; simpa using this
 rw [ltI_eq, if_neg (by rw [decide_eq_true_iff]; omega)]
 have e : IntKind.i64.wrap ((l : Int) - 32) = ((l - 32 : Nat) : Int) := by rw [wrap_id (by omega)]; omega
 rw [e]
 refine ⟨by omega, by omega, ?_⟩
 simp only [Int.toNat_natCast, Nat.sub_zero]
 have R := subRd (o := 0) (n := l - 32) (m := c) rd (by omega) (by omega)
 rw [List.drop_zero] at R
 refine ⟨_, R, ?_⟩
 replace hs := hs.sl_nil 1 none
 refine Sat.app hs (i := 0) (vs := ints .u8 (bs.take (l - 32))) .z (by simp; omega) rfl (ints_one _ _) (by dsimp only; omega) ?_
 intro p' c' h' hs
 simp only [put_zero, List.nil_append, Nat.zero_add] at hs ⊢
 exact k p' c' h' (capS hs (i := 0) .z) hs
theorem ret0 {Q : Int → Int → Int → Option Addr → Nat → Nat → List Int → Int → H → Prop} {nb : Nat} {a1 a2 a3 : Int} {x : Sl} {t : List Int} (e : Int) (ht : t.length = 32) (hs : Sat h0 A h) (a : At A i (blk nb (imgL a1 a2 a3 x t))) (k : ∀ h', Sat h0 (put A i (blk nb (imgL 0 0 0 (none, 0, 0) (zeros 32)))) h' → Q 0 0 0 none 0 0 (zeros 32) e h') :
  hcan h ⟨nb, 0, none⟩ 36 ∧ ∀ h1, h1 = hwr h ⟨nb, 0, none⟩ (.int .i64 0 :: .int .i64 0 :: .int .i64 0 :: .slice none 0 0 :: ints .u8 (zeros 32)) → ∃ i1 : Int, hc h1 ⟨nb, 0, none⟩ = some (.int .i64 i1) ∧ ∃ i2 : Int, hc h1 ⟨nb, 1, none⟩ = some (.int .i64 i2) ∧ ∃ i3 : Int, hc h1 ⟨nb, 2, none⟩ = some (.int .i64 i3) ∧
   ∃ (o : Option Addr) (n m : Nat), hc h1 ⟨nb, 3, none⟩ = some (.slice o n m) ∧ ∃ l : List Int, l.length = 32 ∧ hrow h1 ⟨nb, 4, none⟩ .u8 l ∧ Q i1 i2 i3 o n m l e h1 := by
 refine ⟨Sat.can hs a (by simp [ht]), ?_⟩
 intro h1 e1
 replace hs := Sat.wra (xs := imgL 0 0 0 (none, 0, 0) (zeros 32)) hs a e1 (by simp [ht, zeros])
 exact ⟨_, hs.ld (a.put _) rfl, _, hs.ld (a.put _) rfl, _, hs.ld (a.put _) rfl, _, _, _, hs.ld (a.put _) rfl, _, zeros_len 32, img_row hs (a.put _) (zeros_len 32), k _ hs⟩
theorem gate_sp {Q : Int → Int → Int → Option Addr → Nat → Nat → List Int → Int → H → Prop} {mm rr jm jr : Nat} {bs : List Int} {q : Option Addr} {l c : Nat} {R : List SR} (hg : hc h0 ⟨0, 0, none⟩ = some errTypeV) (hs : Sat h0 A h) (ci : At A i (chipE p C)) (cl' : At A j (logE r p)) (st : At A m (storeE s p r))
  (cr : At A jr (blk rr [.map (some mm)])) (cm : At A jm (mapE mm (R.map SR.ent))) (gd : SR.good R) (rR : ∀ x, x ∈ R → ∀ h', Sat h0 A h' → hsv h' x.p 1 x.bytes.length (ints .u8 x.bytes))
  (rd : ∀ h', Sat h0 A h' → hsv h' q 1 l (ints .u8 bs)) (hb : bytesOk bs) (hlc : l ≤ c) (hl : l < 2 ^ 50)
  (k1 : ∀ e, e = gateM C (R.map SR.kv) bs → e ≠ 0 → ∀ h', Sat h0 A h' → Q 0 0 0 none 0 0 (zeros 32) e h')
  (k2 : ∀ (own : Sl) (n : Nat), gateM C (R.map SR.kv) bs = 0 → parseW bs = (0, 0) → num4 bs 12 = n → bs.length = 48 + n → ∀ h', Sat h0 (sE own 1 (ints .u8 bs) :: A) h' → Q (bs.getD 5 0) (bs.getD 6 0) (num4 bs 8) (subAddr own.1 16 (16 + n) 1) n n ((bs.drop (16 + n)).take 32) 0 h') :
  F_gate_Check ⟨s, 0, none⟩ ⟨rr, 0, none⟩ q l c Q h := by
 unfold F_gate_Check G_gate_Check
 try simp only [add_mk, Nat.zero_add, List.append_nil]
 have hbl : bs.length = l := by have := (rd _ hs).1; simpa using this
 have ok := chip_ok hs ci
 have w1 : IntKind.i64.wrap (0 + 1) = 1 := by decide
 have w2 : IntKind.i64.wrap (1 + 1) = 2 := by decide
 have w3 : IntKind.i64.wrap (2 + 1) = 3 := by decide
 have w4 : IntKind.i64.wrap (3 + 1) = 4 := by decide
 have w5 : IntKind.i64.wrap (4 + 1) = 5 := by decide
 have w6 : IntKind.i64.wrap (5 + 1) = 6 := by decide
 obtain ⟨G, hG⟩ : ∃ G, G = gateM C (R.map SR.kv) bs := ⟨_, rfl⟩
 have hG0 := hG
 rw [← hG] at k1 k2
 unfold gateM at hG
 intro n13 _ hn; replace hs := Sat.new hs hn; clear hn
 intro n16 _ hn; replace hs := Sat.new hs hn; clear hn
 intro n19 _ hn; replace hs := Sat.new hs hn; clear hn
 intro n22 _ hn; replace hs := Sat.new hs hn; clear hn
 intro n25 _ hn; replace hs := Sat.new hs hn; clear hn
 intro n28 _ hn; replace hs := Sat.new hs hn; clear hn
 obtain ⟨FS, hFS⟩ : ∃ FS : List Value, FS = [.func (.func id_gate_Check_1) (Array.mk []) (Array.mk [.pointer (some ⟨n13, 0, none⟩)]), .func (.func id_gate_Check_2) (Array.mk []) (Array.mk [.pointer (some ⟨n19, 0, none⟩), .pointer (some ⟨n25, 0, none⟩)]), .func (.func id_gate_Check_3) (Array.mk []) (Array.mk [.pointer (some ⟨n13, 0, none⟩), .pointer (some ⟨n25, 0, none⟩)]), .func (.func id_gate_Check_4) (Array.mk []) (Array.mk [.pointer (some ⟨n13, 0, none⟩), .pointer (some ⟨n25, 0, none⟩), .pointer (some ⟨n16, 0, none⟩)]), .func (.func id_gate_Check_5) (Array.mk []) (Array.mk [.pointer (some ⟨n16, 0, none⟩), .pointer (some ⟨n25, 0, none⟩), .pointer (some ⟨n19, 0, none⟩)]), .func (.func id_gate_Check_6) (Array.mk []) (Array.mk [.pointer (some ⟨n13, 0, none⟩), .pointer (some ⟨n25, 0, none⟩)])] := ⟨_, rfl⟩
 rw [← hFS] at hs
 replace hs : Sat h0 (blk n28 FS :: blk n25 (imgL 0 0 0 (none, 0, 0) (zeros 32)) :: blk n22 (imgL 0 0 0 (none, 0, 0) (zeros 32)) :: blk n19 [.slice q l c] :: blk n16 [.pointer (some ⟨rr, 0, none⟩)] :: blk n13 [.pointer (some ⟨s, 0, none⟩)] :: A) _ := hs
 intro J31 hJ31
 apply hJ31
 rw [ltI_eq, if_pos (by decide)]
 refine ⟨_, rfl, by decide, by decide, _, hs.ld (o := 0) (i := 0) .z (by rw [hFS]; rfl), rfl, ?_⟩
 refine callFn_of (ds := [⟨n13, 0, none⟩].map DV.addr) R_gate_Check_1 (addrs_ok _) rfl ?_
 show F_gate_Check_1 ⟨n13, 0, none⟩ _ _
 unfold F_gate_Check_1 G_gate_Check_1
 refine ⟨_, hs.ld (i := 5) (.s (.s (.s (.s (.s .z))))) rfl, _, rfl, ?_⟩
 refine sActive_sp hs ci.s.s.s.s.s.s cl'.s.s.s.s.s.s st.s.s.s.s.s.s ?_
 intro h1 hs
 refine ⟨_, _, rfl, _, rfl, rfl, ?_⟩
 rw [sActive_out ok]
 by_cases ho : C.out = true
 ·rw [if_pos ho] at hG ⊢
  rw [if_pos (by decide)]
  refine ret0 8 (zeros_len 32) hs (i := 2) (.s (.s .z)) ?_
  intro h2 hs
  exact k1 8 hG.symm (by decide) _ hs.drop.drop.drop.drop.drop.drop
 rw [if_neg ho] at hG ⊢
 rw [if_neg (by decide), w1]
 -- the image
 apply hJ31
 rw [ltI_eq, if_pos (by decide)]
 refine ⟨_, rfl, by decide, by decide, _, hs.ld (o := 1) (i := 0) .z (by rw [hFS]; rfl), rfl, ?_⟩
 refine callFn_of (ds := [⟨n19, 0, none⟩, ⟨n25, 0, none⟩].map DV.addr) R_gate_Check_2 (addrs_ok _) rfl ?_
 show F_gate_Check_2 ⟨n19, 0, none⟩ ⟨n25, 0, none⟩ _ _
 unfold F_gate_Check_2 G_gate_Check_2
 try simp only [add_mk, Nat.zero_add, List.append_nil]
 refine ⟨_, _, _, hs.ld (i := 3) (.s (.s (.s .z))) rfl, ?_⟩
 refine Parse_sp hs (fun h' hs' => rd _ hs'.drop.drop.drop.drop.drop.drop) hb hlc hl ?_ ?_
 ·intro e at_ w h2 hp he hs
  refine ⟨Sat.can hs (i := 2) (.s (.s .z)) (by simp [zeros]), ?_⟩
  intro h3 e3
  replace hs := Sat.wra (xs := imgL 0 0 0 (none, 0, 0) (zeros 32)) hs (i := 2) (.s (.s .z)) e3 rfl
  clear e3
  simp only [put_succ, put_zero] at hs
  refine ⟨rfl, ?_⟩
  rw [if_neg (nIF _ _)]
  intro n20 _ hn; replace hs := Sat.new hs hn; clear hn
  refine ⟨Sat.can hs (i := 0) .z (by simp), ?_⟩
  intro h4 e4
  replace hs := Sat.wra hs (i := 0) .z e4 rfl
  clear e4
  simp only [put_zero] at hs
  unfold F_errors_As
  refine Or.inl (Or.inr ⟨⟨w, 0, none⟩, n20, 0, e, rfl, rfl, hc_ext hs.ex hg (fun y => y), hs.ld (i := 0) .z rfl, ?_, hs.ld (i := 1) (.s .z) rfl, ?_⟩)
  ·have := (Sat.can hs (i := 0) (o := 0) (n := 1) .z (by simp)) 0 (by decide)
   rw [add_zero] at this
   exact this.2
  intro b1 _ hn; replace hs := Sat.new hs hn; clear hn
  intro b2 _ hn; replace hs := Sat.new hs hn; clear hn
  intro b3 _ hn; replace hs := Sat.new hs hn; clear hn
  intro b4 _ hn; replace hs := Sat.new hs hn; clear hn
  intro h5 e5
  replace hs := Sat.wr hs (i := 4) (.s (.s (.s (.s .z)))) e5
  clear e5
  simp only [put_succ, put_zero] at hs
  replace hs := hs.drop.drop.drop.drop
  replace hs : Sat h0 (blk n20 [.int .i64 e] :: _) h5 := hs
  refine ⟨_, hs.ld (i := 0) .z rfl, ?_⟩
  refine ⟨_, _, rfl, _, rfl, rfl, ?_⟩
  rw [if_pos (by simpa using he)]
  replace hs := hs.drop.drop
  refine ret0 e (zeros_len 32) hs (i := 2) (.s (.s .z)) ?_
  intro h6 hs
  refine k1 e ?_ he _ hs.drop.drop.drop.drop.drop.drop
  rw [hp, if_pos he] at hG
  exact hG.symm
 intro own n h2 hp hnn hs
 obtain ⟨pl, p5, p6, pn⟩ := parse_ok hb hp hnn
 have htl : ((bs.drop (16 + n)).take 32).length = 32 := by rw [List.length_take, List.length_drop]; omega
 have htb : isBy ((bs.drop (16 + n)).take 32) := drop_bytes hb _ _
 refine ⟨Sat.can hs (i := 2) (.s (.s .z)) (by simp [zeros]), ?_⟩
 intro h3 e3
 replace hs := Sat.wra (xs := imgL (bs.getD 5 0) (bs.getD 6 0) (num4 bs 8) (subAddr own.1 16 (16 + n) 1, n, n) ((bs.drop (16 + n)).take 32)) hs (i := 2) (.s (.s .z)) e3 (by rw [img_len htl]; rfl)
 clear e3
 simp only [put_succ, put_zero] at hs
 refine ⟨rfl, ?_⟩
 rw [if_pos (by rfl)]
 refine ⟨_, _, rfl, _, rfl, rfl, ?_⟩
 rw [if_neg (by decide), w2]
 rw [hp, if_neg (by decide)] at hG
 -- the slot
 apply hJ31
 rw [ltI_eq, if_pos (by decide)]
 refine ⟨_, rfl, by decide, by decide, _, hs.ld (o := 2) (i := 1) (.s .z) (by rw [hFS]; rfl), rfl, ?_⟩
 refine callFn_of (ds := [⟨n13, 0, none⟩, ⟨n25, 0, none⟩].map DV.addr) R_gate_Check_3 (addrs_ok _) rfl ?_
 show F_gate_Check_3 ⟨n13, 0, none⟩ ⟨n25, 0, none⟩ _ _
 unfold F_gate_Check_3 G_gate_Check_3
 refine ⟨_, hs.ld (i := 6) (.s (.s (.s (.s (.s (.s .z)))))) rfl, _, hs.ld (i := 2) (.s (.s .z)) rfl, _, rfl, ?_⟩
 refine sRead_sp hs ci.s.s.s.s.s.s.s cl'.s.s.s.s.s.s.s st.s.s.s.s.s.s.s _ ?_
 intro h4 hs
 have er := sread_err ho p5.1
 by_cases gs : C.cfg.slots ≤ bs.getD 5 0
 ·rw [if_pos gs] at er hG
  rw [er, if_pos (by decide)]
  refine ⟨_, _, rfl, _, rfl, rfl, ?_⟩
  rw [if_pos (by decide)]
  refine ret0 5 (zeros_len 32) hs (i := 3) (.s (.s (.s .z))) ?_
  intro h6 hs
  exact k1 5 hG.symm (by decide) _ hs.drop.drop.drop.drop.drop.drop.drop
 rw [if_neg gs] at er hG
 rw [er, if_neg (by decide)]
 refine ⟨_, _, rfl, _, rfl, rfl, ?_⟩
 rw [if_neg (by decide), w3]
 -- the key
 apply hJ31
 rw [ltI_eq, if_pos (by decide)]
 refine ⟨_, rfl, by decide, by decide, _, hs.ld (o := 3) (i := 1) (.s .z) (by rw [hFS]; rfl), rfl, ?_⟩
 refine callFn_of (ds := [⟨n13, 0, none⟩, ⟨n25, 0, none⟩, ⟨n16, 0, none⟩].map DV.addr) R_gate_Check_4 (addrs_ok _) rfl ?_
 show F_gate_Check_4 ⟨n13, 0, none⟩ ⟨n25, 0, none⟩ ⟨n16, 0, none⟩ _ _
 unfold F_gate_Check_4 G_gate_Check_4
 try simp only [add_mk, Nat.zero_add]
 refine ⟨_, hs.ld (i := 6) (.s (.s (.s (.s (.s (.s .z)))))) rfl, _, hs.ld (i := 2) (.s (.s .z)) rfl, _, rfl, ?_⟩
 refine sRevoked_sp hs ci.s.s.s.s.s.s.s st.s.s.s.s.s.s.s _ ?_
 intro h5 hs
 refine ⟨_, hs.ld (i := 5) (.s (.s (.s (.s (.s .z))))) rfl, _, hs.ld (i := 2) (.s (.s .z)) rfl, _, rfl, ?_⟩
 refine hasN_sp _ hs cr.s.s.s.s.s.s.s cm.s.s.s.s.s.s.s ?_
 have ekv := at_kv R (bs.getD 6 0)
 cases ex : SR.at_ R (bs.getD 6 0) with
 | none =>
  rw [← ekv, ex] at hG
  rw [if_pos (by simp)]
  refine ⟨_, _, rfl, _, rfl, rfl, ?_⟩
  rw [if_pos (by decide)]
  refine ret0 13 (zeros_len 32) hs (i := 3) (.s (.s (.s .z))) ?_
  intro h6 hs
  exact k1 13 hG.symm (by decide) _ hs.drop.drop.drop.drop.drop.drop.drop
 | some x =>
 rw [← ekv, ex] at hG
 dsimp only [Option.map_some] at hG
 rw [if_neg (by simp)]
 have rv := revoked_err ho p6.1
 by_cases gk : C.cfg.keys ≤ bs.getD 6 0
 ·rw [if_pos gk] at rv hG
  rw [rv, if_pos (by decide)]
  refine ⟨_, _, rfl, _, rfl, rfl, ?_⟩
  rw [if_pos (by decide)]
  refine ret0 13 (zeros_len 32) hs (i := 3) (.s (.s (.s .z))) ?_
  intro h6 hs
  exact k1 13 hG.symm (by decide) _ hs.drop.drop.drop.drop.drop.drop.drop
 rw [if_neg gk] at rv hG
 rw [rv, if_neg (by decide)]
 by_cases gr : (revokedM C (bs.getD 6 0)).1 = true
 ·rw [if_pos gr] at hG ⊢
  refine ⟨_, _, rfl, _, rfl, rfl, ?_⟩
  rw [if_pos (by decide)]
  refine ret0 14 (zeros_len 32) hs (i := 3) (.s (.s (.s .z))) ?_
  intro h6 hs
  exact k1 14 hG.symm (by decide) _ hs.drop.drop.drop.drop.drop.drop.drop
 rw [if_neg gr] at hG ⊢
 refine ⟨_, _, rfl, _, rfl, rfl, ?_⟩
 rw [if_neg (by decide), w4]
 -- the tag
 apply hJ31
 rw [ltI_eq, if_pos (by decide)]
 refine ⟨_, rfl, by decide, by decide, _, hs.ld (o := 4) (i := 1) (.s .z) (by rw [hFS]; rfl), rfl, ?_⟩
 refine callFn_of (ds := [⟨n16, 0, none⟩, ⟨n25, 0, none⟩, ⟨n19, 0, none⟩].map DV.addr) R_gate_Check_5 (addrs_ok _) rfl ?_
 show F_gate_Check_5 ⟨n16, 0, none⟩ ⟨n25, 0, none⟩ ⟨n19, 0, none⟩ _ _
 unfold F_gate_Check_5 G_gate_Check_5
 try simp only [add_mk, Nat.zero_add, List.append_nil]
 refine ⟨_, hs.ld (i := 5) (.s (.s (.s (.s (.s .z))))) rfl, _, hs.ld (i := 2) (.s (.s .z)) rfl, _, _, _, hs.ld (i := 4) (.s (.s (.s (.s .z)))) rfl, _, htl, img_row hs (.s (.s .z)) htl, ?_⟩
 refine ibody_sp hs (rd _ hs.drop.drop.drop.drop.drop.drop.drop) (by omega) hlc (by omega) ?_
 intro p' c' h6 hc' hs
 refine ⟨Sat.cs hs (i := 3) (.s (.s (.s .z))) (by show (List.drop 4 (imgL _ _ _ _ _)).take _ = _; rw [List.take_of_length_le (by simp [htl])]; rfl), Sat.cs hs (i := 3) (.s (.s (.s .z))) rfl, Sat.cs hs (i := 6) (.s (.s (.s (.s (.s (.s .z)))))) rfl, _, rfl, ?_⟩
 refine kcheck_sp (bb := bs.take (l - 32)) hs cr.s.s.s.s.s.s.s.s cm.s.s.s.s.s.s.s.s gd (fun y hy h' hs' => rR y hy _ hs'.drop.drop.drop.drop.drop.drop.drop.drop) ex htl htb hc' (by omega) (fun h' hs' => hs'.sv (i := 0) .z) ?_
 intro h7 hs
 replace hs := hs.drop
 have et : (bs.drop (bs.length - 32)).take 32 = (bs.drop (16 + n)).take 32 := by rw [show bs.length - 32 = 16 + n by omega]
 rw [hbl] at hG et
 rw [et] at hG
 by_cases gt : macM x.bytes (bs.take (l - 32)) = (bs.drop (16 + n)).take 32
 case neg =>
  rw [if_pos gt] at hG
  rw [if_pos (by simp [gt])]
  refine ⟨_, _, rfl, _, rfl, rfl, ?_⟩
  rw [if_pos (by decide)]
  refine ret0 15 (zeros_len 32) hs (i := 3) (.s (.s (.s .z))) ?_
  intro h6 hs
  exact k1 15 hG.symm (by decide) _ hs.drop.drop.drop.drop.drop.drop.drop
 rw [if_neg (by simpa using gt)] at hG
 rw [if_neg (by simp [gt]), if_neg (by decide)]
 refine ⟨_, _, rfl, _, rfl, rfl, ?_⟩
 rw [if_neg (by decide), w5]
 -- the version
 apply hJ31
 rw [ltI_eq, if_pos (by decide)]
 refine ⟨_, rfl, by decide, by decide, _, hs.ld (o := 5) (i := 1) (.s .z) (by rw [hFS]; rfl), rfl, ?_⟩
 refine callFn_of (ds := [⟨n13, 0, none⟩, ⟨n25, 0, none⟩].map DV.addr) R_gate_Check_6 (addrs_ok _) rfl ?_
 show F_gate_Check_6 ⟨n13, 0, none⟩ ⟨n25, 0, none⟩ _ _
 unfold F_gate_Check_6 G_gate_Check_6
 try simp only [add_mk, Nat.zero_add]
 refine ⟨_, hs.ld (i := 6) (.s (.s (.s (.s (.s (.s .z)))))) rfl, _, hs.ld (i := 2) (.s (.s .z)) rfl, _, rfl, ?_⟩
 refine sRead_sp hs ci.s.s.s.s.s.s.s cl'.s.s.s.s.s.s.s st.s.s.s.s.s.s.s _ ?_
 intro h8 hs
 rw [er, if_neg (by decide)]
 refine ⟨_, hs.ld (i := 2) (.s (.s .z)) rfl, ?_⟩
 rw [ltI_eq]
 by_cases gv : num4 bs 8 < (sRead C (bs.getD 5 0)).1
 ·rw [if_pos gv] at hG
  rw [if_pos (by simpa using gv)]
  refine ⟨_, _, rfl, _, rfl, rfl, ?_⟩
  rw [if_pos (by decide)]
  refine ret0 16 (zeros_len 32) hs (i := 3) (.s (.s (.s .z))) ?_
  intro h6 hs
  exact k1 16 hG.symm (by decide) _ hs.drop.drop.drop.drop.drop.drop.drop
 rw [if_neg gv] at hG
 rw [if_neg (by simpa using gv)]
 refine ⟨_, hs.ld (i := 2) (.s (.s .z)) rfl, _, hs.ld (i := 6) (.s (.s (.s (.s (.s (.s .z)))))) rfl, _, rfl, ?_⟩
 refine sLast_sp hs ci.s.s.s.s.s.s.s st.s.s.s.s.s.s.s ?_
 intro h9 hs
 refine ⟨Sat.cs hs (i := 2) (.s (.s .z)) rfl, ?_⟩
 rw [ltI_eq]
 by_cases gl : lastM C.cfg < num4 bs 8
 ·rw [if_pos gl] at hG
  rw [if_pos (by simpa using gl)]
  refine ⟨_, _, rfl, _, rfl, rfl, ?_⟩
  rw [if_pos (by decide)]
  refine ret0 16 (zeros_len 32) hs (i := 3) (.s (.s (.s .z))) ?_
  intro h6 hs
  exact k1 16 hG.symm (by decide) _ hs.drop.drop.drop.drop.drop.drop.drop
 rw [if_neg gl] at hG
 rw [if_neg (by simpa using gl)]
 refine ⟨_, _, rfl, _, rfl, rfl, ?_⟩
 rw [if_neg (by decide), w6]
 apply hJ31
 rw [ltI_eq, if_neg (by decide)]
 refine ⟨_, hs.ld (i := 2) (.s (.s .z)) rfl, _, hs.ld (i := 2) (.s (.s .z)) rfl, _, hs.ld (i := 2) (.s (.s .z)) rfl, _, _, _, hs.ld (i := 2) (.s (.s .z)) rfl, _, htl, img_row hs (.s (.s .z)) htl, ?_⟩
 refine ⟨Sat.can hs (i := 3) (.s (.s (.s .z))) (by simp [zeros]), ?_⟩
 intro h10 e10
 replace hs := Sat.wra (xs := imgL (bs.getD 5 0) (bs.getD 6 0) (num4 bs 8) (subAddr own.1 16 (16 + n) 1, n, n) ((bs.drop (16 + n)).take 32)) hs (i := 3) (.s (.s (.s .z))) e10 (by rw [img_len htl]; rfl)
 clear e10
 simp only [put_succ, put_zero] at hs
 refine ⟨_, hs.ld (i := 3) (.s (.s (.s .z))) rfl, _, hs.ld (i := 3) (.s (.s (.s .z))) rfl, _, hs.ld (i := 3) (.s (.s (.s .z))) rfl, _, _, _, hs.ld (i := 3) (.s (.s (.s .z))) rfl, _, htl, img_row hs (.s (.s (.s .z))) htl, ?_⟩
 exact k2 own n hG hp hnn pl _ (hs.sub (by
  refine List.Sublist.cons_cons _ ?_
  exact (((((List.sublist_cons_self _ _).trans (List.sublist_cons_self _ _)).trans (List.sublist_cons_self _ _)).trans (List.sublist_cons_self _ _)).trans (List.sublist_cons_self _ _)).trans (List.sublist_cons_self _ _)))
end
end Go.Proofs.YtaglicdidpgkpaaGreatDoor
end

/- Images, the document: what their tag covers, bytes; whether they may be. Own work. -/
section
set_option maxRecDepth 100000
set_option linter.unusedVariables false
namespace Go.Proofs.YtaglicdidpgkpaaGreatDoor
open Go Go.Vc
attribute [local irreducible] macM

def fourL (v : Int) (t : Nat) : List Int := (List.range t).map fun j => IntKind.u8.wrap (v.fdiv (2 ^ (8 * j)))
theorem fourL_len (v : Int) (t : Nat) : (fourL v t).length = t := by simp [fourL]
theorem fourL_succ (v : Int) (t : Nat) : fourL v (t + 1) = fourL v t ++ [IntKind.u8.wrap (v.fdiv (2 ^ (8 * t)))] := by
 unfold fourL; rw [List.range_succ, List.map_append]; rfl
def coverM (slot key ver : Int) (pay : List Int) : List Int := [80, 67, 85, 76, 1, IntKind.u8.wrap slot, IntKind.u8.wrap key, 0] ++ fourL ver 4 ++ fourL (pay.length : Int) 4 ++ pay
theorem coverM_len (slot key ver : Int) (pay : List Int) : (coverM slot key ver pay).length = 16 + pay.length := by
 unfold coverM
 rw [List.length_append, List.length_append, List.length_append, fourL_len, fourL_len]; rfl
def may11 (slot key ver : Int) (n : Nat) : Int :=
 if slot < 0 ∨ 7 < slot ∨ key < 0 ∨ 63 < key ∨ ver < 0 ∨ 4294967295 < ver then 2 else if 524240 < n then 4 else 0
section
variable {h0 h : H} {A : List Ent} {i j p r b s m : Nat} {C : Cm}
theorem rfour_sp {Q : Option Addr → Nat → Nat → H → Prop} {q : Option Addr} {l c : Nat} {xs : List Int} (v : Int) (hs : Sat h0 (slE q l c 1 (ints .u8 xs) :: A) h) (hl : l < 2 ^ 45)
  (k : ∀ p' c' h', Sat h0 (slE p' (l + 4) c' 1 (ints .u8 (xs ++ fourL v 4)) :: A) h' → Q p' (l + 4) c' h') : F_portcullisref11_four q l c v Q h := by
 unfold F_portcullisref11_four G_portcullisref11_four
 intro J hJ
 refine loopS 4 (fun t (s : Option Addr × Nat) => [.dv (.one (.slice s.1 (l + t) s.2)), si t]) (fun t s h => Sat h0 (slE s.1 (l + t) s.2 1 (ints .u8 (xs ++ fourL v t)) :: A) h) ?_ ?_ 0 (q, c) _ (by omega) (by simpa [fourL] using hs)
 ·clear hs
  rintro t ⟨p2, c2⟩ h2 ht hs hk
  dsimp only at hs hk ⊢
  apply hJ
  rw [ltI_eq, if_pos (by rw [decide_eq_true_iff]; omega)]
  have e : IntKind.i64.wrap (8 * (t : Int)) = ((8 * t : Nat) : Int) := by rw [wrap_id (by omega)]; push_cast; rfl
  rw [e]
  refine ⟨by omega, ?_⟩
  rw [Int.toNat_natCast, show min (8 * t) 64 = 8 * t by omega]
  intro nb _ hn; replace hs := Sat.new hs hn; clear hn
  refine ⟨_, hs.bv (i := 0) (l := 1) .z rfl (ints_one .u8 [_]), ?_⟩
  refine Sat.app hs (i := 1) (vs := ints .u8 [_]) (.s .z) rfl rfl (ints_one .u8 [_]) (by omega) ?_
  intro p3 c3 h3 hs
  simp only [put_succ, put_zero] at hs
  rw [wrap_succ (by omega)]
  refine hk (p3, c3) h3 ?_
  dsimp only
  rw [fourL_succ, ← List.append_assoc, ints_app .u8 _ [_]]
  exact hs.drop
 ·clear hs
  rintro ⟨p2, c2⟩ h2 hs
  dsimp only at hs ⊢
  apply hJ
  rw [ltI_eq, if_neg (by decide)]
  exact k _ _ _ hs
theorem rcover_sp {Q : Option Addr → Nat → Nat → H → Prop} {slot key ver : Int} {pay tag : List Int} {pp : Option Addr} {pl pc : Nat} (hs : Sat h0 A h) (hp : pl < 2 ^ 44) (rd : ∀ h', Sat h0 A h' → hsv h' pp 1 pl (ints .u8 pay))
  (k : ∀ p' c' h', Sat h0 (slE p' (16 + pl) c' 1 (ints .u8 (coverM slot key ver pay)) :: A) h' → Q p' (16 + pl) c' h') : F_portcullisref11_Cover slot key ver pp pl pc tag Q h := by
 unfold F_portcullisref11_Cover G_portcullisref11_Cover
 try simp only [add_mk, Nat.zero_add, List.append_nil]
 have hpl : pay.length = pl := by have := (rd _ hs).1; simpa using this
 intro n10 _ hn; replace hs := Sat.new hs hn; clear hn
 replace hs : Sat h0 (blk n10 (imgL slot key ver (pp, pl, pc) tag) :: A) _ := hs
 refine ⟨_, hs.ld (i := 0) .z rfl, _, hs.ld (i := 0) .z rfl, ?_⟩
 intro n15 _ hn; replace hs := Sat.new hs hn; clear hn
 refine ⟨_, hs.ld (i := 1) (.s .z) rfl, ?_⟩
 replace hs := hs.as_sl (i := 0) (l := 8) (sz := 1) .z rfl (ints_one .u8 [80, 67, 85, 76, 1, IntKind.u8.wrap slot, IntKind.u8.wrap key, 0])
 simp only [put_zero] at hs
 refine rfour_sp (xs := [80, 67, 85, 76, 1, IntKind.u8.wrap slot, IntKind.u8.wrap key, 0]) ver hs (by decide) ?_
 intro p2 c2 h2 hs
 refine ⟨_, _, _, hs.ld (i := 1) (.s .z) rfl, ?_⟩
 refine rfour_sp (pl : Int) hs (by decide) ?_
 intro p3 c3 h3 hs
 refine ⟨_, _, _, hs.ld (i := 1) (.s .z) rfl, _, rd _ hs.drop.drop, ?_⟩
 refine Sat.app hs (i := 0) (vs := ints .u8 pay) .z (by simp [hpl]) rfl (ints_one _ _) (by dsimp only; omega) ?_
 intro p4 c4 h4 hs
 simp only [put_zero] at hs
 have e : ints .u8 ([80, 67, 85, 76, 1, IntKind.u8.wrap slot, IntKind.u8.wrap key, 0] ++ fourL ver 4 ++ fourL (pl : Int) 4) ++ ints .u8 pay = ints .u8 (coverM slot key ver pay) := by
  unfold coverM; rw [hpl, ← ints_app]
 rw [e] at hs
 have K := k p4 c4 h4
 rw [show 16 + pl = 8 + 4 + 4 + pl by omega] at K
 exact K (hs.sub (by (repeat (first | exact List.Sublist.refl _ | apply List.Sublist.cons_cons | apply List.Sublist.cons))))
theorem rtagged_sp {Q : Option Addr → Nat → Nat → H → Prop} {slot key ver : Int} {pay tag : List Int} {pp : Option Addr} {pl pc : Nat} (hs : Sat h0 A h) (ht : tag.length = 32) (hp : pl < 2 ^ 44) (rd : ∀ h', Sat h0 A h' → hsv h' pp 1 pl (ints .u8 pay))
  (k : ∀ p' c' h', Sat h0 (slE p' (48 + pl) c' 1 (ints .u8 (coverM slot key ver pay ++ tag)) :: A) h' → 48 + pl ≤ c' → Q p' (48 + pl) c' h') : F_portcullisref11_Tagged slot key ver pp pl pc tag Q h := by
 unfold F_portcullisref11_Tagged G_portcullisref11_Tagged
 try simp only [add_mk, Nat.zero_add, List.append_nil]
 intro n10 _ hn; replace hs := Sat.new hs hn; clear hn
 replace hs : Sat h0 (blk n10 (imgL slot key ver (pp, pl, pc) tag) :: A) _ := hs
 refine ⟨_, hs.ld (i := 0) .z rfl, _, hs.ld (i := 0) .z rfl, _, hs.ld (i := 0) .z rfl, _, _, _, hs.ld (i := 0) .z rfl, tag, ht, img_row hs .z ht, ?_⟩
 refine rcover_sp (pay := pay) hs hp (fun h' hs' => rd _ hs'.drop) ?_
 intro p2 c2 h2 hs
 intro J hJ
 refine loopS 32 (fun t (s : Option Addr × Nat) => [.dv (.one (.slice s.1 (16 + pl + t) s.2)), si t]) (fun t s h => Sat h0 (slE s.1 (16 + pl + t) s.2 1 (ints .u8 (coverM slot key ver pay ++ tag.take t)) :: blk n10 (imgL slot key ver (pp, pl, pc) tag) :: A) h) ?_ ?_ 0 (p2, c2) _ (by omega) (by simpa using hs)
 ·clear hs
  rintro t ⟨p6, c6⟩ h6 ht2 hs hk
  dsimp only at hs hk ⊢
  apply hJ
  rw [ltI_eq, if_pos (by rw [decide_eq_true_iff]; omega)]
  have ht3 : t < tag.length := by omega
  refine ⟨by omega, by omega, tag[t], ?_, ?_⟩
  ·simp only [Int.toNat_natCast, Nat.mul_one]
   have := img_row hs (.s .z) ht t (.int .u8 tag[t]) (by rw [ints_get, List.getElem?_eq_getElem ht3]; rfl)
   first | exact this | (rw [add_mk] at this; exact this)
  intro b3 _ hn; replace hs := Sat.new hs hn; clear hn
  refine ⟨_, hs.bv (i := 0) (l := 1) .z rfl (ints_one .u8 [tag[t]]), ?_⟩
  refine Sat.app hs (i := 1) (vs := ints .u8 [tag[t]]) (.s .z) rfl rfl (ints_one _ _) (by omega) ?_
  intro p7 c7 h7 hs
  simp only [put_succ, put_zero] at hs
  rw [wrap_succ (by omega)]
  refine hk (p7, c7) h7 ?_
  dsimp only
  rw [take_snoc _ ht3, ← List.append_assoc, ints_app .u8 _ [tag[t]]]
  exact hs.drop
 ·clear hs
  rintro ⟨p6, c6⟩ h6 hs
  dsimp only at hs ⊢
  apply hJ
  rw [ltI_eq, if_neg (by decide)]
  rw [List.take_of_length_le (by omega)] at hs
  have hc := capS hs (i := 0) .z
  have K := k p6 c6 h6
  rw [show 48 + pl = 16 + pl + 32 by omega] at K
  exact K (hs.sub (by (repeat (first | exact List.Sublist.refl _ | apply List.Sublist.cons_cons | apply List.Sublist.cons)))) hc
theorem rmay11_sp {Q : Int → H → Prop} {slot key ver : Int} {tag : List Int} {pp : Option Addr} {pl pc : Nat} (hs : Sat h0 A h) (k : ∀ h', Sat h0 A h' → Q (may11 slot key ver pl) h') : F_portcullisref11_May slot key ver pp pl pc tag Q h := by
 unfold F_portcullisref11_May G_portcullisref11_May
 try simp only [add_mk, Nat.zero_add, List.append_nil]
 intro n9 _ hn; replace hs := Sat.new hs hn; clear hn
 replace hs : Sat h0 (blk n9 (imgL slot key ver (pp, pl, pc) tag) :: A) _ := hs
 have K := k _ hs.drop
 clear k
 unfold may11 at K
 intro J hJ
 refine ⟨_, hs.ld (i := 0) .z rfl, ?_⟩
 rw [ltI_eq]
 by_cases g1 : slot < 0
 ·rw [if_pos (by simpa using g1)]
  rw [if_pos (Or.inl g1)] at K; exact K
 rw [if_neg (by simpa using g1)]
 refine ⟨_, hs.ld (i := 0) .z rfl, ?_⟩
 rw [ltI_eq]
 by_cases g2 : 7 < slot
 ·rw [if_pos (by simpa using g2)]
  rw [if_pos (Or.inr (Or.inl g2))] at K; exact K
 rw [if_neg (by simpa using g2)]
 refine ⟨_, hs.ld (i := 0) .z rfl, ?_⟩
 rw [ltI_eq]
 by_cases g3 : key < 0
 ·rw [if_pos (by simpa using g3)]
  rw [if_pos (by omega)] at K; exact K
 rw [if_neg (by simpa using g3)]
 refine ⟨_, hs.ld (i := 0) .z rfl, ?_⟩
 rw [ltI_eq]
 by_cases g4 : 63 < key
 ·rw [if_pos (by simpa using g4)]
  rw [if_pos (by omega)] at K; exact K
 rw [if_neg (by simpa using g4)]
 refine ⟨_, hs.ld (i := 0) .z rfl, ?_⟩
 rw [ltI_eq]
 by_cases g5 : ver < 0
 ·rw [if_pos (by simpa using g5)]
  rw [if_pos (by omega)] at K; exact K
 rw [if_neg (by simpa using g5)]
 refine ⟨_, hs.ld (i := 0) .z rfl, ?_⟩
 intro v25 hv
 subst hv
 rw [ltI_eq]
 by_cases g6 : 4294967295 < ver
 ·rw [if_pos (by simpa using g6)]
  rw [if_pos (by omega)] at K; exact K
 rw [if_neg (by simpa using g6)]
 rw [if_neg (by omega)] at K
 apply hJ
 refine ⟨_, _, _, hs.ld (i := 0) .z rfl, ?_⟩
 dsimp only
 rw [ltI_eq]
 by_cases g7 : 524240 < pl
 ·rw [if_pos (by rw [decide_eq_true_iff]; omega)]
  rw [if_pos g7] at K; exact K
 ·rw [if_neg (by rw [decide_eq_true_iff]; omega)]
  rw [if_neg g7] at K; exact K
theorem rmake_sp {Q : Option Addr → Nat → Nat → Int → H → Prop} {slot key ver : Int} {sec pay tag : List Int} {sp pp : Option Addr} {sl sc pl pc : Nat} (hs : Sat h0 A h) (ht : tag.length = 32) (hm : may11 slot key ver pl = 0) (hsb : isBy sec) (hsl : sl < 2 ^ 40) (hpb : isBy pay)
  (rs : ∀ h', Sat h0 A h' → hsv h' sp 1 sl (ints .u8 sec)) (rd : ∀ h', Sat h0 A h' → hsv h' pp 1 pl (ints .u8 pay))
  (k : ∀ p' c' h', Sat h0 (slE p' (48 + pl) c' 1 (ints .u8 (coverM slot key ver pay ++ macM sec (coverM slot key ver pay))) :: A) h' → 48 + pl ≤ c' → Q p' (48 + pl) c' 0 h') : F_portcullisref11_Make sp sl sc slot key ver pp pl pc tag Q h := by
 unfold F_portcullisref11_Make G_portcullisref11_Make
 try simp only [add_mk, Nat.zero_add, List.append_nil]
 have hpl : pay.length = pl := by have := (rd _ hs).1; simpa using this
 have hp : pl ≤ 524240 := by
  unfold may11 at hm
  by_cases g : slot < 0 ∨ 7 < slot ∨ key < 0 ∨ 63 < key ∨ ver < 0 ∨ 4294967295 < ver
  ·rw [if_pos g] at hm; cases hm
  ·rw [if_neg g] at hm
   by_cases g2 : 524240 < pl
   ·rw [if_pos g2] at hm; cases hm
   ·omega
 have hcb : isBy (coverM slot key ver pay) := by
  intro v hv
  unfold coverM at hv
  have w8 : ∀ n, 0 ≤ IntKind.u8.wrap n ∧ IntKind.u8.wrap n < 256 := fun n => by rw [IntKind.wrap_u8]; omega
  have f8 : ∀ v t x, x ∈ fourL v t → 0 ≤ x ∧ x < 256 := by
   intro v t x hx
   unfold fourL at hx
   obtain ⟨j, _, rfl⟩ := List.mem_map.1 hx
   exact w8 _
  rcases List.mem_append.1 hv with hv | hv
  ·rcases List.mem_append.1 hv with hv | hv
   ·rcases List.mem_append.1 hv with hv | hv
    ·simp only [List.mem_cons, List.not_mem_nil, or_false] at hv
     rcases hv with rfl | rfl | rfl | rfl | rfl | rfl | rfl | rfl
     ·decide
     ·decide
     ·decide
     ·decide
     ·decide
     ·exact w8 _
     ·exact w8 _
     ·decide
    ·exact f8 _ _ _ hv
   ·exact f8 _ _ _ hv
  ·exact hpb v hv
 intro n16 _ hn; replace hs := Sat.new hs hn; clear hn
 replace hs : Sat h0 (blk n16 (imgL slot key ver (pp, pl, pc) tag) :: A) _ := hs
 refine ⟨_, hs.ld (i := 0) .z rfl, _, hs.ld (i := 0) .z rfl, _, hs.ld (i := 0) .z rfl, _, _, _, hs.ld (i := 0) .z rfl, tag, ht, img_row hs .z ht, ?_⟩
 refine rmay11_sp hs ?_
 intro h2 hs
 rw [hm, if_neg (by decide)]
 refine ⟨_, hs.ld (i := 0) .z rfl, _, hs.ld (i := 0) .z rfl, _, hs.ld (i := 0) .z rfl, _, _, _, hs.ld (i := 0) .z rfl, tag, ht, img_row hs .z ht, ?_⟩
 refine rcover_sp (pay := pay) hs (by dsimp only; omega) (fun h' hs' => rd _ hs'.drop) ?_
 intro p2 c2 h3 hs
 refine rmac_sp (key := sec) (b := coverM slot key ver pay) hs hsb hcb (by omega) (by dsimp only; omega) (fun h' hs' => rs _ hs'.drop.drop) (fun h' hs' => hs'.sv (i := 0) .z) ?_
 intro h4 hs
 replace hs := hs.drop
 refine ⟨Sat.can hs (i := 0) .z (by simp [ht]), ?_⟩
 intro h5 e5
 replace hs := Sat.wr hs (i := 0) (o := 4) .z e5
 clear e5
 simp only [put_zero] at hs
 have es : splice (imgL slot key ver (pp, pl, pc) tag) 4 (ints .u8 (macM sec (coverM slot key ver pay))) = imgL slot key ver (pp, pl, pc) (macM sec (coverM slot key ver pay)) := by
  have := splice_append [Value.int .i64 slot, .int .i64 key, .int .i64 ver, .slice pp pl pc] (ints .u8 tag) [] (ints .u8 (macM sec (coverM slot key ver pay))) (by simp [ht, macM_len])
  simpa using this
 rw [es] at hs
 refine ⟨_, hs.ld (i := 0) .z rfl, _, hs.ld (i := 0) .z rfl, _, hs.ld (i := 0) .z rfl, _, _, _, hs.ld (i := 0) .z rfl, _, macM_len _ _, img_row hs .z (macM_len _ _), ?_⟩
 refine rtagged_sp (pay := pay) hs (macM_len _ _) (by dsimp only; omega) (fun h' hs' => rd _ hs'.drop) ?_
 intro p6 c6 h6 hs hc
 exact k _ _ _ (hs.sub (by (repeat (first | exact List.Sublist.refl _ | apply List.Sublist.cons_cons | apply List.Sublist.cons)))) hc
end
end Go.Proofs.YtaglicdidpgkpaaGreatDoor
end

/- The gate: answers that the document fixes (reckoned). Own work. -/
section
set_option maxRecDepth 1000000
namespace Go.Proofs.YtaglicdidpgkpaaGreatDoor
open Go Go.Vc
def cfg13 : Cfg := ⟨8, 2, 3, 10, 4, 5, 0⟩
theorem cfg13_may : cfg13.may := by decide
theorem g13 : (gateM (freshC cfg13) [(1, [7])] (coverM 1 1 5 [] ++ zeros 32) == 15 && gateM (freshC cfg13) [(1, [7])] (coverM 1 1 5 [] ++ macM [7] (coverM 1 1 5 [])) == 0 && gateM (freshC cfg13) [(1, [7])] [] == 6 && num4 (coverM 1 1 5 [] ++ macM [7] (coverM 1 1 5 [])) 8 == 5) = true := by decide +kernel
theorem g13a : gateM (freshC cfg13) [(1, [7])] (coverM 1 1 5 [] ++ zeros 32) = 15 := by have := g13; simp only [Bool.and_eq_true, beq_iff_eq] at this; exact this.1.1.1
theorem g13b : gateM (freshC cfg13) [(1, [7])] (coverM 1 1 5 [] ++ macM [7] (coverM 1 1 5 [])) = 0 := by have := g13; simp only [Bool.and_eq_true, beq_iff_eq] at this; exact this.1.1.2
theorem g13c : gateM (freshC cfg13) [(1, [7])] [] = 6 := by have := g13; simp only [Bool.and_eq_true, beq_iff_eq] at this; exact this.1.2
theorem g13d : num4 (coverM 1 1 5 [] ++ macM [7] (coverM 1 1 5 [])) 8 = 5 := by have := g13; simp only [Bool.and_eq_true, beq_iff_eq] at this; exact this.2
theorem n13 : newM [(1, [7])] = none := by decide
end Go.Proofs.YtaglicdidpgkpaaGreatDoor
end

/- Law 13: what stands at the head of its statements. Own work. -/
section
set_option maxRecDepth 100000
set_option linter.unusedVariables false
namespace Go.Proofs.YtaglicdidpgkpaaGreatDoor
open Go Go.Vc
attribute [local irreducible] macM gateM

section
variable {h0 h : H} {A : List Ent} {i j p r b s m : Nat} {C : Cm}
theorem awake13_sp {Q : Bool → H → Prop} (hg : hc h0 ⟨0, 0, none⟩ = some errTypeV) (hs : Sat h0 A h) (k : ∀ h', Sat h0 A h' → Q true h') : F_portcullislaw13_awake Q h := by
 unfold F_portcullislaw13_awake G_portcullislaw13_awake
 try simp only [add_mk, Nat.zero_add, List.append_nil]
 refine New_sp cfg13 hs (fun nm => absurd cfg13_may nm) ?_
 intro _ pc h1 hs
 intro n11 _ hn; replace hs := Sat.new hs hn; clear hn
 intro n14 _ hn; replace hs := Sat.new hs hn; clear hn
 have rdX : ∀ h', Sat h0 (blk n14 [.int .i64 1, .slice (some ⟨n11, 0, none⟩) 1 1] :: blk n11 [.int .u8 7] :: chipE pc (freshC cfg13) :: A) h' → SecsAt h' (some ⟨n14, 0, none⟩) 1 [⟨1, [7], some ⟨n11, 0, none⟩, 1⟩] := by
  intro h' hs'
  refine ⟨rfl, ?_⟩
  intro x hx
  have : x = 0 := by simp at hx; exact hx
  subst this
  refine ⟨_, rfl, ?_, ?_, hs'.bv (i := 1) (l := 1) (.s .z) rfl (ints_one .u8 [7]), ?_, by show 1 < 2 ^ 47; decide⟩
  ·exact hs'.ld (i := 0) .z rfl
  ·exact hs'.ld (i := 0) .z rfl
  ·intro n hn
   simp only [List.getElem_cons_zero, List.mem_cons, List.not_mem_nil, or_false] at hn
   subst hn; decide
 refine keysU_sp (L := [(1, [7])]) hs rfl rdX (by decide) ?_
 intro o e x h2 B hs hB
 intro J21 hJ21
 rcases hB with ⟨a, _⟩ | ⟨_, e0, rp, mp, R, ho, eR, gR, b1⟩
 ·rw [n13] at a; cases a
 subst e0 ho b1
 rw [if_neg (by decide), if_neg (by decide), if_neg (by simp), if_neg (by simp)]
 apply hJ21
 clear hJ21
 obtain ⟨RR, hRR⟩ : ∃ RR, RR = ringP rp mp R ++ (blk n14 [.int .i64 1, .slice (some ⟨n11, 0, none⟩) 1 1] :: blk n11 [.int .u8 7] :: chipE pc (freshC cfg13) :: A) := ⟨_, rfl⟩
 rw [← hRR] at hs
 obtain ⟨y0, a0⟩ : ∃ x, At RR x (chipE pc (freshC cfg13)) := At.mem (by rw [hRR]; simp)
 obtain ⟨y3, a3⟩ : ∃ x, At RR x (blk rp [.map (some mp)]) := At.mem (by rw [hRR]; simp)
 obtain ⟨y4, a4⟩ : ∃ x, At RR x (mapE mp (R.map SR.ent)) := At.mem (by rw [hRR]; simp)
 have r1 : ∀ x, x ∈ R → ∃ y, At RR y x.sl := fun x hx => At.mem (by rw [hRR]; exact List.mem_append_left _ (List.mem_cons_of_mem _ (List.mem_cons_of_mem _ (List.mem_map_of_mem hx))))
 have sub : A.Sublist RR := by
  rw [hRR]
  exact (((List.sublist_cons_self _ _).trans (List.sublist_cons_self _ _)).trans (List.sublist_cons_self _ _)).trans (List.sublist_append_right _ _)
 clear hRR
 refine ⟨_, rfl, ?_⟩
 refine sMount_sp hs a0 (fun y => by cases y) ?_
 intro _ st lg h3 hs
 intro J27 hJ27
 rw [if_neg (by decide), if_neg (by simp)]
 apply hJ27
 clear hJ27
 refine rtagged_sp (slot := 1) (key := 1) (ver := 5) (pay := []) (tag := zeros 32) (pl := 0) hs (zeros_len 32) (by decide) (fun _ _ => hsv_nil _ _ _) ?_
 intro p1 c1 h4 hs hc1
 refine ⟨_, rfl, _, rfl, ?_⟩
 refine gate_sp (bs := coverM 1 1 5 [] ++ zeros 32) hg hs a0.s.s.s (.s (.s .z)) (.s .z) a3.s.s.s a4.s.s.s gR (fun x hx h' hs' => hs'.sv (r1 x hx).choose_spec.s.s.s) (fun h' hs' => hs'.sv (i := 0) .z) (by unfold bytesOk isByte; decide) (by omega) (by decide) ?_ ?_
 case refine_2 =>
  intro own n he _ _ _ h5 hs
  rw [eR] at he
  have := g13a
  omega
 intro e he _ h5 hs
 rw [eR, g13a] at he
 subst he
 intro n44 _ hn; replace hs := Sat.new hs hn; clear hn
 refine ⟨Sat.can hs (i := 0) .z (by simp [zeros]), ?_⟩
 intro h6 e6
 replace hs := Sat.wra (xs := imgL 0 0 0 (none, 0, 0) (zeros 32)) hs (i := 0) .z e6 rfl
 clear e6
 simp only [put_zero] at hs
 intro n49 _ hn; replace hs := Sat.new hs hn; clear hn
 refine rmake_sp (sec := [7]) (pay := []) (slot := 1) (key := 1) (ver := 5) (pl := 0) hs (zeros_len 32) (by decide) (by intro n hn; simp at hn; subst hn; decide) (by decide) (by intro n hn; cases hn) (fun h' hs' => hs'.bv (i := 0) (l := 1) .z rfl (ints_one .u8 [7])) (fun _ _ => hsv_nil _ _ _) ?_
 intro p2 c2 h7 hs hc2
 refine ⟨_, rfl, _, rfl, ?_⟩
 have hb2 : bytesOk (coverM 1 1 5 [] ++ macM [7] (coverM 1 1 5 [])) := by
  intro v hv
  rcases List.mem_append.1 hv with hv | hv
  ·exact (by unfold bytesOk isByte; decide : bytesOk (coverM 1 1 5 [])) v hv
  ·exact isBy_mac _ _ v hv
 refine gate_sp (bs := coverM 1 1 5 [] ++ macM [7] (coverM 1 1 5 [])) hg hs a0.s.s.s.s.s.s (.s (.s (.s (.s (.s .z))))) (.s (.s (.s (.s .z)))) a3.s.s.s.s.s.s a4.s.s.s.s.s.s gR (fun x hx h' hs' => hs'.sv (r1 x hx).choose_spec.s.s.s.s.s.s) (fun h' hs' => hs'.sv (i := 0) .z) hb2 (by omega) (by decide) ?_ ?_
 ·intro e he hne h8 hs
  rw [eR, g13b] at he
  exact absurd he hne
 intro own n he hp hnn hln h8 hs
 have htl : (((coverM 1 1 5 [] ++ macM [7] (coverM 1 1 5 [])).drop (16 + n)).take 32).length = 32 := by rw [List.length_take, List.length_drop]; omega
 intro n68 _ hn; replace hs := Sat.new hs hn; clear hn
 refine ⟨Sat.can hs (i := 0) .z (by simp [zeros]), ?_⟩
 intro h9 e9
 replace hs := Sat.wra (xs := imgL ((coverM 1 1 5 [] ++ macM [7] (coverM 1 1 5 [])).getD 5 0) ((coverM 1 1 5 [] ++ macM [7] (coverM 1 1 5 [])).getD 6 0) (num4 (coverM 1 1 5 [] ++ macM [7] (coverM 1 1 5 [])) 8) (subAddr own.1 16 (16 + n) 1, n, n) (((coverM 1 1 5 [] ++ macM [7] (coverM 1 1 5 [])).drop (16 + n)).take 32)) hs (i := 0) .z e9 (by rw [img_len htl]; rfl)
 clear e9
 simp only [put_zero] at hs
 rw [g13d] at hs
 refine ⟨_, rfl, _, rfl, ?_⟩
 refine gate_sp (bs := []) hg hs a0.s.s.s.s.s.s.s.s (.s (.s (.s (.s (.s (.s (.s .z))))))) (.s (.s (.s (.s (.s (.s .z)))))) a3.s.s.s.s.s.s.s.s a4.s.s.s.s.s.s.s.s gR (fun x hx h' hs' => hs'.sv (r1 x hx).choose_spec.s.s.s.s.s.s.s.s) (fun _ _ => hsv_nil _ _ _) (by intro n hn; cases hn) (by decide) (by decide) ?_ ?_
 case refine_2 =>
  intro own n he _ _ _ h5 hs
  rw [eR] at he
  have := g13c
  omega
 intro e he _ h10 hs
 rw [eR, g13c] at he
 subst he
 intro n84 _ hn; replace hs := Sat.new hs hn; clear hn
 refine ⟨Sat.can hs (i := 0) .z (by simp [zeros]), ?_⟩
 intro h11 e11
 replace hs := Sat.wra (xs := imgL 0 0 0 (none, 0, 0) (zeros 32)) hs (i := 0) .z e11 rfl
 clear e11
 simp only [put_zero] at hs
 rw [if_pos (by decide), if_pos (by decide)]
 refine ⟨_, hs.ld (i := 1) (.s .z) rfl, ?_⟩
 rw [if_pos (by decide)]
 exact k _ (hs.sub (by
  refine sub.trans ?_
  exact ((((((((List.sublist_cons_self _ _).trans (List.sublist_cons_self _ _)).trans (List.sublist_cons_self _ _)).trans (List.sublist_cons_self _ _)).trans (List.sublist_cons_self _ _)).trans (List.sublist_cons_self _ _)).trans (List.sublist_cons_self _ _)).trans (List.sublist_cons_self _ _)).trans (List.sublist_cons_self _ _)))
def okS (c : Cfg) (s : St) (L : List Sec) : Prop := c.may ∧ s.lays c ∧ newM L = none
theorem scene13_sp {a_ b_ c' : Sl} {s : St} {X : List SR} {lp : Option Addr} {ll lc : Nat} {Q : Option Addr → Option Addr → Option Addr → Bool → H → Prop} (c : Cfg) (hs : Sat h0 A h) (rd : ∀ h', Sat h0 A h' → RdS h' a_ b_ c' s) (ty : s.typed) (rl : SecsAt h0 lp ll X) (hll : ll < 2 ^ 47)
  (k1 : ¬ okS c s (X.map SR.kv) → ∀ h', Sat h0 A h' → Q none none none false h')
  (k2 : okS c s (X.map SR.kv) → ∀ pc st lg rp mp R h', R.map SR.kv = X.map SR.kv → SR.good R → Sat h0 (chipE pc (layC c s) :: storeE st pc lg :: logE lg pc :: (ringP rp mp R ++ A)) h' → Q (some ⟨pc, 0, none⟩) (some ⟨st, 0, none⟩) (some ⟨rp, 0, none⟩) true h') :
  F_portcullislaw13_scene c.cells c.slots c.fuses c.step c.keys c.erases c.area a_.1 a_.2.1 a_.2.2 b_.1 b_.2.1 b_.2.2 c'.1 c'.2.1 c'.2.2 lp ll lc Q h := by
 unfold F_portcullislaw13_scene G_portcullislaw13_scene
 try simp only [add_mk, Nat.zero_add, List.append_nil]
 have lR : X.length = ll := rl.1.symm
 obtain ⟨L, hL⟩ : ∃ L, X.map SR.kv = L := ⟨_, rfl⟩
 rw [hL] at k1 k2
 intro n26 _ hn; replace hs := Sat.new hs hn; clear hn
 replace hs : Sat h0 (blk n26 (scnV c a_ b_ c' lp ll lc) :: A) _ := hs
 (repeat first | refine ⟨_, Sat.ld hs (by (repeat (first | exact At.z | apply At.s))) (by rfl), ?_⟩ | refine ⟨_, _, _, Sat.ld hs (by (repeat (first | exact At.z | apply At.s))) (by rfl), ?_⟩ | (intro _ _ hn; replace hs := Sat.new hs hn; clear hn) | refine ⟨Sat.cs hs (by (repeat (first | exact At.z | apply At.s))) (by rfl), ?_⟩ | (refine ⟨Sat.can hs (by (repeat (first | exact At.z | apply At.s))) (by simp), ?_⟩; intro _ e; replace hs := Sat.wr hs (by (repeat (first | exact At.z | apply At.s))) e; clear e; simp only [put, splice, List.set] at hs))
 refine Lay_sp (a := a_) (b := b_) (c' := c') (s := s) c hs (fun h' hs' => rd _ hs'.drop) ty ?_ ?_ ?_
 ·intro nm h1 hs
  refine ⟨_, _, _, Sat.ld hs (by (repeat (first | exact At.z | apply At.s))) (by rfl), ?_⟩
  refine keysU_sp hs hL (fun h' hs' => rl.ext hs') hll ?_
  intro o1 e1 i1 h3 B hs hB J53 hJ53
  rw [if_pos (by decide)]
  exact k1 (fun y => nm y.1) _ (hs.sub ((List.sublist_cons_self _ _).trans (List.sublist_append_right _ _)))
 ·intro m nl h1 hs
  refine ⟨_, _, _, Sat.ld hs (by (repeat (first | exact At.z | apply At.s))) (by rfl), ?_⟩
  refine keysU_sp hs hL (fun h' hs' => rl.ext hs') hll ?_
  intro o1 e1 i1 h3 B hs hB J53 hJ53
  rw [if_pos (by decide)]
  exact k1 (fun y => nl y.2.1) _ (hs.sub ((List.sublist_cons_self _ _).trans (List.sublist_append_right _ _)))
 ·intro m l pc h1 hs
  refine ⟨_, _, _, Sat.ld hs (by (repeat (first | exact At.z | apply At.s))) (by rfl), ?_⟩
  refine keysU_sp hs hL (fun h' hs' => rl.ext hs') hll ?_
  intro o1 e1 i1 h3 B hs hB J53 hJ53
  rw [if_neg (by decide)]
  rcases hB with ⟨a, b⟩ | ⟨a, b0, rp, mp, R, b, eR, gR, b1⟩
  ·rw [if_pos (by simpa using newM_ne a)]
   exact k1 (fun y => by rw [y.2.2] at a; cases a) _ (hs.sub (((List.sublist_cons_self _ _).trans (List.sublist_cons_self _ _)).trans (List.sublist_append_right _ _)))
  subst b0 b b1
  rw [if_neg (by decide), if_neg (by simp), if_neg (by simp)]
  apply hJ53
  refine ⟨_, rfl, ?_⟩
  obtain ⟨z, az⟩ : ∃ z, At (ringP rp mp R ++ (chipE pc (layC c s) :: blk n26 (scnV c a_ b_ c' lp ll lc) :: A)) z (chipE pc (layC c s)) := At.mem (by simp)
  refine sMount_sp hs az (fun y => by cases y) ?_
  intro _ st lg h5 hs
  rw [if_pos (by decide)]
  refine k2 ⟨m, l, a⟩ pc st lg rp mp R h5 eR gR ?_
  have p1 : (storeE st pc lg :: logE lg pc :: (ringP rp mp R ++ (chipE pc (layC c s) :: blk n26 (scnV c a_ b_ c' lp ll lc) :: A))).Perm (chipE pc (layC c s) :: storeE st pc lg :: logE lg pc :: (ringP rp mp R ++ (blk n26 (scnV c a_ b_ c' lp ll lc) :: A))) := by
   have q1 : (ringP rp mp R ++ (chipE pc (layC c s) :: (blk n26 (scnV c a_ b_ c' lp ll lc) :: A))).Perm (chipE pc (layC c s) :: (ringP rp mp R ++ (blk n26 (scnV c a_ b_ c' lp ll lc) :: A))) := List.perm_middle
   exact ((q1.cons _).cons _).trans ((List.Perm.swap _ _ _).cons _ |>.trans (List.Perm.swap _ _ _))
  refine (hs.perm p1).sub ?_
  refine List.Sublist.cons_cons _ (List.Sublist.cons_cons _ (List.Sublist.cons_cons _ ?_))
  exact (List.Sublist.refl _).append (List.sublist_cons_self _ _)
theorem may13_sp {a_ b_ c' : Sl} {s : St} {X : List SR} {lp : Option Addr} {ll lc : Nat} {Q : Option Addr → Option Addr → Bool → H → Prop} (c : Cfg) (hs : Sat h0 A h) (rd : ∀ h', Sat h0 A h' → RdS h' a_ b_ c' s) (ty : s.typed) (rl : SecsAt h0 lp ll X) (hll : ll < 2 ^ 47)
  (k1 : ¬ okS c s (X.map SR.kv) → ∀ o o' h', Sat h0 A h' → Q o o' false h')
  (k2 : okS c s (X.map SR.kv) → ∀ pr rr lp' lc' R2 h', R2.map SR.kv = X.map SR.kv → SR.good R2 → R2.length < 2 ^ 40 → Sat h0 (refE pr (layC c s) :: (ringD rr lp' lc' R2 ++ A)) h' → Q (some ⟨pr, 0, none⟩) (some ⟨rr, 0, none⟩) true h') :
  F_portcullislaw13_may c.cells c.slots c.fuses c.step c.keys c.erases c.area a_.1 a_.2.1 a_.2.2 b_.1 b_.2.1 b_.2.2 c'.1 c'.2.1 c'.2.2 lp ll lc Q h := by
 unfold F_portcullislaw13_may G_portcullislaw13_may
 try simp only [add_mk, Nat.zero_add, List.append_nil]
 have lR : X.length = ll := rl.1.symm
 obtain ⟨L, hL⟩ : ∃ L, X.map SR.kv = L := ⟨_, rfl⟩
 rw [hL] at k1 k2
 intro n26 _ hn; replace hs := Sat.new hs hn; clear hn
 replace hs : Sat h0 (blk n26 (scnV c a_ b_ c' lp ll lc) :: A) _ := hs
 (repeat first | refine ⟨_, Sat.ld hs (by (repeat (first | exact At.z | apply At.s))) (by rfl), ?_⟩ | refine ⟨_, _, _, Sat.ld hs (by (repeat (first | exact At.z | apply At.s))) (by rfl), ?_⟩ | (intro _ _ hn; replace hs := Sat.new hs hn; clear hn) | refine ⟨Sat.cs hs (by (repeat (first | exact At.z | apply At.s))) (by rfl), ?_⟩ | (refine ⟨Sat.can hs (by (repeat (first | exact At.z | apply At.s))) (by simp), ?_⟩; intro _ e; replace hs := Sat.wr hs (by (repeat (first | exact At.z | apply At.s))) e; clear e; simp only [put, splice, List.set] at hs))
 refine rLay_sp (a := a_) (b := b_) (c' := c') (s := s) c hs (fun h' hs' => rd _ hs'.drop) ty ?_ ?_ ?_
 ·intro nm h1 hs
  refine ⟨_, _, _, Sat.ld hs (by (repeat (first | exact At.z | apply At.s))) (by rfl), ?_⟩
  refine ringsU_sp hs hL (fun h' hs' => rl.ext hs') hll ?_
  intro o1 e1 i1 h3 B hs hB
  rw [if_neg (by decide)]
  exact k1 (fun y => nm y.1) _ _ _ (hs.sub ((List.sublist_cons_self _ _).trans (List.sublist_append_right _ _)))
 ·intro m nl h1 hs
  refine ⟨_, _, _, Sat.ld hs (by (repeat (first | exact At.z | apply At.s))) (by rfl), ?_⟩
  refine ringsU_sp hs hL (fun h' hs' => rl.ext hs') hll ?_
  intro o1 e1 i1 h3 B hs hB
  rw [if_neg (by decide)]
  exact k1 (fun y => nl y.2.1) _ _ _ (hs.sub ((List.sublist_cons_self _ _).trans (List.sublist_append_right _ _)))
 ·intro m l pr h1 hs
  refine ⟨_, _, _, Sat.ld hs (by (repeat (first | exact At.z | apply At.s))) (by rfl), ?_⟩
  refine ringsU_sp hs hL (fun h' hs' => rl.ext hs') hll ?_
  intro o1 e1 i1 h3 B hs hB
  rw [if_pos (by decide)]
  rcases hB with ⟨a, b⟩ | ⟨a, b0, rr, lp2, lc2, R2, b, eR2, gR2, b1⟩
  ·have : (e1 == 0) = false := by simpa using newM_ne a
   rw [this]
   exact k1 (fun y => by rw [y.2.2] at a; cases a) _ _ _ (hs.sub (((List.sublist_cons_self _ _).trans (List.sublist_cons_self _ _)).trans (List.sublist_append_right _ _)))
  subst b0 b b1
  have lR2 : R2.length < 2 ^ 40 := by
   have := congrArg List.length eR2
   rw [List.length_map] at this
   have h64 : ¬ 64 < L.length := fun y => by unfold newM at a; rw [if_pos y] at a; cases a
   omega
  refine k2 ⟨m, l, a⟩ pr rr lp2 lc2 R2 h3 eR2 gR2 lR2 ?_
  have q1 : (ringD rr lp2 lc2 R2 ++ (refE pr (layC c s) :: (blk n26 (scnV c a_ b_ c' lp ll lc) :: A))).Perm (refE pr (layC c s) :: (ringD rr lp2 lc2 R2 ++ (blk n26 (scnV c a_ b_ c' lp ll lc) :: A))) := List.perm_middle
  refine (hs.perm q1).sub ?_
  refine List.Sublist.cons_cons _ ?_
  exact (List.Sublist.refl _).append (List.sublist_cons_self _ _)
end
end Go.Proofs.YtaglicdidpgkpaaGreatDoor
end

/- TokenChecks: over any chip, keys, tokens, wishes; no act; without power, too. Own work. -/
section
set_option maxRecDepth 100000
set_option linter.unusedVariables false
namespace Go.Proofs.YtaglicdidpgkpaaGreatDoor
open Go Go.Vc
attribute [local irreducible] macM

structure TkIn (h : H) (key : Int) (id tag : List Int) (cs : List CvM) (ip : Option Addr) (il : Nat) (cp : Option Addr) (cl : Nat) : Prop where
 ri : hsv h ip 1 il (ints .u8 id)
 rb : isBy id
 ii : il + 4096 ≤ 2 ^ 47
 rc : hsv h cp 5 cl (cvsV cs)
 tl : tag.length = 32
 tb : isBy tag
section
variable {h0 h : H} {A : List Ent} {i j p r b s m : Nat} {C : Cm}
end
end Go.Proofs.YtaglicdidpgkpaaGreatDoor
end

/- GateNames, GateChecks. Own work. -/
section
set_option maxRecDepth 100000
set_option linter.unusedVariables false
namespace Go.Proofs.YtaglicdidpgkpaaGreatDoor
open Go Go.Vc
attribute [local irreducible] macM gateM

section
variable {h0 h : H} {A : List Ent} {i j p r b s m : Nat} {C : Cm}
theorem payRd {h : H} {own : Sl} {bs : List Int} {n : Nat} (rd : hsv h own.1 1 own.2.1 (ints .u8 bs)) (hl : bs.length = 48 + n) : hsv h (subAddr own.1 16 (16 + n) 1) 1 n (ints .u8 ((bs.drop 16).take n)) := by
 have hlen : own.2.1 = 48 + n := by have := rd.1; simp at this; omega
 exact subRd (o := 16) (n := n) (m := 16 + n) rd (by omega) (by omega)
end
end Go.Proofs.YtaglicdidpgkpaaGreatDoor
end

/- The store's laws, plain: what a BumpTo leaves. Own work. -/
section
set_option maxRecDepth 100000
set_option linter.unusedVariables false
namespace Go.Proofs.YtaglicdidpgkpaaGreatDoor
open Go Go.Vc

def cntB (C : Cm) (k : Nat) : Nat := cnt C.s.blown (((k : Nat) : Int) * C.cfg.fuses).toNat C.cfg.fuses.toNat
def valB (C : Cm) (k : Nat) : Int := if (cntB C k : Int) * C.cfg.step < numOf C k then numOf C k else (cntB C k : Int) * C.cfg.step
structure Bumped (u : Bool) (C D : Cm) (slot : Nat) (v e : Int) : Prop where
 cfg : D.cfg = C.cfg
 snd : sndU u D
 keys : ∀ q : Nat, C.cfg.slots * C.cfg.fuses ≤ (q : Int) → D.s.blown.getD q false = C.s.blown.getD q false
 other : ∀ k : Nat, (k : Int) < C.cfg.slots → k ≠ slot → valB D k = valB C k
 me : valB D slot = valB C slot ∨ (valB D slot = v ∧ valB C slot < v)
 done : e = 0 → valB D slot = max v (valB C slot)
 bad : e ≠ 0 → e ≠ 8 → D = C
end Go.Proofs.YtaglicdidpgkpaaGreatDoor
end

/- The store's laws, plain: what a Revoke leaves. Own work. -/
section
set_option maxRecDepth 100000
set_option linter.unusedVariables false
namespace Go.Proofs.YtaglicdidpgkpaaGreatDoor
open Go Go.Vc

def keyB (C : Cm) (k : Nat) : Bool := C.s.blown.getD (C.cfg.slots * C.cfg.fuses + (k : Int)).toNat false
structure RevokedL (u : Bool) (C D : Cm) (key : Nat) (e : Int) : Prop where
 cfg : D.cfg = C.cfg
 snd : sndU u D
 vals : ∀ k : Nat, (k : Int) < C.cfg.slots → valB D k = valB C k
 other : ∀ k : Nat, k ≠ key → keyB D k = keyB C k
 up : keyB C key = true → keyB D key = true
 done : e = 0 → keyB D key = true ∧ D.out = false
 bad : e ≠ 0 → e ≠ 8 → D = C
end Go.Proofs.YtaglicdidpgkpaaGreatDoor
end

/- The gate, plain: what is handed off once is handed off no more behind a bump or a revocation. Own work. -/
section
set_option maxRecDepth 100000
set_option linter.unusedVariables false
namespace Go.Proofs.YtaglicdidpgkpaaGreatDoor
open Go Go.Vc
attribute [local irreducible] macM

structure Hands (C : Cm) (L : List Sec) (bs : List Int) (x y : Nat) (s : Sec) : Prop where
 on : C.out = false
 fine : (parseW bs).1 = 0
 slot : bs.getD 5 0 = (x : Int)
 key : bs.getD 6 0 = (y : Int)
 slots : (x : Int) < C.cfg.slots
 keys : (y : Int) < C.cfg.keys
 has : L.find? (fun z => z.1 == (y : Int)) = some s
 may : keyB C y = false
 tag : macM s.2 (bs.take (bs.length - 32)) = (bs.drop (bs.length - 32)).take 32
 low : valB C x ≤ num4 bs 8
 high : num4 bs 8 ≤ lastM C.cfg
structure Lifted (C D : Cm) : Prop where
 cfg : D.cfg = C.cfg
 vals : ∀ k : Nat, (k : Int) < C.cfg.slots → valB C k ≤ valB D k
 keys : ∀ k : Nat, (k : Int) < C.cfg.keys → keyB C k = true → keyB D k = true
end Go.Proofs.YtaglicdidpgkpaaGreatDoor
end

/- GateStays. Own work. -/
section
set_option maxRecDepth 100000
set_option linter.unusedVariables false
namespace Go.Proofs.YtaglicdidpgkpaaGreatDoor
open Go Go.Vc
attribute [local irreducible] macM gateM

def ImgOf (G : Int) (bs : List Int) (E : Ent) (sl ky vr : Int) (x : Sl) (t : List Int) : Prop :=
 G = 0 → sl = bs.getD 5 0 ∧ ky = bs.getD 6 0 ∧ vr = num4 bs 8 ∧ ∃ (own : Sl) (n : Nat), num4 bs 12 = n ∧ bs.length = 48 + n ∧ x = (subAddr own.1 16 (16 + n) 1, n, n) ∧ t = (bs.drop (16 + n)).take 32 ∧ E = sE own 1 (ints .u8 bs)
section
variable {h0 h : H} {A : List Ent} {i j p r b s m : Nat} {C : Cm}
theorem gateN_sp {K : Nat → Int → H → Prop} {mm rr jm jr : Nat} {bs : List Int} {q : Option Addr} {l c : Nat} {R : List SR} {L : List Sec} (hg : hc h0 ⟨0, 0, none⟩ = some errTypeV) (hs : Sat h0 A h) (ci : At A i (chipE p C)) (cl' : At A j (logE r p)) (st : At A m (storeE s p r))
  (cr : At A jr (blk rr [.map (some mm)])) (cm : At A jm (mapE mm (R.map SR.ent))) (eR : R.map SR.kv = L) (gd : SR.good R) (rR : ∀ x, x ∈ R → ∃ y, At A y x.sl)
  (rd : ∀ h', Sat h0 A h' → hsv h' q 1 l (ints .u8 bs)) (hb : bytesOk bs) (hlc : l ≤ c) (hl : l < 2 ^ 50)
  (k : ∀ nb E sl ky vr x t h', t.length = 32 → ImgOf (gateM C L bs) bs E sl ky vr x t → Sat h0 (blk nb (imgL sl ky vr x t) :: E :: A) h' → K nb (gateM C L bs) h') :
  F_gate_Check ⟨s, 0, none⟩ ⟨rr, 0, none⟩ q l c (fun i1 i2 i3 o n m l e h => ∀ nb h', hnew h nb (.int .i64 0 :: .int .i64 0 :: .int .i64 0 :: .slice none 0 0 :: ints .u8 (zeros 32)) h' → hcan h' ⟨nb, 0, none⟩ 36 ∧ ∀ h'', h'' = hwr h' ⟨nb, 0, none⟩ (.int .i64 i1 :: .int .i64 i2 :: .int .i64 i3 :: .slice o n m :: ints .u8 l) → K nb e h'') h := by
 refine gate_sp (bs := bs) hg hs ci cl' st cr cm gd (fun x hx h' hs' => hs'.sv (rR x hx).choose_spec) rd hb hlc hl ?_ ?_
 ·intro e he hne h5 hs
  rw [eR] at he
  subst he
  replace hs := hs.sl_nil 1 none
  intro n113 _ hn; replace hs := Sat.new hs hn; clear hn
  refine ⟨Sat.can hs (i := 0) .z (by simp [zeros]), ?_⟩
  intro h6 e6
  replace hs := Sat.wra (xs := imgL 0 0 0 (none, 0, 0) (zeros 32)) hs (i := 0) .z e6 rfl
  clear e6
  simp only [put_zero] at hs
  exact k n113 _ 0 0 0 (none, 0, 0) (zeros 32) h6 (zeros_len 32) (fun y => absurd y hne) hs
 ·intro own n hz hp hnn hln h5 hs
  rw [eR] at hz
  have tl32 : ((bs.drop (16 + n)).take 32).length = 32 := by rw [List.length_take, List.length_drop]; omega
  intro n113 _ hn; replace hs := Sat.new hs hn; clear hn
  refine ⟨Sat.can hs (i := 0) .z (by simp [zeros]), ?_⟩
  intro h6 e6
  replace hs := Sat.wra (xs := imgL (bs.getD 5 0) (bs.getD 6 0) (num4 bs 8) (subAddr own.1 16 (16 + n) 1, n, n) ((bs.drop (16 + n)).take 32)) hs (i := 0) .z e6 (by rw [img_len tl32]; rfl)
  clear e6
  simp only [put_zero] at hs
  have := k n113 _ _ _ _ _ _ h6 tl32 (fun _ => ⟨rfl, rfl, rfl, own, n, hnn, hln, rfl, rfl, rfl⟩) hs
  rw [hz] at this
  exact this
end
end Go.Proofs.YtaglicdidpgkpaaGreatDoor
end
