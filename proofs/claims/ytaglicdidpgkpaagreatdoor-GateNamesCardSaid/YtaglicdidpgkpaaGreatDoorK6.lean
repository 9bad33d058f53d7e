/- GateNames: what is proved and its parts, laid together by a program of ours: Sl Mt Rd Re Kn Cd By Mp Sh1 Sh2 Sh3 Sh4 Mac1 Tk1 Tk2 Tk3 Tk4 Tk6 Tk7 Tr2 -/
import Derived.ChangeSame
import Derived.ChangeVars
import Derived.JoinedOf
import Derived.LaidHandle
import Derived.LaidLaws
import Derived.Laws.Closers25b
import Derived.ProofKit
import Derived.SevenTiedAt
import Derived.SizedLaws
import Derived.Stop.Joined
import Derived.Test.YtaglicdidpgkpaaGreatDoorCards
import Derived.Test.YtaglicdidpgkpaaGreatDoorRows
import Derived.Test.YtaglicdidpgkpaaGreatDoorTie
import Derived.Test.YtaglicdidpgkpaaGreatDoorK5
set_option autoImplicit false
set_option linter.all false
/- Assertions: a list of things that own blocks, none twice; all else is as it was in a base heap. Own work; generic over any program. -/
section
set_option linter.unusedVariables false
namespace Go.Vc

@[simp] theorem oneCell_slice (p : Option Addr) (l c : Nat) : (Value.slice p l c).oneCell' = true := rfl
@[simp] theorem oneCell_bool (b : Bool) : (Value.bool b).oneCell' = true := rfl
@[simp] theorem oneCell_ptr (p : Option Addr) : (Value.pointer p).oneCell' = true := rfl
@[simp] theorem oneCell_str (s : ByteArray) : (Value.string s).oneCell' = true := rfl

inductive Tag where
 | blk (b : Nat) (vs : List Value)
 | sl (p : Option Addr) (l c sz : Nat) (vs : List Value)
 | of (n : Nat)

structure Ent where
 tag : Tag
 P : H → (Nat → Prop) → Prop
 st : ∀ {h h' : H} {f : Nat → Prop}, P h f → (∀ b, f b → h'[b]? = h[b]?) → P h' f
 lt : ∀ {h : H} {f : Nat → Prop} {b : Nat}, P h f → f b → b < h.size

def SatX : List Ent → H → (Nat → Prop) → Prop
 | [], _, O => ∀ b, ¬ O b
 | e :: A, h, O => ∃ f g, e.P h f ∧ SatX A h g ∧ (∀ b, f b → ¬ g b) ∧ (∀ b, O b ↔ f b ∨ g b)

theorem SatX.st {A : List Ent} {h h' : H} {O : Nat → Prop} (s : SatX A h O) (e : ∀ b, O b → h'[b]? = h[b]?) : SatX A h' O := by
 induction A generalizing O with
 | nil => exact s
 | cons x A ih =>
  obtain ⟨f, g, hp, hg, hd, ho⟩ := s
  exact ⟨f, g, x.st hp fun b hb => e b ((ho b).2 (Or.inl hb)), ih hg fun b hb => e b ((ho b).2 (Or.inr hb)), hd, ho⟩
theorem SatX.lt {A : List Ent} {h : H} {O : Nat → Prop} (s : SatX A h O) {b : Nat} (hb : O b) : b < h.size := by
 induction A generalizing O with
 | nil => exact absurd hb (s b)
 | cons x A ih =>
  obtain ⟨f, g, hp, hg, hd, ho⟩ := s
  rcases (ho b).1 hb with k | k
  ·exact x.lt hp k
  ·exact ih hg k
theorem SatX.iff {A : List Ent} {h : H} {O O' : Nat → Prop} (s : SatX A h O) (e : ∀ b, O b ↔ O' b) : SatX A h O' := by
 have : O = O' := funext fun b => propext (e b)
 exact this ▸ s
theorem SatX.append {A B : List Ent} {h : H} {O : Nat → Prop} : SatX (A ++ B) h O ↔ ∃ f g, SatX A h f ∧ SatX B h g ∧ (∀ b, f b → ¬ g b) ∧ (∀ b, O b ↔ f b ∨ g b) := by
 induction A generalizing O with
 | nil =>
  constructor
  ·intro s; exact ⟨fun _ => False, O, fun _ x => x, s, fun _ x => x.elim, fun b => by simp⟩
  ·rintro ⟨f, g, hf, hg, _, ho⟩
   refine hg.iff fun b => ?_
   rw [ho]; constructor
   ·exact Or.inr
   ·rintro (k | k)
    ·exact absurd k (hf b)
    ·exact k
 | cons x A ih =>
  constructor
  ·rintro ⟨f, g, hp, hg, hd, ho⟩
   obtain ⟨f', g', h1, h2, h3, h4⟩ := ih.1 hg
   refine ⟨fun b => f b ∨ f' b, g', ⟨f, f', hp, h1, fun b k k' => hd b k ((h4 b).2 (Or.inl k')), fun b => Iff.rfl⟩, h2, ?_, ?_⟩
   ·rintro b (k | k) k'
    ·exact hd b k ((h4 b).2 (Or.inr k'))
    ·exact h3 b k k'
   ·intro b; rw [ho, h4, or_assoc]
  ·rintro ⟨f, g, ⟨f1, f2, hp, h1, h2, h3⟩, hg, hd, ho⟩
   refine ⟨f1, fun b => f2 b ∨ g b, hp, ih.2 ⟨f2, g, h1, hg, fun b k k' => hd b ((h3 b).2 (Or.inr k)) k', fun b => Iff.rfl⟩, ?_, ?_⟩
   ·rintro b k (k' | k')
    ·exact h2 b k k'
    ·exact hd b ((h3 b).2 (Or.inl k)) k'
   ·intro b; rw [ho, h3, or_assoc]

inductive At : List Ent → Nat → Ent → Prop where
 | z {A : List Ent} {e : Ent} : At (e :: A) 0 e
 | s {A : List Ent} {e x : Ent} {i : Nat} : At A i e → At (x :: A) (i + 1) e
def put : List Ent → Nat → Ent → List Ent
 | [], _, _ => []
 | _ :: A, 0, e => e :: A
 | x :: A, i + 1, e => x :: put A i e
@[simp] theorem put_zero (x e : Ent) (A : List Ent) : put (x :: A) 0 e = e :: A := rfl
@[simp] theorem put_succ (x e : Ent) (A : List Ent) (i : Nat) : put (x :: A) (i + 1) e = x :: put A i e := rfl
theorem At.put {A : List Ent} {i : Nat} {e : Ent} (a : At A i e) (x : Ent) : At (Vc.put A i x) i x := by
 induction a with
 | z => exact .z
 | s _ ih => exact .s ih
@[simp] theorem put_put (A : List Ent) (i : Nat) (x y : Ent) : put (put A i x) i y = put A i y := by
 induction A generalizing i with
 | nil => rfl
 | cons a A ih => cases i with
  | zero => rfl
  | succ i => simp [ih]
theorem At.put_self {A : List Ent} {i : Nat} {e : Ent} (a : At A i e) : Vc.put A i e = A := by
 induction a with
 | z => rfl
 | s _ ih => simp [ih]

theorem SatX.take {A : List Ent} {i : Nat} {e : Ent} (a : At A i e) {h : H} {O : Nat → Prop} (s : SatX A h O) :
  ∃ f g : Nat → Prop, e.P h f ∧ (∀ b, f b → ¬ g b) ∧ (∀ b, O b ↔ f b ∨ g b) ∧
   ∀ (e' : Ent) (h' : H) (f' : Nat → Prop), e'.P h' f' → (∀ b, g b → h'[b]? = h[b]?) → (∀ b, f' b → ¬ g b) → SatX (Vc.put A i e') h' (fun b => f' b ∨ g b) := by
 induction a generalizing O with
 | z =>
  obtain ⟨f, g, hp, hg, hd, ho⟩ := s
  exact ⟨f, g, hp, hd, ho, fun e' h' f' hp' hsame hd' => ⟨f', g, hp', hg.st hsame, hd', fun b => Iff.rfl⟩⟩
 | s a ih =>
  obtain ⟨f, g, hp, hg, hd, ho⟩ := s
  obtain ⟨f1, g1, h1, h2, h3, h4⟩ := ih hg
  refine ⟨f1, fun b => f b ∨ g1 b, h1, ?_, ?_, ?_⟩
  ·rintro b k (k' | k')
   ·exact hd b k' ((h3 b).2 (Or.inl k))
   ·exact h2 b k k'
  ·intro b; rw [ho, h3]; constructor
   ·rintro (k | k | k) <;> simp [k]
   ·rintro (k | k | k) <;> simp [k]
  ·intro e' h' f' hp' hsame hd'
   refine ⟨f, fun b => f' b ∨ g1 b, Ent.st _ hp fun b k => hsame b (Or.inl k), h4 e' h' f' hp' (fun b k => hsame b (Or.inr k)) (fun b k k' => hd' b k (Or.inr k')), ?_, ?_⟩
   ·rintro b k (k' | k')
    ·exact hd' b k' (Or.inl k)
    ·exact hd b k ((h3 b).2 (Or.inr k'))
   ·intro b; constructor
    ·rintro (k | k | k) <;> simp [k]
    ·rintro (k | k | k) <;> simp [k]

/-! ### With a base -/
def Sat (h0 : H) (A : List Ent) (h : H) : Prop := Ext none_ h0 h ∧ ∃ O, SatX A h O ∧ ∀ b, O b → h0.size ≤ b

theorem Sat.init (h : H) : Sat h [] h := ⟨Ext.refl _ _, fun _ => False, fun _ x => x, fun _ x => x.elim⟩
theorem Sat.ex {h0 h : H} {A : List Ent} (s : Sat h0 A h) : Ext none_ h0 h := s.1
theorem Sat.ext {h0 h h' : H} {A : List Ent} (s : Sat h0 A h) (x : Ext none_ h h') : Sat h0 A h' := by
 obtain ⟨s1, O, s2, s3⟩ := s
 exact ⟨s1.trans x, O, s2.st fun b hb => x.eq b (s2.lt hb) (fun y => y), s3⟩
theorem Sat.add {h0 h h' : H} {A : List Ent} (s : Sat h0 A h) (x : Ext none_ h h') {e : Ent} {f : Nat → Prop} (p : e.P h' f) (n : ∀ b, f b → h.size ≤ b) : Sat h0 (e :: A) h' := by
 obtain ⟨s1, O, s2, s3⟩ := s
 refine ⟨s1.trans x, fun b => f b ∨ O b, ⟨f, O, p, s2.st fun b hb => x.eq b (s2.lt hb) (fun y => y), ?_, fun b => Iff.rfl⟩, ?_⟩
 ·intro b k k'; have := n b k; have := s2.lt k'; omega
 ·rintro b (k | k)
  ·have := n b k; have := s1.size; omega
  ·exact s3 b k
theorem Sat.drop {h0 h : H} {A : List Ent} {e : Ent} (s : Sat h0 (e :: A) h) : Sat h0 A h := by
 obtain ⟨s1, O, ⟨f, g, _, hg, _, ho⟩, s3⟩ := s
 exact ⟨s1, g, hg, fun b hb => s3 b ((ho b).2 (Or.inr hb))⟩
theorem Sat.sub {h0 h : H} {A B : List Ent} (s : Sat h0 A h) (p : B.Sublist A) : Sat h0 B h := by
 obtain ⟨s1, O, s2, s3⟩ := s
 have : ∃ O', SatX B h O' ∧ ∀ b, O' b → O b := by
  clear s3
  induction p generalizing O with
  | slnil => exact ⟨O, s2, fun _ x => x⟩
  | cons a _ ih =>
   obtain ⟨f, g, hp, hg, hd, ho⟩ := s2
   obtain ⟨O', h1, h2⟩ := ih g hg
   exact ⟨O', h1, fun b hb => (ho b).2 (Or.inr (h2 b hb))⟩
  | cons_cons a _ ih =>
   obtain ⟨f, g, hp, hg, hd, ho⟩ := s2
   obtain ⟨O', h1, h2⟩ := ih g hg
   exact ⟨fun b => f b ∨ O' b, ⟨f, O', hp, h1, fun b k k' => hd b k (h2 b k'), fun b => Iff.rfl⟩, fun b hb => (ho b).2 (hb.imp id (h2 b))⟩
 obtain ⟨O', h1, h2⟩ := this
 exact ⟨s1, O', h1, fun b hb => s3 b (h2 b hb)⟩
theorem Sat.nil {h0 h : H} {A : List Ent} (s : Sat h0 A h) : Sat h0 [] h := ⟨s.1, fun _ => False, fun _ x => x, fun _ x => x.elim⟩
theorem Sat.perm {h0 h : H} {A B : List Ent} (s : Sat h0 A h) (p : A.Perm B) : Sat h0 B h := by
 obtain ⟨s1, O, s2, s3⟩ := s
 refine ⟨s1, O, ?_, s3⟩
 clear s3
 induction p generalizing O with
 | nil => exact s2
 | cons x _ ih =>
  obtain ⟨f, g, hp, hg, hd, ho⟩ := s2
  exact ⟨f, g, hp, ih g hg, hd, ho⟩
 | swap x y l =>
  obtain ⟨f, g, hp, ⟨f1, g1, hp1, hg1, hd1, ho1⟩, hd, ho⟩ := s2
  refine ⟨f1, fun b => f b ∨ g1 b, hp1, ⟨f, g1, hp, hg1, fun b k k' => hd b k ((ho1 b).2 (Or.inr k')), fun b => Iff.rfl⟩, ?_, ?_⟩
  ·rintro b k (k' | k')
   ·exact hd b k' ((ho1 b).2 (Or.inl k))
   ·exact hd1 b k k'
  ·intro b; rw [ho, ho1]; constructor
   ·rintro (k | k | k) <;> simp [k]
   ·rintro (k | k | k) <;> simp [k]
 | trans _ _ ih1 ih2 => exact ih2 O (ih1 O s2)
theorem Sat.takeK {h0 h : H} {A : List Ent} (s : Sat h0 A h) {i : Nat} {e : Ent} (a : At A i e) : ∃ f : Nat → Prop, e.P h f ∧ (∀ b, f b → h0.size ≤ b) ∧
  ∀ (h' : H) (e' : Ent) (f' : Nat → Prop), e'.P h' f' → (∀ b, f' b → f b ∨ h.size ≤ b) → Ext f h h' → Sat h0 (Vc.put A i e') h' := by
 obtain ⟨s1, O, s2, s3⟩ := s
 obtain ⟨f, g, hp, hd, ho, hk⟩ := s2.take a
 refine ⟨f, hp, fun b hb => s3 b ((ho b).2 (Or.inl hb)), fun h' e' f' hp' hn hx => ?_⟩
 have hg : ∀ b, g b → b < h.size := fun b hb => s2.lt ((ho b).2 (Or.inr hb))
 refine ⟨s1.comp hx (fun b hb hf => ?_), _, hk e' h' f' hp' (fun b hb => hx.eq b (hg b hb) (fun hf => hd b hf hb)) ?_, ?_⟩
 ·have := s3 b ((ho b).2 (Or.inl hf)); omega
 ·intro b k1 k2
  rcases hn b k1 with k | k
  ·exact hd b k k2
  ·have := hg b k2; omega
 ·rintro b (k1 | k1)
  ·rcases hn b k1 with k | k
   ·exact s3 b ((ho b).2 (Or.inl k))
   ·have := s1.size; omega
  ·exact s3 b ((ho b).2 (Or.inr k1))
theorem Sat.take {h0 h : H} {A : List Ent} (s : Sat h0 A h) {i : Nat} {e : Ent} (a : At A i e) : ∃ f, e.P h f ∧ ∀ b, f b → h0.size ≤ b := by
 obtain ⟨f, h1, h2, _⟩ := s.takeK a
 exact ⟨f, h1, h2⟩
theorem Sat.upd {h0 h h' : H} {A : List Ent} (s : Sat h0 A h) {i : Nat} {e e' : Ent} (a : At A i e)
  (k : ∀ f, e.P h f → ∃ f', e'.P h' f' ∧ (∀ b, f' b → f b ∨ h.size ≤ b) ∧ Ext f h h') : Sat h0 (Vc.put A i e') h' := by
 obtain ⟨f, hp, _, hk⟩ := s.takeK a
 obtain ⟨f', h1, h2, h3⟩ := k f hp
 exact hk h' e' f' h1 h2 h3
theorem Sat.as {h0 h : H} {A : List Ent} (s : Sat h0 A h) {i : Nat} {e e' : Ent} (a : At A i e) (k : ∀ f, e.P h f → e'.P h f) : Sat h0 (Vc.put A i e') h :=
 s.upd a fun f hp => ⟨f, k f hp, fun _ => Or.inl, Ext.refl _ _⟩

/-! ### A block; a slice -/
@[irreducible] def blkP (b : Nat) (vs : List Value) (h : H) (f : Nat → Prop) : Prop := Blk h b vs ∧ ∀ x, f x ↔ x = b
def blk (b : Nat) (vs : List Value) : Ent where
 tag := .blk b vs
 P := blkP b vs
 st := by unfold blkP; rintro h h' f ⟨k, e⟩ hs; exact ⟨k.of_eq (hs b ((e b).2 rfl)), e⟩
 lt := by unfold blkP; rintro h f x ⟨k, e⟩ hx; rw [(e x).1 hx]; exact k.lt
theorem blk_P {b : Nat} {vs : List Value} {h : H} {f : Nat → Prop} : (blk b vs).P h f ↔ Blk h b vs ∧ ∀ x, f x ↔ x = b := by
 show blkP b vs h f ↔ _; unfold blkP; rfl
@[irreducible] def slP (p : Option Addr) (l c sz : Nat) (vs : List Value) (h : H) (f : Nat → Prop) : Prop := ∃ bs, OwnS h p l c sz vs bs ∧ ∀ x, f x ↔ x ∈ bs
def slE (p : Option Addr) (l c sz : Nat) (vs : List Value) : Ent where
 tag := .sl p l c sz vs
 P := slP p l c sz vs
 st := by
  unfold slP; rintro h h' f ⟨bs, ⟨h1, h2, h3, h4⟩, e⟩ hs
  refine ⟨bs, ⟨h1, h2, h3, ?_⟩, e⟩
  rcases h4 with h4 | ⟨b, rest, e1, rfl, k, e2⟩
  ·exact Or.inl h4
  ·exact Or.inr ⟨b, rest, e1, rfl, k.of_eq (hs b ((e b).2 (by simp))), e2⟩
 lt := by unfold slP; rintro h f x ⟨bs, o, e⟩ hx; exact o.lt x ((e x).1 hx)
theorem slE_P {p : Option Addr} {l c sz : Nat} {vs : List Value} {h : H} {f : Nat → Prop} : (slE p l c sz vs).P h f ↔ ∃ bs, OwnS h p l c sz vs bs ∧ ∀ x, f x ↔ x ∈ bs := by
 show slP p l c sz vs h f ↔ _; unfold slP; rfl
@[irreducible] def exP {α : Type} (φ : α → Prop) (F : α → List Ent) (h : H) (f : Nat → Prop) : Prop := ∃ a, φ a ∧ SatX (F a) h f
def exE {α : Type} (n : Nat) (φ : α → Prop) (F : α → List Ent) : Ent where
 tag := .of n
 P := exP φ F
 st := by unfold exP; rintro h h' f ⟨a, ha, s⟩ hs; exact ⟨a, ha, s.st hs⟩
 lt := by unfold exP; rintro h f x ⟨a, ha, s⟩ hx; exact s.lt hx
theorem exE_P {α : Type} {n : Nat} {φ : α → Prop} {F : α → List Ent} {h : H} {f : Nat → Prop} : (exE n φ F).P h f ↔ ∃ a, φ a ∧ SatX (F a) h f := by
 show exP φ F h f ↔ _; unfold exP; rfl
theorem Sat.open_ {h0 h : H} {A : List Ent} {α : Type} {n : Nat} {φ : α → Prop} {F : α → List Ent} (s : Sat h0 (exE n φ F :: A) h) : ∃ a, φ a ∧ Sat h0 (F a ++ A) h := by
 obtain ⟨s1, O, ⟨f, g, hp, hg, hd, ho⟩, s3⟩ := s
 obtain ⟨a, ha, s⟩ := exE_P.1 hp
 exact ⟨a, ha, s1, O, SatX.append.2 ⟨f, g, s, hg, hd, ho⟩, s3⟩
theorem Sat.close {h0 h : H} {A : List Ent} {α : Type} {n : Nat} {φ : α → Prop} {F : α → List Ent} (a : α) (ha : φ a) (s : Sat h0 (F a ++ A) h) : Sat h0 (exE n φ F :: A) h := by
 obtain ⟨s1, O, s2, s3⟩ := s
 obtain ⟨f, g, hf, hg, hd, ho⟩ := SatX.append.1 s2
 exact ⟨s1, O, ⟨f, g, exE_P.2 ⟨a, ha, hf⟩, hg, hd, ho⟩, s3⟩
def del : List Ent → Nat → List Ent
 | [], _ => []
 | _ :: A, 0 => A
 | x :: A, i + 1 => x :: del A i
theorem At.perm {A : List Ent} {i : Nat} {e : Ent} (a : At A i e) : A.Perm (e :: del A i) := by
 induction a with
 | z => exact .refl _
 | s _ ih => exact (ih.cons _).trans (.swap _ _ _)
theorem At.perm_put {A : List Ent} {i : Nat} {e : Ent} (a : At A i e) (x : Ent) : (x :: del A i).Perm (Vc.put A i x) := by
 induction a with
 | z => exact .refl _
 | s _ ih => exact (List.Perm.swap _ _ _).trans (ih.cons _)
theorem Sat.front {h0 h : H} {A : List Ent} (s : Sat h0 A h) {i : Nat} {e : Ent} (a : At A i e) : Sat h0 (e :: del A i) h := s.perm a.perm
theorem Sat.back {h0 h : H} {A : List Ent} {i : Nat} {e x : Ent} (a : At A i e) (s : Sat h0 (x :: del A i) h) : Sat h0 (Vc.put A i x) h := s.perm (a.perm_put x)

/-! ### Steps -/
theorem Sat.new {h0 h h' : H} {A : List Ent} (s : Sat h0 A h) {b : Nat} {vs : List Value} (n : hnew h b vs h') : Sat h0 (blk b vs :: A) h' :=
 s.add n.ext (blk_P.2 ⟨n.blk, fun _ => Iff.rfl⟩) fun x hx => by rw [hx, n.b]; exact Nat.le_refl _
theorem Sat.blkOf {h0 h : H} {A : List Ent} (s : Sat h0 A h) {i b : Nat} {vs : List Value} (a : At A i (blk b vs)) : Blk h b vs := by
 obtain ⟨f, hp, _⟩ := s.take a
 exact (blk_P.1 hp).1
theorem Sat.old {h0 h : H} {A : List Ent} (s : Sat h0 A h) {i b : Nat} {vs : List Value} (a : At A i (blk b vs)) : h0.size ≤ b := by
 obtain ⟨f, hp, hl⟩ := s.take a
 exact hl b (((blk_P.1 hp).2 b).2 rfl)
theorem Sat.ld {h0 h : H} {A : List Ent} (s : Sat h0 A h) {i b : Nat} {vs : List Value} (a : At A i (blk b vs)) {o : Nat} {v : Value} (e : vs[o]? = some v) : hc h ⟨b, o, none⟩ = some v := by
 rw [(s.blkOf a).hc, e]
theorem Sat.cs1 {h0 h : H} {A : List Ent} (s : Sat h0 A h) {i b : Nat} {vs : List Value} (a : At A i (blk b vs)) {o : Nat} {xs : List Value} (e : ∀ i, i < xs.length → vs[o + i]? = xs[i]?) : hcs h ⟨b, o, none⟩ xs := (s.blkOf a).hcs e
theorem Sat.cs {h0 h : H} {A : List Ent} (s : Sat h0 A h) {i b : Nat} {vs : List Value} (a : At A i (blk b vs)) {o : Nat} {xs : List Value} (e : (vs.drop o).take xs.length = xs) : hcs h ⟨b, o, none⟩ xs := by
 refine s.cs1 a fun i hi => ?_
 have : ((vs.drop o).take xs.length)[i]? = xs[i]? := by rw [e]
 rw [List.getElem?_take_of_lt hi, List.getElem?_drop] at this
 exact this
theorem Sat.row {h0 h : H} {A : List Ent} (s : Sat h0 A h) {i b : Nat} {vs : List Value} (a : At A i (blk b vs)) {o : Nat} {k : IntKind} {ns : List Int} (e : ∀ i, i < ns.length → vs[o + i]? = ns[i]?.map (Value.int k)) : hrow h ⟨b, o, none⟩ k ns := (s.blkOf a).hrow e
theorem Sat.can {h0 h : H} {A : List Ent} (s : Sat h0 A h) {i b : Nat} {vs : List Value} (a : At A i (blk b vs)) {o n : Nat} (e : o + n ≤ vs.length) : hcan h ⟨b, o, none⟩ n := (s.blkOf a).can e
theorem Sat.wr {h0 h h' : H} {A : List Ent} (s : Sat h0 A h) {i b : Nat} {vs : List Value} (a : At A i (blk b vs)) {o : Nat} {xs : List Value} (e : h' = hwr h ⟨b, o, none⟩ xs) : Sat h0 (Vc.put A i (blk b (splice vs o xs))) h' := by
 subst e
 refine s.upd a fun f hp => ?_
 obtain ⟨k, hf⟩ := blk_P.1 hp
 refine ⟨f, blk_P.2 ⟨k.wr o xs, hf⟩, fun _ => Or.inl, (Ext.wr h b o xs).mono fun x _ hx => (hf x).2 hx⟩
theorem Sat.sv {h0 h : H} {A : List Ent} (s : Sat h0 A h) {i : Nat} {p : Option Addr} {l c sz : Nat} {vs : List Value} (a : At A i (slE p l c sz vs)) : hsv h p sz l vs := by
 obtain ⟨f, hp, _⟩ := s.take a
 obtain ⟨bs, o, _⟩ := slE_P.1 hp
 exact o.hsv
theorem Sat.base {h0 h : H} {A : List Ent} (s : Sat h0 A h) {p : Option Addr} {sz l : Nat} {vs : List Value} (e : hsv h0 p sz l vs) : hsv h p sz l vs := hsv_ext s.1 e fun _ _ x => x
theorem Sat.own {h0 h h' : H} {A : List Ent} (s : Sat h0 A h) (x : Ext none_ h h') {p : Option Addr} {l c sz : Nat} {vs : List Value} {bs : List Nat} (o : OwnS h' p l c sz vs bs) (n : newB h bs) : Sat h0 (slE p l c sz vs :: A) h' :=
 s.add x (f := fun x => x ∈ bs) (slE_P.2 ⟨bs, o, fun _ => Iff.rfl⟩) n
theorem Sat.app {h0 h : H} {A : List Ent} (s : Sat h0 A h) {i : Nat} {p : Option Addr} {l c n sz : Nat} {old vs z : List Value} {B : Nat} (a : At A i (slE p l c sz old)) {K : Option Addr → Nat → Nat → H → Prop}
  (hl : vs.length = n * sz) (hz : z.length = sz) (hv : ∀ v, v ∈ vs → v.oneCell' = true) (hb : (l + n) * B ≤ 2 ^ 47)
  (k : ∀ p' c' h', Sat h0 (Vc.put A i (slE p' (l + n) c' sz (old ++ vs))) h' → K p' (l + n) c' h') : pApp h sz z B p l c n vs K := by
 obtain ⟨f, hp, _, hk⟩ := s.takeK a
 obtain ⟨bs, o, hf⟩ := slE_P.1 hp
 refine pApp_own o hl hz hv hb fun p' c' h' bs' hx ho hn => k _ _ _ ?_
 refine hk h' _ (fun x => x ∈ bs') (slE_P.2 ⟨bs', ho, fun _ => Iff.rfl⟩) (fun b hb => ?_) (hx.mono fun x _ hx => (hf x).2 hx)
 rcases hn b hb with h1 | h1
 ·exact Or.inl ((hf b).2 h1)
 ·exact Or.inr h1
theorem Sat.app_new {h0 h : H} {A : List Ent} (s : Sat h0 A h) {p : Option Addr} {n sz : Nat} {vs z : List Value} {B : Nat} {K : Option Addr → Nat → Nat → H → Prop}
  (hl : vs.length = n * sz) (hz : z.length = sz) (hv : ∀ v, v ∈ vs → v.oneCell' = true) (hb : n * B ≤ 2 ^ 47)
  (k : ∀ p' c' h', Sat h0 (slE p' n c' sz vs :: A) h' → K p' n c' h') : pApp h sz z B p 0 0 n vs K :=
 pApp_empty hl hz hv hb fun p' c' h' bs x o nb => k p' c' h' (s.own x o nb)
theorem At.app {A B : List Ent} {i : Nat} {e : Ent} (a : At A i e) : At (A ++ B) i e := by
 induction a with
 | z => exact .z
 | s _ ih => exact .s ih
theorem At.get {A : List Ent} {i : Nat} {e : Ent} (h : A[i]? = some e) : At A i e := by
 induction A generalizing i with
 | nil => simp at h
 | cons x A ih => cases i with
  | zero => simp at h; subst h; exact .z
  | succ i => exact .s (ih (by simpa using h))
theorem At.mem {A : List Ent} {e : Ent} (h : e ∈ A) : ∃ i, At A i e := by
 obtain ⟨i, hi⟩ := List.mem_iff_getElem?.1 h
 exact ⟨i, At.get hi⟩

end Go.Vc
end

/- Slices of slices of bytes. Own work; generic over any program. -/
section
set_option linter.unusedVariables false
namespace Go.Vc

def bools (bs : List Bool) : List Value := bs.map Value.bool
@[simp] theorem bools_length (bs : List Bool) : (bools bs).length = bs.length := by simp [bools]
@[simp] theorem bools_get (bs : List Bool) (i : Nat) : (bools bs)[i]? = bs[i]?.map Value.bool := by simp [bools]
abbrev Sl := Option Addr × Nat × Nat
abbrev Sl.v (s : Sl) : Value := .slice s.1 s.2.1 s.2.2
abbrev sE (s : Sl) (sz : Nat) (vs : List Value) : Ent := slE s.1 s.2.1 s.2.2 sz vs

structure Pg where
 sl : Sl
 bytes : List Int
def Pg.rd (h : H) (sz : Nat) (x : Pg) : Prop := hsv h x.sl.1 sz x.sl.2.1 (ints .u8 x.bytes)
def pgSl (l : List Pg) : List Value := l.map fun x => x.sl.v
def pgBytes (l : List Pg) : List (List Int) := l.map Pg.bytes
def rowsE (sz : Nat) (l : List Pg) : List Ent := l.map fun x => sE x.sl sz (ints .u8 x.bytes)
@[simp] theorem pgSl_length (l : List Pg) : (pgSl l).length = l.length := by simp [pgSl]
@[simp] theorem pgBytes_length (l : List Pg) : (pgBytes l).length = l.length := by simp [pgBytes]

def RdM (h : H) (sz : Nat) (a : Sl) (rows : List (List Int)) : Prop := ∃ pgs, rows = pgBytes pgs ∧ hsv h a.1 1 a.2.1 (pgSl pgs) ∧ ∀ x, x ∈ pgs → x.rd h sz
def matL (sz : Nat) (a : Sl) (pgs : List Pg) : List Ent := sE a 1 (pgSl pgs) :: rowsE sz pgs
def matE (sz : Nat) (a : Sl) (rows : List (List Int)) : Ent := exE 1 (fun pgs => rows = pgBytes pgs) (matL sz a)
theorem RdM.ext {h h' : H} (x : Ext none_ h h') {sz : Nat} {a : Sl} {rows : List (List Int)} (r : RdM h sz a rows) : RdM h' sz a rows := by
 obtain ⟨pgs, h1, h2, h3⟩ := r
 exact ⟨pgs, h1, hsv_ext x h2 (fun _ _ y => y), fun y hy => hsv_ext x (h3 y hy) (fun _ _ y => y)⟩
theorem RdM.len {h : H} {sz : Nat} {a : Sl} {rows : List (List Int)} (r : RdM h sz a rows) : rows.length = a.2.1 := by
 obtain ⟨pgs, rfl, h2, _⟩ := r
 have := h2.1; simpa using this
theorem RdM.at {h : H} {sz : Nat} {a : Sl} {rows : List (List Int)} (r : RdM h sz a rows) {j : Nat} (hj : j < rows.length) :
  ∃ q x, a.1 = some q ∧ hc h (q.add (j * 1)) = some (Sl.v x) ∧ hsv h x.1 sz x.2.1 (ints .u8 rows[j]) := by
 obtain ⟨pgs, rfl, h2, h3⟩ := r
 have hj' : j < pgs.length := by simpa using hj
 have e : (pgSl pgs)[j]? = some (pgs[j].sl.v) := by simp [pgSl, hj']
 obtain ⟨q, hq, g⟩ := hsv_get h2 e
 refine ⟨q, pgs[j].sl, hq, by simpa using g, ?_⟩
 have := h3 pgs[j] (List.getElem_mem hj')
 simpa [Pg.rd, pgBytes] using this
theorem Sat.rdM {h0 h : H} {A : List Ent} (hs : Sat h0 A h) {i sz : Nat} {a : Sl} {rows : List (List Int)} (m : At A i (matE sz a rows)) : RdM h sz a rows := by
 obtain ⟨pgs, he, hs⟩ := (hs.front m).open_
 refine ⟨pgs, he, hs.sv (.z), ?_⟩
 intro x hx
 obtain ⟨j, hj⟩ := At.mem (A := rowsE sz pgs) (e := sE x.sl sz (ints .u8 x.bytes)) (List.mem_map_of_mem hx)
 exact hs.sv (.s hj.app)
theorem Sat.app_row {h0 h : H} {A : List Ent} {i sz : Nat} {p : Option Addr} {l c : Nat} {r : Sl} {rows : List (List Int)} {bs : List Int} {K : Option Addr → Nat → Nat → H → Prop}
  (hs : Sat h0 (sE r sz (ints .u8 bs) :: A) h) (m : At A i (matE sz (p, l, c) rows)) (hb : (l + 1) * 24 ≤ 2 ^ 47)
  (k : ∀ p' c' h', Sat h0 (Vc.put A i (matE sz (p', l + 1, c') (rows ++ [bs]))) h' → K p' (l + 1) c' h') : pApp h 1 [.slice none 0 0] 24 p l c 1 [r.v] K := by
 obtain ⟨pgs, he, hs⟩ := (hs.front (m.s)).open_
 have hs : Sat h0 (sE (p, l, c) 1 (pgSl pgs) :: (rowsE sz pgs ++ (sE r sz (ints .u8 bs) :: del A i))) h := hs
 refine hs.app (.z) (by simp) rfl (by intro v hv; simp at hv; subst hv; rfl) hb ?_
 intro p' c' h' hs
 refine k p' c' h' (Sat.back m ?_)
 refine Sat.close (pgs ++ [⟨r, bs⟩]) (by simp [he, pgBytes]) ?_
 refine hs.perm ?_
 simp only [Vc.put, matL, rowsE, pgSl, List.map_append, List.map_cons, List.map_nil, List.cons_append, List.append_assoc, List.nil_append]
 exact .refl _
theorem Sat.mat_nil {h0 h : H} {A : List Ent} (hs : Sat h0 A h) (sz : Nat) (p : Option Addr) : Sat h0 (matE sz (p, 0, 0) [] :: A) h := by
 refine Sat.close [] rfl ?_
 refine hs.own (Ext.refl _ _) (bs := []) (OwnS.nil _ _ _) (by intro b hb; simp at hb)
theorem Sat.sl_nil {h0 h : H} {A : List Ent} (hs : Sat h0 A h) (sz : Nat) (p : Option Addr) : Sat h0 (sE (p, 0, 0) sz [] :: A) h :=
 hs.own (Ext.refl _ _) (bs := []) (OwnS.nil _ _ _) (by intro b hb; simp at hb)
theorem Sat.as_sl {h0 h : H} {A : List Ent} (hs : Sat h0 A h) {i b l sz : Nat} {vs : List Value} (m : At A i (blk b vs)) (hl : vs.length = l * sz) (hv : ∀ v, v ∈ vs → v.oneCell' = true) :
  Sat h0 (Vc.put A i (slE (some ⟨b, 0, none⟩) l l sz vs)) h := by
 refine hs.as m fun f hp => ?_
 obtain ⟨k, hf⟩ := blk_P.1 hp
 refine slE_P.2 ⟨[b], ⟨hl, Nat.le_refl _, hv, Or.inr ⟨b, [], rfl, rfl, by simpa using k, by simp⟩⟩, fun x => ?_⟩
 rw [hf]; simp
theorem Sat.bv {h0 h : H} {A : List Ent} (hs : Sat h0 A h) {i b l sz : Nat} {vs : List Value} (m : At A i (blk b vs)) (hl : vs.length = l * sz) (hv : ∀ v, v ∈ vs → v.oneCell' = true) :
  hsv h (some ⟨b, 0, none⟩) sz l vs := (hs.as_sl m hl hv).sv (m.put _)
theorem ints_one (k : IntKind) (ns : List Int) : ∀ v, v ∈ ints k ns → v.oneCell' = true := by
 intro v hv
 simp only [ints, List.mem_map] at hv
 obtain ⟨n, _, rfl⟩ := hv; rfl
theorem bools_one (ns : List Bool) : ∀ v, v ∈ bools ns → v.oneCell' = true := by
 intro v hv
 simp only [bools, List.mem_map] at hv
 obtain ⟨n, _, rfl⟩ := hv; rfl
theorem Sat.ofBlk {h0 h h' : H} {A : List Ent} (hs : Sat h0 A h) (x : Ext none_ h h') {b : Nat} {vs : List Value} (k : Blk h' b vs) (n : h.size ≤ b) : Sat h0 (blk b vs :: A) h' :=
 hs.add x (blk_P.2 ⟨k, fun _ => Iff.rfl⟩) fun y hy => by rw [hy]; exact n

/-! ### Slices whose first cell is known -/
theorem Sat.sl_some {h0 h : H} {A : List Ent} (hs : Sat h0 A h) {i : Nat} {p : Option Addr} {l c sz : Nat} {vs : List Value} (m : At A i (slE p l c sz vs)) (hl : 0 < l) : ∃ b, p = some ⟨b, 0, none⟩ := by
 obtain ⟨f, hp, _⟩ := hs.take m
 obtain ⟨bs, ⟨_, _, _, h4⟩, _⟩ := slE_P.1 hp
 rcases h4 with ⟨h1, _, _⟩ | ⟨b, _, h1, _⟩
 ·omega
 ·exact ⟨b, h1⟩
theorem Sat.sl_len {h0 h : H} {A : List Ent} (hs : Sat h0 A h) {i : Nat} {p : Option Addr} {l c sz : Nat} {vs : List Value} (m : At A i (slE p l c sz vs)) : vs.length = l * sz := (hs.sv m).1
theorem Sat.sld {h0 h : H} {A : List Ent} (hs : Sat h0 A h) {i b l c sz : Nat} {vs : List Value} (m : At A i (slE (some ⟨b, 0, none⟩) l c sz vs)) {o : Nat} {v : Value} (e : vs[o]? = some v) : hc h ⟨b, o, none⟩ = some v := by
 obtain ⟨q, hq, g⟩ := hsv_get (hs.sv m) e
 injection hq with hq; subst hq
 rwa [add_mk, Nat.zero_add] at g
/-! ### Whole blocks -/
theorem Sat.wra {h0 h h' : H} {A : List Ent} (s : Sat h0 A h) {i b : Nat} {vs xs : List Value} (a : At A i (blk b vs)) (e : h' = hwr h ⟨b, 0, none⟩ xs) (hl : xs.length = vs.length) : Sat h0 (Vc.put A i (blk b xs)) h' := by
 have := s.wr a e
 rwa [splice_all _ _ hl] at this
theorem Sat.row0 {h0 h : H} {A : List Ent} (s : Sat h0 A h) {i b : Nat} {k : IntKind} {ns : List Int} (a : At A i (blk b (ints k ns))) : hrow h ⟨b, 0, none⟩ k ns :=
 s.row a fun i _ => by rw [Nat.zero_add, ints_get]

/-! ### Cells of a slice of slices -/
def cellAt (row : List Int) (k : Nat) : List Int := (row.drop (k * 32)).take 32
theorem cellAt_length {row : List Int} {k : Nat} (h : (k + 1) * 32 ≤ row.length) : (cellAt row k).length = 32 := by simp [cellAt]; omega
theorem cellAt_get (row : List Int) (k i : Nat) (hi : i < 32) : (cellAt row k)[i]? = row[k * 32 + i]? := by
 simp only [cellAt]
 rw [List.getElem?_take_of_lt hi, List.getElem?_drop]
theorem RdM.cell {h : H} {a : Sl} {rows : List (List Int)} (r : RdM h 32 a rows) {j k : Nat} (hj : j < rows.length) (hk : (k + 1) * 32 ≤ rows[j].length) :
  ∃ q x q', a.1 = some q ∧ hc h (q.add (j * 1)) = some (Sl.v x) ∧ x.2.1 * 32 = rows[j].length ∧ x.1 = some q' ∧ hrow h (q'.add (k * 32)) .u8 (cellAt rows[j] k) := by
 obtain ⟨q, x, h1, h2, h3⟩ := r.at hj
 have hl : x.2.1 * 32 = rows[j].length := by have := h3.1; simp at this; omega
 obtain ⟨e1, e2, e3⟩ := h3
 rcases e3 with e3 | ⟨q', hq, g⟩
 ·have : rows[j].length = 0 := by have := congrArg List.length e3; simpa using this
  omega
 ·refine ⟨q, x, q', h1, h2, hl, hq, ?_⟩
  intro i v hv
  have hi : i < 32 := by
   have := (List.getElem?_eq_some_iff.1 hv).1
   rw [ints_length, cellAt_length hk] at this; exact this
  rw [ints_get, cellAt_get _ _ _ hi] at hv
  have : (q'.add (k * 32)).add i = q'.add (k * 32 + i) := by
   cases q' with | mk b o s => unfold Addr.add; by_cases h1 : k * 32 = 0 <;> by_cases h2 : i = 0 <;> simp [h1, h2, Nat.add_assoc]
  rw [this]
  exact g _ _ (by rw [ints_get]; exact hv)

def rowSet (row : List Int) (k : Nat) (c : List Int) : List Int := row.take (k * 32) ++ c ++ row.drop (k * 32 + 32)
theorem rowSet_length {row c : List Int} {k : Nat} (hk : (k + 1) * 32 ≤ row.length) (hc : c.length = 32) : (rowSet row k c).length = row.length := by
 simp [rowSet, hc]; omega
/-! ### A row taken out of a slice of slices -/
end Go.Vc
end

/- Arguments that are read as data: what their cells are. Own work; generic over any program. -/
section
set_option maxRecDepth 100000
set_option linter.unusedVariables false
namespace Go.Vc

def Rdt {D : Type} (enc : TypeId × Value → D) (P : Program) (W : World) (t : TypeId) (cs : List Value) : Prop :=
 ∃ fuel x, DataW.trod enc P W 0 (fun _ => true) true fuel t cs = some x ∧ ∀ n, n ∈ DataW.weights P t x.1 → n ≤ reachBytes

inductive XSh where
 | int (k : IntKind) | bool | str | slc (e : TypeId) | row (k : IntKind) (n : Nat)
def XSh.size : XSh → Nat
 | .row _ n => n
 | _ => 1
def xSize : List XSh → Nat
 | [] => 0
 | s :: r => s.size + xSize r

def Sli {D : Type} (enc : TypeId × Value → D) (P : Program) (W : World) (e : TypeId) (p : Option Addr) (l c : Nat) : Prop :=
 l ≤ c ∧ c * P.bytesOf e ≤ reachBytes ∧ (p = none → l = 0 ∧ c = 0) ∧
  ∀ i, i < l → ∃ a es, p = some a ∧ es.length = P.cellsOf e ∧ hcs W.heap (a.add (i * P.cellsOf e)) es ∧ Rdt enc P W e es
def has (k : IntKind) (n : Int) : Prop := k.min ≤ n ∧ n ≤ k.max
def XM {D : Type} (enc : TypeId × Value → D) (P : Program) (W : World) : List XSh → List Value → Prop
 | [], cs => cs = []
 | .int k :: r, cs => ∃ n rest, cs = .int k n :: rest ∧ has k n ∧ XM enc P W r rest
 | .bool :: r, cs => ∃ b rest, cs = .bool b :: rest ∧ XM enc P W r rest
 | .str :: r, cs => ∃ s rest, cs = .string s :: rest ∧ s.size ≤ reachBytes ∧ XM enc P W r rest
 | .slc e :: r, cs => ∃ p l c rest, cs = .slice p l c :: rest ∧ Sli enc P W e p l c ∧ XM enc P W r rest
 | .row k n :: r, cs => ∃ ns rest, cs = ints k ns ++ rest ∧ ns.length = n ∧ (∀ x, x ∈ ns → has k x) ∧ XM enc P W r rest

section
variable {D : Type} {enc : TypeId × Value → D} {P : Program} {W : World}
theorem XM.append : ∀ {s1 s2 : List XSh} {c1 c2 : List Value}, XM enc P W s1 c1 → XM enc P W s2 c2 → XM enc P W (s1 ++ s2) (c1 ++ c2)
 | [], s2, c1, c2, h1, h2 => by simp only [XM] at h1; subst h1; exact h2
 | .int k :: r, s2, c1, c2, h1, h2 => by obtain ⟨n, rest, rfl, hn, h⟩ := h1; exact ⟨n, rest ++ c2, rfl, hn, XM.append h h2⟩
 | .bool :: r, s2, c1, c2, h1, h2 => by obtain ⟨n, rest, rfl, h⟩ := h1; exact ⟨n, rest ++ c2, rfl, XM.append h h2⟩
 | .str :: r, s2, c1, c2, h1, h2 => by obtain ⟨n, rest, rfl, hn, h⟩ := h1; exact ⟨n, rest ++ c2, rfl, hn, XM.append h h2⟩
 | .slc e :: r, s2, c1, c2, h1, h2 => by obtain ⟨p, l, c, rest, rfl, hn, h⟩ := h1; exact ⟨p, l, c, rest ++ c2, rfl, hn, XM.append h h2⟩
 | .row k n :: r, s2, c1, c2, h1, h2 => by obtain ⟨ns, rest, rfl, hn, hh, h⟩ := h1; exact ⟨ns, rest ++ c2, by simp, hn, hh, XM.append h h2⟩
theorem XM.len : ∀ {s : List XSh} {c : List Value}, XM enc P W s c → c.length = xSize s
 | [], c, h => by simp only [XM] at h; subst h; rfl
 | .int k :: r, c, h => by obtain ⟨n, rest, rfl, _, h⟩ := h; simp [xSize, XSh.size, XM.len h]; omega
 | .bool :: r, c, h => by obtain ⟨n, rest, rfl, h⟩ := h; simp [xSize, XSh.size, XM.len h]; omega
 | .str :: r, c, h => by obtain ⟨n, rest, rfl, _, h⟩ := h; simp [xSize, XSh.size, XM.len h]; omega
 | .slc e :: r, c, h => by obtain ⟨p, l, c, rest, rfl, _, h⟩ := h; simp [xSize, XSh.size, XM.len h]; omega
 | .row k n :: r, c, h => by obtain ⟨ns, rest, rfl, hn, _, h⟩ := h; simp [xSize, XSh.size, XM.len h, hn]

theorem cells_hcs {a : Addr} {n : Nat} {es : List Value} (h : W.cells? 0 a n = some es) : es.length = n ∧ hcs W.heap a es := by
 simp only [World.cells?, Nat.zero_le, if_true] at h
 have hl : es.length = n := by simpa using mapM_some_length h
 refine ⟨hl, fun i v hv => ?_⟩
 have hi : i < n := by have := (List.getElem?_eq_some_iff.1 hv).1; omega
 have := mapM_some_get h i i (by simp [hi])
 rw [hv, cell_hc] at this
 exact this
theorem weights_mem_all {e : TypeId} : ∀ {ds : List (DataW D)} {d : DataW D}, d ∈ ds → ∀ n, n ∈ DataW.weights P e d → n ∈ DataW.weightsAll P e ds
 | d0 :: ds, d, hd, n, hn => by
  simp only [DataW.weightsAll, List.mem_append]
  rcases List.mem_cons.1 hd with rfl | hd
  ·exact Or.inl hn
  ·exact Or.inr (weights_mem_all hd n hn)

theorem Rdt.slice {t e : TypeId} {cs : List Value} (u : P.underlying t = some (.slice e)) (h : Rdt enc P W t cs) : ∃ p l c, cs = [.slice p l c] ∧ Sli enc P W e p l c := by
 obtain ⟨fuel, x, h, hw⟩ := h
 rcases DataW.trod_slice u h with ⟨rfl, rfl⟩ | ⟨a, len, cap, elems, rest, n, rfl, rfl, rfl, _, hl, hc, he, h1, h2, _⟩
 ·exact ⟨none, 0, 0, rfl, Nat.le_refl _, by simp, fun _ => ⟨rfl, rfl⟩, fun i hi => by omega⟩
 ·refine ⟨some a, len, cap, rfl, hl, ?_, by simp, ?_⟩
  ·obtain ⟨h3, _⟩ := h2 rfl
   have := hw ((elems.length + rest.length) * P.bytesOf e) (by simp [DataW.weights, u])
   rw [he, h3] at this
   rwa [show len + (cap - len) = cap by omega] at this
  ·intro i hi
   have h4 := h1 i hi
   have hei : i < elems.length := by omega
   rw [List.getElem?_eq_getElem hei] at h4
   obtain ⟨es, h5, h6⟩ := Option.bind_eq_some_iff.1 h4
   obtain ⟨h7, h8⟩ := cells_hcs h5
   refine ⟨a, es, rfl, h7, h8, n, elems[i], h6, fun m hm => hw m ?_⟩
   simp only [DataW.weights, u, List.mem_cons, List.mem_append]
   exact Or.inr (Or.inl (weights_mem_all (List.mem_map_of_mem (List.getElem_mem hei)) m hm))
end
end Go.Vc
end

/- The frame of a law's row; slices that came in. Own work; generic over any program. -/
section
set_option maxRecDepth 100000
set_option linter.unusedVariables false
namespace Go.Vc
open Go.ChangeShapes Go.WideShapes Go.ChangeAt Go.RowKit
section
variable {D : Type} {enc : TypeId × Value → D} {P : Program} {W : World}

theorem below_of {W W' : World} (r : Rest W W') (x : Ext none_ W.heap W'.heap) (ho : True) : Below W.heap.size W W' :=
 ⟨r.2.1, r.1, r.2.2, x.size, fun k hk => x.eq k hk (fun y => y)⟩

theorem law_post {f : Func} {s : ChangeSpec} {W' : World} {args : Array Value} {ds gs : List (DataW D)} {before : List MemPlace} {tb : TypeId} (hl : laidOutB P = true) (hvars : s.vars = [])
  (hty : ∀ t, t ∈ f.params.toList → P.readableRec t = true ∧ t < P.types.size) (hres : f.resultTypes = #[tb]) (ub : P.underlying tb = some .bool) (hfn : s.fn D (ds ++ gs) = { results := [.lit (.bool true)], args := ds })
  (hW : DataW.Whole enc P f.params.toList s.vars false W args.toList ds gs before) (hb : Below W.heap.size W W') : s.post enc P f false true false false W args (.bool true) W' := by
 have hW0 := hW
 have hlt := hW.lt
 obtain ⟨p, q, h1, h2, rfl, h3, h4⟩ := hW
 rw [hvars] at h2
 obtain ⟨rfl, rfl⟩ := trodVars_none h2
 rw [List.append_nil] at hlt
 refine ⟨ds, [], p ++ [], [], p, [], hW0, ?_, ?_, ?_, hb.frame _, fun h => by cases h⟩
 ·rw [hfn, hres]
  exact trodAll_mk1 (shut_bool ub true)
 ·rw [hfn]
  have key : ∀ (ts : List TypeId) (vs : List Value) (ds : List (DataW D)) (p : List MemPlace), (∀ t, t ∈ ts → P.readableRec t = true ∧ t < P.types.size) → (∀ x ∈ p, x.block < W.heap.size) →
    DataW.TrodAll enc P W 0 (fun _ => true) true ts vs ds p → DataW.TrodAll enc P W' 0 (fun b => decide (b < W.heap.size)) true ts vs ds p := by
   intro ts
   induction ts with
   | nil => intro vs ds p _ _ h; cases vs <;> cases ds <;> exact h
   | cons t ts ih =>
    intro vs ds p ht hp h
    cases vs with
    | nil => cases h
    | cons v vs => cases ds with
     | nil => cases h
     | cons d ds =>
      obtain ⟨a, b, ha, hb', rfl⟩ := h
      exact ⟨a, b, Below.trod hl (ht t (by simp)).1 (ht t (by simp)).2 ha hb (fun x hx => hp x (by simp [hx])), ih vs ds b (fun t' h' => ht t' (by simp [h'])) (fun x hx => hp x (by simp [hx])) hb', rfl⟩
  exact key _ _ _ _ hty hlt h1
 ·rw [hfn, hvars]; rfl

theorem whole_rdt {ts : List TypeId} {vs : List Value} {ds gs : List (DataW D)} {vars : List TypeId}
  (h : ∃ p, DataW.TrodAll enc P W 0 (fun _ => true) true ts vs ds p) (hz : (DataW.weightsEach P (ts ++ vars) (ds ++ gs)).all (· ≤ reachBytes) = true) :
  ∀ (j : Nat) (t : TypeId) (v : Value), ts[j]? = some t → vs[j]? = some v → Rdt enc P W t v.cells.toList := by
 obtain ⟨p, h⟩ := h
 induction ts generalizing vs ds p with
 | nil => intro j t v ht; simp at ht
 | cons t0 ts ih =>
  cases vs with
  | nil => cases h
  | cons v0 vs => cases ds with
   | nil => cases h
   | cons d ds =>
    obtain ⟨a, b, ha, hb', rfl⟩ := h
    simp only [List.cons_append, DataW.weightsEach, List.all_append, Bool.and_eq_true] at hz
    intro j t v ht hv
    cases j with
    | zero =>
     simp only [List.getElem?_cons_zero, Option.some.injEq] at ht hv
     subst ht; subst hv
     obtain ⟨fuel, hf⟩ := ha
     exact ⟨fuel, _, hf, fun n hn => by simpa using List.all_eq_true.1 hz.1 n hn⟩
    | succ j => exact ih hz.2 b hb' j t v (by simpa using ht) (by simpa using hv)

theorem XM.one : ∀ {s : List XSh} {c : List Value}, XM enc P W s c → ∀ v, v ∈ c → v.oneCell' = true
 | [], c, h => by simp only [XM] at h; subst h; simp
 | .int k :: r, c, h => by
  obtain ⟨n, rest, rfl, _, h⟩ := h; intro v hv
  rcases List.mem_cons.1 hv with rfl | hv
  ·rfl
  ·exact XM.one h v hv
 | .bool :: r, c, h => by
  obtain ⟨n, rest, rfl, h⟩ := h; intro v hv
  rcases List.mem_cons.1 hv with rfl | hv
  ·rfl
  ·exact XM.one h v hv
 | .str :: r, c, h => by
  obtain ⟨n, rest, rfl, _, h⟩ := h; intro v hv
  rcases List.mem_cons.1 hv with rfl | hv
  ·rfl
  ·exact XM.one h v hv
 | .slc e :: r, c, h => by
  obtain ⟨p, l, c, rest, rfl, _, h⟩ := h; intro v hv
  rcases List.mem_cons.1 hv with rfl | hv
  ·rfl
  ·exact XM.one h v hv
 | .row k n :: r, c, h => by
  obtain ⟨ns, rest, rfl, _, _, h⟩ := h; intro v hv
  rcases List.mem_append.1 hv with hv | hv
  ·exact ints_one _ _ v hv
  ·exact XM.one h v hv

theorem trodAll_len : ∀ {ts : List TypeId} {vs : List Value} {ds : List (DataW D)} {p : List MemPlace} {W : World} {base : Nat} {sp : Nat → Bool} {hd : Bool}, DataW.TrodAll enc P W base sp hd ts vs ds p → vs.length = ts.length ∧ ds.length = ts.length
 | [], vs, ds, p, W, base, sp, hd, h => by obtain ⟨rfl, rfl, rfl⟩ := trodAll_nil h; exact ⟨rfl, rfl⟩
 | t :: ts, vs, ds, p, W, base, sp, hd, h => by
  obtain ⟨v, vs', d, ds', p', q', rfl, rfl, rfl, _, hr⟩ := trodAll_cons h
  have := trodAll_len hr
  simp [this.1, this.2]

def ArgsOk (enc : TypeId × Value → D) (P : Program) (W : World) (base : Nat) (ts : List TypeId) (vs : List Value) : Prop :=
 vs.length = ts.length ∧ ∀ (j : Nat) (t : TypeId) (v : Value), ts[j]? = some t → vs[j]? = some v → Rdt enc P W t v.cells.toList ∧ Value.okWide P W .any base t v
abbrev CallsTrue (P : Program) (f : FuncId) (vs : List Value) (W : World) : Prop := callsV P f vs (fun rs h' => rs = [DV.one (.bool true)] ∧ Ext none_ W.heap h') W.heap
theorem law_go {f : FuncId} {fn : Func} {s : ChangeSpec} {args : Array Value} {ds gs : List (DataW D)} {before : List MemPlace} {tb : TypeId} {base : Nat} (ts : List TypeId) (hts : fn.params = ts.toArray) (hl : laidOutB P = true) (hvars : s.vars = [])
  (hty : (ts.all fun t => P.readableRec t && decide (t < P.types.size)) = true) (hres : fn.resultTypes = #[tb]) (ub : P.underlying tb = some .bool)
  (hfn : ∀ ds : List (DataW D), ds.length = ts.length → s.fn D ds = { results := [.lit (.bool true)], args := ds })
  (hval : ∀ (j : Nat) t v, fn.params[j]? = some t → args[j]? = some v → Value.okWide P W .any base t v)
  (hW : DataW.Whole enc P fn.params.toList s.vars false W args.toList ds gs before) (hsz : (DataW.weightsEach P (fn.params.toList ++ s.plain.varTypes P) (ds ++ gs)).all (· ≤ reachBytes) = true)
  (main : ∀ vs, ArgsOk enc P W base ts vs → CallsTrue P f vs W) :
  Calls P f args W fun e W' => ∃ v, e = .returned v ∧ s.post enc P fn false true false false W args v W' := by
 have hW0 := hW
 obtain ⟨p, q, h1, h2, rfl, h3, h4⟩ := hW
 have h2' := h2
 rw [hvars] at h2'
 obtain ⟨rfl, rfl⟩ := trodVars_none h2'
 have hlen := trodAll_len h1
 have hpl : fn.params.toList = ts := by rw [hts]
 have hrd := whole_rdt ⟨p, h1⟩ hsz
 rw [hpl] at hrd hlen
 have hm := main args.toList ⟨hlen.1, fun j t v ht hv => ⟨hrd j t v ht hv, hval j t v (by rw [hts]; simpa using ht) (by simpa using hv)⟩⟩
 have hc := hm.2 W rfl
 rw [show args.toList.toArray = args by simp] at hc
 refine hc.mono fun e W' he => ?_
 obtain ⟨xs, _, rfl, hr, rfl, hx⟩ := he
 refine ⟨.bool true, rfl, ?_⟩
 refine law_post hl hvars ?_ hres ub (by rw [List.append_nil]; exact hfn ds hlen.2) hW0 (below_of hr hx trivial)
 intro t ht
 rw [hpl] at ht
 have := List.all_eq_true.1 hty t ht
 simp only [Bool.and_eq_true, decide_eq_true_eq] at this
 exact this
end
end Go.Vc
end

/- Closed facts about the program's form. Own work. -/
section
set_option maxRecDepth 100000
namespace Go.Proofs.YtaglicdidpgkpaaGreatDoor
open Go Go.Vc Go.ChangeShapes Go.WideShapes Go.ChangeAt Go.RowKit

theorem Tryz.own : ownKnob Tryz.prog.godebug = none := by kernel_rfl
theorem Tryz.laidOut : laidOutB Tryz.prog = true := by kernel_rfl
theorem Tryz.ubool : Tryz.prog.underlying 4 = some .bool := by kernel_rfl
theorem bool_and {a b : Bool} (ha : a = true) (hb : b = true) : (a && b) = true := by rw [ha, hb]; rfl
end Go.Proofs.YtaglicdidpgkpaaGreatDoor
end

/- What the one listed variable gives; a world that meets it; the frame of a tied card. Own work, after the guide's worked example (ToyasProofs). -/
section
set_option maxRecDepth 100000
namespace Go.Proofs.YtaglicdidpgkpaaGreatDoor
open Go Go.Vc Go.ChangeShapes Go.WideShapes Go.ChangeAt Go.RowKit

theorem Tryz.et : Tryz.prog.globalNamed "errors.errorType" = some 0 := by kernel_rfl
theorem Tryz.rt : (Tryz.prog.cutTypes.find? (·.1 == "internal/reflectlite.rtype")).map (·.2) = some 312 := by kernel_rfl
theorem Tryz.oneRow : ((List.range 396).filter fun t => Tryz.prog.rowNamed t [101, 114, 114, 111, 114]) = [115] := by kernel_rfl
theorem Tryz.size : Tryz.prog.types.size = 396 := by kernel_rfl
abbrev laidL {D : Type} : List (String × DataW D) := [("errors.errorType", Rows.laid_errors_errorType)]
theorem handle_of_laid {W : World} (h : laidMetH Tryz.prog laidL W) : hc W.heap ⟨0, 0, none⟩ = some errTypeV := by
 have h' : laidMet Tryz.prog [] W ∧ handlesMet Tryz.prog laidL W := h
 obtain ⟨name, u, ty, e1, e2, e3, e4, e5⟩ := h'.2 _ (List.mem_singleton.2 rfl)
 have en : name = [101, 114, 114, 111, 114] := (Option.some.inj e1).symm
 subst en
 obtain rfl := Option.some.inj (Tryz.rt.symm.trans e2)
 have hm : ty ∈ (List.range 396).filter fun t => Tryz.prog.rowNamed t [101, 114, 114, 111, 114] := List.mem_filter.2 ⟨List.mem_range.2 (by rw [← Tryz.size]; exact e3), e4⟩
 rw [Tryz.oneRow] at hm
 obtain rfl := List.mem_singleton.1 hm
 have hh : typeHandle Tryz.prog 115 = .pointer (some ⟨1, 115, none⟩) := by kernel_rfl
 rw [hh] at e5
 have : W.cell? ⟨0, 0, none⟩ = some (.iface 312 (.agg #[.pointer (some ⟨1, 115, none⟩)])) := by simpa using World.var?_cell Tryz.et e5 0
 exact this
noncomputable def laidWorld (os : Os) : World :=
 let w0 := World.holding Tryz.prog os ⟨#[], #[], []⟩
 { w0 with heap := w0.heap.modify 0 fun
   | .cells _ t frozen => .cells #[.iface 312 (.agg #[.pointer (some ⟨1, 115, none⟩)])] t frozen
   | o => o }
theorem laidWorld_met (os : Os) (args : Array Value) : laidMetH Tryz.prog laidL ((laidWorld os).forCall (fun _ _ => 0) ⟨#[], args, []⟩).memory :=
 laidMetH_of_parts (laidMet_nil _ _) (by kernel_rfl)
end Go.Proofs.YtaglicdidpgkpaaGreatDoor
end

/- Bits of bytes. Own work; generic over any program. -/
section
namespace Go.Vc
abbrev b8 (x : Int) : BitVec 8 := BitVec.ofInt 8 x
theorem b8_nat (v : BitVec 8) : b8 (v.toNat : Int) = v := by simp [b8]
theorem w8_nat (v : BitVec 8) : IntKind.u8.wrap (v.toNat : Int) = (v.toNat : Int) := by
 have := v.isLt
 rw [IntKind.wrap_u8]; omega
theorem bits_or8 (x y : Int) : bits .or .u8 x y = ((b8 x ||| b8 y).toNat : Int) := w8_nat (b8 x ||| b8 y)
theorem bits_xor8 (x y : Int) : bits .xor .u8 x y = ((b8 x ^^^ b8 y).toNat : Int) := w8_nat (b8 x ^^^ b8 y)
theorem bits_andNot8 (x y : Int) : bits .andNot .u8 x y = ((b8 x &&& ~~~ b8 y).toNat : Int) := w8_nat (b8 x &&& ~~~ b8 y)
theorem full_or (b : Int) : bits .or .u8 b 255 = 255 := by
 rw [bits_or8]
 have : b8 255 = BitVec.allOnes 8 := by decide
 rw [this, BitVec.or_allOnes]
 decide
end Go.Vc
end

/- Maps as owned things. Own work; generic over any program. -/
section
set_option linter.unusedVariables false
namespace Go.Vc

@[irreducible] def mapP (r : Nat) (es : List (Value × DV)) (h : H) (f : Nat → Prop) : Prop := hmap h r es ∧ ∀ x, f x ↔ x = r
theorem hmap_lt {h : H} {r : Nat} {es : List (Value × DV)} (m : hmap h r es) : r < h.size := by
 obtain ⟨a, cl, e, _⟩ := m
 exact (Array.getElem?_eq_some_iff.1 e).1
def mapE (r : Nat) (es : List (Value × DV)) : Ent where
 tag := .of r
 P := mapP r es
 st := by unfold mapP; rintro h h' f ⟨⟨a, cl, k, ke⟩, e⟩ hs; exact ⟨⟨a, cl, by rw [hs r ((e r).2 rfl)]; exact k, ke⟩, e⟩
 lt := by unfold mapP; rintro h f x ⟨k, e⟩ hx; rw [(e x).1 hx]; exact hmap_lt k
theorem mapE_P {r : Nat} {es : List (Value × DV)} {h : H} {f : Nat → Prop} : (mapE r es).P h f ↔ hmap h r es ∧ ∀ x, f x ↔ x = r := by
 show mapP r es h f ↔ _; unfold mapP; rfl
theorem Sat.mapNew {h0 h h' : H} {A : List Ent} (s : Sat h0 A h) {b : Nat} (n : hmnew h b h') : Sat h0 (mapE b [] :: A) h' := by
 obtain ⟨rfl, rfl⟩ := n
 refine s.add ⟨by simp, fun x hx _ => by rw [Array.getElem?_push, if_neg (by omega)]⟩ (f := fun x => x = h.size) (mapE_P.2 ⟨⟨#[], 0, by simp, rfl, fun e he => by cases he⟩, fun _ => Iff.rfl⟩) fun x hx => by rw [hx]; exact Nat.le_refl _
theorem Sat.mapAt {h0 h : H} {A : List Ent} (s : Sat h0 A h) {i r : Nat} {es : List (Value × DV)} (a : At A i (mapE r es)) : hmap h r es := by
 obtain ⟨f, hp, _⟩ := s.take a
 exact (mapE_P.1 hp).1
theorem Sat.mapSet {h0 h h' : H} {A : List Ent} (s : Sat h0 A h) {i r : Nat} {es es' : List (Value × DV)} (a : At A i (mapE r es)) (e : hmset h r es' h') : Sat h0 (Vc.put A i (mapE r es')) h' := by
 refine s.upd a fun f hp => ?_
 obtain ⟨k, hf⟩ := mapE_P.1 hp
 have hlt := hmap_lt k
 obtain ⟨m, cl, rfl, hent⟩ := e
 refine ⟨f, mapE_P.2 ⟨⟨m, cl, by rw [Array.getElem?_setIfInBounds_self_of_lt hlt], hent⟩, hf⟩, fun _ => Or.inl, ⟨by simp, fun x _ hx => ?_⟩⟩
 rw [Array.getElem?_setIfInBounds_ne]
 intro y; exact hx ((hf x).2 y.symm)
theorem hsv_nil {h : H} {sz : Nat} {p : Option Addr} {k : IntKind} : hsv h p sz 0 (ints k []) := ⟨by simp, fun v hv => by simp [ints] at hv, Or.inl rfl⟩
theorem take_snoc (l : List Int) (n : Nat) (h : n < l.length) : l.take n ++ [l.getD n 0] = l.take (n + 1) := by
 rw [List.take_succ]; simp [List.getD, List.getElem?_eq_getElem h]
end Go.Vc
end

/- SHA-256 in the program: a model on rows of integers, and taking a piece in. Own work. -/
section
set_option maxRecDepth 100000
set_option linter.unusedVariables false
namespace Go.Proofs.YtaglicdidpgkpaaGreatDoor
open Go Go.Vc

theorem wrapU64 (n : Int) : IntKind.u64.wrap n = n % 18446744073709551616 := by simp [IntKind.wrap, IntKind.signed, IntKind.bits]
theorem hsvI {h : H} {p : Option Addr} {l : Nat} {k : IntKind} {ns : List Int} {x : Nat} (rd : hsv h p 1 l (ints k ns)) (hx : x < l) : ∃ q, p = some q ∧ hc h (q.add x) = some (.int k (ns.getD x 0)) := by
 have hl : ns.length = l := by have := rd.1; simpa using this
 obtain ⟨q, hq, g⟩ := hsv_get rd (i := x) (v := .int k (ns.getD x 0)) (by rw [ints_get, List.getElem?_eq_getElem (by omega)]; simp [List.getD, List.getElem?_eq_getElem (show x < ns.length by omega)])
 exact ⟨q, hq, g⟩

/-! ### The model -/
def kM : List Int := [1116352408, 1899447441, 3049323471, 3921009573, 961987163, 1508970993, 2453635748, 2870763221, 3624381080, 310598401, 607225278, 1426881987, 1925078388, 2162078206, 2614888103, 3248222580, 3835390401, 4022224774, 264347078, 604807628, 770255983, 1249150122, 1555081692, 1996064986, 2554220882, 2821834349, 2952996808, 3210313671, 3336571891, 3584528711, 113926993, 338241895, 666307205, 773529912, 1294757372, 1396182291, 1695183700, 1986661051, 2177026350, 2456956037, 2730485921, 2820302411, 3259730800, 3345764771, 3516065817, 3600352804, 4094571909, 275423344, 430227734, 506948616, 659060556, 883997877, 958139571, 1322822218, 1537002063, 1747873779, 1955562222, 2024104815, 2227730452, 2361852424, 2428436474, 2756734187, 3204031479, 3329325298]
def sM : List Int := [1779033703, 3144134277, 1013904242, 2773480762, 1359893119, 2600822924, 528734635, 1541459225]
def rotM (x : Int) (n : Nat) : Int := bits .or .u32 (IntKind.u32.wrap (x * 2 ^ (32 - n))) (x.fdiv (2 ^ n))
def x3 (a b c : Int) : Int := bits .xor .u32 (bits .xor .u32 a b) c
def sig0 (x : Int) : Int := x3 (rotM x 7) (rotM x 18) (x.fdiv (2 ^ 3))
def sig1 (x : Int) : Int := x3 (rotM x 17) (rotM x 19) (x.fdiv (2 ^ 10))
def accM (bs : List Int) : Nat → Int
 | 0 => 0
 | j + 1 => bits .or .u32 (IntKind.u32.wrap (accM bs j * 2 ^ 8)) (IntKind.u32.wrap (bs.getD j 0))
def nxtM (w : List Int) (t : Nat) : Int :=
 IntKind.u32.wrap (IntKind.u32.wrap (IntKind.u32.wrap (w.getD (t - 16) 0 + sig0 (w.getD (t - 15) 0)) + w.getD (t - 7) 0) + sig1 (w.getD (t - 2) 0))
def wM (bs : List Int) : Nat → List Int
 | 0 => zeros 64
 | t + 1 => (wM bs t).set t (if t < 16 then accM ((bs.drop (4 * t)).take 4) 4 else nxtM (wM bs t) t)
def nots (x : Int) : Int := bits .xor .u32 (if IntKind.u32.signed = true then -1 else IntKind.u32.max) x
def uM (a b c d e f g h k w : Int) : Int :=
 IntKind.u32.wrap (IntKind.u32.wrap (IntKind.u32.wrap (IntKind.u32.wrap (h + x3 (rotM e 6) (rotM e 11) (rotM e 25)) + bits .xor .u32 (bits .and .u32 e f) (bits .and .u32 (nots e) g)) + k) + w)
def vM (a b c : Int) : Int := IntKind.u32.wrap (x3 (rotM a 2) (rotM a 13) (rotM a 22) + x3 (bits .and .u32 a b) (bits .and .u32 a c) (bits .and .u32 b c))
def shStepM (s : List Int) (k w : Int) : List Int :=
 match s with
 | [a, b, c, d, e, f, g, h] => [IntKind.u32.wrap (uM a b c d e f g h k w + vM a b c), a, b, c, IntKind.u32.wrap (d + uM a b c d e f g h k w), e, f, g]
 | s => s
def rM (w s : List Int) : Nat → List Int
 | 0 => s
 | t + 1 => shStepM (rM w s t) (kM.getD t 0) (w.getD t 0)
def aM (s r : List Int) : Nat → List Int
 | 0 => s
 | i + 1 => (aM s r i).set i (IntKind.u32.wrap ((aM s r i).getD i 0 + r.getD i 0))
def pieceM (s bs : List Int) : List Int := aM s (rM (wM bs 64) s 64) 8

theorem wM_len (bs : List Int) (t : Nat) : (wM bs t).length = 64 := by
 induction t with
 | zero => simp [wM, zeros]
 | succ t ih => simp [wM, ih]
theorem len8 {s : List Int} (h : s.length = 8) : ∃ a b c d e f g i, s = [a, b, c, d, e, f, g, i] := by
 match s, h with
 | [a, b, c, d, e, f, g, i], _ => exact ⟨a, b, c, d, e, f, g, i, rfl⟩
theorem rM_len (w s : List Int) (h : s.length = 8) (t : Nat) : (rM w s t).length = 8 := by
 induction t with
 | zero => exact h
 | succ t ih =>
  obtain ⟨a, b, c, d, e, f, g, i, hx⟩ := len8 ih
  show (shStepM (rM w s t) _ _).length = 8
  rw [hx]; rfl
theorem aM_len (s r : List Int) (h : s.length = 8) (i : Nat) : (aM s r i).length = 8 := by
 induction i with
 | zero => exact h
 | succ i ih => simp [aM, ih]
theorem pieceM_len {s bs : List Int} (h : s.length = 8) : (pieceM s bs).length = 8 := aM_len _ _ h _
theorem kM_len : kM.length = 64 := by decide
theorem intsG {k : IntKind} {l : List Int} {i : Nat} (h : i < l.length) : (ints k l)[i]? = some (.int k (l.getD i 0)) := by
 rw [ints_get, List.getElem?_eq_getElem h]; simp [List.getD, List.getElem?_eq_getElem h]
theorem intsP (k : IntKind) (l : List Int) (i : Nat) (v : Int) : splice (ints k l) i [.int k v] = ints k (l.set i v) := by
 show (ints k l).set i (.int k v) = _
 rw [ints_set]

/-! ### The digest in memory -/
abbrev dgL (s sm : List Int) (n : Int) : List Value := ints .u32 s ++ (ints .u8 sm ++ .int .u64 n :: (ints .u32 kM ++ []))
section
variable {s sm : List Int} {n : Int}
theorem dg_len (h1 : s.length = 8) (h2 : sm.length = 64) : (dgL s sm n).length = 137 := by simp [h1, h2, kM_len]
theorem dg_s (h1 : s.length = 8) {i : Nat} (hi : i < 8) : (dgL s sm n)[i]? = some (.int .u32 (s.getD i 0)) := by
 rw [List.getElem?_append_left (by simp [h1, hi]), intsG (by omega)]
theorem dg_m (h1 : s.length = 8) (h2 : sm.length = 64) {i : Nat} (hi : i < 64) : (dgL s sm n)[8 + i]? = some (.int .u8 (sm.getD i 0)) := by
 rw [List.getElem?_append_right (by simp [h1]), List.getElem?_append_left (by simp [h1, h2, hi])]
 rw [show 8 + i - (ints .u32 s).length = i by simp [h1], intsG (by omega)]
theorem dg_n (h1 : s.length = 8) (h2 : sm.length = 64) : (dgL s sm n)[72]? = some (.int .u64 n) := by
 rw [List.getElem?_append_right (by simp [h1]), List.getElem?_append_right (by simp [h1, h2])]
 simp [h1, h2]
theorem dg_k (h1 : s.length = 8) (h2 : sm.length = 64) {i : Nat} (hi : i < 64) : (dgL s sm n)[73 + i]? = some (.int .u32 (kM.getD i 0)) := by
 rw [List.getElem?_append_right (by simp [h1]; omega), List.getElem?_append_right (by simp [h1, h2]; omega)]
 rw [show 73 + i - (ints .u32 s).length - (ints .u8 sm).length = i + 1 by simp [h1, h2]; omega, List.getElem?_cons_succ, List.append_nil, intsG (by rw [kM_len]; omega)]
theorem dg_ps (h1 : s.length = 8) {i : Nat} (hi : i < 8) (v : Int) : splice (dgL s sm n) i [.int .u32 v] = dgL (s.set i v) sm n := by
 show (dgL s sm n).set i _ = _
 rw [List.set_append_left _ _ (by simp [h1, hi]), ints_set]
theorem dg_pn (h1 : s.length = 8) (h2 : sm.length = 64) (v : Int) : splice (dgL s sm n) 72 [.int .u64 v] = dgL s sm v := by
 show (dgL s sm n).set 72 _ = _
 rw [List.set_append_right _ _ (by simp [h1]), List.set_append_right _ _ (by simp [h1, h2])]
 simp [h1, h2]
end
section
variable {h0 h : H} {A : List Ent} {i d : Nat}
theorem rot_sp {Q : Int → H → Prop} (x : Int) (k : Int) (m : Nat) (hm : bits .and .u64 (IntKind.u64.wrap k) 31 = ((32 - m : Nat) : Int)) (h1 : 1 ≤ m) (h2 : m < 32) (q : Q (rotM x m) h) : F_math_bits_RotateLeft32 x k Q h := by
 unfold F_math_bits_RotateLeft32 G_math_bits_RotateLeft32
 rw [hm]
 have e : IntKind.u64.wrap (32 - ((32 - m : Nat) : Int)) = (m : Int) := by rw [wrapU64]; omega
 rw [e]
 refine ⟨by omega, by omega, ?_⟩
 rw [Int.toNat_natCast, Int.toNat_natCast, Nat.min_eq_left (by omega), Nat.min_eq_left (by omega)]
 exact q
theorem shTurn_sp {Q : Int → H → Prop} (x : Int) (m : Nat) (hm : bits .and .u64 (IntKind.u64.wrap (IntKind.i64.wrap (0 - (m : Int)))) 31 = ((32 - m : Nat) : Int)) (h1 : 1 ≤ m) (h2 : m < 32) (q : Q (rotM x m) h) : F_sha_turn x (m : Int) Q h := by
 unfold F_sha_turn G_sha_turn
 exact rot_sp x _ m hm h1 h2 q
end
end Go.Proofs.YtaglicdidpgkpaaGreatDoor
end

/- SHA-256 in the program: a piece is taken in. Own work. -/
section
set_option maxRecDepth 100000
set_option linter.unusedVariables false
namespace Go.Proofs.YtaglicdidpgkpaaGreatDoor
open Go Go.Vc

theorem addAdd (a : Addr) (i j : Nat) : (a.add i).add j = a.add (i + j) := by
 unfold Addr.add
 by_cases h : i = 0
 ·subst h; simp
 ·by_cases h2 : j = 0
  ·subst h2; simp
  ·have : ¬ i + j = 0 := by omega
   simp [h, h2]; omega
theorem subRd {h : H} {q : Option Addr} {l o n m : Nat} {k : IntKind} {bs : List Int} (rd : hsv h q 1 l (ints k bs)) (ho : o + n ≤ l) (hm : m = o → n = 0) : hsv h (subAddr q o m 1) 1 n (ints k ((bs.drop o).take n)) := by
 have hl : bs.length = l := by have := rd.1; simpa using this
 refine ⟨by rw [ints_length, List.length_take, List.length_drop]; omega, ints_one _ _, ?_⟩
 by_cases c : n = 0
 ·subst c; exact Or.inl rfl
 unfold subAddr
 rw [if_neg (fun y => c (hm y))]
 obtain ⟨_, _, rd⟩ := rd
 rcases rd with rd | ⟨q', rfl, g⟩
 ·have := congrArg List.length rd
  rw [ints_length, List.length_nil] at this; omega
 ·refine Or.inr ⟨_, rfl, ?_⟩
  intro i v hv
  have hi : i < n := by
   have h1 : i < (ints k ((bs.drop o).take n)).length := (List.getElem?_eq_some_iff.1 hv).1
   rw [ints_length, List.length_take] at h1
   exact Nat.lt_of_lt_of_le h1 (Nat.min_le_left _ _)
  have e := g (o + i) v (by
   rw [ints_get] at hv ⊢
   rw [List.getElem?_take_of_lt hi, List.getElem?_drop] at hv
   exact hv)
  rw [Nat.mul_one, addAdd]
  exact e
theorem setD (l : List Int) (j k : Nat) (v : Int) : (l.set j v).getD k 0 = if j = k ∧ k < l.length then v else l.getD k 0 := by
 rw [List.getD_eq_getElem?_getD, List.getElem?_set]
 by_cases c : j = k
 ·subst c
  by_cases d : j < l.length
  ·simp [d]
  ·simp [d]
 ·simp [c]
theorem setSame (l : List Int) (k : Nat) : l.set k (l.getD k 0) = l := by
 apply List.ext_getElem?
 intro j
 rw [List.getElem?_set]
 by_cases c : k = j
 ·subst c
  by_cases d : k < l.length
  ·simp [d, List.getD, List.getElem?_eq_getElem d]
  ·simp [d]
 ·simp [c]
theorem wM_hi (bs : List Int) : ∀ t k, t ≤ k → (wM bs t).getD k 0 = 0
 | 0, k, _ => by
  show (zeros 64).getD k 0 = 0
  rw [List.getD_eq_getElem?_getD]
  unfold zeros
  rw [List.getElem?_replicate]; split <;> rfl
 | t + 1, k, h => by
  show ((wM bs t).set t _).getD k 0 = 0
  rw [setD, if_neg (by omega)]
  exact wM_hi bs t k (by omega)
theorem turn2_sp {h : H} {Q : Int → H → Prop} (x : Int) (m : Nat) {mi : Int} (e : mi = (m : Int)) (hm : bits .and .u64 (IntKind.u64.wrap (IntKind.i64.wrap (0 - (m : Int)))) 31 = ((32 - m : Nat) : Int)) (h1 : 1 ≤ m) (h2 : m < 32) (q : Q (rotM x m) h) : F_sha_turn x mi Q h := by
 subst e
 exact shTurn_sp x m hm h1 h2 q
section
variable {h0 h : H} {A : List Ent} {i d : Nat}
theorem take_sp {Q : H → Prop} {s sm bs : List Int} {n : Int} {bp : Option Addr} {bc : Nat} (hs : Sat h0 A h) (cd : At A i (blk d (dgL s sm n))) (l1 : s.length = 8) (l2 : sm.length = 64) (hbc : 64 ≤ bc) (rd : ∀ h', Sat h0 A h' → hsv h' bp 1 64 (ints .u8 bs))
  (k : ∀ h', Sat h0 (put A i (blk d (dgL (pieceM s bs) sm n))) h' → Q h') : F_sha_Digest_take ⟨d, 0, none⟩ bp 64 bc Q h := by
 unfold F_sha_Digest_take G_sha_Digest_take
 try simp only [add_mk, Nat.zero_add, List.append_nil]
 intro wn _ hn; replace hs := Sat.new hs hn; clear hn
 intro J10 hJ10
 refine loop_up 16 (fun t h => Sat h0 (blk wn (ints .u32 (wM bs t)) :: A) h) ?_ ?_ 0 _ (by omega) hs
 ·intro t h1 ht hs hk
  apply hJ10
  rw [ltI_eq, if_pos (by simp; omega)]
  have e4 : IntKind.i64.wrap (4 * (t : Int)) = ((4 * t : Nat) : Int) := by rw [wrap_id (by omega)]; push_cast; rfl
  have e8 : IntKind.i64.wrap (((4 * t : Nat) : Int) + 4) = ((4 * t + 4 : Nat) : Int) := by rw [wrap_id (by omega)]; push_cast; rfl
  rw [e4, e8]
  simp only [Int.toNat_natCast, Nat.mul_one]
  refine ⟨by omega, by omega, by omega, ?_⟩
  rw [show 4 * t + 4 - 4 * t = 4 by omega]
  obtain ⟨pc, hpc⟩ : ∃ pc, pc = (bs.drop (4 * t)).take 4 := ⟨_, rfl⟩
  have hlen := wM_len bs t
  intro J13 hJ13
  refine loop_up 4 (fun j h => Sat h0 (blk wn (ints .u32 ((wM bs t).set t (accM pc j))) :: A) h) ?_ ?_ 0 _ (by omega) (by
   have : (wM bs t).set t (accM pc 0) = wM bs t := by
    have := setSame (wM bs t) t
    rw [wM_hi bs t t (Nat.le_refl _)] at this
    exact this
   rw [this]; exact hs)
  ·intro j h2 hj hs hk2
   apply hJ13
   rw [ltI_eq, if_pos (by simp; omega)]
   obtain ⟨q, hq, g⟩ := hsvI (subRd (o := 4 * t) (n := 4) (m := bc) (rd _ hs.drop) (by omega) (by omega)) (x := j) (by omega)
   rw [← hpc] at g
   refine ⟨q, hq, by omega, by omega, _, g, by omega, by omega, ?_⟩
   have gw := hs.ld (i := 0) (b := wn) .z (intsG (k := .u32) (l := (wM bs t).set t (accM pc j)) (i := t) (by simp [hlen]; omega))
   rw [setD, if_pos ⟨rfl, by omega⟩] at gw
   refine ⟨_, gw, by decide, by omega, by omega, ?_⟩
   refine ⟨Sat.can hs (i := 0) .z (by simp [hlen]; omega), ?_⟩
   intro h3 e
   replace hs := Sat.wr hs (i := 0) .z e
   clear e
   rw [intsP, List.set_set] at hs
   rw [wrap_succ (by omega)]
   exact hk2 _ hs
  ·intro h2 hs
   apply hJ13
   rw [ltI_eq, if_neg (by decide), wrap_succ (by omega)]
   refine hk _ ?_
   show Sat h0 (blk wn (ints .u32 ((wM bs t).set t _)) :: A) h2
   rw [if_pos ht, ← hpc]
   exact hs
 ·intro h1 hs
  apply hJ10
  rw [ltI_eq, if_neg (by decide)]
  clear hJ10 J10
  intro J23 hJ23
  refine loop_up 64 (fun t h => 16 ≤ t ∧ Sat h0 (blk wn (ints .u32 (wM bs t)) :: A) h) ?_ ?_ 16 _ (by omega) ⟨by omega, hs⟩
  ·rintro t h2 ht ⟨ht2, hs⟩ hk
   apply hJ23
   rw [ltI_eq, if_pos (by simp; omega)]
   have hlen := wM_len bs t
   have e15 : IntKind.i64.wrap ((t : Int) - 15) = ((t - 15 : Nat) : Int) := by rw [wrap_id (by omega)]; omega
   have e2 : IntKind.i64.wrap ((t : Int) - 2) = ((t - 2 : Nat) : Int) := by rw [wrap_id (by omega)]; omega
   have e16 : IntKind.i64.wrap ((t : Int) - 16) = ((t - 16 : Nat) : Int) := by rw [wrap_id (by omega)]; omega
   have e7 : IntKind.i64.wrap ((t : Int) - 7) = ((t - 7 : Nat) : Int) := by rw [wrap_id (by omega)]; omega
   rw [e15, e2, e16, e7]
   simp only [Int.toNat_natCast, Nat.mul_one]
   have g := fun (x : Nat) (hx : x < 64) => hs.ld (i := 0) (b := wn) .z (intsG (k := .u32) (l := wM bs t) (i := x) (by omega))
   refine ⟨by omega, by omega, _, g _ (by omega), by omega, by omega, _, g _ (by omega), by omega, by omega, _, g _ (by omega), by decide, by omega, by omega, _, g _ (by omega), by decide, ?_⟩
   refine turn2_sp _ 7 rfl (by decide +kernel) (by decide) (by decide) ?_
   refine ⟨hcs_one (g _ (by omega)), hcs_one (g _ (by omega)), ?_⟩
   refine turn2_sp _ 18 rfl (by decide +kernel) (by decide) (by decide) ?_
   refine ⟨hcs_one (g _ (by omega)), hcs_one (g _ (by omega)), ?_⟩
   refine turn2_sp _ 17 rfl (by decide +kernel) (by decide) (by decide) ?_
   refine ⟨hcs_one (g _ (by omega)), hcs_one (g _ (by omega)), ?_⟩
   refine turn2_sp _ 19 rfl (by decide +kernel) (by decide) (by decide) ?_
   refine ⟨hcs_one (g _ (by omega)), hcs_one (g _ (by omega)), by omega, by omega, ?_⟩
   refine ⟨Sat.can hs (i := 0) .z (by simp [hlen]; omega), ?_⟩
   intro h3 e
   replace hs := Sat.wr hs (i := 0) .z e
   clear e
   rw [intsP] at hs
   rw [wrap_succ (by omega)]
   refine hk _ ⟨by omega, ?_⟩
   show Sat h0 (blk wn (ints .u32 ((wM bs t).set t _)) :: A) h3
   rw [if_neg (by omega)]
   exact hs
  ·rintro h2 ⟨_, hs⟩
   apply hJ23
   rw [ltI_eq, if_neg (by decide)]
   clear hJ23 J23
   refine ⟨s, l1, hs.row (i := i + 1) (.s cd) (fun x hx => by rw [Nat.zero_add, dg_s l1 (by omega), List.getElem?_eq_getElem hx]; simp [List.getD, List.getElem?_eq_getElem hx]), ?_⟩
   intro sn _ hn; replace hs := Sat.new hs hn; clear hn
   refine ⟨Sat.can hs (i := 0) .z (by simp [l1, zeros]), ?_⟩
   intro h3 e
   replace hs := Sat.wra hs (i := 0) .z e (by simp [l1, zeros])
   clear e
   simp only [put_zero] at hs
   obtain ⟨w, hw⟩ : ∃ w, w = wM bs 64 := ⟨_, rfl⟩
   have hwl : w.length = 64 := by rw [hw]; exact wM_len _ _
   rw [← hw] at hs
   intro J46 hJ46
   refine loop_up 64 (fun t h => Sat h0 (blk sn (ints .u32 (rM w s t)) :: blk wn (ints .u32 w) :: A) h) ?_ ?_ 0 _ (by omega) hs
   ·intro t h4 ht hs hk
    apply hJ46
    rw [ltI_eq, if_pos (by simp; omega)]
    obtain ⟨a, b, c, dd, e, f, g, hh, hr⟩ := len8 (rM_len w s l1 t)
    rw [hr] at hs
    simp only [Int.toNat_natCast, Nat.mul_one]
    have gk : hc h4 ⟨d, 73 + t, none⟩ = some (.int .u32 (kM.getD t 0)) := hs.ld (i := i + 2) (.s (.s cd)) (dg_k l1 l2 ht)
    have gw : hc h4 ⟨wn, t, none⟩ = some (.int .u32 (w.getD t 0)) := hs.ld (i := 1) (.s .z) (intsG (by omega))
    have g0 : hc h4 ⟨sn, 0, none⟩ = some (.int .u32 a) := hs.ld (i := 0) .z rfl
    have g1 : hc h4 ⟨sn, 1, none⟩ = some (.int .u32 b) := hs.ld (i := 0) .z rfl
    have g2 : hc h4 ⟨sn, 2, none⟩ = some (.int .u32 c) := hs.ld (i := 0) .z rfl
    have g3 : hc h4 ⟨sn, 3, none⟩ = some (.int .u32 dd) := hs.ld (i := 0) .z rfl
    have g4 : hc h4 ⟨sn, 4, none⟩ = some (.int .u32 e) := hs.ld (i := 0) .z rfl
    have g5 : hc h4 ⟨sn, 5, none⟩ = some (.int .u32 f) := hs.ld (i := 0) .z rfl
    have g6 : hc h4 ⟨sn, 6, none⟩ = some (.int .u32 g) := hs.ld (i := 0) .z rfl
    have g7 : hc h4 ⟨sn, 7, none⟩ = some (.int .u32 hh) := hs.ld (i := 0) .z rfl
    refine ⟨by decide, by decide, _, g7, by decide, by decide, _, g4, by decide, by decide, _, g4, by decide, by decide, _, g4, by decide, by decide, _, g4, by decide, by decide, _, g5, by decide, by decide, _, g4, by decide, by decide, _, g6, by omega, by omega, _, gk, by omega, by omega, _, gw, ?_⟩
    refine turn2_sp _ 6 rfl (by decide +kernel) (by decide) (by decide) ?_
    refine ⟨hcs_one gw, hcs_one gk, hcs_one g6, hcs_one g4, hcs_one g5, hcs_one g4, hcs_one g4, hcs_one g4, hcs_one g7, ?_⟩
    refine turn2_sp _ 11 rfl (by decide +kernel) (by decide) (by decide) ?_
    refine ⟨hcs_one gw, hcs_one gk, hcs_one g6, hcs_one g4, hcs_one g5, hcs_one g4, hcs_one g4, hcs_one g7, ?_⟩
    refine turn2_sp _ 25 rfl (by decide +kernel) (by decide) (by decide) ?_
    refine ⟨hcs_one gw, hcs_one gk, hcs_one g6, hcs_one g4, hcs_one g5, hcs_one g4, hcs_one g7, ?_⟩
    refine ⟨by decide, by decide, _, g0, by decide, by decide, _, g0, by decide, by decide, _, g0, by decide, by decide, _, g0, by decide, by decide, _, g1, by decide, by decide, _, g0, by decide, by decide, _, g2, by decide, by decide, _, g1, by decide, by decide, _, g2, ?_⟩
    refine turn2_sp _ 2 rfl (by decide +kernel) (by decide) (by decide) ?_
    refine ⟨hcs_one g2, hcs_one g1, hcs_one g2, hcs_one g0, hcs_one g1, hcs_one g0, hcs_one g0, hcs_one g0, ?_⟩
    refine turn2_sp _ 13 rfl (by decide +kernel) (by decide) (by decide) ?_
    refine ⟨hcs_one g2, hcs_one g1, hcs_one g2, hcs_one g0, hcs_one g1, hcs_one g0, hcs_one g0, ?_⟩
    refine turn2_sp _ 22 rfl (by decide +kernel) (by decide) (by decide) ?_
    refine ⟨hcs_one g2, hcs_one g1, hcs_one g2, hcs_one g0, hcs_one g1, hcs_one g0, ?_⟩
    refine ⟨by decide, by decide, _, g0, by decide, by decide, _, g1, by decide, by decide, _, g2, by decide, by decide, _, g3, by decide, by decide, _, g4, by decide, by decide, _, g5, by decide, by decide, _, g6, ?_⟩
    refine ⟨Sat.can hs (i := 0) .z (by simp), ?_⟩
    intro h5 e5
    replace hs := Sat.wra hs (i := 0) .z e5 rfl
    clear e5
    simp only [put_zero] at hs
    rw [wrap_succ (by omega)]
    refine hk _ ?_
    show Sat h0 (blk sn (ints .u32 (shStepM (rM w s t) _ _)) :: blk wn (ints .u32 w) :: A) h5
    rw [hr]
    exact hs
   ·intro h4 hs
    apply hJ46
    rw [ltI_eq, if_neg (by decide)]
    clear hJ46 J46
    obtain ⟨r, hr⟩ : ∃ r, r = rM w s 64 := ⟨_, rfl⟩
    have hrl : r.length = 8 := by rw [hr]; exact rM_len _ _ l1 _
    rw [← hr] at hs
    intro J89 hJ89
    refine loop_up 8 (fun x h => Sat h0 (blk sn (ints .u32 r) :: blk wn (ints .u32 w) :: put A i (blk d (dgL (aM s r x) sm n))) h) ?_ ?_ 0 _ (by omega) (by
     have : put A i (blk d (dgL (aM s r 0) sm n)) = A := cd.put_self
     rw [this]; exact hs)
    ·intro x h5 hx hs hk
     apply hJ89
     rw [ltI_eq, if_pos (by simp; omega)]
     have cd2 := cd.put (blk d (dgL (aM s r x) sm n))
     have hal := aM_len s r l1 x
     simp only [Int.toNat_natCast, Nat.mul_one]
     refine ⟨by omega, by omega, _, hs.ld (i := i + 2) (.s (.s cd2)) (dg_s hal hx), by omega, by omega, _, hs.ld (i := 0) .z (intsG (by omega)), by omega, by omega, ?_⟩
     refine ⟨Sat.can hs (i := i + 2) (.s (.s cd2)) (by rw [dg_len hal l2]; omega), ?_⟩
     intro h6 e
     replace hs := Sat.wr hs (i := i + 2) (.s (.s cd2)) e
     clear e
     rw [dg_ps hal hx] at hs
     simp only [put_succ, put_put] at hs
     rw [wrap_succ (by omega)]
     exact hk _ hs
    ·intro h5 hs
     apply hJ89
     rw [ltI_eq, if_neg (by decide)]
     refine k _ ?_
     unfold pieceM
     rw [← hw, ← hr]
     exact hs.drop.drop
end
end Go.Proofs.YtaglicdidpgkpaaGreatDoor
end

/- SHA-256 in the program: bytes are written. Own work. -/
section
set_option maxRecDepth 100000
set_option linter.unusedVariables false
namespace Go.Proofs.YtaglicdidpgkpaaGreatDoor
open Go Go.Vc

def blkM (ms : List Int) (i : Nat) : List Int := (ms.drop (64 * i)).take 64
def stM (ms : List Int) : Nat → List Int
 | 0 => sM
 | k + 1 => pieceM (stM ms k) (blkM ms k)
theorem stM_len (ms : List Int) (k : Nat) : (stM ms k).length = 8 := by
 induction k with
 | zero => rfl
 | succ k ih => exact pieceM_len ih
theorem blkM_app {ms xs : List Int} {i : Nat} (h : 64 * (i + 1) ≤ ms.length) : blkM (ms ++ xs) i = blkM ms i := by
 unfold blkM
 rw [List.drop_append_of_le_length (by omega), List.take_append_of_le_length (by rw [List.length_drop]; omega)]
theorem stM_app {ms xs : List Int} : ∀ {k : Nat}, 64 * k ≤ ms.length → stM (ms ++ xs) k = stM ms k
 | 0, _ => rfl
 | k + 1, h => by
  show pieceM (stM (ms ++ xs) k) (blkM (ms ++ xs) k) = pieceM (stM ms k) (blkM ms k)
  rw [stM_app (k := k) (by omega), blkM_app h]
structure DgOk (ms s sm : List Int) (n : Int) : Prop where
 s : s = stM ms (ms.length / 64)
 n : n = (ms.length : Int)
 l : sm.length = 64
 m : sm.take (ms.length % 64) = ms.drop (64 * (ms.length / 64))
theorem DgOk.sl {ms s sm : List Int} {n : Int} (D : DgOk ms s sm n) : s.length = 8 := by rw [D.s]; exact stM_len _ _
section
variable {s sm : List Int} {n : Int}
theorem dg_pm (h1 : s.length = 8) (h2 : sm.length = 64) {o : Nat} {xs : List Int} (hx : o + xs.length ≤ 64) : splice (dgL s sm n) (8 + o) (ints .u8 xs) = dgL s (sm.take o ++ xs ++ sm.drop (o + xs.length)) n := by
 have hl2 : (sm.take o ++ xs ++ sm.drop (o + xs.length)).length = 64 := by simp [h2]; omega
 apply List.ext_getElem?
 intro j
 rw [splice_get, ints_length, dg_len h1 h2]
 by_cases c1 : j < 8
 ·rw [if_neg (by omega), dg_s h1 c1, dg_s h1 c1]
 by_cases c2 : j < 72
 ·obtain ⟨y, rfl⟩ : ∃ y, j = 8 + y := ⟨j - 8, by omega⟩
  rw [dg_m h1 h2 (by omega), dg_m h1 hl2 (by omega)]
  by_cases c3 : o ≤ y ∧ y < o + xs.length
  ·rw [if_pos (by omega), show 8 + y - (8 + o) = y - o by omega, intsG (by omega)]
   congr 2
   rw [List.getD_eq_getElem?_getD, List.getD_eq_getElem?_getD, List.getElem?_append_left (by simp [h2]; omega), List.getElem?_append_right (by simp [h2]; omega)]
   congr 2
   simp [h2]; omega
  ·rw [if_neg (by omega)]
   congr 2
   rw [List.getD_eq_getElem?_getD, List.getD_eq_getElem?_getD]
   by_cases c4 : y < o
   ·rw [List.append_assoc, List.getElem?_append_left (by simp [h2]; omega), List.getElem?_take_of_lt c4]
   ·rw [List.getElem?_append_right (by simp [h2]; omega), List.getElem?_drop]
    congr 2
    simp [h2]; omega
 by_cases c3 : j = 72
 ·subst c3
  rw [if_neg (by omega), dg_n h1 h2, dg_n h1 hl2]
 by_cases c4 : j < 137
 ·obtain ⟨y, rfl⟩ : ∃ y, j = 73 + y := ⟨j - 73, by omega⟩
  rw [if_neg (by omega), dg_k h1 h2 (by omega), dg_k h1 hl2 (by omega)]
 ·rw [if_neg (by omega), List.getElem?_eq_none (by rw [dg_len h1 h2]; omega), List.getElem?_eq_none (by rw [dg_len h1 hl2]; omega)]
end
section
variable {h0 h : H} {A : List Ent} {i d : Nat}
theorem dg_sv {s sm : List Int} {n : Int} (hs : Sat h0 A h) (cd : At A i (blk d (dgL s sm n))) (h1 : s.length = 8) (h2 : sm.length = 64) : hsv h (some ⟨d, 8, none⟩) 1 64 (ints .u8 sm) := by
 refine ⟨by simp [h2], ints_one _ _, Or.inr ⟨_, rfl, ?_⟩⟩
 refine hs.cs1 cd ?_
 intro x hx
 rw [ints_length, h2] at hx
 rw [dg_m h1 h2 hx, intsG (by omega)]
theorem wloop_sp {Q : H → Prop} {T sm : List Int} {N : Int} {j : Nat} {o : Option Addr} {l c : Nat} (hs : Sat h0 (put A i (blk d (dgL (stM T j) sm N))) h) (cd0 : ∃ e, At A i e) (hN : N = (T.length : Int)) (hl : 64 * j + l = T.length) (hc : l ≤ c) (h2 : sm.length = 64)
  (rd : ∀ s' sm' h', Sat h0 (put A i (blk d (dgL s' sm' N))) h' → hsv h' o 1 l (ints .u8 (T.drop (64 * j))))
  (k : ∀ s' sm' h', DgOk T s' sm' N → Sat h0 (put A i (blk d (dgL s' sm' N))) h' → Q h') :
  ∀ (J16 : List SV → H → Prop), (∀ (o17 : Option Addr) (n18 n19 : Nat) (h20 : H), (if leI 64 (n18 : Int) = true then (0 : Int) ≤ 64 ∧ 64 ≤ (n19 : Int) ∧ F_sha_Digest_take ⟨d, 0, none⟩ (subAddr o17 0 n19 1) 64 (n19 - 0)
   (fun h21 => (0 : Int) ≤ 64 ∧ 64 ≤ (n18 : Int) ∧ J16 [.dv (.one (.slice (subAddr o17 64 n19 1) (n18 - 64) (n19 - 64)))] h21) h20
   else ∃ l22 : List Value, hsv h20 o17 1 (n18.min 64) l22 ∧ (l22 = [] ∨ ∃ p23 : Addr, subAddr (some ⟨d, 8, none⟩) 0 64 1 = some p23 ∧ hcan h20 p23 (n18.min 64 * 1)) ∧ ∀ h24 : H, h24 = hwrO h20 (subAddr (some ⟨d, 8, none⟩) 0 64 1) l22 → Q h24) → J16 [.dv (.one (.slice o17 n18 n19))] h20) → J16 [.dv (.one (.slice o l c))] h := by
 intro J hJ
 obtain ⟨e0, cd0⟩ := cd0
 induction hn : l / 64 generalizing j o l c h sm with
 | zero =>
  apply hJ
  have hl64 : l < 64 := by omega
  rw [leI_eq, if_neg (by rw [decide_eq_true_iff]; omega)]
  have cd := cd0.put (blk d (dgL (stM T j) sm N))
  have hsl := stM_len T j
  have R := rd _ _ _ hs
  have hmin : l.min 64 = l := Nat.min_eq_left (by omega)
  rw [hmin]
  have sub0 : subAddr (some ⟨d, 8, none⟩) 0 64 1 = some ⟨d, 8, none⟩ := by unfold subAddr; simp
  rw [sub0]
  have hxl : (T.drop (64 * j)).length = l := by rw [List.length_drop]; omega
  refine ⟨_, R, Or.inr ⟨_, rfl, Sat.can hs cd (by rw [dg_len hsl h2]; omega)⟩, ?_⟩
  intro h1 e
  replace hs := Sat.wr hs cd e
  clear e
  have sp := dg_pm (n := N) (o := 0) (xs := T.drop (64 * j)) hsl h2 (by omega)
  rw [show 8 + 0 = 8 from rfl] at sp
  rw [sp] at hs
  simp only [put_put, List.take_zero, List.nil_append, Nat.zero_add] at hs
  refine k _ _ _ ⟨?_, hN, by simp [h2]; omega, ?_⟩ hs
  ·rw [show T.length / 64 = j by omega]
  ·rw [show T.length % 64 = l by omega, show T.length / 64 = j by omega, List.take_append_of_le_length (by omega), List.take_of_length_le (by omega)]
 | succ m ih =>
  apply hJ
  rw [leI_eq, if_pos (by rw [decide_eq_true_iff]; omega)]
  refine ⟨by decide, by omega, ?_⟩
  have cd := cd0.put (blk d (dgL (stM T j) sm N))
  have hsl := stM_len T j
  refine take_sp (bs := blkM T j) hs cd hsl h2 (by omega) ?_ ?_
  ·intro h' hs'
   have := subRd (o := 0) (n := 64) (m := c) (rd _ _ _ hs') (by omega) (by omega)
   rw [List.drop_zero] at this
   exact this
  ·intro h1 hs
   rw [put_put] at hs
   refine ⟨by decide, by omega, ?_⟩
   refine ih (j := j + 1) (l := l - 64) hs (by omega) (by omega) h2 ?_ (by omega)
   intro s' sm' h' hs'
   have := subRd (o := 64) (n := l - 64) (m := c) (rd _ _ _ hs') (by omega) (by omega)
   rw [List.drop_drop, List.take_of_length_le (by rw [List.length_drop]; omega), show 64 * j + 64 = 64 * (j + 1) by omega] at this
   exact this
theorem shWrite_sp {Q : H → Prop} {ms xs s sm : List Int} {n : Int} {bp : Option Addr} {bl bc : Nat} (hs : Sat h0 A h) (cd : At A i (blk d (dgL s sm n))) (D : DgOk ms s sm n) (hml : ms.length + xs.length < 2 ^ 61) (hbc : bl ≤ bc)
  (rd : ∀ s' sm' n' h', Sat h0 (put A i (blk d (dgL s' sm' n'))) h' → hsv h' bp 1 bl (ints .u8 xs))
  (k : ∀ s' sm' n' h', DgOk (ms ++ xs) s' sm' n' → Sat h0 (put A i (blk d (dgL s' sm' n'))) h' → Q h') : F_sha_Digest_Write ⟨d, 0, none⟩ bp bl bc Q h := by
 unfold F_sha_Digest_Write G_sha_Digest_Write
 try simp only [add_mk, Nat.zero_add, List.append_nil]
 have l1 := D.sl
 have l2 := D.l
 have hn := D.n
 have hxl : xs.length = bl := by
  have := (rd s sm n h (by rw [cd.put_self]; exact hs)).1
  simpa using this
 refine ⟨_, hs.ld cd (dg_n l1 l2), by decide, _, hs.ld cd (dg_n l1 l2), ?_⟩
 refine ⟨Sat.can hs cd (by rw [dg_len l1 l2]; omega), ?_⟩
 intro h1 e
 replace hs := Sat.wr hs cd e
 clear e
 rw [dg_pn l1 l2] at hs
 have eN : IntKind.u64.wrap (n + IntKind.u64.wrap (bl : Int)) = ((ms ++ xs).length : Int) := by
  rw [wrapU64, wrapU64, List.length_append, hn]; push_cast; omega
 rw [eN] at hs
 obtain ⟨hv, hhv⟩ : ∃ hv, hv = ms.length % 64 := ⟨_, rfl⟩
 have eH : IntKind.i64.wrap (n.tmod 64) = (hv : Int) := by
  have : n.tmod 64 = (hv : Int) := by
   rw [hn, hhv, Int.tmod_eq_emod_of_nonneg (by omega)]; omega
  rw [this, wrap_id (by omega)]
 rw [eH]
 obtain ⟨T, hT⟩ : ∃ T, T = ms ++ xs := ⟨_, rfl⟩
 have hTl : T.length = ms.length + bl := by rw [hT, List.length_append, hxl]
 rw [← hT] at hs k
 have hmod := Nat.div_add_mod ms.length 64
 have est : s = stM T (ms.length / 64) := by rw [hT, stM_app (by omega)]; exact D.s
 have hdm : ms.drop (64 * (ms.length / 64)) = sm.take hv := by rw [hhv]; exact D.m.symm
 by_cases g : 0 < hv
 ·rw [ltI_eq, if_pos (by simp; exact g)]
  refine ⟨by omega, by omega, ?_⟩
  simp only [Int.toNat_natCast]
  obtain ⟨m, hm⟩ : ∃ m, m = bl.min (64 - hv) := ⟨_, rfl⟩
  have hm1 : m ≤ bl := by rw [hm]; exact Nat.min_le_left _ _
  have hm2 : m ≤ 64 - hv := by rw [hm]; exact Nat.min_le_right _ _
  have hm3 : m = bl ∨ m = 64 - hv := by rw [hm]; rcases Nat.le_total bl (64 - hv) with z | z; exact Or.inl (Nat.min_eq_left z); exact Or.inr (Nat.min_eq_right z)
  rw [← hm]
  have cd1 := cd.put (blk d (dgL s sm (T.length : Int)))
  have sub1 : subAddr (some ⟨d, 8, none⟩) hv 64 1 = some ⟨d, 8 + hv, none⟩ := by
   unfold subAddr
   rw [if_neg (by omega)]; simp
  rw [sub1]
  have R := rd _ _ _ _ hs
  have R2 := subRd (o := 0) (n := m) (m := m + 1) R (by omega) (by omega)
  have sub0 : subAddr bp 0 (m + 1) 1 = bp := by
   unfold subAddr
   rw [if_neg (by omega)]
   cases bp with
   | none => rfl
   | some q => simp [add_zero]
  rw [sub0, List.drop_zero] at R2
  have hxt : (xs.take m).length = m := by rw [List.length_take]; omega
  refine ⟨_, R2, Or.inr ⟨_, rfl, Sat.can hs cd1 (by rw [dg_len l1 l2]; omega)⟩, ?_⟩
  intro h2 e
  replace hs := Sat.wr hs cd1 e
  clear e
  rw [dg_pm l1 l2 (by omega)] at hs
  rw [put_put, hxt] at hs
  refine ⟨by omega, by omega, ?_⟩
  rw [wrap_id (n := (hv : Int) + (m : Int)) (by omega), ltI_eq]
  obtain ⟨sm1, hsm1⟩ : ∃ sm1, sm1 = sm.take hv ++ xs.take m ++ sm.drop (hv + m) := ⟨_, rfl⟩
  rw [← hsm1] at hs
  have hl1 : sm1.length = 64 := by rw [hsm1]; simp [l2]; omega
  have hst : (sm.take hv).length = hv := by rw [List.length_take]; omega
  by_cases gs : hv + m < 64
  ·rw [if_pos (by rw [decide_eq_true_iff]; omega)]
   have hmb : m = bl := by omega
   refine k _ _ _ _ ⟨?_, rfl, hl1, ?_⟩ hs
   ·rw [est, show T.length / 64 = ms.length / 64 by omega]
   ·rw [show T.length % 64 = hv + m by omega, show T.length / 64 = ms.length / 64 by omega, hsm1, List.take_append_of_le_length (by simp [l2]; omega), List.take_of_length_le (by simp [l2]; omega)]
    rw [hT, List.drop_append_of_le_length (by omega), hdm, List.take_of_length_le (l := xs) (i := m) (by omega)]
  ·rw [if_neg (by rw [decide_eq_true_iff]; omega)]
   have hm64 : hv + m = 64 := by omega
   have cd2 := cd.put (blk d (dgL s sm1 (T.length : Int)))
   have sub8 : subAddr (some ⟨d, 8, none⟩) 0 64 1 = some ⟨d, 8, none⟩ := by unfold subAddr; simp
   rw [sub8]
   refine take_sp (bs := sm1) hs cd2 l1 hl1 (by omega) (fun h' hs' => dg_sv hs' cd2 l1 hl1) ?_
   intro h3 hs
   rw [put_put] at hs
   have hb : sm1 = blkM T (ms.length / 64) := by
    unfold blkM
    rw [hT, List.drop_append_of_le_length (by omega), hdm, hsm1, List.drop_of_length_le (by omega), List.append_nil, List.take_append, List.take_of_length_le (l := sm.take hv) (i := 64) (by omega), hst, show 64 - hv = m by omega]
   rw [est, show pieceM (stM T (ms.length / 64)) sm1 = stM T (ms.length / 64 + 1) by rw [hb]; rfl] at hs
   refine wloop_sp (T := T) (j := ms.length / 64 + 1) (l := bl - m) (c := bc - m) hs ⟨_, cd⟩ rfl (by omega) (by omega) hl1 ?_ (fun s' sm' h' D' hs' => k s' sm' _ h' D' hs')
   intro s' sm' h' hs'
   have := subRd (o := m) (n := bl - m) (m := bc) (rd _ _ _ _ hs') (by omega) (by omega)
   rw [List.take_of_length_le (by rw [List.length_drop]; omega)] at this
   have hd : T.drop (64 * (ms.length / 64 + 1)) = xs.drop m := by
    rw [hT, List.drop_append, List.drop_of_length_le (by omega), List.nil_append, show 64 * (ms.length / 64 + 1) - ms.length = m by omega]
   rw [hd]
   exact this
 ·rw [ltI_eq, if_neg (by simp; omega)]
  have hv0 : hv = 0 := by omega
  rw [est] at hs
  refine wloop_sp (T := T) (j := ms.length / 64) (l := bl) (c := bc) hs ⟨_, cd⟩ rfl (by omega) hbc l2 ?_ (fun s' sm' h' D' hs' => k s' sm' _ h' D' hs')
  intro s' sm' h' hs'
  have hd : T.drop (64 * (ms.length / 64)) = xs := by
   rw [hT, List.drop_append, List.drop_of_length_le (by omega), List.nil_append, show 64 * (ms.length / 64) - ms.length = 0 by omega, List.drop_zero]
  rw [hd]
  exact rd _ _ _ _ hs'
end
end Go.Proofs.YtaglicdidpgkpaaGreatDoor
end

/- SHA-256 in the program: the hash. Own work. -/
section
set_option maxRecDepth 100000
set_option linter.unusedVariables false
namespace Go.Proofs.YtaglicdidpgkpaaGreatDoor
open Go Go.Vc

def zM (n : Nat) : Nat := (119 - n % 64) % 64
def lenB (n i : Nat) : Int := IntKind.u8.wrap ((IntKind.u64.wrap (8 * (n : Int))).fdiv (2 ^ min (56 - 8 * i) 64))
def endM (n : Nat) : Nat → List Int
 | 0 => (zeros 73).set 0 128
 | i + 1 => (endM n i).set (1 + zM n + i) (lenB n i)
def tailM (n : Nat) : List Int := (endM n 8).take (9 + zM n)
def outB (s : List Int) (t : Nat) : Int := IntKind.u8.wrap ((s.getD (t / 4) 0).fdiv (2 ^ min (24 - 8 * (t % 4)) 32))
def oM (s : List Int) : Nat → List Int
 | 0 => zeros 32
 | t + 1 => (oM s t).set t (outB s t)
def fullM (ms : List Int) : List Int := ms ++ tailM ms.length
def shaM (ms : List Int) : List Int := oM (stM (fullM ms) ((fullM ms).length / 64)) 32
theorem endM_len (n i : Nat) : (endM n i).length = 73 := by
 induction i with
 | zero => simp [endM, zeros]
 | succ i ih => simp [endM, ih]
theorem oM_len (s : List Int) (t : Nat) : (oM s t).length = 32 := by
 induction t with
 | zero => simp [oM, zeros]
 | succ t ih => simp [oM, ih]
theorem shaM_len (ms : List Int) : (shaM ms).length = 32 := oM_len _ _
theorem zM_lt (n : Nat) : zM n < 64 := Nat.mod_lt _ (by decide)
theorem tailM_len (n : Nat) : (tailM n).length = 9 + zM n := by
 have := zM_lt n
 unfold tailM
 rw [List.length_take, endM_len]; omega
theorem dg_new : DgOk [] sM (zeros 64) 0 := ⟨rfl, rfl, by simp [zeros], rfl⟩
section
variable {h0 h : H} {A : List Ent} {i d : Nat}
theorem blk_sv {b : Nat} {k : IntKind} {ms : List Int} (hs : Sat h0 A h) (m : At A i (blk b (ints k ms))) {n : Nat} (hn : n ≤ ms.length) : hsv h (some ⟨b, 0, none⟩) 1 n (ints k (ms.take n)) := by
 refine ⟨by rw [ints_length, List.length_take]; omega, ints_one _ _, Or.inr ⟨_, rfl, ?_⟩⟩
 refine hs.cs1 m ?_
 intro x hx
 rw [ints_length, List.length_take] at hx
 rw [Nat.zero_add, ints_get, ints_get, List.getElem?_take_of_lt (by omega)]
theorem getM {l : List Int} {k : IntKind} {x : Nat} (hx : x < l.length) : l[x]?.map (Value.int k) = some (.int k (l.getD x 0)) := by
 rw [List.getElem?_eq_getElem hx]; simp [List.getD, List.getElem?_eq_getElem hx]
theorem start_sp {Q : List Int → H → Prop} (hs : Sat h0 A h) (k : ∀ h', Sat h0 A h' → Q sM h') : F_sha_start Q h := by
 unfold F_sha_start G_sha_start
 intro b _ hn; replace hs := Sat.new hs hn; clear hn
 refine ⟨Sat.can hs (i := 0) .z (by simp [zeros]), ?_⟩
 intro h2 e
 replace hs := Sat.wra hs (i := 0) .z e (by simp [zeros])
 clear e
 simp only [put_zero] at hs
 exact ⟨sM, rfl, hs.row0 .z, k _ hs.drop⟩
theorem rounds_sp {Q : List Int → H → Prop} (hs : Sat h0 A h) (k : ∀ h', Sat h0 A h' → Q kM h') : F_sha_rounds Q h := by
 unfold F_sha_rounds G_sha_rounds
 intro b _ hn; replace hs := Sat.new hs hn; clear hn
 refine ⟨Sat.can hs (i := 0) .z (by simp [zeros]), ?_⟩
 intro h2 e
 replace hs := Sat.wra hs (i := 0) .z e (by simp [zeros])
 clear e
 simp only [put_zero] at hs
 exact ⟨kM, rfl, hs.row0 .z, k _ hs.drop⟩
theorem NewD_sp {Q : Option Addr → H → Prop} (hs : Sat h0 A h) (k : ∀ d h', Sat h0 (blk d (dgL sM (zeros 64) 0) :: A) h' → Q (some ⟨d, 0, none⟩) h') : F_sha_New Q h := by
 unfold F_sha_New G_sha_New
 refine start_sp hs ?_
 intro h1 hs
 refine rounds_sp hs ?_
 intro h2 hs
 intro d _ hn; replace hs := Sat.new hs hn; clear hn
 exact k _ _ hs
theorem shCopy_sp {Q : Option Addr → H → Prop} {s sm : List Int} {n : Int} (hs : Sat h0 A h) (cd : At A i (blk d (dgL s sm n))) (l1 : s.length = 8) (l2 : sm.length = 64)
  (k : ∀ c h', Sat h0 (blk c (dgL s sm n) :: A) h' → Q (some ⟨c, 0, none⟩) h') : F_sha_Digest_Copy ⟨d, 0, none⟩ Q h := by
 unfold F_sha_Digest_Copy G_sha_Digest_Copy
 try simp only [add_mk, Nat.zero_add]
 refine ⟨s, l1, hs.row cd (fun x hx => by rw [Nat.zero_add, dg_s l1 (by omega), getM hx]), sm, l2, hs.row cd (fun x hx => by rw [dg_m l1 l2 (by omega), getM hx]), n, hs.ld cd (dg_n l1 l2), kM, kM_len, hs.row cd (fun x hx => by rw [dg_k l1 l2 (by rw [kM_len] at hx; exact hx), getM hx]), ?_⟩
 intro c _ hn; replace hs := Sat.new hs hn; clear hn
 refine ⟨Sat.can hs (i := 0) .z (by simp [zeros, l1, l2, kM_len]), ?_⟩
 intro h2 e
 replace hs := Sat.wra hs (i := 0) .z e (by simp [zeros, l1, l2, kM_len])
 clear e
 simp only [put_zero] at hs
 exact k _ _ hs
theorem Sum_sp {Q : List Int → H → Prop} {ms s sm : List Int} {n : Int} (hs : Sat h0 A h) (cd : At A i (blk d (dgL s sm n))) (D : DgOk ms s sm n) (hml : ms.length < 2 ^ 60) (k : ∀ h', Sat h0 A h' → Q (shaM ms) h') : F_sha_Digest_Sum ⟨d, 0, none⟩ Q h := by
 unfold F_sha_Digest_Sum G_sha_Digest_Sum
 try simp only [add_mk, Nat.zero_add, List.append_nil]
 have l1 := D.sl
 have l2 := D.l
 have hn := D.n
 have hz := zM_lt ms.length
 intro ob _ hn5; replace hs := Sat.new hs hn5; clear hn5
 refine shCopy_sp hs cd.s l1 l2 ?_
 intro c h1 hs
 intro eb _ hn10; replace hs := Sat.new hs hn10; clear hn10
 refine ⟨by decide, by decide, ?_⟩
 refine ⟨Sat.can hs (i := 0) .z (by simp [zeros]), ?_⟩
 intro h2 e
 replace hs := Sat.wr hs (i := 0) .z e
 clear e
 rw [intsP] at hs
 simp only [put_zero] at hs
 replace hs : Sat h0 (blk eb (ints .u8 (endM ms.length 0)) :: blk c (dgL s sm n) :: blk ob (ints .u8 (zeros 32)) :: A) h2 := hs
 refine ⟨_, hs.ld cd.s.s.s (dg_n l1 l2), by decide, by decide, ?_⟩
 have e1 : n.tmod 64 = ((ms.length % 64 : Nat) : Int) := by rw [hn, Int.tmod_eq_emod_of_nonneg (by omega)]; omega
 have e2 : (IntKind.i64.wrap (119 - IntKind.i64.wrap (n.tmod 64))).tmod 64 = (zM ms.length : Int) := by
  rw [e1, wrap_id (n := ((ms.length % 64 : Nat) : Int)) (by omega), wrap_id (by omega)]
  unfold zM
  rw [Int.tmod_eq_emod_of_nonneg (by omega)]; omega
 rw [e2, wrap_id (n := 1 + (zM ms.length : Int)) (by omega)]
 intro J16 hJ16
 refine loop_up 8 (fun t h => Sat h0 (blk eb (ints .u8 (endM ms.length t)) :: blk c (dgL s sm n) :: blk ob (ints .u8 (zeros 32)) :: A) h) ?_ ?_ 0 _ (by omega) hs
 ·intro t h3 ht hs hk
  apply hJ16
  rw [ltI_eq, if_pos (by simp; omega)]
  have hel := endM_len ms.length t
  have e3 : IntKind.i64.wrap (56 - IntKind.i64.wrap (8 * (t : Int))) = ((56 - 8 * t : Nat) : Int) := by rw [wrap_id (n := 8 * (t : Int)) (by omega), wrap_id (by omega)]; omega
  have e4 : IntKind.i64.wrap (1 + (zM ms.length : Int) + (t : Int)) = ((1 + zM ms.length + t : Nat) : Int) := by rw [wrap_id (by omega)]; push_cast; rfl
  rw [e3, e4]
  simp only [Int.toNat_natCast, Nat.mul_one]
  refine ⟨_, hs.ld cd.s.s.s (dg_n l1 l2), by omega, by omega, by omega, ?_⟩
  refine ⟨Sat.can hs (i := 0) .z (by simp [hel]; omega), ?_⟩
  intro h4 e
  replace hs := Sat.wr hs (i := 0) .z e
  clear e
  rw [intsP] at hs
  simp only [put_zero] at hs
  rw [wrap_succ (by omega)]
  refine hk _ ?_
  rw [hn] at hs ⊢
  exact hs
 ·intro h3 hs
  apply hJ16
  rw [ltI_eq, if_neg (by decide)]
  clear hJ16 J16
  have hel := endM_len ms.length 8
  have e4 : IntKind.i64.wrap (1 + (zM ms.length : Int) + 8) = ((9 + zM ms.length : Nat) : Int) := by rw [wrap_id (by omega)]; push_cast; omega
  rw [e4]
  simp only [Int.toNat_natCast, Nat.mul_one]
  have sub0 : subAddr (some ⟨eb, 0, none⟩) 0 73 1 = some ⟨eb, 0, none⟩ := by unfold subAddr; simp
  rw [sub0, Nat.sub_zero]
  refine ⟨by omega, by omega, _, rfl, ?_⟩
  have htl := tailM_len ms.length
  refine shWrite_sp (xs := tailM ms.length) hs (i := 1) (.s .z) D (by omega) (by omega) ?_ ?_
  ·intro s' sm' n' h' hs'
   simp only [put_succ, put_zero] at hs'
   exact blk_sv hs' .z (by omega)
  intro s' sm' n' h4 D' hs
  simp only [put_succ, put_zero] at hs
  intro hb _ hn24; replace hs := Sat.new hs hn24; clear hn24
  refine ⟨_, rfl, s', D'.sl, hs.row (i := 2) (.s (.s .z)) (fun x hx => by rw [Nat.zero_add, dg_s D'.sl (by have := D'.sl; omega), getM hx]), ?_⟩
  have hs8 := D'.sl
  have hst : s' = stM (fullM ms) ((fullM ms).length / 64) := D'.s
  intro J29 hJ29
  refine loop_up 8 (fun t h => Sat h0 (blk hb (ints .u8 (oM s' (4 * t))) :: blk eb (ints .u8 (endM ms.length 8)) :: blk c (dgL s' sm' n') :: blk ob (ints .u8 (zeros 32)) :: A) h) ?_ ?_ 0 _ (by omega) hs
  ·intro t h5 ht hs hk
   apply hJ29
   rw [ltI_eq, if_pos (by simp; omega)]
   refine ⟨by omega, by omega, ?_⟩
   simp only [Int.toNat_natCast]
   intro J32 hJ32
   refine loop_up 4 (fun x h => Sat h0 (blk hb (ints .u8 (oM s' (4 * t + x))) :: blk eb (ints .u8 (endM ms.length 8)) :: blk c (dgL s' sm' n') :: blk ob (ints .u8 (zeros 32)) :: A) h) ?_ ?_ 0 _ (by omega) hs
   ·intro x h6 hx hs hk2
    apply hJ32
    rw [ltI_eq, if_pos (by simp; omega)]
    have hol := oM_len s' (4 * t + x)
    have e5 : IntKind.i64.wrap (24 - IntKind.i64.wrap (8 * (x : Int))) = ((24 - 8 * x : Nat) : Int) := by rw [wrap_id (n := 8 * (x : Int)) (by omega), wrap_id (by omega)]; omega
    have e6 : IntKind.i64.wrap (IntKind.i64.wrap (4 * (t : Int)) + (x : Int)) = ((4 * t + x : Nat) : Int) := by rw [wrap_id (n := 4 * (t : Int)) (by omega), wrap_id (by omega)]; push_cast; rfl
    rw [e5, e6]
    simp only [Int.toNat_natCast, Nat.mul_one]
    refine ⟨by omega, by omega, by omega, ?_⟩
    refine ⟨Sat.can hs (i := 0) .z (by simp [hol]; omega), ?_⟩
    intro h7 e
    replace hs := Sat.wr hs (i := 0) .z e
    clear e
    rw [intsP] at hs
    simp only [put_zero] at hs
    rw [wrap_succ (by omega)]
    refine hk2 _ ?_
    have eo : outB s' (4 * t + x) = IntKind.u8.wrap ((s'.getD t 0).fdiv (2 ^ min (24 - 8 * x) 32)) := by
     unfold outB
     rw [show (4 * t + x) / 4 = t by omega, show (4 * t + x) % 4 = x by omega]
    rw [← eo] at hs
    exact hs
   ·intro h6 hs
    apply hJ32
    rw [ltI_eq, if_neg (by decide), wrap_succ (by omega)]
    exact hk _ hs
  ·intro h5 hs
   apply hJ29
   rw [ltI_eq, if_neg (by decide)]
   refine ⟨_, oM_len _ _, hs.row0 .z, ?_⟩
   refine ⟨Sat.can hs (i := 3) (.s (.s (.s .z))) (by simp [zeros]), ?_⟩
   intro h6 e
   replace hs := Sat.wra hs (i := 3) (.s (.s (.s .z))) e (by simp [zeros, oM_len])
   clear e
   simp only [put_succ, put_zero] at hs
   refine ⟨_, oM_len _ _, hs.row0 (i := 3) (.s (.s (.s .z))), ?_⟩
   rw [hst]
   exact k _ hs.drop.drop.drop.drop
theorem ShaOf_sp {Q : List Int → H → Prop} {bs : List Int} {bp : Option Addr} {bl bc : Nat} (hs : Sat h0 A h) (hbc : bl ≤ bc) (hbl : bl < 2 ^ 60) (rd : ∀ h', Sat h0 A h' → hsv h' bp 1 bl (ints .u8 bs)) (k : ∀ h', Sat h0 A h' → Q (shaM bs) h') : F_sha_Of bp bl bc Q h := by
 unfold F_sha_Of G_sha_Of
 simp only [List.append_nil]
 have hxl : bs.length = bl := by have := (rd _ hs).1; simpa using this
 intro ob _ hn; replace hs := Sat.new hs hn; clear hn
 refine NewD_sp hs ?_
 intro d h1 hs
 refine ⟨_, rfl, ?_⟩
 refine shWrite_sp (xs := bs) hs (i := 0) .z dg_new (by simp; omega) hbc (fun s' sm' n' h' hs' => rd _ hs'.drop.drop) ?_
 intro s' sm' n' h2 D hs
 simp only [put_zero] at hs
 refine ⟨_, rfl, ?_⟩
 refine Sum_sp hs (i := 0) .z D (by simp; omega) ?_
 intro h3 hs
 rw [List.nil_append]
 refine ⟨Sat.can hs (i := 1) (.s .z) (by simp [zeros, shaM_len]), ?_⟩
 intro h4 e
 replace hs := Sat.wra hs (i := 1) (.s .z) e (by simp [zeros, shaM_len])
 clear e
 simp only [put_succ, put_zero] at hs
 exact ⟨_, shaM_len _, hs.row0 (i := 1) (.s .z), k _ hs.drop.drop⟩
end
end Go.Proofs.YtaglicdidpgkpaaGreatDoor
end

/- HMAC in the program. Own work. -/
section
set_option maxRecDepth 100000
set_option linter.unusedVariables false
namespace Go.Proofs.YtaglicdidpgkpaaGreatDoor
open Go Go.Vc

def keyM (key : List Int) : List Int := if 64 < key.length then shaM key else key
def kbM (key : List Int) : List Int := keyM key ++ zeros (64 - (keyM key).length)
def xM (kb : List Int) (x : Int) : Nat → List Int
 | 0 => zeros 64
 | t + 1 => (xM kb x t).set t (bits .xor .u8 (kb.getD t 0) x)
def innerM (key : List Int) : List Int := xM (kbM key) 54 64
def outerM (key : List Int) : List Int := xM (kbM key) 92 64
def macM (key b : List Int) : List Int := shaM (outerM key ++ shaM (innerM key ++ b))
theorem xM_len (kb : List Int) (x : Int) (t : Nat) : (xM kb x t).length = 64 := by
 induction t with
 | zero => simp [xM, zeros]
 | succ t ih => simp [xM, ih]
theorem keyM_len (key : List Int) : (keyM key).length ≤ 64 := by
 unfold keyM
 split
 ·rw [shaM_len]; omega
 ·omega
theorem kbM_len (key : List Int) : (kbM key).length = 64 := by
 have := keyM_len key
 unfold kbM
 simp [zeros]; omega
theorem macM_len (key b : List Int) : (macM key b).length = 32 := shaM_len _
theorem spliceI {k : IntKind} {l xs : List Int} {o : Nat} (h : o + xs.length ≤ l.length) : splice (ints k l) o (ints k xs) = ints k (l.take o ++ xs ++ l.drop (o + xs.length)) := by
 apply List.ext_getElem?
 intro j
 rw [splice_get, ints_length, ints_length]
 by_cases c : o ≤ j ∧ j < o + xs.length ∧ j < l.length
 ·rw [if_pos c, ints_get, ints_get, List.getElem?_append_left (by simp; omega), List.getElem?_append_right (by simp; omega)]
  congr 2
  simp; omega
 ·rw [if_neg c, ints_get, ints_get]
  congr 1
  by_cases c2 : j < o
  ·rw [List.append_assoc, List.getElem?_append_left (by simp; omega), List.getElem?_take_of_lt c2]
  ·by_cases c3 : j < l.length
   ·rw [List.getElem?_append_right (by simp; omega), List.getElem?_drop]
    congr 1
    simp; omega
   ·rw [List.getElem?_eq_none (by omega), List.getElem?_eq_none (by simp; omega)]
section
variable {h0 h : H} {A : List Ent} {i d m : Nat}
abbrev macL (d : Nat) (key : List Int) : List Value := .pointer (some ⟨d, 0, none⟩) :: ints .u8 (outerM key)
theorem blk_svo {b : Nat} {k : IntKind} {pre : List Value} {ms : List Int} (hs : Sat h0 A h) (m : At A i (blk b (pre ++ ints k ms))) : hsv h (some ⟨b, pre.length, none⟩) 1 ms.length (ints k ms) := by
 refine ⟨by simp, ints_one _ _, Or.inr ⟨_, rfl, ?_⟩⟩
 refine hs.cs1 m ?_
 intro x hx
 rw [List.getElem?_append_right (by omega)]
 congr 1; omega
theorem MacNew_sp {Q : Option Addr → H → Prop} {key : List Int} {kp : Option Addr} {kl kc : Nat} (hs : Sat h0 A h) (hkc : kl ≤ kc) (hkl : kl < 2 ^ 60) (rd : ∀ h', Sat h0 A h' → hsv h' kp 1 kl (ints .u8 key))
  (k : ∀ m d s sm n h', DgOk (innerM key) s sm n → Sat h0 (blk d (dgL s sm n) :: blk m (macL d key) :: A) h' → Q (some ⟨m, 0, none⟩) h') : F_mac_New kp kl kc Q h := by
 unfold F_mac_New G_mac_New
 try simp only [add_mk, Nat.zero_add, List.append_nil]
 have hxl : key.length = kl := by have := (rd _ hs).1; simpa using this
 intro kb _ hn; replace hs := Sat.new hs hn; clear hn
 intro J11 hJ11
 -- the block key
 have way : ∀ (p : Option Addr) (l c : Nat) h', Sat h0 (blk kb (ints .u8 (zeros 64)) :: A) h' → hsv h' p 1 l (ints .u8 (keyM key)) → J11 [.dv (.one (.slice p l c))] h' := by
  intro p l c h2 hs rd2
  have hl2 : (keyM key).length = l := by have := rd2.1; simpa using this
  have hk64 := keyM_len key
  apply hJ11
  have sub0 : ∀ x, subAddr (some ⟨x, 0, none⟩) 0 64 1 = some ⟨x, 0, none⟩ := by intro x; unfold subAddr; simp
  rw [show l.min 64 = l from Nat.min_eq_left (by omega), sub0]
  refine ⟨_, rd2, Or.inr ⟨_, rfl, Sat.can hs (i := 0) .z (by simp [zeros]; omega)⟩, ?_⟩
  intro h3 e
  replace hs := Sat.wr hs (i := 0) .z e
  clear e
  rw [spliceI (by simp [zeros]; omega)] at hs
  have ekb : (zeros 64).take 0 ++ keyM key ++ (zeros 64).drop (0 + (keyM key).length) = kbM key := by
   unfold kbM
   rw [List.take_zero, List.nil_append, Nat.zero_add]
   unfold zeros
   rw [List.drop_replicate]
  rw [ekb] at hs
  simp only [put_zero] at hs
  refine NewD_sp hs ?_
  intro d h4 hs
  intro m _ hn; replace hs := Sat.new hs hn; clear hn
  intro ib _ hn; replace hs := Sat.new hs hn; clear hn
  have kl64 := kbM_len key
  refine ⟨_, kl64, hs.row0 (i := 3) (.s (.s (.s .z))), ?_⟩
  intro J29 hJ29
  refine loop_up 64 (fun t h => Sat h0 (blk ib (ints .u8 (xM (kbM key) 54 t)) :: blk m (.pointer (some ⟨d, 0, none⟩) :: ints .u8 (xM (kbM key) 92 t)) :: blk d (dgL sM (zeros 64) 0) :: blk kb (ints .u8 (kbM key)) :: A) h) ?_ ?_ 0 _ (by omega) hs
  ·intro t h5 ht hs hk
   apply hJ29
   rw [ltI_eq, if_pos (by simp; omega)]
   have x1 := xM_len (kbM key) 54 t
   have x2 := xM_len (kbM key) 92 t
   simp only [Int.toNat_natCast, Nat.mul_one]
   refine ⟨by omega, by omega, by omega, by omega, ?_⟩
   refine ⟨Sat.can hs (i := 0) .z (by simp [x1]; omega), ?_⟩
   intro h6 e
   replace hs := Sat.wr hs (i := 0) .z e
   clear e
   rw [intsP] at hs
   simp only [put_zero] at hs
   refine ⟨by omega, by omega, ?_⟩
   refine ⟨Sat.can hs (i := 1) (.s .z) (by simp [x2]; omega), ?_⟩
   intro h7 e
   replace hs := Sat.wr hs (i := 1) (.s .z) e
   clear e
   have es : splice (.pointer (some ⟨d, 0, none⟩) :: ints .u8 (xM (kbM key) 92 t)) (1 + t) [.int .u8 (bits .xor .u8 ((kbM key).getD t 0) 92)] = .pointer (some ⟨d, 0, none⟩) :: ints .u8 (xM (kbM key) 92 (t + 1)) := by
    show (Value.pointer (some ⟨d, 0, none⟩) :: ints .u8 (xM (kbM key) 92 t)).set (1 + t) _ = _
    rw [show 1 + t = t + 1 by omega, List.set_cons_succ, ints_set]; rfl
   rw [es] at hs
   simp only [put_succ, put_zero] at hs
   rw [wrap_succ (by omega)]
   exact hk _ hs
  ·intro h5 hs
   apply hJ29
   rw [ltI_eq, if_neg (by decide)]
   refine ⟨_, hs.ld (i := 1) (.s .z) rfl, _, rfl, ?_⟩
   have il : (innerM key).length = 64 := xM_len _ _ _
   refine shWrite_sp (xs := innerM key) hs (i := 2) (.s (.s .z)) dg_new (by simp [il]) (by omega) ?_ ?_
   ·intro s' sm' n' h' hs'
    simp only [put_succ, put_zero] at hs'
    have := blk_sv hs' (i := 0) .z (n := 64) (by rw [xM_len]; omega)
    rw [List.take_of_length_le (by rw [xM_len]; omega)] at this
    exact this
   ·intro s' sm' n' h6 D hs
    simp only [put_succ, put_zero] at hs
    rw [List.nil_append] at D
    replace hs := hs.front (i := 2) (.s (.s .z))
    simp only [del] at hs
    exact k m d s' sm' n' _ D (hs.sub (by (repeat (first | exact List.Sublist.refl _ | apply List.Sublist.cons_cons | apply List.Sublist.cons))))
 by_cases g : 64 < kl
 ·rw [ltI_eq, if_pos (by rw [decide_eq_true_iff]; omega)]
  refine ShaOf_sp (bs := key) hs hkc hkl (fun h' hs' => rd _ hs'.drop) ?_
  intro h2 hs
  intro hb _ hn; replace hs := Sat.new hs hn; clear hn
  refine ⟨Sat.can hs (i := 0) .z (by simp [zeros]), ?_⟩
  intro h3 e
  replace hs := Sat.wra hs (i := 0) .z e (by simp [zeros, shaM_len])
  clear e
  simp only [put_zero] at hs
  have ek : keyM key = shaM key := by unfold keyM; rw [if_pos (by omega)]
  refine way _ _ _ _ hs.drop ?_
  rw [ek]
  have := blk_sv hs (i := 0) .z (n := 32) (by rw [shaM_len]; omega)
  rw [List.take_of_length_le (by rw [shaM_len]; omega)] at this
  have sub0 : subAddr (some ⟨hb, 0, none⟩) 0 32 1 = some ⟨hb, 0, none⟩ := by unfold subAddr; simp
  rw [sub0]
  exact this
 ·rw [ltI_eq, if_neg (by rw [decide_eq_true_iff]; omega)]
  have ek : keyM key = key := by unfold keyM; rw [if_neg (by omega)]
  refine way _ _ _ _ hs ?_
  rw [ek]
  exact rd _ hs.drop
theorem MacSum_sp {Q : List Int → H → Prop} {key ms s sm : List Int} {n : Int} {j : Nat} (hs : Sat h0 A h) (cm : At A j (blk m (macL d key))) (cd : At A i (blk d (dgL s sm n))) (D : DgOk ms s sm n) (hml : ms.length < 2 ^ 60)
  (k : ∀ h', Sat h0 A h' → Q (shaM (outerM key ++ shaM ms)) h') : F_mac_Mac_Sum ⟨m, 0, none⟩ Q h := by
 unfold F_mac_Mac_Sum G_mac_Mac_Sum
 try simp only [add_mk, Nat.zero_add, List.append_nil]
 have sub0 : ∀ x o l, 0 < l → subAddr (some ⟨x, o, none⟩) 0 l 1 = some ⟨x, o, none⟩ := by
  intro x o l hl
  unfold subAddr
  rw [if_neg (by omega)]; simp
 have ol : (outerM key).length = 64 := xM_len _ _ _
 have cm2 : At A j (blk m ([.pointer (some ⟨d, 0, none⟩)] ++ ints .u8 (outerM key))) := by simpa only [List.cons_append, List.nil_append] using cm
 intro ob _ hn; replace hs := Sat.new hs hn; clear hn
 refine ⟨_, hs.ld cm.s rfl, _, rfl, ?_⟩
 refine Sum_sp hs cd.s D hml ?_
 intro h1 hs
 intro hb _ hn; replace hs := Sat.new hs hn; clear hn
 refine ⟨Sat.can hs (i := 0) .z (by simp [zeros]), ?_⟩
 intro h2 e
 replace hs := Sat.wra hs (i := 0) .z e (by simp [zeros, shaM_len])
 clear e
 simp only [put_zero] at hs
 refine NewD_sp hs ?_
 intro d2 h3 hs
 rw [sub0 _ _ _ (by decide), sub0 _ _ _ (by decide)]
 refine ⟨_, rfl, ?_⟩
 refine shWrite_sp (xs := outerM key) hs (i := 0) .z dg_new (by simp [ol]) (by omega) ?_ ?_
 ·intro s' sm' n' h' hs'
  simp only [put_zero] at hs'
  have := blk_svo (k := .u8) (ms := outerM key) (pre := [.pointer (some ⟨d, 0, none⟩)]) hs' cm2.s.s.s
  rw [ol] at this
  exact this
 intro s1 sm1 n1 h4 D1 hs
 simp only [put_zero] at hs
 rw [List.nil_append] at D1
 refine ⟨_, rfl, ?_⟩
 refine shWrite_sp (xs := shaM ms) hs (i := 0) .z D1 (by simp [ol, shaM_len]) (by omega) ?_ ?_
 ·intro s' sm' n' h' hs'
  simp only [put_zero] at hs'
  have := blk_sv hs' (i := 1) (.s .z) (n := 32) (by rw [shaM_len]; omega)
  rw [List.take_of_length_le (by rw [shaM_len]; omega)] at this
  exact this
 intro s2 sm2 n2 h5 D2 hs
 simp only [put_zero] at hs
 refine ⟨_, rfl, ?_⟩
 refine Sum_sp hs (i := 0) .z D2 (by simp [ol, shaM_len]) ?_
 intro h6 hs
 refine ⟨Sat.can hs (i := 2) (.s (.s .z)) (by simp [zeros, shaM_len]), ?_⟩
 intro h7 e
 replace hs := Sat.wra hs (i := 2) (.s (.s .z)) e (by simp [zeros, shaM_len])
 clear e
 simp only [put_succ, put_zero] at hs
 exact ⟨_, shaM_len _, hs.row0 (i := 2) (.s (.s .z)), k _ hs.drop.drop.drop⟩
theorem MacOf_sp {Q : List Int → H → Prop} {key b : List Int} {kp bp : Option Addr} {kl kc bl bc : Nat} (hs : Sat h0 A h) (hkc : kl ≤ kc) (hkl : kl < 2 ^ 60) (hbc : bl ≤ bc) (hbl : bl < 2 ^ 59)
  (rk : ∀ h', Sat h0 A h' → hsv h' kp 1 kl (ints .u8 key)) (rb : ∀ h', Sat h0 A h' → hsv h' bp 1 bl (ints .u8 b)) (k : ∀ h', Sat h0 A h' → Q (macM key b) h') : F_mac_Of kp kl kc bp bl bc Q h := by
 unfold F_mac_Of G_mac_Of
 try simp only [add_mk, Nat.zero_add, List.append_nil]
 have hxl : b.length = bl := by have := (rb _ hs).1; simpa using this
 have il : (innerM key).length = 64 := xM_len _ _ _
 intro ob _ hn; replace hs := Sat.new hs hn; clear hn
 refine MacNew_sp (key := key) hs hkc hkl (fun h' hs' => rk _ hs'.drop) ?_
 intro m d s sm n h1 D hs
 refine ⟨_, rfl, _, hs.ld (i := 1) (.s .z) rfl, _, rfl, ?_⟩
 refine shWrite_sp (xs := b) hs (i := 0) .z D (by rw [il]; omega) hbc (fun s' sm' n' h' hs' => rb _ hs'.drop.drop.drop) ?_
 intro s' sm' n' h2 D2 hs
 simp only [put_zero] at hs
 refine ⟨_, rfl, ?_⟩
 refine MacSum_sp hs (j := 1) (i := 0) (.s .z) .z D2 (by rw [List.length_append, il]; omega) ?_
 intro h3 hs
 refine ⟨Sat.can hs (i := 2) (.s (.s .z)) (by simp [zeros, shaM_len]), ?_⟩
 intro h4 e
 replace hs := Sat.wra hs (i := 2) (.s (.s .z)) e (by simp [zeros, shaM_len])
 clear e
 simp only [put_succ, put_zero] at hs
 exact ⟨_, shaM_len _, hs.row0 (i := 2) (.s (.s .z)), k _ hs.drop.drop.drop⟩
end
end Go.Proofs.YtaglicdidpgkpaaGreatDoor
end

/- Tokens: caveats, whether they may be, their bytes. Own work. -/
section
set_option maxRecDepth 100000
set_option linter.unusedVariables false
namespace Go.Proofs.YtaglicdidpgkpaaGreatDoor
open Go Go.Vc

structure CvM where
 kind : Int
 slot : Int
 frm : Int
 to : Int
 set : Int
abbrev cvV (c : CvM) : List Value := [.int .i64 c.kind, .int .i64 c.slot, .int .i64 c.frm, .int .i64 c.to, .int .u64 c.set]
def CvM.may (c : CvM) : Prop :=
 (c.kind = 1 ∧ (0 ≤ c.slot ∧ c.slot < 8) ∧ c.frm = 0 ∧ c.to = 0 ∧ c.set = 0) ∨
 (c.kind = 2 ∧ (0 ≤ c.frm ∧ c.frm ≤ c.to ∧ c.to < 4294967296) ∧ c.slot = 0 ∧ c.set = 0) ∨
 (c.kind = 3 ∧ (c.set ≠ 0 ∧ bits .andNot .u64 c.set 16382 = 0) ∧ c.slot = 0 ∧ c.frm = 0 ∧ c.to = 0) ∨
 (c.kind = 4 ∧ (0 ≤ c.slot ∧ c.slot < 8) ∧ (0 ≤ c.frm ∧ c.frm ≤ 4611686018427387904) ∧ c.to = 0 ∧ c.set = 0) ∨
 (c.kind = 5 ∧ (0 ≤ c.slot ∧ c.slot < 8) ∧ (0 ≤ c.to ∧ c.to ≤ 4611686018427387904) ∧ c.frm = 0 ∧ c.set = 0)
instance instDecCv (c : CvM) : Decidable c.may := by unfold CvM.may; infer_instance
section
variable {h0 h : H} {A : List Ent} {i d : Nat}
end
end Go.Proofs.YtaglicdidpgkpaaGreatDoor
end

/- Tokens: whether they may be; bytes; copies; what a tag is of. Own work. -/
section
set_option maxRecDepth 100000
set_option linter.unusedVariables false
namespace Go.Proofs.YtaglicdidpgkpaaGreatDoor
open Go Go.Vc

def cvsV : List CvM → List Value
 | [] => []
 | c :: r => cvV c ++ cvsV r
section
variable {h0 h : H} {A : List Ent} {i d : Nat}
end
end Go.Proofs.YtaglicdidpgkpaaGreatDoor
end

/- Tokens: bytes, copies, messages, tags. Own work. -/
section
set_option maxRecDepth 100000
set_option linter.unusedVariables false
namespace Go.Proofs.YtaglicdidpgkpaaGreatDoor
open Go Go.Vc

theorem loopS {J : List SV → H → Prop} {σ : Type} (N : Nat) (S : Nat → σ → List SV) (Inv : Nat → σ → H → Prop) (step : ∀ i s h, i < N → Inv i s h → (∀ s' h', Inv (i + 1) s' h' → J (S (i + 1) s') h') → J (S i s) h)
  (exit : ∀ s h, Inv N s h → J (S N s) h) (i : Nat) (s : σ) (h : H) (hi : i ≤ N) (inv : Inv i s h) : J (S i s) h := by
 generalize e : N - i = n
 induction n generalizing i s h with
 | zero =>
  have : i = N := by omega
  subst this; exact exit s h inv
 | succ n ih => exact step i s h (by omega) inv fun s' h' inv' => ih (i + 1) s' h' (by omega) inv' (by omega)
theorem capS {h0 h : H} {A : List Ent} (hs : Sat h0 A h) {i : Nat} {p : Option Addr} {l c sz : Nat} {vs : List Value} (m : At A i (slE p l c sz vs)) : l ≤ c := by
 obtain ⟨f, hp, _⟩ := hs.take m
 obtain ⟨bs, o, _⟩ := slE_P.1 hp
 exact o.2.1
section
variable {h0 h : H} {A : List Ent} {i d : Nat}
theorem clone1_sp {Q : Option Addr → Nat → Nat → H → Prop} {p : Option Addr} {l c : Nat} {vs : List Value} (hs : Sat h0 A h) (hl : l < 2 ^ 47) (rd : ∀ h', Sat h0 A h' → hsv h' p 1 l vs)
  (k : ∀ p' c' h', (p.isNone = true → p' = none ∧ l = 0) → Sat h0 (slE p' l c' 1 vs :: A) h' → Q p' l c' h') : F_slices_Clone_byte_byte p l c Q h := by
 unfold F_slices_Clone_byte_byte G_slices_Clone_byte_byte
 have R := rd _ hs
 by_cases g : p.isNone = true
 ·rw [if_pos g]
  have hp : p = none := by simpa using g
  subst hp
  have e := hsv_none R
  subst e
  have hl0 : l = 0 := by have := R.1; simp at this; omega
  subst hl0
  exact k none 0 h (fun _ => ⟨rfl, rfl⟩) (hs.sl_nil 1 none)
 ·rw [if_neg g]
  intro b _ hn; replace hs := Sat.new hs hn; clear hn
  have R2 := rd _ hs.drop
  refine ⟨vs, R2, ?_⟩
  refine Sat.app_new hs R2.1 rfl R2.2.1 (by omega) ?_
  intro p' c' h1 hs
  exact k _ _ _ (fun y => absurd y g) (hs.sub (by (repeat (first | exact List.Sublist.refl _ | apply List.Sublist.cons_cons | apply List.Sublist.cons))))
def TokMay (key : Int) (id : List Int) (cs : List CvM) : Prop := (0 ≤ key ∧ key < 64) ∧ (1 ≤ id.length ∧ id.length ≤ 64) ∧ cs.length ≤ 32 ∧ ∀ c ∈ cs, c.may
instance (key : Int) (id : List Int) (cs : List CvM) : Decidable (TokMay key id cs) := by unfold TokMay; infer_instance
theorem ints_app (k : IntKind) (a b : List Int) : ints k (a ++ b) = ints k a ++ ints k b := by unfold ints; rw [List.map_append]
end
end Go.Proofs.YtaglicdidpgkpaaGreatDoor
end

/- Tokens: rings of keys, Issue, Put. Own work. -/
section
set_option maxRecDepth 100000
set_option linter.unusedVariables false
namespace Go.Proofs.YtaglicdidpgkpaaGreatDoor
open Go Go.Vc

theorem zeros_len (n : Nat) : (zeros n).length = n := by simp [zeros]
section
variable {h0 h : H} {A : List Ent} {i j d r m : Nat}
theorem has_sp {Q : Bool → H → Prop} (key : Int) {es : List (Value × DV)} {b : Bool} {op : Option Addr} {ol oc : Nat} (hs : Sat h0 A h) (cr : At A i (blk r [.map (some m)])) (cm : At A j (mapE m es)) (hl : mlook (.int .i64 key) (.one (.slice none 0 0)) es = some (.one (.slice op ol oc), b))
  (q : Q b h) : F_keys_Ring_Has ⟨r, 0, none⟩ key Q h := by
 unfold F_keys_Ring_Has G_keys_Ring_Has
 exact ⟨_, hs.ld cr rfl, _, _, _, hs.mapAt cm, hl, _, _, _, rfl, q⟩
theorem sign_sp {Q : List Int → Int → H → Prop} {key : Int} {es : List (Value × DV)} {sp bp : Option Addr} {sl sc bl bc : Nat} {secret b : List Int} (hs : Sat h0 A h) (cr : At A i (blk r [.map (some m)])) (cm : At A j (mapE m es)) (hl : mlook (.int .i64 key) (.one (.slice none 0 0)) es = some (.one (.slice sp sl sc), true))
  (hsc : sl ≤ sc) (hsl : sl < 2 ^ 40) (hbc : bl ≤ bc) (hbl : bl < 2 ^ 40) (rs : ∀ h', Sat h0 A h' → hsv h' sp 1 sl (ints .u8 secret)) (rb : ∀ h', Sat h0 A h' → hsv h' bp 1 bl (ints .u8 b)) (k : ∀ h', Sat h0 A h' → Q (macM secret b) 0 h') : F_keys_Ring_Sign ⟨r, 0, none⟩ key bp bl bc Q h := by
 unfold F_keys_Ring_Sign G_keys_Ring_Sign
 simp only [List.append_nil]
 intro ob _ hn; replace hs := Sat.new hs hn; clear hn
 refine ⟨_, hs.ld cr.s rfl, _, _, _, hs.mapAt cm.s, hl, _, _, _, rfl, ?_⟩
 rw [if_neg (by decide)]
 refine MacOf_sp (key := secret) (b := b) hs hsc (by omega) hbc (by omega) (fun h' hs' => rs _ hs'.drop) (fun h' hs' => rb _ hs'.drop) ?_
 intro h2 hs
 refine ⟨Sat.can hs (i := 0) .z (by simp [zeros]), ?_⟩
 intro h3 e
 replace hs := Sat.wra hs (i := 0) .z e (by simp [zeros, macM_len])
 clear e
 simp only [put_zero] at hs
 exact ⟨_, macM_len _ _, hs.row0 .z, k _ hs.drop⟩
end
end Go.Proofs.YtaglicdidpgkpaaGreatDoor
end

/- Tokens: Get. Own work. -/
section
set_option maxRecDepth 100000
set_option linter.unusedVariables false
namespace Go.Proofs.YtaglicdidpgkpaaGreatDoor
open Go Go.Vc

structure TkM where
 key : Int
 id : List Int
 cs : List CvM
 tag : List Int
section
variable {h0 h : H} {A : List Ent} {i j d : Nat}
end
end Go.Proofs.YtaglicdidpgkpaaGreatDoor
end

/- Tokens: errors, and answers that the document fixes. Own work. -/
section
set_option maxRecDepth 1000000
set_option linter.unusedVariables false
namespace Go.Proofs.YtaglicdidpgkpaaGreatDoor
open Go Go.Vc

theorem nIF (t : TypeId) (v : Value) : ¬ isNilI (.iface t v) = true := Bool.false_ne_true
section
variable {h0 h : H} {A : List Ent} {i j d : Nat}
end
end Go.Proofs.YtaglicdidpgkpaaGreatDoor
end

/- Tokens: the document's Put; whether two are the same; copies. Own work. -/
section
set_option maxRecDepth 100000
set_option linter.unusedVariables false
namespace Go.Proofs.YtaglicdidpgkpaaGreatDoor
open Go Go.Vc
theorem take_snoc {α : Type} (l : List α) {t : Nat} (h : t < l.length) : l.take (t + 1) = l.take t ++ [l[t]] := by rw [List.take_succ, List.getElem?_eq_getElem h]; rfl
section
variable {h0 h : H} {A : List Ent} {i j d : Nat}
end
end Go.Proofs.YtaglicdidpgkpaaGreatDoor
end
