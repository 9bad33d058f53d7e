/- StreamDoes and its parts, laid together by a program of ours: Sl Mt Rd Re Kn Cd Ch1 Cm Ag Ch2 Ch3 Ch4 -/
import Derived.ChangeSame
import Derived.ChangeVars
import Derived.JoinedOf
import Derived.LaidHandle
import Derived.LaidLaws
import Derived.ProofKit
import Derived.SevenTiedAt
import Derived.SizedLaws
import Derived.Stop.Joined
import Derived.Test.YteedolonhdbieaaGreatDoorCards
import Derived.Test.YteedolonhdbieaaGreatDoorRows
import Derived.Test.YteedolonhdbieaaGreatDoorTie
import Derived.Test.YteedolonhdbieaaGreatDoorK8
set_option autoImplicit false
set_option linter.all false
section
namespace Go.Vc
@[simp] theorem oneCell_slice (p : Option Addr) (l c : Nat) : (Value.slice p l c).oneCell' = true := rfl
@[simp] theorem oneCell_bool (b : Bool) : (Value.bool b).oneCell' = true := rfl
@[simp] theorem oneCell_ptr (p : Option Addr) : (Value.pointer p).oneCell' = true := rfl
@[simp] theorem oneCell_str (s : ByteArray) : (Value.string s).oneCell' = true := rfl
inductive Tag where
 | blk (b : Nat) (vs : List Value)
 | sl (p : Option Addr) (l c sz : Nat) (vs : List Value)
 | of (n : Nat)
structure Ent where
 tag : Tag
 P : H -> (Nat -> Prop) -> Prop
 st : ∀ {h h' : H} {f : Nat -> Prop}, P h f -> (∀ b, f b -> h'[b]? = h[b]?) -> P h' f
 lt : ∀ {h : H} {f : Nat -> Prop} {b : Nat}, P h f -> f b -> b < h.size
def SatX : List Ent -> H -> (Nat -> Prop) -> Prop
 | [], _, O => ∀ b, ¬ O b
 | e :: A, h, O => ∃ f g, e.P h f /\ SatX A h g /\ (∀ b, f b -> ¬ g b) /\ (∀ b, O b ↔ f b ∨ g b)
theorem SatX.st {A : List Ent} {h h' : H} {O : Nat -> Prop} (s : SatX A h O) (e : ∀ b, O b -> h'[b]? = h[b]?) : SatX A h' O := by
 induction A generalizing O with
 | nil => exact s
 | cons x A ih =>
  obtain ⟨f, g, hp, hg, hd, ho⟩ := s
  exact ⟨f, g, x.st hp fun b hb => e b ((ho b).2 (Or.inl hb)), ih hg fun b hb => e b ((ho b).2 (Or.inr hb)), hd, ho⟩
theorem SatX.lt {A : List Ent} {h : H} {O : Nat -> Prop} (s : SatX A h O) {b : Nat} (hb : O b) : b < h.size := by
 induction A generalizing O with
 | nil => exact absurd hb (s b)
 | cons x A ih =>
  obtain ⟨f, g, hp, hg, hd, ho⟩ := s
  rcases (ho b).1 hb with k | k
  ·exact x.lt hp k
  ·exact ih hg k
theorem SatX.iff {A : List Ent} {h : H} {O O' : Nat -> Prop} (s : SatX A h O) (e : ∀ b, O b ↔ O' b) : SatX A h O' := by
 have : O = O' := funext fun b => propext (e b)
 exact this ▸ s
theorem SatX.append {A B : List Ent} {h : H} {O : Nat -> Prop} : SatX (A ++ B) h O ↔ ∃ f g, SatX A h f /\ SatX B h g /\ (∀ b, f b -> ¬ g b) /\ (∀ b, O b ↔ f b ∨ g b) := by
 induction A generalizing O with
 | nil =>
  constructor
  ·intro s; exact ⟨fun _ => False, O, fun _ x => x, s, fun _ x => x.elim, fun b => by simp⟩
  ·rintro ⟨f, g, hf, hg, _, ho⟩
   refine hg.iff fun b => ?_
   rw [ho]; constructor
   ·exact Or.inr
   ·rintro (k | k)
    ·exact absurd k (hf b)
    ·exact k
 | cons x A ih =>
  constructor
  ·rintro ⟨f, g, hp, hg, hd, ho⟩
   obtain ⟨f', g', h1, h2, h3, h4⟩ := ih.1 hg
   refine ⟨fun b => f b ∨ f' b, g', ⟨f, f', hp, h1, fun b k k' => hd b k ((h4 b).2 (Or.inl k')), fun b => Iff.rfl⟩, h2, ?_, ?_⟩
   ·rintro b (k | k) k'
    ·exact hd b k ((h4 b).2 (Or.inr k'))
    ·exact h3 b k k'
   ·intro b; rw [ho, h4, or_assoc]
  ·rintro ⟨f, g, ⟨f1, f2, hp, h1, h2, h3⟩, hg, hd, ho⟩
   refine ⟨f1, fun b => f2 b ∨ g b, hp, ih.2 ⟨f2, g, h1, hg, fun b k k' => hd b ((h3 b).2 (Or.inr k)) k', fun b => Iff.rfl⟩, ?_, ?_⟩
   ·rintro b k (k' | k')
    ·exact h2 b k k'
    ·exact hd b ((h3 b).2 (Or.inl k)) k'
   ·intro b; rw [ho, h3, or_assoc]
inductive At : List Ent -> Nat -> Ent -> Prop where
 | z {A : List Ent} {e : Ent} : At (e :: A) 0 e
 | s {A : List Ent} {e x : Ent} {i : Nat} : At A i e -> At (x :: A) (i + 1) e
def put : List Ent -> Nat -> Ent -> List Ent
 | [], _, _ => []
 | _ :: A, 0, e => e :: A
 | x :: A, i + 1, e => x :: put A i e
@[simp] theorem put_zero (x e : Ent) (A : List Ent) : put (x :: A) 0 e = e :: A := rfl
@[simp] theorem put_succ (x e : Ent) (A : List Ent) (i : Nat) : put (x :: A) (i + 1) e = x :: put A i e := rfl
theorem zs1 {a b : Ent} {A : List Ent} : At (a :: b :: A) 1 b := (.s .z)
theorem zs2 {a b c : Ent} {A : List Ent} : At (a :: b :: c :: A) 2 c := (.s (.s .z))
theorem zs3 {a b c d : Ent} {A : List Ent} : At (a :: b :: c :: d :: A) 3 d := (.s (.s (.s .z)))
theorem zs4 {a b c d e : Ent} {A : List Ent} : At (a :: b :: c :: d :: e :: A) 4 e := (.s (.s (.s (.s .z))))
theorem zs5 {a b c d e f : Ent} {A : List Ent} : At (a :: b :: c :: d :: e :: f :: A) 5 f := (.s (.s (.s (.s (.s .z)))))
theorem zs6 {a b c d e f g : Ent} {A : List Ent} : At (a :: b :: c :: d :: e :: f :: g :: A) 6 g := (.s (.s (.s (.s (.s (.s .z))))))
theorem zs7 {a b c d e f g h : Ent} {A : List Ent} : At (a :: b :: c :: d :: e :: f :: g :: h :: A) 7 h := (.s (.s (.s (.s (.s (.s (.s .z)))))))
theorem zs8 {a b c d e f g h i : Ent} {A : List Ent} : At (a :: b :: c :: d :: e :: f :: g :: h :: i :: A) 8 i := (.s (.s (.s (.s (.s (.s (.s (.s .z))))))))
theorem zs9 {a b c d e f g h i j : Ent} {A : List Ent} : At (a :: b :: c :: d :: e :: f :: g :: h :: i :: j :: A) 9 j := (.s (.s (.s (.s (.s (.s (.s (.s (.s .z)))))))))
theorem zs10 {a b c d e f g h i j k : Ent} {A : List Ent} : At (a :: b :: c :: d :: e :: f :: g :: h :: i :: j :: k :: A) 10 k := (.s (.s (.s (.s (.s (.s (.s (.s (.s (.s .z))))))))))
theorem zs11 {a b c d e f g h i j k l : Ent} {A : List Ent} : At (a :: b :: c :: d :: e :: f :: g :: h :: i :: j :: k :: l :: A) 11 l := (.s (.s (.s (.s (.s (.s (.s (.s (.s (.s (.s .z)))))))))))
theorem zs12 {a b c d e f g h i j k l m : Ent} {A : List Ent} : At (a :: b :: c :: d :: e :: f :: g :: h :: i :: j :: k :: l :: m :: A) 12 m := (.s (.s (.s (.s (.s (.s (.s (.s (.s (.s (.s (.s .z))))))))))))
theorem zs13 {a b c d e f g h i j k l m n : Ent} {A : List Ent} : At (a :: b :: c :: d :: e :: f :: g :: h :: i :: j :: k :: l :: m :: n :: A) 13 n := (.s (.s (.s (.s (.s (.s (.s (.s (.s (.s (.s (.s (.s .z)))))))))))))
theorem zs14 {a b c d e f g h i j k l m n o : Ent} {A : List Ent} : At (a :: b :: c :: d :: e :: f :: g :: h :: i :: j :: k :: l :: m :: n :: o :: A) 14 o := (.s (.s (.s (.s (.s (.s (.s (.s (.s (.s (.s (.s (.s (.s .z))))))))))))))
theorem At.put {A : List Ent} {i : Nat} {e : Ent} (a : At A i e) (x : Ent) : At (Vc.put A i x) i x := by
 induction a with
 | z => exact .z
 | s _ ih => exact .s ih
theorem At.put_ne {A : List Ent} {i j : Nat} {e : Ent} (a : At A i e) (hj : i ≠ j) (x : Ent) : At (Vc.put A j x) i e := by
 induction a generalizing j with
 | z => cases j with
  | zero => exact absurd rfl hj
  | succ j => exact .z
 | s q ih => cases j with
  | zero => exact .s q
  | succ j => exact .s (ih (by omega))
@[simp] theorem put_put (A : List Ent) (i : Nat) (x y : Ent) : put (put A i x) i y = put A i y := by
 induction A generalizing i with
 | nil => rfl
 | cons a A ih => cases i with
  | zero => rfl
  | succ i => simp [ih]
theorem At.put_self {A : List Ent} {i : Nat} {e : Ent} (a : At A i e) : Vc.put A i e = A := by
 induction a with
 | z => rfl
 | s _ ih => simp [ih]
theorem SatX.take {A : List Ent} {i : Nat} {e : Ent} (a : At A i e) {h : H} {O : Nat -> Prop} (s : SatX A h O) :
  ∃ f g : Nat -> Prop, e.P h f /\ (∀ b, f b -> ¬ g b) /\ (∀ b, O b ↔ f b ∨ g b) /\
   ∀ (e' : Ent) (h' : H) (f' : Nat -> Prop), e'.P h' f' -> (∀ b, g b -> h'[b]? = h[b]?) -> (∀ b, f' b -> ¬ g b) -> SatX (Vc.put A i e') h' (fun b => f' b ∨ g b) := by
 induction a generalizing O with
 | z =>
  obtain ⟨f, g, hp, hg, hd, ho⟩ := s
  exact ⟨f, g, hp, hd, ho, fun e' h' f' hp' hsame hd' => ⟨f', g, hp', hg.st hsame, hd', fun b => Iff.rfl⟩⟩
 | s a ih =>
  obtain ⟨f, g, hp, hg, hd, ho⟩ := s
  obtain ⟨f1, g1, h1, h2, h3, h4⟩ := ih hg
  refine ⟨f1, fun b => f b ∨ g1 b, h1, ?_, ?_, ?_⟩
  ·rintro b k (k' | k')
   ·exact hd b k' ((h3 b).2 (Or.inl k))
   ·exact h2 b k k'
  ·intro b; rw [ho, h3]; constructor
   ·rintro (k | k | k) <;> simp [k]
   ·rintro (k | k | k) <;> simp [k]
  ·intro e' h' f' hp' hsame hd'
   refine ⟨f, fun b => f' b ∨ g1 b, Ent.st _ hp fun b k => hsame b (Or.inl k), h4 e' h' f' hp' (fun b k => hsame b (Or.inr k)) (fun b k k' => hd' b k (Or.inr k')), ?_, ?_⟩
   ·rintro b k (k' | k')
    ·exact hd' b k' (Or.inl k)
    ·exact hd b k ((h3 b).2 (Or.inr k'))
   ·intro b; constructor
    ·rintro (k | k | k) <;> simp [k]
    ·rintro (k | k | k) <;> simp [k]
/-! ### With a base -/
def Sat (h0 : H) (A : List Ent) (h : H) : Prop := Ext none_ h0 h /\ ∃ O, SatX A h O /\ ∀ b, O b -> h0.size ≤ b
theorem Sat.init (h : H) : Sat h [] h := ⟨Ext.refl _ _, fun _ => False, fun _ x => x, fun _ x => x.elim⟩
theorem Sat.ex {h0 h : H} {A : List Ent} (s : Sat h0 A h) : Ext none_ h0 h := s.1
theorem Sat.ext {h0 h h' : H} {A : List Ent} (s : Sat h0 A h) (x : Ext none_ h h') : Sat h0 A h' := by
 obtain ⟨s1, O, s2, s3⟩ := s
 exact ⟨s1.trans x, O, s2.st fun b hb => x.eq b (s2.lt hb) (fun y => y), s3⟩
theorem Sat.add {h0 h h' : H} {A : List Ent} (s : Sat h0 A h) (x : Ext none_ h h') {e : Ent} {f : Nat -> Prop} (p : e.P h' f) (n : ∀ b, f b -> h.size ≤ b) : Sat h0 (e :: A) h' := by
 obtain ⟨s1, O, s2, s3⟩ := s
 refine ⟨s1.trans x, fun b => f b ∨ O b, ⟨f, O, p, s2.st fun b hb => x.eq b (s2.lt hb) (fun y => y), ?_, fun b => Iff.rfl⟩, ?_⟩
 ·intro b k k'; have := n b k; have := s2.lt k'; omega
 ·rintro b (k | k)
  ·have := n b k; have := s1.size; omega
  ·exact s3 b k
theorem Sat.drop {h0 h : H} {A : List Ent} {e : Ent} (s : Sat h0 (e :: A) h) : Sat h0 A h := by
 obtain ⟨s1, O, ⟨f, g, _, hg, _, ho⟩, s3⟩ := s
 exact ⟨s1, g, hg, fun b hb => s3 b ((ho b).2 (Or.inr hb))⟩
theorem Sat.sub {h0 h : H} {A B : List Ent} (s : Sat h0 A h) (p : B.Sublist A) : Sat h0 B h := by
 obtain ⟨s1, O, s2, s3⟩ := s
 have : ∃ O', SatX B h O' /\ ∀ b, O' b -> O b := by
  clear s3
  induction p generalizing O with
  | slnil => exact ⟨O, s2, fun _ x => x⟩
  | cons a _ ih =>
   obtain ⟨f, g, hp, hg, hd, ho⟩ := s2
   obtain ⟨O', h1, h2⟩ := ih g hg
   exact ⟨O', h1, fun b hb => (ho b).2 (Or.inr (h2 b hb))⟩
  | cons_cons a _ ih =>
   obtain ⟨f, g, hp, hg, hd, ho⟩ := s2
   obtain ⟨O', h1, h2⟩ := ih g hg
   exact ⟨fun b => f b ∨ O' b, ⟨f, O', hp, h1, fun b k k' => hd b k (h2 b k'), fun b => Iff.rfl⟩, fun b hb => (ho b).2 (hb.imp id (h2 b))⟩
 obtain ⟨O', h1, h2⟩ := this
 exact ⟨s1, O', h1, fun b hb => s3 b (h2 b hb)⟩
theorem Sat.nil {h0 h : H} {A : List Ent} (s : Sat h0 A h) : Sat h0 [] h := ⟨s.1, fun _ => False, fun _ x => x, fun _ x => x.elim⟩
theorem Sat.perm {h0 h : H} {A B : List Ent} (s : Sat h0 A h) (p : A.Perm B) : Sat h0 B h := by
 obtain ⟨s1, O, s2, s3⟩ := s
 refine ⟨s1, O, ?_, s3⟩
 clear s3
 induction p generalizing O with
 | nil => exact s2
 | cons x _ ih =>
  obtain ⟨f, g, hp, hg, hd, ho⟩ := s2
  exact ⟨f, g, hp, ih g hg, hd, ho⟩
 | swap x y l =>
  obtain ⟨f, g, hp, ⟨f1, g1, hp1, hg1, hd1, ho1⟩, hd, ho⟩ := s2
  refine ⟨f1, fun b => f b ∨ g1 b, hp1, ⟨f, g1, hp, hg1, fun b k k' => hd b k ((ho1 b).2 (Or.inr k')), fun b => Iff.rfl⟩, ?_, ?_⟩
  ·rintro b k (k' | k')
   ·exact hd b k' ((ho1 b).2 (Or.inl k))
   ·exact hd1 b k k'
  ·intro b; rw [ho, ho1]; constructor
   ·rintro (k | k | k) <;> simp [k]
   ·rintro (k | k | k) <;> simp [k]
 | trans _ _ ih1 ih2 => exact ih2 O (ih1 O s2)
theorem Sat.takeK {h0 h : H} {A : List Ent} (s : Sat h0 A h) {i : Nat} {e : Ent} (a : At A i e) : ∃ f : Nat -> Prop, e.P h f /\ (∀ b, f b -> h0.size ≤ b) /\
  ∀ (h' : H) (e' : Ent) (f' : Nat -> Prop), e'.P h' f' -> (∀ b, f' b -> f b ∨ h.size ≤ b) -> Ext f h h' -> Sat h0 (Vc.put A i e') h' := by
 obtain ⟨s1, O, s2, s3⟩ := s
 obtain ⟨f, g, hp, hd, ho, hk⟩ := s2.take a
 refine ⟨f, hp, fun b hb => s3 b ((ho b).2 (Or.inl hb)), fun h' e' f' hp' hn hx => ?_⟩
 have hg : ∀ b, g b -> b < h.size := fun b hb => s2.lt ((ho b).2 (Or.inr hb))
 refine ⟨s1.comp hx (fun b hb hf => ?_), _, hk e' h' f' hp' (fun b hb => hx.eq b (hg b hb) (fun hf => hd b hf hb)) ?_, ?_⟩
 ·have := s3 b ((ho b).2 (Or.inl hf)); omega
 ·intro b k1 k2
  rcases hn b k1 with k | k
  ·exact hd b k k2
  ·have := hg b k2; omega
 ·rintro b (k1 | k1)
  ·rcases hn b k1 with k | k
   ·exact s3 b ((ho b).2 (Or.inl k))
   ·have := s1.size; omega
  ·exact s3 b ((ho b).2 (Or.inr k1))
theorem Sat.take {h0 h : H} {A : List Ent} (s : Sat h0 A h) {i : Nat} {e : Ent} (a : At A i e) : ∃ f, e.P h f /\ ∀ b, f b -> h0.size ≤ b := by
 obtain ⟨f, h1, h2, _⟩ := s.takeK a
 exact ⟨f, h1, h2⟩
theorem Sat.upd {h0 h h' : H} {A : List Ent} (s : Sat h0 A h) {i : Nat} {e e' : Ent} (a : At A i e)
  (k : ∀ f, e.P h f -> ∃ f', e'.P h' f' /\ (∀ b, f' b -> f b ∨ h.size ≤ b) /\ Ext f h h') : Sat h0 (Vc.put A i e') h' := by
 obtain ⟨f, hp, _, hk⟩ := s.takeK a
 obtain ⟨f', h1, h2, h3⟩ := k f hp
 exact hk h' e' f' h1 h2 h3
theorem Sat.as {h0 h : H} {A : List Ent} (s : Sat h0 A h) {i : Nat} {e e' : Ent} (a : At A i e) (k : ∀ f, e.P h f -> e'.P h f) : Sat h0 (Vc.put A i e') h :=
 s.upd a fun f hp => ⟨f, k f hp, fun _ => Or.inl, Ext.refl _ _⟩
/-! ### A block; a slice -/
@[irreducible] def blkP (b : Nat) (vs : List Value) (h : H) (f : Nat -> Prop) : Prop := Blk h b vs /\ ∀ x, f x ↔ x = b
def blk (b : Nat) (vs : List Value) : Ent where
 tag := .blk b vs
 P := blkP b vs
 st := by unfold blkP; rintro h h' f ⟨k, e⟩ hs; exact ⟨k.of_eq (hs b ((e b).2 rfl)), e⟩
 lt := by unfold blkP; rintro h f x ⟨k, e⟩ hx; rw [(e x).1 hx]; exact k.lt
theorem blk_P {b : Nat} {vs : List Value} {h : H} {f : Nat -> Prop} : (blk b vs).P h f ↔ Blk h b vs /\ ∀ x, f x ↔ x = b := by
 show blkP b vs h f ↔ _; unfold blkP; rfl
@[irreducible] def slP (p : Option Addr) (l c sz : Nat) (vs : List Value) (h : H) (f : Nat -> Prop) : Prop := ∃ bs, OwnS h p l c sz vs bs /\ ∀ x, f x ↔ x ∈ bs
def slE (p : Option Addr) (l c sz : Nat) (vs : List Value) : Ent where
 tag := .sl p l c sz vs
 P := slP p l c sz vs
 st := by
  unfold slP; rintro h h' f ⟨bs, ⟨h1, h2, h3, h4⟩, e⟩ hs
  refine ⟨bs, ⟨h1, h2, h3, ?_⟩, e⟩
  rcases h4 with h4 | ⟨b, rest, e1, rfl, k, e2⟩
  ·exact Or.inl h4
  ·exact Or.inr ⟨b, rest, e1, rfl, k.of_eq (hs b ((e b).2 (by simp))), e2⟩
 lt := by unfold slP; rintro h f x ⟨bs, o, e⟩ hx; exact o.lt x ((e x).1 hx)
theorem slE_P {p : Option Addr} {l c sz : Nat} {vs : List Value} {h : H} {f : Nat -> Prop} : (slE p l c sz vs).P h f ↔ ∃ bs, OwnS h p l c sz vs bs /\ ∀ x, f x ↔ x ∈ bs := by
 show slP p l c sz vs h f ↔ _; unfold slP; rfl
@[irreducible] def exP {α : Type} (φ : α -> Prop) (F : α -> List Ent) (h : H) (f : Nat -> Prop) : Prop := ∃ a, φ a /\ SatX (F a) h f
def exE {α : Type} (n : Nat) (φ : α -> Prop) (F : α -> List Ent) : Ent where
 tag := .of n
 P := exP φ F
 st := by unfold exP; rintro h h' f ⟨a, ha, s⟩ hs; exact ⟨a, ha, s.st hs⟩
 lt := by unfold exP; rintro h f x ⟨a, ha, s⟩ hx; exact s.lt hx
theorem exE_P {α : Type} {n : Nat} {φ : α -> Prop} {F : α -> List Ent} {h : H} {f : Nat -> Prop} : (exE n φ F).P h f ↔ ∃ a, φ a /\ SatX (F a) h f := by
 show exP φ F h f ↔ _; unfold exP; rfl
theorem Sat.open_ {h0 h : H} {A : List Ent} {α : Type} {n : Nat} {φ : α -> Prop} {F : α -> List Ent} (s : Sat h0 (exE n φ F :: A) h) : ∃ a, φ a /\ Sat h0 (F a ++ A) h := by
 obtain ⟨s1, O, ⟨f, g, hp, hg, hd, ho⟩, s3⟩ := s
 obtain ⟨a, ha, s⟩ := exE_P.1 hp
 exact ⟨a, ha, s1, O, SatX.append.2 ⟨f, g, s, hg, hd, ho⟩, s3⟩
theorem Sat.close {h0 h : H} {A : List Ent} {α : Type} {n : Nat} {φ : α -> Prop} {F : α -> List Ent} (a : α) (ha : φ a) (s : Sat h0 (F a ++ A) h) : Sat h0 (exE n φ F :: A) h := by
 obtain ⟨s1, O, s2, s3⟩ := s
 obtain ⟨f, g, hf, hg, hd, ho⟩ := SatX.append.1 s2
 exact ⟨s1, O, ⟨f, g, exE_P.2 ⟨a, ha, hf⟩, hg, hd, ho⟩, s3⟩
def del : List Ent -> Nat -> List Ent
 | [], _ => []
 | _ :: A, 0 => A
 | x :: A, i + 1 => x :: del A i
theorem At.perm {A : List Ent} {i : Nat} {e : Ent} (a : At A i e) : A.Perm (e :: del A i) := by
 induction a with
 | z => exact .refl _
 | s _ ih => exact (ih.cons _).trans (.swap _ _ _)
theorem At.perm_put {A : List Ent} {i : Nat} {e : Ent} (a : At A i e) (x : Ent) : (x :: del A i).Perm (Vc.put A i x) := by
 induction a with
 | z => exact .refl _
 | s _ ih => exact (List.Perm.swap _ _ _).trans (ih.cons _)
theorem Sat.front {h0 h : H} {A : List Ent} (s : Sat h0 A h) {i : Nat} {e : Ent} (a : At A i e) : Sat h0 (e :: del A i) h := s.perm a.perm
theorem Sat.back {h0 h : H} {A : List Ent} {i : Nat} {e x : Ent} (a : At A i e) (s : Sat h0 (x :: del A i) h) : Sat h0 (Vc.put A i x) h := s.perm (a.perm_put x)
/-! ### Steps -/
theorem Sat.new {h0 h h' : H} {A : List Ent} (s : Sat h0 A h) {b : Nat} {vs : List Value} (n : hnew h b vs h') : Sat h0 (blk b vs :: A) h' :=
 s.add n.ext (blk_P.2 ⟨n.blk, fun _ => Iff.rfl⟩) fun x hx => by rw [hx, n.b]; exact Nat.le_refl _
theorem Sat.blkOf {h0 h : H} {A : List Ent} (s : Sat h0 A h) {i b : Nat} {vs : List Value} (a : At A i (blk b vs)) : Blk h b vs := by
 obtain ⟨f, hp, _⟩ := s.take a
 exact (blk_P.1 hp).1
theorem Sat.old {h0 h : H} {A : List Ent} (s : Sat h0 A h) {i b : Nat} {vs : List Value} (a : At A i (blk b vs)) : h0.size ≤ b := by
 obtain ⟨f, hp, hl⟩ := s.take a
 exact hl b (((blk_P.1 hp).2 b).2 rfl)
theorem Sat.ld {h0 h : H} {A : List Ent} (s : Sat h0 A h) {i b : Nat} {vs : List Value} (a : At A i (blk b vs)) {o : Nat} {v : Value} (e : vs[o]? = some v) : hc h ⟨b, o, none⟩ = some v := by
 rw [(s.blkOf a).hc, e]
theorem Sat.cs1 {h0 h : H} {A : List Ent} (s : Sat h0 A h) {i b : Nat} {vs : List Value} (a : At A i (blk b vs)) {o : Nat} {xs : List Value} (e : ∀ i, i < xs.length -> vs[o + i]? = xs[i]?) : hcs h ⟨b, o, none⟩ xs := (s.blkOf a).hcs e
theorem Sat.cs {h0 h : H} {A : List Ent} (s : Sat h0 A h) {i b : Nat} {vs : List Value} (a : At A i (blk b vs)) {o : Nat} {xs : List Value} (e : (vs.drop o).take xs.length = xs) : hcs h ⟨b, o, none⟩ xs := by
 refine s.cs1 a fun i hi => ?_
 have : ((vs.drop o).take xs.length)[i]? = xs[i]? := by rw [e]
 rw [List.getElem?_take_of_lt hi, List.getElem?_drop] at this
 exact this
theorem Sat.row {h0 h : H} {A : List Ent} (s : Sat h0 A h) {i b : Nat} {vs : List Value} (a : At A i (blk b vs)) {o : Nat} {k : IntKind} {ns : List Int} (e : ∀ i, i < ns.length -> vs[o + i]? = ns[i]?.map (Value.int k)) : hrow h ⟨b, o, none⟩ k ns := (s.blkOf a).hrow e
theorem Sat.can {h0 h : H} {A : List Ent} (s : Sat h0 A h) {i b : Nat} {vs : List Value} (a : At A i (blk b vs)) {o n : Nat} (e : o + n ≤ vs.length) : hcan h ⟨b, o, none⟩ n := (s.blkOf a).can e
theorem Sat.wr {h0 h h' : H} {A : List Ent} (s : Sat h0 A h) {i b : Nat} {vs : List Value} (a : At A i (blk b vs)) {o : Nat} {xs : List Value} (e : h' = hwr h ⟨b, o, none⟩ xs) : Sat h0 (Vc.put A i (blk b (splice vs o xs))) h' := by
 subst e
 refine s.upd a fun f hp => ?_
 obtain ⟨k, hf⟩ := blk_P.1 hp
 refine ⟨f, blk_P.2 ⟨k.wr o xs, hf⟩, fun _ => Or.inl, (Ext.wr h b o xs).mono fun x _ hx => (hf x).2 hx⟩
theorem Sat.sv {h0 h : H} {A : List Ent} (s : Sat h0 A h) {i : Nat} {p : Option Addr} {l c sz : Nat} {vs : List Value} (a : At A i (slE p l c sz vs)) : hsv h p sz l vs := by
 obtain ⟨f, hp, _⟩ := s.take a
 obtain ⟨bs, o, _⟩ := slE_P.1 hp
 exact o.hsv
theorem Sat.base {h0 h : H} {A : List Ent} (s : Sat h0 A h) {p : Option Addr} {sz l : Nat} {vs : List Value} (e : hsv h0 p sz l vs) : hsv h p sz l vs := hsv_ext s.1 e fun _ _ x => x
theorem Sat.own {h0 h h' : H} {A : List Ent} (s : Sat h0 A h) (x : Ext none_ h h') {p : Option Addr} {l c sz : Nat} {vs : List Value} {bs : List Nat} (o : OwnS h' p l c sz vs bs) (n : newB h bs) : Sat h0 (slE p l c sz vs :: A) h' :=
 s.add x (f := fun x => x ∈ bs) (slE_P.2 ⟨bs, o, fun _ => Iff.rfl⟩) n
theorem Sat.app {h0 h : H} {A : List Ent} (s : Sat h0 A h) {i : Nat} {p : Option Addr} {l c n sz : Nat} {old vs z : List Value} {B : Nat} (a : At A i (slE p l c sz old)) {K : Option Addr -> Nat -> Nat -> H -> Prop}
  (hl : vs.length = n * sz) (hz : z.length = sz) (hv : ∀ v, v ∈ vs -> v.oneCell' = true) (hb : (l + n) * B ≤ 2 ^ 47)
  (k : ∀ p' c' h', Sat h0 (Vc.put A i (slE p' (l + n) c' sz (old ++ vs))) h' -> K p' (l + n) c' h') : pApp h sz z B p l c n vs K := by
 obtain ⟨f, hp, _, hk⟩ := s.takeK a
 obtain ⟨bs, o, hf⟩ := slE_P.1 hp
 refine pApp_own o hl hz hv hb fun p' c' h' bs' hx ho hn => k _ _ _ ?_
 refine hk h' _ (fun x => x ∈ bs') (slE_P.2 ⟨bs', ho, fun _ => Iff.rfl⟩) (fun b hb => ?_) (hx.mono fun x _ hx => (hf x).2 hx)
 rcases hn b hb with h1 | h1
 ·exact Or.inl ((hf b).2 h1)
 ·exact Or.inr h1
theorem Sat.app_new {h0 h : H} {A : List Ent} (s : Sat h0 A h) {p : Option Addr} {n sz : Nat} {vs z : List Value} {B : Nat} {K : Option Addr -> Nat -> Nat -> H -> Prop}
  (hl : vs.length = n * sz) (hz : z.length = sz) (hv : ∀ v, v ∈ vs -> v.oneCell' = true) (hb : n * B ≤ 2 ^ 47)
  (k : ∀ p' c' h', Sat h0 (slE p' n c' sz vs :: A) h' -> K p' n c' h') : pApp h sz z B p 0 0 n vs K :=
 pApp_empty hl hz hv hb fun p' c' h' bs x o nb => k p' c' h' (s.own x o nb)
theorem At.app {A B : List Ent} {i : Nat} {e : Ent} (a : At A i e) : At (A ++ B) i e := by
 induction a with
 | z => exact .z
 | s _ ih => exact .s ih
theorem At.get {A : List Ent} {i : Nat} {e : Ent} (h : A[i]? = some e) : At A i e := by
 induction A generalizing i with
 | nil => simp at h
 | cons x A ih => cases i with
  | zero => simp at h; subst h; exact .z
  | succ i => exact .s (ih (by simpa using h))
theorem At.mem {A : List Ent} {e : Ent} (h : e ∈ A) : ∃ i, At A i e := by
 obtain ⟨i, hi⟩ := List.mem_iff_getElem?.1 h
 exact ⟨i, At.get hi⟩
def bools (bs : List Bool) : List Value := bs.map Value.bool
@[simp] theorem bools_length (bs : List Bool) : (bools bs).length = bs.length := by simp [bools]
@[simp] theorem bools_get (bs : List Bool) (i : Nat) : (bools bs)[i]? = bs[i]?.map Value.bool := by simp [bools]
abbrev Sl := Option Addr × Nat × Nat
abbrev Sl.v (s : Sl) : Value := .slice s.1 s.2.1 s.2.2
abbrev sE (s : Sl) (sz : Nat) (vs : List Value) : Ent := slE s.1 s.2.1 s.2.2 sz vs
structure Pg where
 sl : Sl
 bytes : List Int
def Pg.rd (h : H) (sz : Nat) (x : Pg) : Prop := hsv h x.sl.1 sz x.sl.2.1 (ints .u8 x.bytes)
def pgSl (l : List Pg) : List Value := l.map fun x => x.sl.v
def pgBytes (l : List Pg) : List (List Int) := l.map Pg.bytes
def rowsE (sz : Nat) (l : List Pg) : List Ent := l.map fun x => sE x.sl sz (ints .u8 x.bytes)
@[simp] theorem pgSl_length (l : List Pg) : (pgSl l).length = l.length := by simp [pgSl]
@[simp] theorem pgBytes_length (l : List Pg) : (pgBytes l).length = l.length := by simp [pgBytes]
def RdM (h : H) (sz : Nat) (a : Sl) (rows : List (List Int)) : Prop := ∃ pgs, rows = pgBytes pgs /\ hsv h a.1 1 a.2.1 (pgSl pgs) /\ ∀ x, x ∈ pgs -> x.rd h sz
def matL (sz : Nat) (a : Sl) (pgs : List Pg) : List Ent := sE a 1 (pgSl pgs) :: rowsE sz pgs
def matE (sz : Nat) (a : Sl) (rows : List (List Int)) : Ent := exE 1 (fun pgs => rows = pgBytes pgs) (matL sz a)
theorem RdM.ext {h h' : H} (x : Ext none_ h h') {sz : Nat} {a : Sl} {rows : List (List Int)} (r : RdM h sz a rows) : RdM h' sz a rows := by
 obtain ⟨pgs, h1, h2, h3⟩ := r
 exact ⟨pgs, h1, hsv_ext x h2 (fun _ _ y => y), fun y hy => hsv_ext x (h3 y hy) (fun _ _ y => y)⟩
theorem RdM.len {h : H} {sz : Nat} {a : Sl} {rows : List (List Int)} (r : RdM h sz a rows) : rows.length = a.2.1 := by
 obtain ⟨pgs, rfl, h2, _⟩ := r
 have := h2.1; simpa using this
theorem RdM.at {h : H} {sz : Nat} {a : Sl} {rows : List (List Int)} (r : RdM h sz a rows) {j : Nat} (hj : j < rows.length) :
  ∃ q x, a.1 = some q /\ hc h (q.add (j * 1)) = some (Sl.v x) /\ hsv h x.1 sz x.2.1 (ints .u8 rows[j]) := by
 obtain ⟨pgs, rfl, h2, h3⟩ := r
 have hj' : j < pgs.length := by simpa using hj
 have e : (pgSl pgs)[j]? = some (pgs[j].sl.v) := by simp [pgSl, hj']
 obtain ⟨q, hq, g⟩ := hsv_get h2 e
 refine ⟨q, pgs[j].sl, hq, by simpa using g, ?_⟩
 have := h3 pgs[j] (List.getElem_mem hj')
 simpa [Pg.rd, pgBytes] using this
theorem Sat.rdM {h0 h : H} {A : List Ent} (hs : Sat h0 A h) {i sz : Nat} {a : Sl} {rows : List (List Int)} (m : At A i (matE sz a rows)) : RdM h sz a rows := by
 obtain ⟨pgs, he, hs⟩ := (hs.front m).open_
 refine ⟨pgs, he, hs.sv (.z), ?_⟩
 intro x hx
 obtain ⟨j, hj⟩ := At.mem (A := rowsE sz pgs) (e := sE x.sl sz (ints .u8 x.bytes)) (List.mem_map_of_mem hx)
 exact hs.sv (.s hj.app)
theorem Sat.app_row {h0 h : H} {A : List Ent} {i sz : Nat} {p : Option Addr} {l c : Nat} {r : Sl} {rows : List (List Int)} {bs : List Int} {K : Option Addr -> Nat -> Nat -> H -> Prop}
  (hs : Sat h0 (sE r sz (ints .u8 bs) :: A) h) (m : At A i (matE sz (p, l, c) rows)) (hb : (l + 1) * 24 ≤ 2 ^ 47)
  (k : ∀ p' c' h', Sat h0 (Vc.put A i (matE sz (p', l + 1, c') (rows ++ [bs]))) h' -> K p' (l + 1) c' h') : pApp h 1 [.slice none 0 0] 24 p l c 1 [r.v] K := by
 obtain ⟨pgs, he, hs⟩ := (hs.front (m.s)).open_
 have hs : Sat h0 (sE (p, l, c) 1 (pgSl pgs) :: (rowsE sz pgs ++ (sE r sz (ints .u8 bs) :: del A i))) h := hs
 refine hs.app (.z) (by simp) rfl (by intro v hv; simp at hv; subst hv; rfl) hb ?_
 intro p' c' h' hs
 refine k p' c' h' (Sat.back m ?_)
 refine Sat.close (pgs ++ [⟨r, bs⟩]) (by simp [he, pgBytes]) ?_
 refine hs.perm ?_
 simp only [Vc.put, matL, rowsE, pgSl, List.map_append, List.map_cons, List.map_nil, List.cons_append, List.append_assoc, List.nil_append]
 exact .refl _
theorem Sat.mat_nil {h0 h : H} {A : List Ent} (hs : Sat h0 A h) (sz : Nat) (p : Option Addr) : Sat h0 (matE sz (p, 0, 0) [] :: A) h := by
 refine Sat.close [] rfl ?_
 refine hs.own (Ext.refl _ _) (bs := []) (OwnS.nil _ _ _) (by intro b hb; simp at hb)
theorem Sat.sl_nil {h0 h : H} {A : List Ent} (hs : Sat h0 A h) (sz : Nat) (p : Option Addr) : Sat h0 (sE (p, 0, 0) sz [] :: A) h :=
 hs.own (Ext.refl _ _) (bs := []) (OwnS.nil _ _ _) (by intro b hb; simp at hb)
theorem Sat.as_sl {h0 h : H} {A : List Ent} (hs : Sat h0 A h) {i b l sz : Nat} {vs : List Value} (m : At A i (blk b vs)) (hl : vs.length = l * sz) (hv : ∀ v, v ∈ vs -> v.oneCell' = true) :
  Sat h0 (Vc.put A i (slE (some ⟨b, 0, none⟩) l l sz vs)) h := by
 refine hs.as m fun f hp => ?_
 obtain ⟨k, hf⟩ := blk_P.1 hp
 refine slE_P.2 ⟨[b], ⟨hl, Nat.le_refl _, hv, Or.inr ⟨b, [], rfl, rfl, by simpa using k, by simp⟩⟩, fun x => ?_⟩
 rw [hf]; simp
theorem Sat.bv {h0 h : H} {A : List Ent} (hs : Sat h0 A h) {i b l sz : Nat} {vs : List Value} (m : At A i (blk b vs)) (hl : vs.length = l * sz) (hv : ∀ v, v ∈ vs -> v.oneCell' = true) :
  hsv h (some ⟨b, 0, none⟩) sz l vs := (hs.as_sl m hl hv).sv (m.put _)
theorem ints_one (k : IntKind) (ns : List Int) : ∀ v, v ∈ ints k ns -> v.oneCell' = true := by
 intro v hv
 simp only [ints, List.mem_map] at hv
 obtain ⟨n, _, rfl⟩ := hv; rfl
theorem bools_one (ns : List Bool) : ∀ v, v ∈ bools ns -> v.oneCell' = true := by
 intro v hv
 simp only [bools, List.mem_map] at hv
 obtain ⟨n, _, rfl⟩ := hv; rfl
theorem Sat.ofBlk {h0 h h' : H} {A : List Ent} (hs : Sat h0 A h) (x : Ext none_ h h') {b : Nat} {vs : List Value} (k : Blk h' b vs) (n : h.size ≤ b) : Sat h0 (blk b vs :: A) h' :=
 hs.add x (blk_P.2 ⟨k, fun _ => Iff.rfl⟩) fun y hy => by rw [hy]; exact n
/-! ### Slices whose first cell is known -/
theorem Sat.sl_some {h0 h : H} {A : List Ent} (hs : Sat h0 A h) {i : Nat} {p : Option Addr} {l c sz : Nat} {vs : List Value} (m : At A i (slE p l c sz vs)) (hl : 0 < l) : ∃ b, p = some ⟨b, 0, none⟩ := by
 obtain ⟨f, hp, _⟩ := hs.take m
 obtain ⟨bs, ⟨_, _, _, h4⟩, _⟩ := slE_P.1 hp
 rcases h4 with ⟨h1, _, _⟩ | ⟨b, _, h1, _⟩
 ·omega
 ·exact ⟨b, h1⟩
theorem Sat.sl_len {h0 h : H} {A : List Ent} (hs : Sat h0 A h) {i : Nat} {p : Option Addr} {l c sz : Nat} {vs : List Value} (m : At A i (slE p l c sz vs)) : vs.length = l * sz := (hs.sv m).1
theorem Sat.sld {h0 h : H} {A : List Ent} (hs : Sat h0 A h) {i b l c sz : Nat} {vs : List Value} (m : At A i (slE (some ⟨b, 0, none⟩) l c sz vs)) {o : Nat} {v : Value} (e : vs[o]? = some v) : hc h ⟨b, o, none⟩ = some v := by
 obtain ⟨q, hq, g⟩ := hsv_get (hs.sv m) e
 injection hq with hq; subst hq
 rwa [add_mk, Nat.zero_add] at g
theorem OwnS.blk' {h : H} {b l c sz : Nat} {vs : List Value} {bs : List Nat} (o : OwnS h (some ⟨b, 0, none⟩) l c sz vs bs) (hv : 0 < l) : bs = [b] /\ ∃ rest, Blk h b (vs ++ rest) /\ (c - l) * sz ≤ rest.length := by
 obtain ⟨h1, _, _, h4⟩ := o
 rcases h4 with ⟨r, _, _⟩ | ⟨b', rest, e, h5, k, h6⟩
 ·omega
 ·injection e with e; injection e with e; subst e
  exact ⟨h5, rest, k, h6⟩
theorem Sat.scan {h0 h : H} {A : List Ent} (hs : Sat h0 A h) {i b l c sz : Nat} {vs : List Value} (m : At A i (slE (some ⟨b, 0, none⟩) l c sz vs)) {o n : Nat} (hl : 0 < l) (e : o + n ≤ vs.length) : hcan h ⟨b, o, none⟩ n := by
 obtain ⟨f, hp, _⟩ := hs.take m
 obtain ⟨bs, o', _⟩ := slE_P.1 hp
 obtain ⟨_, rest, k, _⟩ := o'.blk' hl
 exact k.can (by simp; omega)
theorem splice_left (vs rest : List Value) (o : Nat) (xs : List Value) (h : o + xs.length ≤ vs.length) : splice (vs ++ rest) o xs = splice vs o xs ++ rest := by
 induction xs generalizing vs o with
 | nil => rfl
 | cons x r ih =>
  simp only [List.length_cons] at h
  rw [splice_cons, splice_cons, List.set_append_left _ _ (by omega), ih _ _ (by simp; omega)]
theorem splice_mem {vs xs : List Value} {o : Nat} {v : Value} (h : v ∈ splice vs o xs) : v ∈ vs ∨ v ∈ xs := by
 induction xs generalizing vs o with
 | nil => exact Or.inl h
 | cons x r ih =>
  rw [splice_cons] at h
  rcases ih h with h | h
  ·rcases List.mem_or_eq_of_mem_set h with h | h
   ·exact Or.inl h
   ·exact Or.inr (by simp [h])
  ·exact Or.inr (by simp [h])
theorem Sat.swr {h0 h h' : H} {A : List Ent} (hs : Sat h0 A h) {i b l c sz : Nat} {vs : List Value} (m : At A i (slE (some ⟨b, 0, none⟩) l c sz vs)) {o : Nat} {xs : List Value} (e : h' = hwr h ⟨b, o, none⟩ xs) (hl : 0 < l) (hx : o + xs.length ≤ vs.length)
  (h1 : ∀ v, v ∈ xs -> v.oneCell' = true) : Sat h0 (Vc.put A i (slE (some ⟨b, 0, none⟩) l c sz (splice vs o xs))) h' := by
 subst e
 refine hs.upd m fun f hp => ?_
 obtain ⟨bs, o', hf⟩ := slE_P.1 hp
 obtain ⟨e, rest, k, hr⟩ := o'.blk' hl
 subst e
 refine ⟨f, slE_P.2 ⟨[b], ⟨by rw [splice_length]; exact o'.1, o'.2.1, ?_, Or.inr ⟨b, rest, rfl, rfl, ?_, hr⟩⟩, hf⟩, fun _ => Or.inl, (Ext.wr h b o xs).mono fun x _ hx => (hf x).2 (by simp [hx])⟩
 ·intro v hv
  rcases splice_mem hv with hv | hv
  ·exact o'.2.2.1 v hv
  ·exact h1 v hv
 ·rw [← splice_left _ _ _ _ hx]; exact k.wr o xs
/-! ### Whole blocks -/
theorem Sat.wra {h0 h h' : H} {A : List Ent} (s : Sat h0 A h) {i b : Nat} {vs xs : List Value} (a : At A i (blk b vs)) (e : h' = hwr h ⟨b, 0, none⟩ xs) (hl : xs.length = vs.length) : Sat h0 (Vc.put A i (blk b xs)) h' := by
 have := s.wr a e
 rwa [splice_all _ _ hl] at this
theorem Sat.row0 {h0 h : H} {A : List Ent} (s : Sat h0 A h) {i b : Nat} {k : IntKind} {ns : List Int} (a : At A i (blk b (ints k ns))) : hrow h ⟨b, 0, none⟩ k ns :=
 s.row a fun i _ => by rw [Nat.zero_add, ints_get]
/-! ### Cells of a slice of slices -/
def cellAt (row : List Int) (k : Nat) : List Int := (row.drop (k * 32)).take 32
theorem cellAt_length {row : List Int} {k : Nat} (h : (k + 1) * 32 ≤ row.length) : (cellAt row k).length = 32 := by simp [cellAt]; omega
theorem cellAt_get (row : List Int) (k i : Nat) (hi : i < 32) : (cellAt row k)[i]? = row[k * 32 + i]? := by
 simp only [cellAt]
 rw [List.getElem?_take_of_lt hi, List.getElem?_drop]
theorem RdM.cell {h : H} {a : Sl} {rows : List (List Int)} (r : RdM h 32 a rows) {j k : Nat} (hj : j < rows.length) (hk : (k + 1) * 32 ≤ rows[j].length) :
  ∃ q x q', a.1 = some q /\ hc h (q.add (j * 1)) = some (Sl.v x) /\ x.2.1 * 32 = rows[j].length /\ x.1 = some q' /\ hrow h (q'.add (k * 32)) .u8 (cellAt rows[j] k) := by
 obtain ⟨q, x, h1, h2, h3⟩ := r.at hj
 have hl : x.2.1 * 32 = rows[j].length := by have := h3.1; simp at this; omega
 obtain ⟨e1, e2, e3⟩ := h3
 rcases e3 with e3 | ⟨q', hq, g⟩
 ·have : rows[j].length = 0 := by have := congrArg List.length e3; simpa using this
  omega
 ·refine ⟨q, x, q', h1, h2, hl, hq, ?_⟩
  intro i v hv
  have hi : i < 32 := by
   have := (List.getElem?_eq_some_iff.1 hv).1
   rw [ints_length, cellAt_length hk] at this; exact this
  rw [ints_get, cellAt_get _ _ _ hi] at hv
  have : (q'.add (k * 32)).add i = q'.add (k * 32 + i) := by
   cases q' with | mk b o s => unfold Addr.add; by_cases h1 : k * 32 = 0 <;> by_cases h2 : i = 0 <;> simp [h1, h2, Nat.add_assoc]
  rw [this]
  exact g _ _ (by rw [ints_get]; exact hv)
def rowSet (row : List Int) (k : Nat) (c : List Int) : List Int := row.take (k * 32) ++ c ++ row.drop (k * 32 + 32)
theorem rowSet_length {row c : List Int} {k : Nat} (hk : (k + 1) * 32 ≤ row.length) (hc : c.length = 32) : (rowSet row k c).length = row.length := by
 simp [rowSet, hc]; omega
theorem splice_rowSet {row c : List Int} {k : Nat} (hk : (k + 1) * 32 ≤ row.length) (hc : c.length = 32) : splice (ints .u8 row) (k * 32) (ints .u8 c) = ints .u8 (rowSet row k c) := by
 have e : row = row.take (k * 32) ++ (row.drop (k * 32)).take 32 ++ row.drop (k * 32 + 32) := by
  rw [List.append_assoc, ← List.drop_drop, List.take_append_drop, List.take_append_drop]
 have hl : (ints .u8 (row.take (k * 32))).length = k * 32 := by simp; omega
 have key := splice_append (ints .u8 (row.take (k * 32))) (ints .u8 ((row.drop (k * 32)).take 32)) (ints .u8 (row.drop (k * 32 + 32))) (ints .u8 c) (by simp [hc]; omega)
 rw [hl, ← ints_append, ← ints_append, ← e] at key
 rw [key]
 simp [rowSet]
/-! ### A row taken out of a slice of slices -/
theorem rowsE_put (sz : Nat) (pgs : List Pg) (j : Nat) (x : Pg) : put (rowsE sz pgs) j (sE x.sl sz (ints .u8 x.bytes)) = rowsE sz (pgs.set j x) := by
 induction pgs generalizing j with
 | nil => rfl
 | cons y r ih => cases j with
  | zero => rfl
  | succ j => simp only [rowsE, List.map_cons, put_succ, List.set_cons_succ]; congr 1; exact ih j
theorem rowsE_at (sz : Nat) (pgs : List Pg) (j : Nat) (hj : j < pgs.length) : At (rowsE sz pgs) j (sE pgs[j].sl sz (ints .u8 pgs[j].bytes)) := At.get (by simp [rowsE, hj])
theorem Sat.row_take {h0 h : H} {A : List Ent} {sz : Nat} {a : Sl} {rows : List (List Int)} (hs : Sat h0 (matE sz a rows :: A) h) {j : Nat} (hj : j < rows.length) :
  ∃ (x : Sl) (hd : List Value) (R : List Ent), hd[j]? = some x.v /\ Sat h0 (sE x sz (ints .u8 rows[j]) :: sE a 1 hd :: (A ++ R)) h /\
   ∀ h' bs B, Sat h0 (sE x sz (ints .u8 bs) :: sE a 1 hd :: (B ++ R)) h' -> Sat h0 (matE sz a (rows.set j bs) :: B) h' := by
 obtain ⟨pgs, he, hs⟩ := hs.open_
 have hj' : j < pgs.length := by rw [he] at hj; simpa using hj
 have m := rowsE_at sz pgs j hj'
 refine ⟨pgs[j].sl, pgSl pgs, del (rowsE sz pgs) j, by simp [pgSl, hj'], ?_, ?_⟩
 ·have e : pgs[j].bytes = rows[j] := by subst he; simp [pgBytes]
  rw [← e]
  refine hs.perm ?_
  have hp := (m.perm.append_right A).cons (sE a 1 (pgSl pgs))
  exact hp.trans ((List.Perm.swap _ _ _).trans ((List.perm_append_comm.cons _).cons _))
 ·intro h' bs B hs'
  refine Sat.close (pgs.set j ⟨pgs[j].sl, bs⟩) ?_ ?_
  ·subst he; simp [pgBytes, List.map_set]
  ·have e1 : pgSl (pgs.set j ⟨pgs[j].sl, bs⟩) = pgSl pgs := by
    apply List.ext_getElem?; intro k
    simp only [pgSl, List.getElem?_map, List.getElem?_set]
    split
    ·rename_i e; subst e; simp [hj']
    ·rfl
   refine hs'.perm ?_
   simp only [matL, e1]
   rw [← rowsE_put sz pgs j ⟨pgs[j].sl, bs⟩]
   refine (List.Perm.swap _ _ _).trans ?_
   refine List.Perm.cons _ ?_
   exact ((List.perm_append_comm.cons _)).trans ((m.perm_put _).append_right B)
set_option maxRecDepth 100000
def Rdt {D : Type} (enc : TypeId × Value -> D) (P : Program) (W : World) (t : TypeId) (cs : List Value) : Prop :=
 ∃ fuel x, DataW.trod enc P W 0 (fun _ => true) true fuel t cs = some x /\ ∀ n, n ∈ DataW.weights P t x.1 -> n ≤ reachBytes
inductive XSh where
 | int (k : IntKind) | bool | str | slc (e : TypeId) | row (k : IntKind) (n : Nat)
def XSh.size : XSh -> Nat
 | .row _ n => n
 | _ => 1
def xSize : List XSh -> Nat
 | [] => 0
 | s :: r => s.size + xSize r
def xFields (sh : TypeId -> Option (List XSh)) : Nat -> List Field -> Option (List XSh)
 | _, [] => some []
 | off, f :: fs => match Nat.beq f.offset off, sh f.type with
  | true, some s => (xFields sh (off + xSize s) fs).map (s ++ ·)
  | _, _ => none
def xsh (P : Program) : Nat -> TypeId -> Option (List XSh)
 | 0, _ => none
 | d + 1, t => match P.underlying t with
  | some (.int k) => some [.int k]
  | some .bool => some [.bool]
  | some .string => some [.str]
  | some (.slice e) => some [.slc e]
  | some (.array n e) => match P.underlying e, Nat.beq (P.cellsOf e) 1, Nat.beq (P.cellsOf t) n with
   | some (.int k), true, true => some [.row k n]
   | _, _, _ => none
  | some (.struct fs) => match xFields (fun u => match xsh P d u with | some s => (match Nat.beq (P.cellsOf u) (xSize s) with | true => some s | false => none) | none => none) 0 fs.toList with
   | some s => match Nat.beq (P.cellsOf t) (xSize s) with | true => some s | false => none
   | none => none
  | _ => none
def Sli {D : Type} (enc : TypeId × Value -> D) (P : Program) (W : World) (e : TypeId) (p : Option Addr) (l c : Nat) : Prop :=
 l ≤ c /\ c * P.bytesOf e ≤ reachBytes /\ (p = none -> l = 0 /\ c = 0) /\
  ∀ i, i < l -> ∃ a es, p = some a /\ es.length = P.cellsOf e /\ hcs W.heap (a.add (i * P.cellsOf e)) es /\ Rdt enc P W e es
def has (k : IntKind) (n : Int) : Prop := k.min ≤ n /\ n ≤ k.max
theorem has_u8 {n : Int} (h : has .u8 n) : 0 ≤ n /\ n < 256 := by
 have h1 : IntKind.u8.min = 0 := rfl
 have h2 : IntKind.u8.max = 255 := by decide
 unfold has at h; omega
theorem has_i64 {n : Int} (h : has .i64 n) : -(2 ^ 63) ≤ n /\ n < 2 ^ 63 := by
 have h1 : IntKind.i64.min = -(2 ^ 63) := by decide
 have h2 : IntKind.i64.max = 2 ^ 63 - 1 := by decide
 unfold has at h; omega
def XM {D : Type} (enc : TypeId × Value -> D) (P : Program) (W : World) : List XSh -> List Value -> Prop
 | [], cs => cs = []
 | .int k :: r, cs => ∃ n rest, cs = .int k n :: rest /\ has k n /\ XM enc P W r rest
 | .bool :: r, cs => ∃ b rest, cs = .bool b :: rest /\ XM enc P W r rest
 | .str :: r, cs => ∃ s rest, cs = .string s :: rest /\ s.size ≤ reachBytes /\ XM enc P W r rest
 | .slc e :: r, cs => ∃ p l c rest, cs = .slice p l c :: rest /\ Sli enc P W e p l c /\ XM enc P W r rest
 | .row k n :: r, cs => ∃ ns rest, cs = ints k ns ++ rest /\ ns.length = n /\ (∀ x, x ∈ ns -> has k x) /\ XM enc P W r rest
section
variable {D : Type} {enc : TypeId × Value -> D} {P : Program} {W : World}
theorem XM.append : ∀ {s1 s2 : List XSh} {c1 c2 : List Value}, XM enc P W s1 c1 -> XM enc P W s2 c2 -> XM enc P W (s1 ++ s2) (c1 ++ c2)
 | [], s2, c1, c2, h1, h2 => by simp only [XM] at h1; subst h1; exact h2
 | .int k :: r, s2, c1, c2, h1, h2 => by obtain ⟨n, rest, rfl, hn, h⟩ := h1; exact ⟨n, rest ++ c2, rfl, hn, XM.append h h2⟩
 | .bool :: r, s2, c1, c2, h1, h2 => by obtain ⟨n, rest, rfl, h⟩ := h1; exact ⟨n, rest ++ c2, rfl, XM.append h h2⟩
 | .str :: r, s2, c1, c2, h1, h2 => by obtain ⟨n, rest, rfl, hn, h⟩ := h1; exact ⟨n, rest ++ c2, rfl, hn, XM.append h h2⟩
 | .slc e :: r, s2, c1, c2, h1, h2 => by obtain ⟨p, l, c, rest, rfl, hn, h⟩ := h1; exact ⟨p, l, c, rest ++ c2, rfl, hn, XM.append h h2⟩
 | .row k n :: r, s2, c1, c2, h1, h2 => by obtain ⟨ns, rest, rfl, hn, hh, h⟩ := h1; exact ⟨ns, rest ++ c2, by simp, hn, hh, XM.append h h2⟩
theorem XM.len : ∀ {s : List XSh} {c : List Value}, XM enc P W s c -> c.length = xSize s
 | [], c, h => by simp only [XM] at h; subst h; rfl
 | .int k :: r, c, h => by obtain ⟨n, rest, rfl, _, h⟩ := h; simp [xSize, XSh.size, XM.len h]; omega
 | .bool :: r, c, h => by obtain ⟨n, rest, rfl, h⟩ := h; simp [xSize, XSh.size, XM.len h]; omega
 | .str :: r, c, h => by obtain ⟨n, rest, rfl, _, h⟩ := h; simp [xSize, XSh.size, XM.len h]; omega
 | .slc e :: r, c, h => by obtain ⟨p, l, c, rest, rfl, _, h⟩ := h; simp [xSize, XSh.size, XM.len h]; omega
 | .row k n :: r, c, h => by obtain ⟨ns, rest, rfl, hn, _, h⟩ := h; simp [xSize, XSh.size, XM.len h, hn]
theorem wf_has {k : IntKind} {n : Int} (h : (Lit.int k n).wf = true) : has k n := by
 simp only [Lit.wf, Bool.and_eq_true, decide_eq_true_eq] at h
 exact h
theorem cells_hcs {a : Addr} {n : Nat} {es : List Value} (h : W.cells? 0 a n = some es) : es.length = n /\ hcs W.heap a es := by
 simp only [World.cells?, Nat.zero_le, if_true] at h
 have hl : es.length = n := by simpa using mapM_some_length h
 refine ⟨hl, fun i v hv => ?_⟩
 have hi : i < n := by have := (List.getElem?_eq_some_iff.1 hv).1; omega
 have := mapM_some_get h i i (by simp [hi])
 rw [hv, cell_hc] at this
 exact this
theorem weights_mem_all {e : TypeId} : ∀ {ds : List (DataW D)} {d : DataW D}, d ∈ ds -> ∀ n, n ∈ DataW.weights P e d -> n ∈ DataW.weightsAll P e ds
 | d0 :: ds, d, hd, n, hn => by
  simp only [DataW.weightsAll, List.mem_append]
  rcases List.mem_cons.1 hd with rfl | hd
  ·exact Or.inl hn
  ·exact Or.inr (weights_mem_all hd n hn)
theorem Rdt.slice {t e : TypeId} {cs : List Value} (u : P.underlying t = some (.slice e)) (h : Rdt enc P W t cs) : ∃ p l c, cs = [.slice p l c] /\ Sli enc P W e p l c := by
 obtain ⟨fuel, x, h, hw⟩ := h
 rcases DataW.trod_slice u h with ⟨rfl, rfl⟩ | ⟨a, len, cap, elems, rest, n, rfl, rfl, rfl, _, hl, hc, he, h1, h2, _⟩
 ·exact ⟨none, 0, 0, rfl, Nat.le_refl _, by simp, fun _ => ⟨rfl, rfl⟩, fun i hi => by omega⟩
 ·refine ⟨some a, len, cap, rfl, hl, ?_, by simp, ?_⟩
  ·obtain ⟨h3, _⟩ := h2 rfl
   have := hw ((elems.length + rest.length) * P.bytesOf e) (by simp [DataW.weights, u])
   rw [he, h3] at this
   rwa [show len + (cap - len) = cap by omega] at this
  ·intro i hi
   have h4 := h1 i hi
   have hei : i < elems.length := by omega
   rw [List.getElem?_eq_getElem hei] at h4
   obtain ⟨es, h5, h6⟩ := Option.bind_eq_some_iff.1 h4
   obtain ⟨h7, h8⟩ := cells_hcs h5
   refine ⟨a, es, rfl, h7, h8, n, elems[i], h6, fun m hm => hw m ?_⟩
   simp only [DataW.weights, u, List.mem_cons, List.mem_append]
   exact Or.inr (Or.inl (weights_mem_all (List.mem_map_of_mem (List.getElem_mem hei)) m hm))
theorem array_ints {t e : TypeId} {n : Nat} {k : IntKind} {cs : List Value} (u : P.underlying t = some (.array n e)) (ue : P.underlying e = some (.int k)) (h1 : P.cellsOf e = 1) (h2 : P.cellsOf t = n) (h : Rdt enc P W t cs) :
  ∃ ns : List Int, cs = ints k ns /\ ns.length = n /\ ∀ x, x ∈ ns -> has k x := by
 obtain ⟨fuel, x, h, _⟩ := h
 cases fuel with
 | zero => simp [DataW.trod] at h
 | succ f =>
  have key : cs.length = n /\ ∀ i, i < n -> ∃ m, cs[i]? = some (.int k m) /\ has k m := by
   unfold DataW.trod at h
   rw [u] at h
   have h : (if cs.length = P.cellsOf t then ((List.range n).mapM fun i => DataW.trod enc P W 0 (fun _ => true) true f e ((cs.drop (i * P.cellsOf e)).take (P.cellsOf e))).map fun xs => (DataW.agg (xs.map (·.1)), xs.flatMap (·.2)) else none) = some x := by
    split at h <;> simp_all
   split at h
   ·rename_i hl
    obtain ⟨xs, hm, _⟩ := Option.map_eq_some_iff.1 h
    refine ⟨by omega, fun i hi => ?_⟩
    have hg := mapM_some_get hm i i (by simp [hi])
    have hxl : xs.length = n := by simpa using mapM_some_length hm
    rw [List.getElem?_eq_getElem (show i < xs.length by omega)] at hg
    obtain ⟨m, hm1, _, hm2⟩ := DataW.trod_int ue hg
    rw [h1, Nat.mul_one] at hm1
    refine ⟨m, ?_, wf_has hm2⟩
    have : ((cs.drop i).take 1)[0]? = some (.int k m) := by rw [hm1]; rfl
    rw [List.getElem?_take_of_lt (by omega), List.getElem?_drop] at this
    simpa using this
   ·cases h
  obtain ⟨hl, hc⟩ := key
  refine ⟨cs.map fun v => match v with | .int _ m => m | _ => 0, ?_, by simpa using hl, ?_⟩
  ·apply List.ext_getElem?
   intro i
   rw [ints_get, List.getElem?_map, Option.map_map]
   by_cases hi : i < n
   ·obtain ⟨m, e, _⟩ := hc i hi
    rw [e]; rfl
   ·rw [List.getElem?_eq_none (by omega)]; rfl
  ·intro x hx
   obtain ⟨v, hv, rfl⟩ := List.mem_map.1 hx
   obtain ⟨i, hi, rfl⟩ := List.mem_iff_getElem.1 hv
   obtain ⟨m, e, hm⟩ := hc i (by omega)
   rw [List.getElem?_eq_getElem hi] at e
   injection e with e
   rw [e]; exact hm
theorem xFields_XM {sh : TypeId -> Option (List XSh)} {cs : List Value} (ih : ∀ u s c, sh u = some s -> Rdt enc P W u c -> XM enc P W s c) (hz : ∀ u s, sh u = some s -> P.cellsOf u = xSize s) :
  ∀ (fs : List Field) (off : Nat) (s : List XSh), xFields sh off fs = some s -> off + xSize s ≤ cs.length -> (∀ f, f ∈ fs -> Rdt enc P W f.type ((cs.drop f.offset).take (P.cellsOf f.type))) -> XM enc P W s ((cs.drop off).take (xSize s))
 | [], off, s, h, _, _ => by simp only [xFields, Option.some.injEq] at h; subst h; simp [XM, xSize]
 | f :: fs, off, s, h, hl, hf => by
  unfold xFields at h
  split at h
  ·rename_i s1 ho hs1
   obtain ⟨s2, h2, rfl⟩ := Option.map_eq_some_iff.1 h
   have ho : f.offset = off := Nat.eq_of_beq_eq_true ho
   have hx : xSize (s1 ++ s2) = xSize s1 + xSize s2 := by
    clear h h2 hs1 hl
    induction s1 with
    | nil => simp [xSize]
    | cons a r ihr => simp [xSize, ihr]; omega
   rw [hx] at hl ⊢
   have r1 := ih _ _ _ hs1 (hf f (by simp))
   rw [ho, hz _ _ hs1] at r1
   have r2 := xFields_XM ih hz fs (off + xSize s1) s2 h2 (by omega) (fun g hg => hf g (by simp [hg]))
   have e : (cs.drop off).take (xSize s1 + xSize s2) = (cs.drop off).take (xSize s1) ++ (cs.drop (off + xSize s1)).take (xSize s2) := by
    rw [List.take_add, List.drop_drop]
   rw [e]
   exact r1.append r2
  ·cases h
theorem Rdt.xm : ∀ (d : Nat) (t : TypeId) (s : List XSh) (cs : List Value), xsh P d t = some s -> Rdt enc P W t cs -> XM enc P W s cs
 | 0, t, s, cs, h, _ => by cases h
 | d + 1, t, s, cs, h, r => by
  unfold xsh at h
  split at h
  ·rename_i k u
   injection h with h; subst h
   obtain ⟨fuel, x, r, _⟩ := r
   obtain ⟨n, rfl, _, hn⟩ := DataW.trod_int u r
   exact ⟨n, [], rfl, wf_has hn, rfl⟩
  ·rename_i u
   injection h with h; subst h
   obtain ⟨fuel, x, r, _⟩ := r
   obtain ⟨n, rfl, _⟩ := DataW.trod_bool u r
   exact ⟨n, [], rfl, rfl⟩
  ·rename_i u
   injection h with h; subst h
   obtain ⟨fuel, x, r, hw⟩ := r
   obtain ⟨n, rfl, rfl, _⟩ := DataW.trod_string u r
   refine ⟨n, [], rfl, ?_, rfl⟩
   have := hw n.data.toList.length (by simp [DataW.weights])
   simpa using this
  ·rename_i e u
   injection h with h; subst h
   obtain ⟨p, l, c, rfl, hs⟩ := Rdt.slice u r
   exact ⟨p, l, c, [], rfl, hs, rfl⟩
  ·rename_i n e u
   split at h
   ·rename_i k ue h1 h2
    injection h with h; subst h
    obtain ⟨ns, rfl, hn, hh⟩ := array_ints u ue (Nat.eq_of_beq_eq_true h1) (Nat.eq_of_beq_eq_true h2) r
    exact ⟨ns, [], by simp, hn, hh, rfl⟩
   ·cases h
  ·rename_i fs u
   split at h
   ·rename_i s' hx
    split at h
    ·rename_i hz
     injection h with h; subst h
     have hz := Nat.eq_of_beq_eq_true hz
     obtain ⟨fuel, x, r, hw⟩ := r
     obtain ⟨xs, n, rfl, rfl, hl, hxl, hf⟩ := DataW.trod_struct u r
     have := xFields_XM (enc := enc) (W := W) (cs := cs) (fun u s c hu hr => by
       split at hu
       ·rename_i s1 hs1
        split at hu
        ·injection hu with hu; subst hu; exact Rdt.xm d u _ c hs1 hr
        ·cases hu
       ·cases hu) (fun u s hu => by
       split at hu
       ·split at hu
        ·rename_i hb; injection hu with hu; subst hu; exact Nat.eq_of_beq_eq_true hb
        ·cases hu
       ·cases hu) fs.toList 0 s' hx (by omega) (fun f hfm => by
       obtain ⟨i, hi, rfl⟩ := List.mem_iff_getElem.1 hfm
       have hi2 : i < fs.size := by simpa using hi
       have h1 := hf i fs[i] (by simp [hi2])
       rw [List.getElem?_eq_getElem (show i < xs.length by omega)] at h1
       have e : fs.toList[i] = fs[i] := by simp
       rw [e]
       refine ⟨n, _, h1, fun m hm => hw m ?_⟩
       simp only [DataW.weights, u]
       exact DataW.weights_mem_each (j := i) (by simp [hi2]) (by simp [show i < xs.length by omega]) m hm)
     rw [List.drop_zero, List.take_of_length_le (by omega)] at this
     exact this
    ·cases h
   ·cases h
  ·cases h
end
end Go.Vc
end
section
namespace Go.Vc
open Go.ChangeShapes Go.WideShapes Go.ChangeAt Go.RowKit
set_option maxRecDepth 100000
section
variable {D : Type} {enc : TypeId × Value -> D} {P : Program} {W : World}
theorem below_of {W W' : World} (r : Rest W W') (x : Ext none_ W.heap W'.heap) (ho : True) : Below W.heap.size W W' :=
 ⟨r.2.1, r.1, r.2.2, x.size, fun k hk => x.eq k hk (fun y => y)⟩
theorem law_post {f : Func} {s : ChangeSpec} {W' : World} {args : Array Value} {ds gs : List (DataW D)} {before : List MemPlace} {tb : TypeId} (hl : laidOutB P = true) (hvars : s.vars = [])
  (hty : ∀ t, t ∈ f.params.toList -> P.readableRec t = true /\ t < P.types.size) (hres : f.resultTypes = #[tb]) (ub : P.underlying tb = some .bool) (hfn : s.fn D (ds ++ gs) = { results := [.lit (.bool true)], args := ds })
  (hW : DataW.Whole enc P f.params.toList s.vars false W args.toList ds gs before) (hb : Below W.heap.size W W') : s.post enc P f false true false false W args (.bool true) W' := by
 have hW0 := hW
 have hlt := hW.lt
 obtain ⟨p, q, h1, h2, rfl, h3, h4⟩ := hW
 rw [hvars] at h2
 obtain ⟨rfl, rfl⟩ := trodVars_none h2
 rw [List.append_nil] at hlt
 refine ⟨ds, [], p ++ [], [], p, [], hW0, ?_, ?_, ?_, hb.frame _, fun h => by cases h⟩
 ·rw [hfn, hres]
  exact trodAll_mk1 (shut_bool ub true)
 ·rw [hfn]
  have key : ∀ (ts : List TypeId) (vs : List Value) (ds : List (DataW D)) (p : List MemPlace), (∀ t, t ∈ ts -> P.readableRec t = true /\ t < P.types.size) -> (∀ x ∈ p, x.block < W.heap.size) ->
    DataW.TrodAll enc P W 0 (fun _ => true) true ts vs ds p -> DataW.TrodAll enc P W' 0 (fun b => decide (b < W.heap.size)) true ts vs ds p := by
   intro ts
   induction ts with
   | nil => intro vs ds p _ _ h; cases vs <;> cases ds <;> exact h
   | cons t ts ih =>
    intro vs ds p ht hp h
    cases vs with
    | nil => cases h
    | cons v vs => cases ds with
     | nil => cases h
     | cons d ds =>
      obtain ⟨a, b, ha, hb', rfl⟩ := h
      exact ⟨a, b, Below.trod hl (ht t (by simp)).1 (ht t (by simp)).2 ha hb (fun x hx => hp x (by simp [hx])), ih vs ds b (fun t' h' => ht t' (by simp [h'])) (fun x hx => hp x (by simp [hx])) hb', rfl⟩
  exact key _ _ _ _ hty hlt h1
 ·rw [hfn, hvars]; rfl
theorem whole_rdt {ts : List TypeId} {vs : List Value} {ds gs : List (DataW D)} {vars : List TypeId}
  (h : ∃ p, DataW.TrodAll enc P W 0 (fun _ => true) true ts vs ds p) (hz : (DataW.weightsEach P (ts ++ vars) (ds ++ gs)).all (· ≤ reachBytes) = true) :
  ∀ (j : Nat) (t : TypeId) (v : Value), ts[j]? = some t -> vs[j]? = some v -> Rdt enc P W t v.cells.toList := by
 obtain ⟨p, h⟩ := h
 induction ts generalizing vs ds p with
 | nil => intro j t v ht; simp at ht
 | cons t0 ts ih =>
  cases vs with
  | nil => cases h
  | cons v0 vs => cases ds with
   | nil => cases h
   | cons d ds =>
    obtain ⟨a, b, ha, hb', rfl⟩ := h
    simp only [List.cons_append, DataW.weightsEach, List.all_append, Bool.and_eq_true] at hz
    intro j t v ht hv
    cases j with
    | zero =>
     simp only [List.getElem?_cons_zero, Option.some.injEq] at ht hv
     subst ht; subst hv
     obtain ⟨fuel, hf⟩ := ha
     exact ⟨fuel, _, hf, fun n hn => by simpa using List.all_eq_true.1 hz.1 n hn⟩
    | succ j => exact ih hz.2 b hb' j t v (by simpa using ht) (by simpa using hv)
theorem okw_agg {t : TypeId} {v : Value} {base : Nat} {r : Reach} (u : (match P.underlying t with | some (.struct _) => true | some (.array _ _) => true | _ => false) = true) (h : Value.okWide P W r base t v) : v = .agg v.cells := by
 unfold Value.okWide at h
 split at h
 ·obtain ⟨cs, rfl, _⟩ := h; rfl
 ·obtain ⟨cs, rfl, _⟩ := h; rfl
 ·rename_i h1 h2
  split at u
  ·rename_i h3; exact absurd h3 (h1 _)
  ·rename_i h3; exact absurd h3 (h2 _ _)
  ·cases u
theorem okw_one {t : TypeId} {v : Value} {base : Nat} {r : Reach} (u : (match P.underlying t with | some (.struct _) => false | some (.array _ _) => false | some _ => true | none => false) = true) (h : Value.okWide P W r base t v) {x : Value} (hx : v.cells.toList = [x]) : v = x := by
 cases v with
 | agg cs =>
  exfalso
  unfold Value.okWide at h
  split at h
  ·rename_i h1; rw [h1] at u; cases u
  ·rename_i h1; rw [h1] at u; cases u
  ·unfold Cell.okWide at h
   split at h <;> first | (simp_all; done) | skip
   unfold Cell.ok at h
   split at h <;> simp_all
 | _ => simpa [Value.cells] using hx
theorem XM.one : ∀ {s : List XSh} {c : List Value}, XM enc P W s c -> ∀ v, v ∈ c -> v.oneCell' = true
 | [], c, h => by simp only [XM] at h; subst h; simp
 | .int k :: r, c, h => by
  obtain ⟨n, rest, rfl, _, h⟩ := h; intro v hv
  rcases List.mem_cons.1 hv with rfl | hv
  ·rfl
  ·exact XM.one h v hv
 | .bool :: r, c, h => by
  obtain ⟨n, rest, rfl, h⟩ := h; intro v hv
  rcases List.mem_cons.1 hv with rfl | hv
  ·rfl
  ·exact XM.one h v hv
 | .str :: r, c, h => by
  obtain ⟨n, rest, rfl, _, h⟩ := h; intro v hv
  rcases List.mem_cons.1 hv with rfl | hv
  ·rfl
  ·exact XM.one h v hv
 | .slc e :: r, c, h => by
  obtain ⟨p, l, c, rest, rfl, _, h⟩ := h; intro v hv
  rcases List.mem_cons.1 hv with rfl | hv
  ·rfl
  ·exact XM.one h v hv
 | .row k n :: r, c, h => by
  obtain ⟨ns, rest, rfl, _, _, h⟩ := h; intro v hv
  rcases List.mem_append.1 hv with hv | hv
  ·exact ints_one _ _ v hv
  ·exact XM.one h v hv
theorem Sli.els {e : TypeId} {p : Option Addr} {l c d : Nat} {s : List XSh} (hs : Sli enc P W e p l c) (hx : xsh P d e = some s) :
  ∃ ess : List (List Value), ess.length = l /\ (∀ es, es ∈ ess -> es.length = P.cellsOf e /\ XM enc P W s es) /\ hsv W.heap p (P.cellsOf e) l ess.flatten /\
   ∀ i (hi : i < ess.length), ∃ a, p = some a /\ hcs W.heap (a.add (i * P.cellsOf e)) ess[i] := by
 obtain ⟨_, _, hn, hi⟩ := hs
 have key : ∀ m, m ≤ l -> ∃ ess : List (List Value), ess.length = m /\ (∀ es, es ∈ ess -> es.length = P.cellsOf e /\ XM enc P W s es) /\ ∀ i (hi : i < ess.length), ∃ a, p = some a /\ hcs W.heap (a.add (i * P.cellsOf e)) ess[i] := by
  intro m
  induction m with
  | zero => intro _; exact ⟨[], rfl, by simp, fun i hi => by simp at hi⟩
  | succ m ih =>
   intro hm
   obtain ⟨ess, h1, h2, h3⟩ := ih (by omega)
   obtain ⟨a, es, ha, hl, hc, hr⟩ := hi m (by omega)
   refine ⟨ess ++ [es], by simp [h1], ?_, ?_⟩
   ·intro x hxm
    rcases List.mem_append.1 hxm with hxm | hxm
    ·exact h2 x hxm
    ·simp at hxm; subst hxm; exact ⟨hl, Rdt.xm d e s x hx hr⟩
   ·intro i hi
    by_cases hie : i < ess.length
    ·rw [List.getElem_append_left hie]; exact h3 i hie
    ·have : i = m := by simp at hi; omega
     subst this
     refine ⟨a, ha, ?_⟩
     rw [List.getElem_append_right (by omega)]
     simpa [h1] using hc
 obtain ⟨ess, h1, h2, h3⟩ := key l (Nat.le_refl _)
 refine ⟨ess, h1, h2, ⟨?_, ?_, ?_⟩, h3⟩
 ·have : ∀ (ess : List (List Value)), (∀ es, es ∈ ess -> es.length = P.cellsOf e) -> ess.flatten.length = ess.length * P.cellsOf e := by
   intro ess
   induction ess with
   | nil => intro _; simp
   | cons x r ih => intro h; simp [ih (fun y hy => h y (by simp [hy])), h x (by simp), Nat.succ_mul]; omega
  rw [this ess (fun es he => (h2 es he).1), h1]
 ·intro v hv
  obtain ⟨es, he, hv⟩ := List.mem_flatten.1 hv
  exact (h2 es he).2.one v hv
 ·cases p with
  | none =>
   left
   have := (hn rfl).1
   rw [this] at h1
   rw [List.eq_nil_of_length_eq_zero h1]; rfl
  | some a =>
   right
   refine ⟨a, rfl, ?_⟩
   have key : ∀ (k : Nat) (fs : List (List Value)), ess.drop k = fs -> ∀ i v, fs.flatten[i]? = some v -> hc W.heap (a.add (k * P.cellsOf e + i)) = some v := by
    intro k fs
    induction fs generalizing k with
    | nil => intro _ i v hv; simp at hv
    | cons x r ih =>
     intro hd i v hv
     have hk : k < ess.length := by
      rcases Nat.lt_or_ge k ess.length with h | h
      ·exact h
      ·rw [List.drop_eq_nil_of_le h] at hd; cases hd
     rw [List.drop_eq_getElem_cons hk] at hd
     injection hd with hx1 hx2
     have hxl : x.length = P.cellsOf e := by rw [← hx1]; exact (h2 _ (List.getElem_mem hk)).1
     obtain ⟨a', ha', hcx⟩ := h3 k hk
     injection ha' with ha'; subst ha'
     rw [hx1] at hcx
     simp only [List.flatten_cons] at hv
     by_cases hi : i < x.length
     ·rw [List.getElem?_append_left hi] at hv
      have := hcx i v hv
      have e2 : (a.add (k * P.cellsOf e)).add i = a.add (k * P.cellsOf e + i) := by
       cases a with | mk b o sp => unfold Addr.add; by_cases h1 : k * P.cellsOf e = 0 <;> by_cases h2 : i = 0 <;> simp [h1, h2, Nat.add_assoc]
      rw [e2] at this; exact this
     ·rw [List.getElem?_append_right (by omega)] at hv
      have := ih (k + 1) hx2 _ _ hv
      rw [Nat.succ_mul] at this
      rw [show k * P.cellsOf e + i = k * P.cellsOf e + P.cellsOf e + (i - x.length) by omega]
      exact this
   intro i v hv
   have := key 0 ess (by simp) i v hv
   simpa using this
theorem trodAll_len : ∀ {ts : List TypeId} {vs : List Value} {ds : List (DataW D)} {p : List MemPlace} {W : World} {base : Nat} {sp : Nat -> Bool} {hd : Bool}, DataW.TrodAll enc P W base sp hd ts vs ds p -> vs.length = ts.length /\ ds.length = ts.length
 | [], vs, ds, p, W, base, sp, hd, h => by obtain ⟨rfl, rfl, rfl⟩ := trodAll_nil h; exact ⟨rfl, rfl⟩
 | t :: ts, vs, ds, p, W, base, sp, hd, h => by
  obtain ⟨v, vs', d, ds', p', q', rfl, rfl, rfl, _, hr⟩ := trodAll_cons h
  have := trodAll_len hr
  simp [this.1, this.2]
def ArgsOk (enc : TypeId × Value -> D) (P : Program) (W : World) (base : Nat) (ts : List TypeId) (vs : List Value) : Prop :=
 vs.length = ts.length /\ ∀ (j : Nat) (t : TypeId) (v : Value), ts[j]? = some t -> vs[j]? = some v -> Rdt enc P W t v.cells.toList /\ Value.okWide P W .any base t v
abbrev CallsTrue (P : Program) (f : FuncId) (vs : List Value) (W : World) : Prop := callsV P f vs (fun rs h' => rs = [DV.one (.bool true)] /\ Ext none_ W.heap h') W.heap
end
end Go.Vc
end
section
namespace Go.Proofs.YteedolonhdbieaaGreatDoor
open Go Go.Vc Go.ChangeShapes Go.WideShapes Go.ChangeAt Go.RowKit
set_option maxRecDepth 100000
theorem Tryz.own : ownKnob Tryz.prog.godebug = none := by kernel_rfl
theorem Tryz.laidOut : laidOutB Tryz.prog = true := by kernel_rfl
theorem Tryz.ubool : Tryz.prog.underlying 4 = some .bool := by kernel_rfl
theorem bool_and {a b : Bool} (ha : a = true) (hb : b = true) : (a && b) = true := by rw [ha, hb]; rfl
theorem Tryz.et : Tryz.prog.globalNamed "errors.errorType" = some 0 := by kernel_rfl
theorem Tryz.rt : (Tryz.prog.cutTypes.find? (·.1 == "internal/reflectlite.rtype")).map (·.2) = some 307 := by kernel_rfl
theorem Tryz.oneRow : ((List.range 424).filter fun t => Tryz.prog.rowNamed t [101, 114, 114, 111, 114]) = [51] := by kernel_rfl
theorem Tryz.size : Tryz.prog.types.size = 424 := by kernel_rfl
abbrev laidL {D : Type} : List (String × DataW D) := [("errors.errorType", Rows.laid_errors_errorType)]
theorem handle_of_laid {W : World} (h : laidMetH Tryz.prog laidL W) : hc W.heap ⟨0, 0, none⟩ = some errTypeV := by
 have h' : laidMet Tryz.prog [] W /\ handlesMet Tryz.prog laidL W := h
 obtain ⟨name, u, ty, e1, e2, e3, e4, e5⟩ := h'.2 _ (List.mem_singleton.2 rfl)
 have en : name = [101, 114, 114, 111, 114] := (Option.some.inj e1).symm
 subst en
 obtain rfl := Option.some.inj (Tryz.rt.symm.trans e2)
 have hm : ty ∈ (List.range 424).filter fun t => Tryz.prog.rowNamed t [101, 114, 114, 111, 114] := List.mem_filter.2 ⟨List.mem_range.2 (by rw [← Tryz.size]; exact e3), e4⟩
 rw [Tryz.oneRow] at hm
 obtain rfl := List.mem_singleton.1 hm
 have hh : typeHandle Tryz.prog 51 = .pointer (some ⟨1, 51, none⟩) := by kernel_rfl
 rw [hh] at e5
 have : W.cell? ⟨0, 0, none⟩ = some (.iface 307 (.agg #[.pointer (some ⟨1, 51, none⟩)])) := by simpa using World.var?_cell Tryz.et e5 0
 exact this
noncomputable def laidWorld (os : Os) : World :=
 let w0 := World.holding Tryz.prog os ⟨#[], #[], []⟩
 { w0 with heap := w0.heap.modify 0 fun
   | .cells _ t frozen => .cells #[.iface 307 (.agg #[.pointer (some ⟨1, 51, none⟩)])] t frozen
   | o => o }
theorem laidWorld_met (os : Os) (args : Array Value) : laidMetH Tryz.prog laidL ((laidWorld os).forCall (fun _ _ => 0) ⟨#[], args, []⟩).memory :=
 laidMetH_of_parts (laidMet_nil _ _) (by kernel_rfl)
end Go.Proofs.YteedolonhdbieaaGreatDoor
end
section
namespace Go.Proofs.YteedolonhdbieaaGreatDoor
open Go Go.Vc
structure Cfg where
 cells : Int
 slots : Int
 fuses : Int
 step : Int
 keys : Int
 erases : Int
 area : Int
def Cfg.vals (c : Cfg) : List Value :=
 [.int .i64 c.cells, .int .i64 c.slots, .int .i64 c.fuses, .int .i64 c.step, .int .i64 c.keys, .int .i64 c.erases, .int .i64 c.area]
structure Cfg.may (c : Cfg) : Prop where
 slots : 1 ≤ c.slots /\ c.slots ≤ 8
 cells : c.slots + 3 ≤ c.cells /\ c.cells ≤ 256
 fuses : 1 ≤ c.fuses /\ c.fuses ≤ 64
 step : 1 ≤ c.step /\ c.step ≤ 65536
 keys : 1 ≤ c.keys /\ c.keys ≤ 64
 erases : 0 ≤ c.erases /\ c.erases ≤ 65536
 area : 0 ≤ c.area /\ c.area ≤ 64
theorem within_iff (n a b : Int) (Q : Bool -> H -> Prop) (h : H) : F_chip_within n a b Q h = Q (decide (a ≤ n) && decide (n ≤ b)) h := by
 unfold F_chip_within G_chip_within
 by_cases h1 : a ≤ n <;> simp [h1]
open Classical in
theorem May_spec (c : Cfg) (Q : Int -> H -> Prop) (h : H) (k : ∀ h', Ext none_ h h' -> Q (if c.may then 0 else 1) h') :
  F_chip_May c.cells c.slots c.fuses c.step c.keys c.erases c.area Q h := by
 unfold F_chip_May G_chip_May
 intro b h' hn
 have kb := hn.blk
 have kx := k h' hn.ext
 have hc0 := kb.hc
 intro J hJ
 have fin : ∀ r : Bool, (r = true ↔ c.may) -> J [SV.dv (DV.one (Value.bool r))] h' := by
  intro r hr
  apply hJ
  by_cases hm : c.may
  ·rw [hr.2 hm]; rw [if_pos hm] at kx; simpa using kx
  ·have : r = false := by cases r; rfl; exact absurd (hr.1 rfl) hm
   rw [this]; rw [if_neg hm] at kx; simpa using kx
 try simp only [add_mk, hc0, Nat.zero_add, List.getElem?_cons_succ, List.getElem?_cons_zero, Option.some.injEq, Value.int.injEq, true_and, exists_eq_left']
 simp only [within_iff, hc0, List.getElem?_cons_succ, List.getElem?_cons_zero, Option.some.injEq, Value.int.injEq, true_and, exists_eq_left', Bool.and_eq_true, decide_eq_true_eq]
 have w3 : 1 ≤ c.slots /\ c.slots ≤ 8 -> IntKind.i64.wrap (c.slots + 3) = c.slots + 3 := by
  intro h1; rw [IntKind.wrap_i64]; omega
 split
 case isFalse h1 => exact fin false (by simp; intro hm; exact h1 hm.slots)
 rename_i h1
 rw [w3 h1]
 split
 case isFalse h2 => exact fin false (by simp; intro hm; exact h2 hm.cells)
 rename_i h2
 split
 case isFalse h3 => exact fin false (by simp; intro hm; exact h3 hm.fuses)
 rename_i h3
 split
 case isFalse h4 => exact fin false (by simp; intro hm; exact h4 hm.step)
 rename_i h4
 split
 case isFalse h5 => exact fin false (by simp; intro hm; exact h5 hm.keys)
 rename_i h5
 split
 case isFalse h6 => exact fin false (by simp; intro hm; exact h6 hm.erases)
 rename_i h6
 refine fin _ ?_
 simp only [Bool.and_eq_true, decide_eq_true_eq]
 exact ⟨fun h7 => ⟨h1, h2, h3, h4, h5, h6, h7⟩, fun hm => hm.area⟩
theorem pages_spec (c : Cfg) (hm : c.may) (Q : Int -> H -> Prop) (h : H) (k : ∀ h', Ext none_ h h' -> Q (2 + 2 * c.area) h') :
  F_chip_pages c.cells c.slots c.fuses c.step c.keys c.erases c.area Q h := by
 unfold F_chip_pages G_chip_pages
 intro b h' hn
 have kx := k h' hn.ext
 have ha := hm.area
 have e : IntKind.i64.wrap (2 + IntKind.i64.wrap (2 * c.area)) = 2 + 2 * c.area := by simp only [IntKind.wrap_i64]; omega
 simpa [hn.blk.hc, e] using kx
theorem fuses_spec (c : Cfg) (hm : c.may) (Q : Int -> H -> Prop) (h : H) (k : ∀ h', Ext none_ h h' -> Q (c.slots * c.fuses + c.keys) h') :
  F_chip_fuses c.cells c.slots c.fuses c.step c.keys c.erases c.area Q h := by
 unfold F_chip_fuses G_chip_fuses
 intro b h' hn
 have kx := k h' hn.ext
 have h1 := hm.slots; have h2 := hm.fuses; have h3 := hm.keys
 have e1 : 0 ≤ c.slots * c.fuses := Int.mul_nonneg (by omega) (by omega)
 have e2 : c.slots * c.fuses ≤ 8 * 64 := Int.mul_le_mul (by omega) (by omega) (by omega) (by omega)
 have e : IntKind.i64.wrap (IntKind.i64.wrap (c.slots * c.fuses) + c.keys) = c.slots * c.fuses + c.keys := by simp only [IntKind.wrap_i64]; omega
 simpa [hn.blk.hc, e] using kx
end Go.Proofs.YteedolonhdbieaaGreatDoor
end
section
namespace Go.Proofs.YteedolonhdbieaaGreatDoor
open Go Go.Vc
structure St where
 pages : List (List Int)
 erases : List Int
 blown : List Bool
structure Cm where
 cfg : Cfg
 s : St
 acts : Int
 out : Bool
 left : Int
 mask : List Int
instance (c : Cfg) : Decidable c.may :=
 decidable_of_iff ((1 ≤ c.slots /\ c.slots ≤ 8) /\ (c.slots + 3 ≤ c.cells /\ c.cells ≤ 256) /\ (1 ≤ c.fuses /\ c.fuses ≤ 64) /\ (1 ≤ c.step /\ c.step ≤ 65536) /\ (1 ≤ c.keys /\ c.keys ≤ 64) /\ (0 ≤ c.erases /\ c.erases ≤ 65536) /\ (0 ≤ c.area /\ c.area ≤ 64))
  ⟨fun ⟨a, b, c, d, e, f, g⟩ => ⟨a, b, c, d, e, f, g⟩, fun ⟨a, b, c, d, e, f, g⟩ => ⟨a, b, c, d, e, f, g⟩⟩
def Cfg.may? (c : Cfg) : Int := if c.may then 0 else 1
def Cfg.np (c : Cfg) : Int := 2 + 2 * c.area
def Cfg.nf (c : Cfg) : Int := c.slots * c.fuses + c.keys
def isByte (n : Int) : Prop := 0 ≤ n /\ n < 256
def bytesOk (ns : List Int) : Prop := ∀ n, n ∈ ns -> isByte n
structure St.fits (c : Cfg) (s : St) : Prop where
 pages : (s.pages.length : Int) = c.np
 cells : ∀ l, l ∈ s.pages -> (l.length : Int) = 32 * c.cells
 erases : (s.erases.length : Int) = c.np
 blown : (s.blown.length : Int) = c.nf
structure St.typed (s : St) : Prop where
 bytes : ∀ l, l ∈ s.pages -> bytesOk l
 erases : ∀ n, n ∈ s.erases -> -(2 ^ 63) ≤ n /\ n < 2 ^ 63
structure Cm.ok (C : Cm) : Prop where
 may : C.cfg.may
 fits : C.s.fits C.cfg
 typed : C.s.typed
 left : -1 ≤ C.left
 left2 : C.left < 2 ^ 63
 mask : bytesOk C.mask
 acts : -(2 ^ 63) ≤ C.acts /\ C.acts < 2 ^ 63
 mlen : C.mask.length ≤ 2 ^ 47
structure RdS (h : H) (a b c : Sl) (s : St) : Prop where
 pg : RdM h 32 a s.pages
 er : hsv h b.1 1 b.2.1 (ints .i64 s.erases)
 bl : hsv h c.1 1 c.2.1 (bools s.blown)
abbrev stL (a b c : Sl) (s : St) : List Ent := [matE 32 a s.pages, sE b 1 (ints .i64 s.erases), sE c 1 (bools s.blown)]
def Cm.cells (C : Cm) (a b c m : Sl) : List Value :=
 [.int .i64 C.cfg.cells, .int .i64 C.cfg.slots, .int .i64 C.cfg.fuses, .int .i64 C.cfg.step, .int .i64 C.cfg.keys, .int .i64 C.cfg.erases, .int .i64 C.cfg.area, a.v, b.v, c.v,
  .int .i64 C.acts, .bool C.out, .int .i64 C.left, m.v]
structure Pl where
 a : Sl
 b : Sl
 c : Sl
 m : Sl
abbrev chipL (p : Nat) (C : Cm) (w : Pl) : List Ent := [blk p (C.cells w.a w.b w.c w.m), matE 32 w.a C.s.pages, sE w.b 1 (ints .i64 C.s.erases), sE w.c 1 (bools C.s.blown), sE w.m 1 (ints .u8 C.mask)]
def chipE (p : Nat) (C : Cm) : Ent := exE 2 (fun _ => C.ok) (chipL p C)
theorem RdS.ext {h h' : H} (x : Ext none_ h h') {a b c : Sl} {s : St} (r : RdS h a b c s) : RdS h' a b c s :=
 ⟨r.pg.ext x, hsv_ext x r.er (fun _ _ y => y), hsv_ext x r.bl (fun _ _ y => y)⟩
theorem sat_rdS {h0 h : H} {A : List Ent} (hs : Sat h0 A h) {i j k : Nat} {a b c : Sl} {s : St} (m : At A i (matE 32 a s.pages)) (n : At A j (sE b 1 (ints .i64 s.erases))) (o : At A k (sE c 1 (bools s.blown))) : RdS h a b c s :=
 ⟨hs.rdM m, hs.sv n, hs.sv o⟩
end Go.Proofs.YteedolonhdbieaaGreatDoor
end
section
namespace Go.Proofs.YteedolonhdbieaaGreatDoor
open Go Go.Vc Go.ChangeShapes Go.WideShapes Go.ChangeAt Go.RowKit
set_option maxRecDepth 100000
theorem xCfg : xsh PP 8 23 = some [.int .i64, .int .i64, .int .i64, .int .i64, .int .i64, .int .i64, .int .i64] := by kernel_rfl
theorem xByte : xsh PP 8 5 = some [.int .u8] := by kernel_rfl
section
variable {D : Type} {enc : TypeId × Value -> D} {W : World}
theorem cfg_of {v : Value} {base : Nat} (h : Rdt enc PP W 23 v.cells.toList) (ho : Value.okWide PP W .any base 23 v) : ∃ c : Cfg, v = .agg c.vals.toArray := by
 have e := okw_agg (by kernel_rfl) ho
 obtain ⟨a1, r1, e1, _, a2, r2, rfl, _, a3, r3, rfl, _, a4, r4, rfl, _, a5, r5, rfl, _, a6, r6, rfl, _, a7, r7, rfl, _, hr⟩ := Rdt.xm 8 _ _ _ xCfg h
 simp only [XM] at hr
 subst hr
 refine ⟨⟨a1, a2, a3, a4, a5, a6, a7⟩, ?_⟩
 rw [e]
 congr 1
 rw [← Array.toArray_toList (xs := v.cells), e1]
 rfl
theorem bytes_of {p : Option Addr} {l c : Nat} (h : Sli enc PP W 5 p l c) : ∃ ns : List Int, hsv W.heap p 1 l (ints .u8 ns) /\ bytesOk ns /\ ns.length + 4096 ≤ 2 ^ 47 := by
 have hb : Tryz.prog.bytesOf 5 = 1 := by kernel_rfl
 have hc : Tryz.prog.cellsOf 5 = 1 := by kernel_rfl
 obtain ⟨ess, h1, h2, h3, _⟩ := h.els xByte
 have hlc := h.1
 have hr := h.2.1
 rw [hb] at hr
 rw [hc] at h3
 have key : ∀ ess : List (List Value), (∀ es, es ∈ ess -> es.length = Tryz.prog.cellsOf 5 /\ XM enc PP W [XSh.int .u8] es) -> ∃ ns : List Int, ess.flatten = ints .u8 ns /\ bytesOk ns := by
  intro ess
  induction ess with
  | nil => intro _; exact ⟨[], rfl, by intro n hn; simp at hn⟩
  | cons x r ih =>
   intro h
   obtain ⟨ns, e, hn⟩ := ih fun es hes => h es (by simp [hes])
   obtain ⟨n, rest, rfl, hh, hr⟩ := (h x (by simp)).2
   simp only [XM] at hr
   subst hr
   refine ⟨n :: ns, by simp [e], ?_⟩
   intro m hm
   rcases List.mem_cons.1 hm with rfl | hm
   ·exact has_u8 hh
   ·exact hn m hm
 obtain ⟨ns, e, hn⟩ := key ess h2
 rw [e] at h3
 have : ns.length = l := by have := h3.1; simpa using this
 refine ⟨ns, h3, hn, ?_⟩
 unfold reachBytes at hr
 omega
end
end Go.Proofs.YteedolonhdbieaaGreatDoor
end
section
namespace Go.Proofs.YteedolonhdbieaaGreatDoor
open Go Go.Vc
def blankCell : List Int := List.replicate 32 255
theorem mapTo_const (n : Nat) (v : Int) (ns : List Int) (hl : ns.length = n) : mapTo (fun _ _ => v) n ns = List.replicate n v := by
 apply List.ext_getElem?; intro j
 rw [mapTo_get, List.getElem?_replicate]
 by_cases h : j < n
 ·simp [h, hl]
 ·rw [if_neg h, List.getElem?_eq_none (by omega)]; rfl
theorem blank_spec (Q : List Int -> H -> Prop) (h : H) (k : ∀ h', Ext none_ h h' -> Q blankCell h') : F_chip_blank Q h := by
 unfold F_chip_blank G_chip_blank
 intro b2 h3 n2 b5 h6 n5 J hJ
 have x6 : Ext none_ h h6 := n2.ext.trans n5.ext
 have hb2 : b2 < h6.size := by have := n2.size; have := n5.size; have := n2.b; omega
 have hb2' : h.size ≤ b2 := by rw [n2.b]; exact Nat.le_refl _
 have hb5 : h.size ≤ b5 := by have := n2.size; rw [n5.b]; omega
 have hne : b2 ≠ b5 := by have := n2.size; have := n5.b; have := n2.b; omega
 refine loop_up 32 (fun i h' => Blk h' b5 (ints .u8 (mapTo (fun _ _ => 255) i (zeros 32))) /\ Blk h' b2 (ints .u8 (zeros 32)) /\ Ext none_ h h') ?_ ?_ 0 h6 (by omega)
  ⟨by simpa using n5.blk, n5.ext.blk n2.blk (fun x => x), x6⟩
 ·rintro i h' hi ⟨k5, k2, hx⟩ hk
  apply hJ
  rw [ltI_eq, if_pos (by simp; omega)]
  refine ⟨by omega, by omega, ?_, ?_⟩
  ·try simp only [add_mk]; apply k5.can; simp; omega
  ·intro h11 e
   try simp only [add_mk, Int.toNat_natCast, Nat.mul_one, Nat.zero_add] at e
   rw [wrap_succ (by omega)]
   refine hk h11 ?_
   have w := k5.wr i [Value.int .u8 255]
   have w2 := k2.wr_ne (a := ⟨b5, i, none⟩) (xs := [Value.int .u8 255]) hne
   rw [← e] at w w2
   refine ⟨?_, w2, ?_⟩
   ·simp only [splice_cons, splice_nil, ints_set] at w
    have := mapTo_succ (fun _ _ => 255) i (zeros 32) (by simpa using hi)
    rw [this] at w; exact w
   ·rw [e]; exact hx.comp (Ext.wr h' b5 i _) (by rintro x h1 rfl; omega)
 ·rintro h' ⟨k5, k2, hx⟩
  apply hJ
  rw [ltI_eq, if_neg (by simp)]
  rw [mapTo_const 32 255 _ (by simp)] at k5
  refine ⟨blankCell, by simp [blankCell], k5.hrow (by intro i hi; rw [Nat.zero_add, ints_get]; rfl), k2.can (by simp), ?_⟩
  intro h14 e
  have w := k2.wr 0 (ints IntKind.u8 blankCell ++ [])
  rw [splice_all _ _ (by simp [blankCell])] at w
  rw [← e] at w
  refine ⟨blankCell, by simp [blankCell], w.hrow (by intro i hi; simp [ints_get]), k _ ?_⟩
  rw [e]; exact hx.comp (Ext.wr h' b2 0 _) (by rintro x h1 rfl; omega)
theorem clone_body (sz : Nat) (z : List Value) (B : Nat) (hsz : 0 < sz) (hz : z.length = sz) (p : Option Addr) (l : Nat) (vs : List Value) (Q : Option Addr -> Nat -> Nat -> H -> Prop) (h : H) (hs : hsv h p sz l vs) (hb : l * B ≤ 2 ^ 47)
  (k : ∀ p' c' h' bs, Ext none_ h h' -> OwnS h' p' l c' sz vs bs -> newB h bs -> Q p' l c' h') :
  if p.isNone = true then Q none 0 0 h else ∀ (n5 : Nat) (h6 : H), hnew h n5 [] h6 -> ∃ (l8 : List Value), hsv h6 p sz l l8 /\
   pApp h6 sz z B (some (Addr.mk n5 0 none)) 0 0 l l8 fun (o9 : Option Addr) (n10 n11 : Nat) (h12 : H) => Q o9 n10 n11 h12 := by
 cases p with
 | none =>
  have e := hsv_none hs
  have hl : l = 0 := by
   have := hs.1; rw [e] at this
   rcases Nat.eq_zero_or_pos l with h0 | h0
   ·exact h0
   ·have := Nat.mul_pos h0 hsz; simp_all
  subst hl
  simp only [Option.isNone_none, if_true]
  refine k none 0 h [] (Ext.refl _ _) ?_ (by intro b hb; simp at hb)
  rw [e]; exact OwnS.nil _ _ _
 | some a =>
  rw [if_neg (by simp)]
  intro b h' hn
  have hs' := hsv_ext hn.ext hs (fun _ _ x => x)
  refine ⟨_, hs', pApp_empty hs'.1 hz hs'.2.1 hb ?_⟩
  intro p' c' h'' bs hx ho hbs
  exact k p' c' h'' bs (hn.ext.trans hx) ho (hbs.ext hn.ext)
theorem Clone_bytes_spec (p : Option Addr) (l c : Nat) (vs : List Value) (Q : Option Addr -> Nat -> Nat -> H -> Prop) (h : H) (hs : hsv h p 1 l vs) (hb : l * 1 ≤ 2 ^ 47)
  (k : ∀ p' c' h' bs, Ext none_ h h' -> OwnS h' p' l c' 1 vs bs -> newB h bs -> Q p' l c' h') : F_slices_Clone_byte_byte p l c Q h := by
 unfold F_slices_Clone_byte_byte; exact clone_body 1 _ 1 (by omega) rfl p l vs Q h hs hb k
theorem Clone_ints_spec (p : Option Addr) (l c : Nat) (vs : List Value) (Q : Option Addr -> Nat -> Nat -> H -> Prop) (h : H) (hs : hsv h p 1 l vs) (hb : l * 8 ≤ 2 ^ 47)
  (k : ∀ p' c' h' bs, Ext none_ h h' -> OwnS h' p' l c' 1 vs bs -> newB h bs -> Q p' l c' h') : F_slices_Clone_int_int p l c Q h := by
 unfold F_slices_Clone_int_int; exact clone_body 1 _ 8 (by omega) rfl p l vs Q h hs hb k
theorem Clone_bools_spec (p : Option Addr) (l c : Nat) (vs : List Value) (Q : Option Addr -> Nat -> Nat -> H -> Prop) (h : H) (hs : hsv h p 1 l vs) (hb : l * 1 ≤ 2 ^ 47)
  (k : ∀ p' c' h' bs, Ext none_ h h' -> OwnS h' p' l c' 1 vs bs -> newB h bs -> Q p' l c' h') : F_slices_Clone_bool_bool p l c Q h := by
 unfold F_slices_Clone_bool_bool; exact clone_body 1 _ 1 (by omega) rfl p l vs Q h hs hb k
theorem Clone_cells_spec (p : Option Addr) (l c : Nat) (vs : List Value) (Q : Option Addr -> Nat -> Nat -> H -> Prop) (h : H) (hs : hsv h p 32 l vs) (hb : l * 32 ≤ 2 ^ 47)
  (k : ∀ p' c' h' bs, Ext none_ h h' -> OwnS h' p' l c' 32 vs bs -> newB h bs -> Q p' l c' h') : F_slices_Clone_api_Cell_api_Cell p l c Q h := by
 unfold F_slices_Clone_api_Cell_api_Cell; exact clone_body 32 _ 32 (by omega) (by simp) p l vs Q h hs hb k
theorem wrap_u64_id {n : Int} (h : 0 ≤ n /\ n < 2 ^ 64) : IntKind.u64.wrap n = n := by
 have : IntKind.u64.wrap n = n % 18446744073709551616 := by simp [IntKind.wrap, IntKind.bits, IntKind.signed]
 rw [this]; omega
theorem and32 {n : Int} (h : 0 ≤ n /\ n < 2 ^ 32) : bits .and .u64 n 4294967295 = n := by
 have := bits_mask .u64 64 (by decide) (fun n h0 h1 => wrap_u64_id ⟨h0, h1⟩) 32 (by decide) n h.1 (by omega)
 have e : (2 : Int) ^ 32 - 1 = 4294967295 := by decide
 rw [e] at this
 rw [this]; omega
theorem fdiv32 {n : Int} (h : 0 ≤ n /\ n < 2 ^ 32) : n.fdiv (2 ^ 32) = 0 := by
 rw [Int.fdiv_eq_ediv_of_nonneg _ (by decide)]; omega
theorem Mul_one (n : Int) (hn : 0 ≤ n /\ n < 2 ^ 31) (Q : Int -> Int -> H -> Prop) (h : H) (k : Q 0 n h) : F_math_bits_Mul 1 n Q h := by
 unfold F_math_bits_Mul G_math_bits_Mul F_math_bits_Mul64 G_math_bits_Mul64
 rintro i rfl
 refine ⟨by decide, ?_⟩
 rintro i rfl
 refine ⟨by decide, by decide, ?_⟩
 rintro i rfl
 refine ⟨by decide, by decide, ?_⟩
 have a1 : bits .and .u64 1 4294967295 = 1 := and32 (by decide)
 have a2 : bits .and .u64 n 4294967295 = n := and32 (by omega)
 have f1 : (1 : Int).fdiv (2 ^ 32) = 0 := fdiv32 (by decide)
 have f2 : n.fdiv (2 ^ 32) = 0 := fdiv32 (by omega)
 have w0 : IntKind.u64.wrap 0 = 0 := wrap_u64_id (by decide)
 have wn : IntKind.u64.wrap n = n := wrap_u64_id (by omega)
 have f0 : (0 : Int).fdiv (2 ^ 32) = 0 := fdiv32 (by decide)
 have a0 : bits .and .u64 0 4294967295 = 0 := and32 (by decide)
 simpa only [a1, a2, f1, f2, Int.zero_mul, Int.mul_zero, Int.one_mul, w0, wn, f0, a0, Int.add_zero, Int.zero_add] using k
theorem rep_add {α : Type} (a b : Nat) (X : List α) : (List.replicate (a + b) X).flatten = (List.replicate a X).flatten ++ (List.replicate b X).flatten := by
 rw [← List.replicate_append_replicate, List.flatten_append]
theorem Repeat_spec (p : Option Addr) (c : Nat) (n : Nat) (X : List Value) (hX : X.length = 32) (hn : 1 ≤ n /\ n ≤ 2 ^ 20) (Q : Option Addr -> Nat -> Nat -> H -> Prop) (h : H) (hs : hsv h p 32 1 X)
  (k : ∀ b h', Ext none_ h h' -> Blk h' b (List.replicate n X).flatten -> h.size ≤ b -> Q (some ⟨b, 0, none⟩) n n h') : F_slices_Repeat_api_Cell_api_Cell p 1 c n Q h := by
 unfold F_slices_Repeat_api_Cell_api_Cell G_slices_Repeat_api_Cell_api_Cell
 intro J7 hJ7
 rw [ltI_eq, if_neg (by simp)]
 apply hJ7
 have w1 : IntKind.u64.wrap ((1 : Nat) : Int) = 1 := wrap_u64_id (by decide)
 have wn : IntKind.u64.wrap (n : Int) = n := wrap_u64_id (by omega)
 have wi : IntKind.i64.wrap (n : Int) = n := wrap_id (by omega)
 rw [w1, wn]
 apply Mul_one _ (by omega)
 intro J12 hJ12
 rw [ltI_eq, if_neg (by simp)]
 rintro i rfl
 rw [ltI_eq, if_neg (by simp; omega)]
 apply hJ12
 simp only [wi, Int.toNat_natCast]
 refine ⟨by omega, by omega, by omega, by omega, ?_⟩
 intro b h15 hnw
 have m1 : Nat.min 1 n = 1 := Nat.min_eq_left hn.1
 simp only [m1]
 have hs' := hsv_ext hnw.ext hs (fun _ _ x => x)
 have lenr : ∀ m : Nat, (List.replicate m X).flatten.length = m * 32 := fun m => by rw [flatten_replicate_length, hX]
 refine ⟨X, hs', Or.inr ⟨_, rfl, hnw.blk.can ?_⟩, ?_⟩
 ·rw [flatten_replicate_length]; simp; omega
 intro h19 e19
 intro J hJ
 have hb : h.size ≤ b := by rw [hnw.b]; exact Nat.le_refl _
 -- the block holds i copies, and something
 have main : ∀ d i h', n - i ≤ d -> 1 ≤ i -> i ≤ n -> Ext none_ h h' -> (∃ rest, rest.length = (n - i) * 32 /\ Blk h' b ((List.replicate i X).flatten ++ rest)) -> J [SV.dv (DV.one (Value.int IntKind.i64 (i : Int)))] h' := by
  intro d
  induction d with
  | zero =>
   rintro i h' hd h1 h2 hx ⟨rest, hr, kb⟩
   have : i = n := by omega
   subst this
   apply hJ
   rw [ltI_eq, if_neg (by simp)]
   have : rest = [] := List.eq_nil_of_length_eq_zero (by simp [hr])
   subst this
   exact k b h' hx (by simpa using kb) hb
  | succ d ih =>
   rintro i h' hd h1 h2 hx ⟨rest, hr, kb⟩
   apply hJ
   by_cases hin : i < n
   ·rw [ltI_eq, if_pos (by simp; omega)]
    have s0 : subAddr (some (Addr.mk b 0 none)) 0 n 32 = some (Addr.mk b 0 none) := by unfold subAddr; rw [if_neg (by omega)]; simp
    have s1 : subAddr (some (Addr.mk b 0 none)) i n 32 = some (Addr.mk b (i * 32) none) := by unfold subAddr; rw [if_neg (by omega)]; simp
    simp only [Int.toNat_natCast, s0, s1, Nat.sub_zero]
    generalize hm : Nat.min i (n - i) = m
    have hm1 : m ≤ i := by rw [← hm]; exact Nat.min_le_left _ _
    have hm2 : m ≤ n - i := by rw [← hm]; exact Nat.min_le_right _ _
    have hm3 : 1 ≤ m := by rw [← hm]; exact Nat.le_min.2 ⟨h1, by omega⟩
    have spl : (List.replicate i X).flatten = (List.replicate m X).flatten ++ (List.replicate (i - m) X).flatten := by
     rw [← rep_add]; congr 2; omega
    refine ⟨by omega, by omega, by omega, by omega, (List.replicate m X).flatten, ⟨lenr m, ?_, Or.inr ⟨_, rfl, ?_⟩⟩, Or.inr ⟨_, rfl, kb.can ?_⟩, ?_⟩
    ·intro v hv
     obtain ⟨l, hl, hv⟩ := List.mem_flatten.1 hv
     rw [List.eq_of_mem_replicate hl] at hv
     exact hs.2.1 v hv
    ·apply kb.hcs
     intro j hj
     rw [Nat.zero_add, spl, List.append_assoc, List.getElem?_append_left hj]
    ·simp [lenr, hr, hX]
     have : m * 32 ≤ (n - i) * 32 := Nat.mul_le_mul_right _ hm2
     omega
    ·intro h26 e
     have w : IntKind.i64.wrap ((i : Int) + (m : Int)) = ((i + m : Nat) : Int) := by rw [wrap_id (by omega)]; omega
     rw [w]
     refine ih (i + m) h26 (by omega) (by omega) (by omega) ?_ ?_
     ·rw [e]; exact hx.comp (Ext.wr h' b _ _) (by rintro x hlt rfl; omega)
     ·have kw := kb.wr (i * 32) (List.replicate m X).flatten
      have e' : h26 = hwr h' ⟨b, i * 32, none⟩ (List.replicate m X).flatten := e
      rw [← e'] at kw
      refine ⟨rest.drop (m * 32), by simp [hr]; omega, ?_⟩
      have hrr : rest = rest.take (m * 32) ++ rest.drop (m * 32) := by simp
      have : splice ((List.replicate i X).flatten ++ rest) (i * 32) (List.replicate m X).flatten = (List.replicate (i + m) X).flatten ++ rest.drop (m * 32) := by
       rw [hrr, ← List.append_assoc, ← lenr i, splice_append, rep_add]
       ·simp
       ·simp [lenr, hr]
        have : m * 32 ≤ (n - i) * 32 := Nat.mul_le_mul_right _ hm2
        omega
      rw [this] at kw
      exact kw
   ·have : i = n := by omega
    subst this
    rw [ltI_eq, if_neg (by simp)]
    have : rest = [] := List.eq_nil_of_length_eq_zero (by simp [hr])
    subst this
    exact k b h' hx (by simpa using kb) hb
 have e' : h19 = hwr h15 ⟨b, 0, none⟩ X := e19
 have kb := hnw.blk.wr 0 X
 rw [← e'] at kb
 refine main n 1 h19 (by omega) (by omega) hn.1 ?_ ⟨(List.replicate (n - 1) (ints .u8 (zeros 32))).flatten, by simp, ?_⟩
 ·rw [e']; exact hnw.ext.comp (Ext.wr h15 b _ _) (by rintro x hlt rfl; omega)
 ·have : splice (List.replicate n (ints .u8 (zeros 32))).flatten 0 X = (List.replicate 1 X).flatten ++ (List.replicate (n - 1) (ints .u8 (zeros 32))).flatten := by
   have e1 : (List.replicate n (ints .u8 (zeros 32))).flatten = [] ++ ints .u8 (zeros 32) ++ (List.replicate (n - 1) (ints .u8 (zeros 32))).flatten := by
    have : n = 1 + (n - 1) := by omega
    rw [this, rep_add]; simp
   rw [e1]
   have := splice_append [] (ints .u8 (zeros 32)) (List.replicate (n - 1) (ints .u8 (zeros 32))).flatten X (by simp [hX])
   simp only [List.length_nil] at this
   rw [this]; simp
  rw [this] at kb
  exact kb
theorem May_sp {h0 h : H} {A : List Ent} (c : Cfg) {Q : Int -> H -> Prop} (hs : Sat h0 A h) (k : ∀ h', Sat h0 A h' -> Q c.may? h') :
  F_chip_May c.cells c.slots c.fuses c.step c.keys c.erases c.area Q h := by
 apply May_spec
 intro h' x
 have := k h' (hs.ext x)
 unfold Cfg.may? at this
 by_cases hm : c.may
 ·rw [if_pos hm] at this ⊢; exact this
 ·rw [if_neg hm] at this ⊢; exact this
theorem pages_sp {h0 h : H} {A : List Ent} (c : Cfg) (hm : c.may) {Q : Int -> H -> Prop} (hs : Sat h0 A h) (k : ∀ h', Sat h0 A h' -> Q c.np h') :
  F_chip_pages c.cells c.slots c.fuses c.step c.keys c.erases c.area Q h := pages_spec c hm Q h fun h' x => k h' (hs.ext x)
theorem fuses_sp {h0 h : H} {A : List Ent} (c : Cfg) (hm : c.may) {Q : Int -> H -> Prop} (hs : Sat h0 A h) (k : ∀ h', Sat h0 A h' -> Q c.nf h') :
  F_chip_fuses c.cells c.slots c.fuses c.step c.keys c.erases c.area Q h := fuses_spec c hm Q h fun h' x => k h' (hs.ext x)
theorem Cfg.may.np {c : Cfg} (m : c.may) : 2 ≤ c.np /\ c.np ≤ 130 := by have := m.area; unfold Cfg.np; omega
theorem Cfg.may.nf {c : Cfg} (m : c.may) : 0 ≤ c.nf /\ c.nf ≤ 576 := by
 have h1 := m.slots; have h2 := m.fuses; have h3 := m.keys
 have e1 : 0 ≤ c.slots * c.fuses := Int.mul_nonneg (by omega) (by omega)
 have e2 : c.slots * c.fuses ≤ 8 * 64 := Int.mul_le_mul (by omega) (by omega) (by omega) (by omega)
 unfold Cfg.nf; omega
theorem Repeat_sp {h0 h : H} {A : List Ent} (n : Nat) {k : Int} {c i b : Nat} {X : List Int} {Q : Option Addr -> Nat -> Nat -> H -> Prop} (hk : k = (n : Int)) (hs : Sat h0 A h) (m : At A i (blk b (ints .u8 X ++ []))) (hX : X.length = 32)
  (hn : 1 ≤ n /\ n ≤ 2 ^ 20) (kk : ∀ b h', Sat h0 (sE (some ⟨b, 0, none⟩, n, n) 32 (ints .u8 (List.replicate n X).flatten) :: A) h' -> Q (some ⟨b, 0, none⟩) n n h') :
  F_slices_Repeat_api_Cell_api_Cell (some ⟨b, 0, none⟩) 1 c k Q h := by
 rw [hk]
 rw [List.append_nil] at m
 refine Repeat_spec _ _ n (ints .u8 X) (by simpa using hX) hn _ _ (hs.bv m (by simpa using hX) (ints_one _ _)) ?_
 intro b' h' x kb hb
 refine kk b' h' ?_
 have e : (List.replicate n (ints .u8 X)).flatten = ints .u8 (List.replicate n X).flatten := by
  simp [ints, List.map_flatten]
 rw [e] at kb
 exact (hs.ofBlk x kb hb).as_sl (.z) (by simp [hX]) (ints_one _ _)
def blankRow (c : Cfg) : List Int := (List.replicate c.cells.toNat blankCell).flatten
def freshSt (c : Cfg) : St := ⟨List.replicate c.np.toNat (blankRow c), zeros c.np.toNat, List.replicate c.nf.toNat false⟩
def freshC (c : Cfg) : Cm := ⟨c, freshSt c, 0, false, -1, []⟩
theorem freshC_ok {c : Cfg} (hm : c.may) : (freshC c).ok := by
 have h1 := hm.np; have h2 := hm.nf; have h3 := hm.cells; have h4 := hm.slots
 refine ⟨hm, ⟨by simp [freshC, freshSt]; omega, ?_, by simp [freshC, freshSt]; omega, by simp [freshC, freshSt]; omega⟩, ⟨?_, ?_⟩, by simp [freshC], by simp [freshC], by intro n hn; simp [freshC] at hn, by simp [freshC], by simp [freshC]⟩
 ·intro l hl
  rw [List.eq_of_mem_replicate hl]
  simp [blankRow, blankCell, freshC]; omega
 ·intro l hl
  rw [List.eq_of_mem_replicate hl]
  intro n hn
  simp only [blankRow, List.mem_flatten, List.mem_replicate] at hn
  obtain ⟨l, ⟨_, rfl⟩, hn⟩ := hn
  have := List.eq_of_mem_replicate hn
  unfold isByte; omega
 ·intro n hn
  have := List.eq_of_mem_replicate hn
  omega
theorem New_sp {h0 h : H} {A : List Ent} (c : Cfg) {Q : Option Addr -> Int -> H -> Prop} (hs : Sat h0 A h)
  (k1 : ¬ c.may -> ∀ h', Sat h0 A h' -> Q none 1 h')
  (k2 : c.may -> ∀ p h', Sat h0 (chipE p (freshC c) :: A) h' -> Q (some ⟨p, 0, none⟩) 0 h') :
  F_chip_New c.cells c.slots c.fuses c.step c.keys c.erases c.area Q h := by
 unfold F_chip_New G_chip_New
 try simp only [add_mk, Nat.zero_add]
 intro g _ hn; have hs := Sat.new hs hn
 (repeat first | refine ⟨_, Sat.ld hs (by repeat constructor) (by rfl), ?_⟩ | refine ⟨_, _, _, Sat.ld hs (by repeat constructor) (by rfl), ?_⟩ | (intro _ _ hn; replace hs := Sat.new hs hn) | refine ⟨Sat.cs hs (by repeat constructor) (by rfl), ?_⟩ | (refine ⟨Sat.can hs (by repeat constructor) (by simp), ?_⟩; intro _ e; replace hs := Sat.wr hs (by repeat constructor) e; clear e; simp only [put, splice, List.set] at hs))
 refine May_sp c hs ?_
 intro h1 hs
 unfold Cfg.may?
 by_cases hm : c.may
 case neg =>
  rw [if_neg hm, if_pos (by decide)]
  exact k1 hm _ hs.drop
 rw [if_pos hm, if_neg (by decide)]
 intro J hJ
 have hnp := hm.np
 have hnf := hm.nf
 have fin : ∀ p a b h', Sat h0 (blk g c.vals :: blk b (List.replicate c.nf.toNat [Value.bool false]).flatten :: blk a (List.replicate c.np.toNat [Value.int .i64 0]).flatten ::
   blk p [.slice none 0 0, .slice (some ⟨a, 0, none⟩) c.np.toNat c.np.toNat, .slice (some ⟨b, 0, none⟩) c.nf.toNat c.nf.toNat] :: A) h' -> J [SV.dv (DV.addr ⟨p, 0, none⟩)] h' := by
  intro p a b h' hs
  apply hJ
  simp only [Cfg.vals] at hs
  (repeat first | refine ⟨_, Sat.ld hs (by repeat constructor) (by rfl), ?_⟩ | refine ⟨_, _, _, Sat.ld hs (by repeat constructor) (by rfl), ?_⟩ | (intro _ _ hn; replace hs := Sat.new hs hn) | refine ⟨Sat.cs hs (by repeat constructor) (by rfl), ?_⟩ | (refine ⟨Sat.can hs (by repeat constructor) (by simp), ?_⟩; intro _ e; replace hs := Sat.wr hs (by repeat constructor) e; clear e; simp only [put, splice, List.set] at hs))
  refine pages_sp c hm hs ?_
  intro _ hs J38 hJ38
  have hs := hs.mat_nil 32 none
  refine loop_up c.np.toNat (fun i h => ∃ hd : Sl, hd.2.1 = i /\ Sat h0 (matE 32 hd (List.replicate i (blankRow c)) :: blk g c.vals :: blk b (List.replicate c.nf.toNat [Value.bool false]).flatten :: blk a (List.replicate c.np.toNat [Value.int .i64 0]).flatten ::
   blk p [hd.v, .slice (some ⟨a, 0, none⟩) c.np.toNat c.np.toNat, .slice (some ⟨b, 0, none⟩) c.nf.toNat c.nf.toNat] :: A) h) ?_ ?_ 0 _ (by omega) ⟨_, rfl, hs⟩
  ·rintro i h1 hi ⟨⟨hp, hl, hc⟩, e, hs⟩ hk
   simp only at e; subst e
   apply hJ38
   rw [ltI_eq, if_pos (by simp; omega)]
   simp only [Cfg.vals] at hs
   (repeat first | refine ⟨_, Sat.ld hs (by repeat constructor) (by rfl), ?_⟩ | refine ⟨_, _, _, Sat.ld hs (by repeat constructor) (by rfl), ?_⟩ | (intro _ _ hn; replace hs := Sat.new hs hn) | refine ⟨Sat.cs hs (by repeat constructor) (by rfl), ?_⟩ | (refine ⟨Sat.can hs (by repeat constructor) (by simp), ?_⟩; intro _ e; replace hs := Sat.wr hs (by repeat constructor) e; clear e; simp only [put, splice, List.set] at hs))
   refine blank_spec _ _ fun h2 x2 => ?_
   have hs := hs.ext x2
   (repeat first | refine ⟨_, Sat.ld hs (by repeat constructor) (by rfl), ?_⟩ | refine ⟨_, _, _, Sat.ld hs (by repeat constructor) (by rfl), ?_⟩ | (intro _ _ hn; replace hs := Sat.new hs hn) | refine ⟨Sat.cs hs (by repeat constructor) (by rfl), ?_⟩ | (refine ⟨Sat.can hs (by repeat constructor) (by simp), ?_⟩; intro _ e; replace hs := Sat.wr hs (by repeat constructor) e; clear e; simp only [put, splice, List.set] at hs))
   have hc' := hm.cells
   have hc'' := hm.slots
   refine Repeat_sp c.cells.toNat ?_ hs (.z) rfl ?_ ?_
   ·omega
   ·omega
   intro b2 h3 hs
   (repeat first | refine ⟨_, Sat.ld hs (by repeat constructor) (by rfl), ?_⟩ | refine ⟨_, _, _, Sat.ld hs (by repeat constructor) (by rfl), ?_⟩ | (intro _ _ hn; replace hs := Sat.new hs hn) | refine ⟨Sat.cs hs (by repeat constructor) (by rfl), ?_⟩ | (refine ⟨Sat.can hs (by repeat constructor) (by simp), ?_⟩; intro _ e; replace hs := Sat.wr hs (by repeat constructor) e; clear e; simp only [put, splice, List.set] at hs))
   refine ⟨_, Sat.bv hs (.z) (by simp) (by simp), ?_⟩
   replace hs := Sat.front hs (e := sE (some ⟨b2, 0, none⟩, _, _) 32 _) (by repeat constructor)
   refine Sat.app_row hs (by repeat constructor) (by dsimp only; omega) ?_
   intro p' c' h4 hs
   simp only [put, del] at hs
   (repeat first | refine ⟨_, Sat.ld hs (by repeat constructor) (by rfl), ?_⟩ | refine ⟨_, _, _, Sat.ld hs (by repeat constructor) (by rfl), ?_⟩ | (intro _ _ hn; replace hs := Sat.new hs hn) | refine ⟨Sat.cs hs (by repeat constructor) (by rfl), ?_⟩ | (refine ⟨Sat.can hs (by repeat constructor) (by simp), ?_⟩; intro _ e; replace hs := Sat.wr hs (by repeat constructor) e; clear e; simp only [put, splice, List.set] at hs))
   rw [wrap_succ (by omega)]
   refine hk _ ⟨(p', hl + 1, c'), rfl, ?_⟩
   replace hs := Sat.front hs (e := blk p _) (by repeat constructor)
   replace hs := Sat.front hs (e := blk a _) (by repeat constructor)
   replace hs := Sat.front hs (e := blk b _) (by repeat constructor)
   replace hs := Sat.front hs (e := blk g _) (by repeat constructor)
   replace hs := Sat.front hs (e := matE 32 _ _) (by repeat constructor)
   simp only [del] at hs
   rw [List.replicate_succ']
   exact hs.sub (by (repeat (first | exact List.Sublist.refl _ | apply List.Sublist.cons_cons | apply List.Sublist.cons)))
  ·rintro h1 ⟨⟨hp, hl, hc⟩, e, hs⟩
   apply hJ38
   rw [ltI_eq, if_neg (by simp; omega)]
   simp only [Cfg.vals] at hs
   (repeat first | refine ⟨_, Sat.ld hs (by repeat constructor) (by rfl), ?_⟩ | refine ⟨_, _, _, Sat.ld hs (by repeat constructor) (by rfl), ?_⟩ | (intro _ _ hn; replace hs := Sat.new hs hn) | refine ⟨Sat.cs hs (by repeat constructor) (by rfl), ?_⟩ | (refine ⟨Sat.can hs (by repeat constructor) (by simp), ?_⟩; intro _ e; replace hs := Sat.wr hs (by repeat constructor) e; clear e; simp only [put, splice, List.set] at hs))
   refine k2 hm _ _ (Sat.close ⟨(hp, hl, hc), (some ⟨a, 0, none⟩, c.np.toNat, c.np.toNat), (some ⟨b, 0, none⟩, c.nf.toNat, c.nf.toNat), (none, 0, 0)⟩ (freshC_ok hm) ?_)
   have eb : (List.replicate c.nf.toNat [Value.bool false]).flatten = bools (freshC c).s.blown := by simp [freshC, freshSt, bools]
   have ea : (List.replicate c.np.toNat [Value.int .i64 0]).flatten = ints .i64 (freshC c).s.erases := by simp [freshC, freshSt, zeros, ints]
   rw [ea, eb] at hs
   replace hs := hs.as_sl (i := 3) (l := c.nf.toNat) (sz := 1) zs3 (by simp [freshC, freshSt]) (bools_one _)
   replace hs := hs.as_sl (i := 4) (l := c.np.toNat) (sz := 1) zs4 (by simp [freshC, freshSt]) (ints_one _ _)
   replace hs := hs.sl_nil 1 none
   simp only [put] at hs
   replace hs := Sat.front hs (e := slE _ _ _ 1 (bools _)) (by repeat constructor)
   replace hs := Sat.front hs (e := slE _ _ _ 1 (ints .i64 _)) (by repeat constructor)
   replace hs := Sat.front hs (e := matE 32 _ _) (by repeat constructor)
   replace hs := Sat.front hs (e := blk _ [_, _, _, _, _, _, _, _, _, _, _, _, _, _]) (by repeat constructor)
   simp only [del] at hs
   exact hs.sub (by (repeat (first | exact List.Sublist.refl _ | apply List.Sublist.cons_cons | apply List.Sublist.cons)))
 repeat' (first | refine ⟨_, Sat.ld hs (by repeat constructor) (by rfl), ?_⟩ | (intro _ _ hn; replace hs := Sat.new hs hn) | refine ⟨Sat.cs hs (by repeat constructor) (by rfl), ?_⟩ | (refine ⟨Sat.can hs (by repeat constructor) (by simp), ?_⟩; intro _ e; replace hs := Sat.wr hs (by repeat constructor) e; clear e; simp only [put, splice, List.set] at hs) | refine ⟨by omega, ?_⟩ | (refine pages_sp c hm hs ?_; intro _ hs) | (refine fuses_sp c hm hs ?_; intro _ hs) | refine And.intro ?_ ?_)
 all_goals
  replace hs := Sat.front hs (e := blk _ [Value.slice none 0 0, Value.slice (some ⟨_, 0, none⟩) _ _, Value.slice (some ⟨_, 0, none⟩) _ _]) (by repeat constructor)
  replace hs := Sat.front hs (e := blk _ (List.replicate c.np.toNat [Value.int .i64 0]).flatten) (by repeat constructor)
  replace hs := Sat.front hs (e := blk _ (List.replicate c.nf.toNat [Value.bool false]).flatten) (by repeat constructor)
  replace hs := Sat.front hs (e := blk _ c.vals) (by repeat constructor)
  exact fin _ _ _ _ hs
end Go.Proofs.YteedolonhdbieaaGreatDoor
end
