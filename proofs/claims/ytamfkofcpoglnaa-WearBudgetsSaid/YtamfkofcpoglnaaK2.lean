/- WearBudgets: what is proved and its parts, laid together by a program of ours: Sl Mt Rd Re Ch1 Cm Ag Ch2 Ch3 Ch4 Ch5 Ch6 Ch7 Ah Ch8 By Rf3 La2 La5 Fu3 Fu4 Ce4 Pg2 Pg3 Pg4 Pg5 Ar1 Ar2 Ar3 Ar8 Lg1 Lg2 Mp Wr1 -/
import Derived.Laws.Closers25b
import Derived.ProofKit
import Derived.SizedLaws
import Derived.Test.YtamfkofcpoglnaaRows
import Derived.Test.YtamfkofcpoglnaaK1
set_option autoImplicit false
set_option linter.all false
/- Assertions: a list of things that own blocks, none twice; all else is as it was in a base heap. Own work; generic over any program. -/
section
set_option linter.unusedVariables false
namespace Go.Vc

@[simp] theorem oneCell_slice (p : Option Addr) (l c : Nat) : (Value.slice p l c).oneCell' = true := rfl
@[simp] theorem oneCell_bool (b : Bool) : (Value.bool b).oneCell' = true := rfl
@[simp] theorem oneCell_ptr (p : Option Addr) : (Value.pointer p).oneCell' = true := rfl
@[simp] theorem oneCell_str (s : ByteArray) : (Value.string s).oneCell' = true := rfl

inductive Tag where
  | blk (b : Nat) (vs : List Value)
  | sl (p : Option Addr) (l c sz : Nat) (vs : List Value)
  | of (n : Nat)

/-- Something that lies in memory: what it says of a heap and of the blocks that it owns. -/
structure Ent where
  tag : Tag
  P : H → (Nat → Prop) → Prop
  st : ∀ {h h' : H} {f : Nat → Prop}, P h f → (∀ b, f b → h'[b]? = h[b]?) → P h' f
  lt : ∀ {h : H} {f : Nat → Prop} {b : Nat}, P h f → f b → b < h.size

def SatX : List Ent → H → (Nat → Prop) → Prop
  | [], _, O => ∀ b, ¬ O b
  | e :: A, h, O => ∃ f g, e.P h f ∧ SatX A h g ∧ (∀ b, f b → ¬ g b) ∧ (∀ b, O b ↔ f b ∨ g b)

theorem SatX.st {A : List Ent} {h h' : H} {O : Nat → Prop} (s : SatX A h O) (e : ∀ b, O b → h'[b]? = h[b]?) : SatX A h' O := by
  induction A generalizing O with
  | nil => exact s
  | cons x A ih =>
    obtain ⟨f, g, hp, hg, hd, ho⟩ := s
    exact ⟨f, g, x.st hp fun b hb => e b ((ho b).2 (Or.inl hb)), ih hg fun b hb => e b ((ho b).2 (Or.inr hb)), hd, ho⟩
theorem SatX.lt {A : List Ent} {h : H} {O : Nat → Prop} (s : SatX A h O) {b : Nat} (hb : O b) : b < h.size := by
  induction A generalizing O with
  | nil => exact absurd hb (s b)
  | cons x A ih =>
    obtain ⟨f, g, hp, hg, hd, ho⟩ := s
    rcases (ho b).1 hb with k | k
    · exact x.lt hp k
    · exact ih hg k
theorem SatX.iff {A : List Ent} {h : H} {O O' : Nat → Prop} (s : SatX A h O) (e : ∀ b, O b ↔ O' b) : SatX A h O' := by
  have : O = O' := funext fun b => propext (e b)
  exact this ▸ s
theorem SatX.append {A B : List Ent} {h : H} {O : Nat → Prop} : SatX (A ++ B) h O ↔ ∃ f g, SatX A h f ∧ SatX B h g ∧ (∀ b, f b → ¬ g b) ∧ (∀ b, O b ↔ f b ∨ g b) := by
  induction A generalizing O with
  | nil =>
    constructor
    · intro s; exact ⟨fun _ => False, O, fun _ x => x, s, fun _ x => x.elim, fun b => by simp⟩
    · rintro ⟨f, g, hf, hg, _, ho⟩
      refine hg.iff fun b => ?_
      rw [ho]; constructor
      · exact Or.inr
      · rintro (k | k)
        · exact absurd k (hf b)
        · exact k
  | cons x A ih =>
    constructor
    · rintro ⟨f, g, hp, hg, hd, ho⟩
      obtain ⟨f', g', h1, h2, h3, h4⟩ := ih.1 hg
      refine ⟨fun b => f b ∨ f' b, g', ⟨f, f', hp, h1, fun b k k' => hd b k ((h4 b).2 (Or.inl k')), fun b => Iff.rfl⟩, h2, ?_, ?_⟩
      · rintro b (k | k) k'
        · exact hd b k ((h4 b).2 (Or.inr k'))
        · exact h3 b k k'
      · intro b; rw [ho, h4, or_assoc]
    · rintro ⟨f, g, ⟨f1, f2, hp, h1, h2, h3⟩, hg, hd, ho⟩
      refine ⟨f1, fun b => f2 b ∨ g b, hp, ih.2 ⟨f2, g, h1, hg, fun b k k' => hd b ((h3 b).2 (Or.inr k)) k', fun b => Iff.rfl⟩, ?_, ?_⟩
      · rintro b k (k' | k')
        · exact h2 b k k'
        · exact hd b ((h3 b).2 (Or.inl k)) k'
      · intro b; rw [ho, h3, or_assoc]

/-- The thing at a place of the list. -/
inductive At : List Ent → Nat → Ent → Prop where
  | z {A : List Ent} {e : Ent} : At (e :: A) 0 e
  | s {A : List Ent} {e x : Ent} {i : Nat} : At A i e → At (x :: A) (i + 1) e
def put : List Ent → Nat → Ent → List Ent
  | [], _, _ => []
  | _ :: A, 0, e => e :: A
  | x :: A, i + 1, e => x :: put A i e
@[simp] theorem put_zero (x e : Ent) (A : List Ent) : put (x :: A) 0 e = e :: A := rfl
@[simp] theorem put_succ (x e : Ent) (A : List Ent) (i : Nat) : put (x :: A) (i + 1) e = x :: put A i e := rfl
theorem At.put {A : List Ent} {i : Nat} {e : Ent} (a : At A i e) (x : Ent) : At (Vc.put A i x) i x := by
  induction a with
  | z => exact .z
  | s _ ih => exact .s ih
@[simp] theorem put_put (A : List Ent) (i : Nat) (x y : Ent) : put (put A i x) i y = put A i y := by
  induction A generalizing i with
  | nil => rfl
  | cons a A ih => cases i with
    | zero => rfl
    | succ i => simp [ih]
theorem At.put_self {A : List Ent} {i : Nat} {e : Ent} (a : At A i e) : Vc.put A i e = A := by
  induction a with
  | z => rfl
  | s _ ih => simp [ih]

/-- A thing taken out of the list, and another one put in its place. -/
theorem SatX.take {A : List Ent} {i : Nat} {e : Ent} (a : At A i e) {h : H} {O : Nat → Prop} (s : SatX A h O) :
    ∃ f g : Nat → Prop, e.P h f ∧ (∀ b, f b → ¬ g b) ∧ (∀ b, O b ↔ f b ∨ g b) ∧
      ∀ (e' : Ent) (h' : H) (f' : Nat → Prop), e'.P h' f' → (∀ b, g b → h'[b]? = h[b]?) → (∀ b, f' b → ¬ g b) → SatX (Vc.put A i e') h' (fun b => f' b ∨ g b) := by
  induction a generalizing O with
  | z =>
    obtain ⟨f, g, hp, hg, hd, ho⟩ := s
    exact ⟨f, g, hp, hd, ho, fun e' h' f' hp' hsame hd' => ⟨f', g, hp', hg.st hsame, hd', fun b => Iff.rfl⟩⟩
  | s a ih =>
    obtain ⟨f, g, hp, hg, hd, ho⟩ := s
    obtain ⟨f1, g1, h1, h2, h3, h4⟩ := ih hg
    refine ⟨f1, fun b => f b ∨ g1 b, h1, ?_, ?_, ?_⟩
    · rintro b k (k' | k')
      · exact hd b k' ((h3 b).2 (Or.inl k))
      · exact h2 b k k'
    · intro b; rw [ho, h3]; constructor
      · rintro (k | k | k) <;> simp [k]
      · rintro (k | k | k) <;> simp [k]
    · intro e' h' f' hp' hsame hd'
      refine ⟨f, fun b => f' b ∨ g1 b, Ent.st _ hp fun b k => hsame b (Or.inl k), h4 e' h' f' hp' (fun b k => hsame b (Or.inr k)) (fun b k k' => hd' b k (Or.inr k')), ?_, ?_⟩
      · rintro b k (k' | k')
        · exact hd' b k' (Or.inl k)
        · exact hd b k ((h3 b).2 (Or.inr k'))
      · intro b; constructor
        · rintro (k | k | k) <;> simp [k]
        · rintro (k | k | k) <;> simp [k]

/-! ### With a base -/
/-- The things lie in new blocks; all blocks of the base heap are as they were. -/
def Sat (h0 : H) (A : List Ent) (h : H) : Prop := Ext none_ h0 h ∧ ∃ O, SatX A h O ∧ ∀ b, O b → h0.size ≤ b

theorem Sat.init (h : H) : Sat h [] h := ⟨Ext.refl _ _, fun _ => False, fun _ x => x, fun _ x => x.elim⟩
theorem Sat.ex {h0 h : H} {A : List Ent} (s : Sat h0 A h) : Ext none_ h0 h := s.1
theorem Sat.ext {h0 h h' : H} {A : List Ent} (s : Sat h0 A h) (x : Ext none_ h h') : Sat h0 A h' := by
  obtain ⟨s1, O, s2, s3⟩ := s
  exact ⟨s1.trans x, O, s2.st fun b hb => x.eq b (s2.lt hb) (fun y => y), s3⟩
theorem Sat.add {h0 h h' : H} {A : List Ent} (s : Sat h0 A h) (x : Ext none_ h h') {e : Ent} {f : Nat → Prop} (p : e.P h' f) (n : ∀ b, f b → h.size ≤ b) : Sat h0 (e :: A) h' := by
  obtain ⟨s1, O, s2, s3⟩ := s
  refine ⟨s1.trans x, fun b => f b ∨ O b, ⟨f, O, p, s2.st fun b hb => x.eq b (s2.lt hb) (fun y => y), ?_, fun b => Iff.rfl⟩, ?_⟩
  · intro b k k'; have := n b k; have := s2.lt k'; omega
  · rintro b (k | k)
    · have := n b k; have := s1.size; omega
    · exact s3 b k
theorem Sat.drop {h0 h : H} {A : List Ent} {e : Ent} (s : Sat h0 (e :: A) h) : Sat h0 A h := by
  obtain ⟨s1, O, ⟨f, g, _, hg, _, ho⟩, s3⟩ := s
  exact ⟨s1, g, hg, fun b hb => s3 b ((ho b).2 (Or.inr hb))⟩
theorem Sat.sub {h0 h : H} {A B : List Ent} (s : Sat h0 A h) (p : B.Sublist A) : Sat h0 B h := by
  obtain ⟨s1, O, s2, s3⟩ := s
  have : ∃ O', SatX B h O' ∧ ∀ b, O' b → O b := by
    clear s3
    induction p generalizing O with
    | slnil => exact ⟨O, s2, fun _ x => x⟩
    | cons a _ ih =>
      obtain ⟨f, g, hp, hg, hd, ho⟩ := s2
      obtain ⟨O', h1, h2⟩ := ih g hg
      exact ⟨O', h1, fun b hb => (ho b).2 (Or.inr (h2 b hb))⟩
    | cons_cons a _ ih =>
      obtain ⟨f, g, hp, hg, hd, ho⟩ := s2
      obtain ⟨O', h1, h2⟩ := ih g hg
      exact ⟨fun b => f b ∨ O' b, ⟨f, O', hp, h1, fun b k k' => hd b k (h2 b k'), fun b => Iff.rfl⟩, fun b hb => (ho b).2 (hb.imp id (h2 b))⟩
  obtain ⟨O', h1, h2⟩ := this
  exact ⟨s1, O', h1, fun b hb => s3 b (h2 b hb)⟩
theorem Sat.nil {h0 h : H} {A : List Ent} (s : Sat h0 A h) : Sat h0 [] h := ⟨s.1, fun _ => False, fun _ x => x, fun _ x => x.elim⟩
theorem Sat.perm {h0 h : H} {A B : List Ent} (s : Sat h0 A h) (p : A.Perm B) : Sat h0 B h := by
  obtain ⟨s1, O, s2, s3⟩ := s
  refine ⟨s1, O, ?_, s3⟩
  clear s3
  induction p generalizing O with
  | nil => exact s2
  | cons x _ ih =>
    obtain ⟨f, g, hp, hg, hd, ho⟩ := s2
    exact ⟨f, g, hp, ih g hg, hd, ho⟩
  | swap x y l =>
    obtain ⟨f, g, hp, ⟨f1, g1, hp1, hg1, hd1, ho1⟩, hd, ho⟩ := s2
    refine ⟨f1, fun b => f b ∨ g1 b, hp1, ⟨f, g1, hp, hg1, fun b k k' => hd b k ((ho1 b).2 (Or.inr k')), fun b => Iff.rfl⟩, ?_, ?_⟩
    · rintro b k (k' | k')
      · exact hd b k' ((ho1 b).2 (Or.inl k))
      · exact hd1 b k k'
    · intro b; rw [ho, ho1]; constructor
      · rintro (k | k | k) <;> simp [k]
      · rintro (k | k | k) <;> simp [k]
  | trans _ _ ih1 ih2 => exact ih2 O (ih1 O s2)
theorem Sat.takeK {h0 h : H} {A : List Ent} (s : Sat h0 A h) {i : Nat} {e : Ent} (a : At A i e) : ∃ f : Nat → Prop, e.P h f ∧ (∀ b, f b → h0.size ≤ b) ∧
    ∀ (h' : H) (e' : Ent) (f' : Nat → Prop), e'.P h' f' → (∀ b, f' b → f b ∨ h.size ≤ b) → Ext f h h' → Sat h0 (Vc.put A i e') h' := by
  obtain ⟨s1, O, s2, s3⟩ := s
  obtain ⟨f, g, hp, hd, ho, hk⟩ := s2.take a
  refine ⟨f, hp, fun b hb => s3 b ((ho b).2 (Or.inl hb)), fun h' e' f' hp' hn hx => ?_⟩
  have hg : ∀ b, g b → b < h.size := fun b hb => s2.lt ((ho b).2 (Or.inr hb))
  refine ⟨s1.comp hx (fun b hb hf => ?_), _, hk e' h' f' hp' (fun b hb => hx.eq b (hg b hb) (fun hf => hd b hf hb)) ?_, ?_⟩
  · have := s3 b ((ho b).2 (Or.inl hf)); omega
  · intro b k1 k2
    rcases hn b k1 with k | k
    · exact hd b k k2
    · have := hg b k2; omega
  · rintro b (k1 | k1)
    · rcases hn b k1 with k | k
      · exact s3 b ((ho b).2 (Or.inl k))
      · have := s1.size; omega
    · exact s3 b ((ho b).2 (Or.inr k1))
theorem Sat.take {h0 h : H} {A : List Ent} (s : Sat h0 A h) {i : Nat} {e : Ent} (a : At A i e) : ∃ f, e.P h f ∧ ∀ b, f b → h0.size ≤ b := by
  obtain ⟨f, h1, h2, _⟩ := s.takeK a
  exact ⟨f, h1, h2⟩
/-- One thing becomes another one: only its own blocks, and new ones, change. -/
theorem Sat.upd {h0 h h' : H} {A : List Ent} (s : Sat h0 A h) {i : Nat} {e e' : Ent} (a : At A i e)
    (k : ∀ f, e.P h f → ∃ f', e'.P h' f' ∧ (∀ b, f' b → f b ∨ h.size ≤ b) ∧ Ext f h h') : Sat h0 (Vc.put A i e') h' := by
  obtain ⟨f, hp, _, hk⟩ := s.takeK a
  obtain ⟨f', h1, h2, h3⟩ := k f hp
  exact hk h' e' f' h1 h2 h3
/-- The same heap, read otherwise. -/
theorem Sat.as {h0 h : H} {A : List Ent} (s : Sat h0 A h) {i : Nat} {e e' : Ent} (a : At A i e) (k : ∀ f, e.P h f → e'.P h f) : Sat h0 (Vc.put A i e') h :=
  s.upd a fun f hp => ⟨f, k f hp, fun _ => Or.inl, Ext.refl _ _⟩

/-! ### A block; a slice -/
@[irreducible] def blkP (b : Nat) (vs : List Value) (h : H) (f : Nat → Prop) : Prop := Blk h b vs ∧ ∀ x, f x ↔ x = b
def blk (b : Nat) (vs : List Value) : Ent where
  tag := .blk b vs
  P := blkP b vs
  st := by unfold blkP; rintro h h' f ⟨k, e⟩ hs; exact ⟨k.of_eq (hs b ((e b).2 rfl)), e⟩
  lt := by unfold blkP; rintro h f x ⟨k, e⟩ hx; rw [(e x).1 hx]; exact k.lt
theorem blk_P {b : Nat} {vs : List Value} {h : H} {f : Nat → Prop} : (blk b vs).P h f ↔ Blk h b vs ∧ ∀ x, f x ↔ x = b := by
  show blkP b vs h f ↔ _; unfold blkP; rfl
@[irreducible] def slP (p : Option Addr) (l c sz : Nat) (vs : List Value) (h : H) (f : Nat → Prop) : Prop := ∃ bs, OwnS h p l c sz vs bs ∧ ∀ x, f x ↔ x ∈ bs
def slE (p : Option Addr) (l c sz : Nat) (vs : List Value) : Ent where
  tag := .sl p l c sz vs
  P := slP p l c sz vs
  st := by
    unfold slP; rintro h h' f ⟨bs, ⟨h1, h2, h3, h4⟩, e⟩ hs
    refine ⟨bs, ⟨h1, h2, h3, ?_⟩, e⟩
    rcases h4 with h4 | ⟨b, rest, e1, rfl, k, e2⟩
    · exact Or.inl h4
    · exact Or.inr ⟨b, rest, e1, rfl, k.of_eq (hs b ((e b).2 (by simp))), e2⟩
  lt := by unfold slP; rintro h f x ⟨bs, o, e⟩ hx; exact o.lt x ((e x).1 hx)
theorem slE_P {p : Option Addr} {l c sz : Nat} {vs : List Value} {h : H} {f : Nat → Prop} : (slE p l c sz vs).P h f ↔ ∃ bs, OwnS h p l c sz vs bs ∧ ∀ x, f x ↔ x ∈ bs := by
  show slP p l c sz vs h f ↔ _; unfold slP; rfl
@[irreducible] def exP {α : Type} (φ : α → Prop) (F : α → List Ent) (h : H) (f : Nat → Prop) : Prop := ∃ a, φ a ∧ SatX (F a) h f
/-- Things whose places nobody need know. -/
def exE {α : Type} (n : Nat) (φ : α → Prop) (F : α → List Ent) : Ent where
  tag := .of n
  P := exP φ F
  st := by unfold exP; rintro h h' f ⟨a, ha, s⟩ hs; exact ⟨a, ha, s.st hs⟩
  lt := by unfold exP; rintro h f x ⟨a, ha, s⟩ hx; exact s.lt hx
theorem exE_P {α : Type} {n : Nat} {φ : α → Prop} {F : α → List Ent} {h : H} {f : Nat → Prop} : (exE n φ F).P h f ↔ ∃ a, φ a ∧ SatX (F a) h f := by
  show exP φ F h f ↔ _; unfold exP; rfl
theorem Sat.open_ {h0 h : H} {A : List Ent} {α : Type} {n : Nat} {φ : α → Prop} {F : α → List Ent} (s : Sat h0 (exE n φ F :: A) h) : ∃ a, φ a ∧ Sat h0 (F a ++ A) h := by
  obtain ⟨s1, O, ⟨f, g, hp, hg, hd, ho⟩, s3⟩ := s
  obtain ⟨a, ha, s⟩ := exE_P.1 hp
  exact ⟨a, ha, s1, O, SatX.append.2 ⟨f, g, s, hg, hd, ho⟩, s3⟩
theorem Sat.close {h0 h : H} {A : List Ent} {α : Type} {n : Nat} {φ : α → Prop} {F : α → List Ent} (a : α) (ha : φ a) (s : Sat h0 (F a ++ A) h) : Sat h0 (exE n φ F :: A) h := by
  obtain ⟨s1, O, s2, s3⟩ := s
  obtain ⟨f, g, hf, hg, hd, ho⟩ := SatX.append.1 s2
  exact ⟨s1, O, ⟨f, g, exE_P.2 ⟨a, ha, hf⟩, hg, hd, ho⟩, s3⟩
/-- Moved to the front. -/
def del : List Ent → Nat → List Ent
  | [], _ => []
  | _ :: A, 0 => A
  | x :: A, i + 1 => x :: del A i
theorem At.perm {A : List Ent} {i : Nat} {e : Ent} (a : At A i e) : A.Perm (e :: del A i) := by
  induction a with
  | z => exact .refl _
  | s _ ih => exact (ih.cons _).trans (.swap _ _ _)
theorem At.perm_put {A : List Ent} {i : Nat} {e : Ent} (a : At A i e) (x : Ent) : (x :: del A i).Perm (Vc.put A i x) := by
  induction a with
  | z => exact .refl _
  | s _ ih => exact (List.Perm.swap _ _ _).trans (ih.cons _)
theorem Sat.front {h0 h : H} {A : List Ent} (s : Sat h0 A h) {i : Nat} {e : Ent} (a : At A i e) : Sat h0 (e :: del A i) h := s.perm a.perm
theorem Sat.back {h0 h : H} {A : List Ent} {i : Nat} {e x : Ent} (a : At A i e) (s : Sat h0 (x :: del A i) h) : Sat h0 (Vc.put A i x) h := s.perm (a.perm_put x)

/-! ### Steps -/
theorem Sat.new {h0 h h' : H} {A : List Ent} (s : Sat h0 A h) {b : Nat} {vs : List Value} (n : hnew h b vs h') : Sat h0 (blk b vs :: A) h' :=
  s.add n.ext (blk_P.2 ⟨n.blk, fun _ => Iff.rfl⟩) fun x hx => by rw [hx, n.b]; exact Nat.le_refl _
theorem Sat.blkOf {h0 h : H} {A : List Ent} (s : Sat h0 A h) {i b : Nat} {vs : List Value} (a : At A i (blk b vs)) : Blk h b vs := by
  obtain ⟨f, hp, _⟩ := s.take a
  exact (blk_P.1 hp).1
theorem Sat.old {h0 h : H} {A : List Ent} (s : Sat h0 A h) {i b : Nat} {vs : List Value} (a : At A i (blk b vs)) : h0.size ≤ b := by
  obtain ⟨f, hp, hl⟩ := s.take a
  exact hl b (((blk_P.1 hp).2 b).2 rfl)
theorem Sat.ld {h0 h : H} {A : List Ent} (s : Sat h0 A h) {i b : Nat} {vs : List Value} (a : At A i (blk b vs)) {o : Nat} {v : Value} (e : vs[o]? = some v) : hc h ⟨b, o, none⟩ = some v := by
  rw [(s.blkOf a).hc, e]
theorem Sat.cs1 {h0 h : H} {A : List Ent} (s : Sat h0 A h) {i b : Nat} {vs : List Value} (a : At A i (blk b vs)) {o : Nat} {xs : List Value} (e : ∀ i, i < xs.length → vs[o + i]? = xs[i]?) : hcs h ⟨b, o, none⟩ xs := (s.blkOf a).hcs e
theorem Sat.cs {h0 h : H} {A : List Ent} (s : Sat h0 A h) {i b : Nat} {vs : List Value} (a : At A i (blk b vs)) {o : Nat} {xs : List Value} (e : (vs.drop o).take xs.length = xs) : hcs h ⟨b, o, none⟩ xs := by
  refine s.cs1 a fun i hi => ?_
  have : ((vs.drop o).take xs.length)[i]? = xs[i]? := by rw [e]
  rw [List.getElem?_take_of_lt hi, List.getElem?_drop] at this
  exact this
theorem Sat.row {h0 h : H} {A : List Ent} (s : Sat h0 A h) {i b : Nat} {vs : List Value} (a : At A i (blk b vs)) {o : Nat} {k : IntKind} {ns : List Int} (e : ∀ i, i < ns.length → vs[o + i]? = ns[i]?.map (Value.int k)) : hrow h ⟨b, o, none⟩ k ns := (s.blkOf a).hrow e
theorem Sat.can {h0 h : H} {A : List Ent} (s : Sat h0 A h) {i b : Nat} {vs : List Value} (a : At A i (blk b vs)) {o n : Nat} (e : o + n ≤ vs.length) : hcan h ⟨b, o, none⟩ n := (s.blkOf a).can e
theorem Sat.wr {h0 h h' : H} {A : List Ent} (s : Sat h0 A h) {i b : Nat} {vs : List Value} (a : At A i (blk b vs)) {o : Nat} {xs : List Value} (e : h' = hwr h ⟨b, o, none⟩ xs) : Sat h0 (Vc.put A i (blk b (splice vs o xs))) h' := by
  subst e
  refine s.upd a fun f hp => ?_
  obtain ⟨k, hf⟩ := blk_P.1 hp
  refine ⟨f, blk_P.2 ⟨k.wr o xs, hf⟩, fun _ => Or.inl, (Ext.wr h b o xs).mono fun x _ hx => (hf x).2 hx⟩
theorem Sat.sv {h0 h : H} {A : List Ent} (s : Sat h0 A h) {i : Nat} {p : Option Addr} {l c sz : Nat} {vs : List Value} (a : At A i (slE p l c sz vs)) : hsv h p sz l vs := by
  obtain ⟨f, hp, _⟩ := s.take a
  obtain ⟨bs, o, _⟩ := slE_P.1 hp
  exact o.hsv
theorem Sat.base {h0 h : H} {A : List Ent} (s : Sat h0 A h) {p : Option Addr} {sz l : Nat} {vs : List Value} (e : hsv h0 p sz l vs) : hsv h p sz l vs := hsv_ext s.1 e fun _ _ x => x
theorem Sat.own {h0 h h' : H} {A : List Ent} (s : Sat h0 A h) (x : Ext none_ h h') {p : Option Addr} {l c sz : Nat} {vs : List Value} {bs : List Nat} (o : OwnS h' p l c sz vs bs) (n : newB h bs) : Sat h0 (slE p l c sz vs :: A) h' :=
  s.add x (f := fun x => x ∈ bs) (slE_P.2 ⟨bs, o, fun _ => Iff.rfl⟩) n
/-- Cells are appended to a slice that is owned. -/
theorem Sat.app {h0 h : H} {A : List Ent} (s : Sat h0 A h) {i : Nat} {p : Option Addr} {l c n sz : Nat} {old vs z : List Value} {B : Nat} (a : At A i (slE p l c sz old)) {K : Option Addr → Nat → Nat → H → Prop}
    (hl : vs.length = n * sz) (hz : z.length = sz) (hv : ∀ v, v ∈ vs → v.oneCell' = true) (hb : (l + n) * B ≤ 2 ^ 47)
    (k : ∀ p' c' h', Sat h0 (Vc.put A i (slE p' (l + n) c' sz (old ++ vs))) h' → K p' (l + n) c' h') : pApp h sz z B p l c n vs K := by
  obtain ⟨f, hp, _, hk⟩ := s.takeK a
  obtain ⟨bs, o, hf⟩ := slE_P.1 hp
  refine pApp_own o hl hz hv hb fun p' c' h' bs' hx ho hn => k _ _ _ ?_
  refine hk h' _ (fun x => x ∈ bs') (slE_P.2 ⟨bs', ho, fun _ => Iff.rfl⟩) (fun b hb => ?_) (hx.mono fun x _ hx => (hf x).2 hx)
  rcases hn b hb with h1 | h1
  · exact Or.inl ((hf b).2 h1)
  · exact Or.inr h1
theorem At.app {A B : List Ent} {i : Nat} {e : Ent} (a : At A i e) : At (A ++ B) i e := by
  induction a with
  | z => exact .z
  | s _ ih => exact .s ih
theorem At.get {A : List Ent} {i : Nat} {e : Ent} (h : A[i]? = some e) : At A i e := by
  induction A generalizing i with
  | nil => simp at h
  | cons x A ih => cases i with
    | zero => simp at h; subst h; exact .z
    | succ i => exact .s (ih (by simpa using h))
theorem At.mem {A : List Ent} {e : Ent} (h : e ∈ A) : ∃ i, At A i e := by
  obtain ⟨i, hi⟩ := List.mem_iff_getElem?.1 h
  exact ⟨i, At.get hi⟩

end Go.Vc
end

/- Slices of slices of bytes. Own work; generic over any program. -/
section
set_option linter.unusedVariables false
namespace Go.Vc

def bools (bs : List Bool) : List Value := bs.map Value.bool
@[simp] theorem bools_length (bs : List Bool) : (bools bs).length = bs.length := by simp [bools]
@[simp] theorem bools_get (bs : List Bool) (i : Nat) : (bools bs)[i]? = bs[i]?.map Value.bool := by simp [bools]
abbrev Sl := Option Addr × Nat × Nat
abbrev Sl.v (s : Sl) : Value := .slice s.1 s.2.1 s.2.2
abbrev sE (s : Sl) (sz : Nat) (vs : List Value) : Ent := slE s.1 s.2.1 s.2.2 sz vs

/-- A row's slice, and its bytes. -/
structure Pg where
  sl : Sl
  bytes : List Int
def Pg.rd (h : H) (sz : Nat) (x : Pg) : Prop := hsv h x.sl.1 sz x.sl.2.1 (ints .u8 x.bytes)
def pgSl (l : List Pg) : List Value := l.map fun x => x.sl.v
def pgBytes (l : List Pg) : List (List Int) := l.map Pg.bytes
def rowsE (sz : Nat) (l : List Pg) : List Ent := l.map fun x => sE x.sl sz (ints .u8 x.bytes)
@[simp] theorem pgSl_length (l : List Pg) : (pgSl l).length = l.length := by simp [pgSl]
@[simp] theorem pgBytes_length (l : List Pg) : (pgBytes l).length = l.length := by simp [pgBytes]

/-- A slice of slices of bytes (sz a element of the inner ones), read only. -/
def RdM (h : H) (sz : Nat) (a : Sl) (rows : List (List Int)) : Prop := ∃ pgs, rows = pgBytes pgs ∧ hsv h a.1 1 a.2.1 (pgSl pgs) ∧ ∀ x, x ∈ pgs → x.rd h sz
/-- A slice of slices of bytes that is owned. -/
def matL (sz : Nat) (a : Sl) (pgs : List Pg) : List Ent := sE a 1 (pgSl pgs) :: rowsE sz pgs
def matE (sz : Nat) (a : Sl) (rows : List (List Int)) : Ent := exE 1 (fun pgs => rows = pgBytes pgs) (matL sz a)
theorem RdM.ext {h h' : H} (x : Ext none_ h h') {sz : Nat} {a : Sl} {rows : List (List Int)} (r : RdM h sz a rows) : RdM h' sz a rows := by
  obtain ⟨pgs, h1, h2, h3⟩ := r
  exact ⟨pgs, h1, hsv_ext x h2 (fun _ _ y => y), fun y hy => hsv_ext x (h3 y hy) (fun _ _ y => y)⟩
theorem RdM.len {h : H} {sz : Nat} {a : Sl} {rows : List (List Int)} (r : RdM h sz a rows) : rows.length = a.2.1 := by
  obtain ⟨pgs, rfl, h2, _⟩ := r
  have := h2.1; simpa using this
/-- The slice of a row, and what it holds. -/
theorem RdM.at {h : H} {sz : Nat} {a : Sl} {rows : List (List Int)} (r : RdM h sz a rows) {j : Nat} (hj : j < rows.length) :
    ∃ q x, a.1 = some q ∧ hc h (q.add (j * 1)) = some (Sl.v x) ∧ hsv h x.1 sz x.2.1 (ints .u8 rows[j]) := by
  obtain ⟨pgs, rfl, h2, h3⟩ := r
  have hj' : j < pgs.length := by simpa using hj
  have e : (pgSl pgs)[j]? = some (pgs[j].sl.v) := by simp [pgSl, hj']
  obtain ⟨q, hq, g⟩ := hsv_get h2 e
  refine ⟨q, pgs[j].sl, hq, by simpa using g, ?_⟩
  have := h3 pgs[j] (List.getElem_mem hj')
  simpa [Pg.rd, pgBytes] using this
theorem Sat.rdM {h0 h : H} {A : List Ent} (hs : Sat h0 A h) {i sz : Nat} {a : Sl} {rows : List (List Int)} (m : At A i (matE sz a rows)) : RdM h sz a rows := by
  obtain ⟨pgs, he, hs⟩ := (hs.front m).open_
  refine ⟨pgs, he, hs.sv (.z), ?_⟩
  intro x hx
  obtain ⟨j, hj⟩ := At.mem (A := rowsE sz pgs) (e := sE x.sl sz (ints .u8 x.bytes)) (List.mem_map_of_mem hx)
  exact hs.sv (.s hj.app)
/-- A row is appended. -/
theorem Sat.app_row {h0 h : H} {A : List Ent} {i sz : Nat} {p : Option Addr} {l c : Nat} {r : Sl} {rows : List (List Int)} {bs : List Int} {K : Option Addr → Nat → Nat → H → Prop}
    (hs : Sat h0 (sE r sz (ints .u8 bs) :: A) h) (m : At A i (matE sz (p, l, c) rows)) (hb : (l + 1) * 24 ≤ 2 ^ 47)
    (k : ∀ p' c' h', Sat h0 (Vc.put A i (matE sz (p', l + 1, c') (rows ++ [bs]))) h' → K p' (l + 1) c' h') : pApp h 1 [.slice none 0 0] 24 p l c 1 [r.v] K := by
  obtain ⟨pgs, he, hs⟩ := (hs.front (m.s)).open_
  have hs : Sat h0 (sE (p, l, c) 1 (pgSl pgs) :: (rowsE sz pgs ++ (sE r sz (ints .u8 bs) :: del A i))) h := hs
  refine hs.app (.z) (by simp) rfl (by intro v hv; simp at hv; subst hv; rfl) hb ?_
  intro p' c' h' hs
  refine k p' c' h' (Sat.back m ?_)
  refine Sat.close (pgs ++ [⟨r, bs⟩]) (by simp [he, pgBytes]) ?_
  refine hs.perm ?_
  simp only [Vc.put, matL, rowsE, pgSl, List.map_append, List.map_cons, List.map_nil, List.cons_append, List.append_assoc, List.nil_append]
  exact .refl _
theorem Sat.mat_nil {h0 h : H} {A : List Ent} (hs : Sat h0 A h) (sz : Nat) (p : Option Addr) : Sat h0 (matE sz (p, 0, 0) [] :: A) h := by
  refine Sat.close [] rfl ?_
  refine hs.own (Ext.refl _ _) (bs := []) (OwnS.nil _ _ _) (by intro b hb; simp at hb)
theorem Sat.sl_nil {h0 h : H} {A : List Ent} (hs : Sat h0 A h) (sz : Nat) (p : Option Addr) : Sat h0 (sE (p, 0, 0) sz [] :: A) h :=
  hs.own (Ext.refl _ _) (bs := []) (OwnS.nil _ _ _) (by intro b hb; simp at hb)
/-- A block, held for a slice. -/
theorem Sat.as_sl {h0 h : H} {A : List Ent} (hs : Sat h0 A h) {i b l sz : Nat} {vs : List Value} (m : At A i (blk b vs)) (hl : vs.length = l * sz) (hv : ∀ v, v ∈ vs → v.oneCell' = true) :
    Sat h0 (Vc.put A i (slE (some ⟨b, 0, none⟩) l l sz vs)) h := by
  refine hs.as m fun f hp => ?_
  obtain ⟨k, hf⟩ := blk_P.1 hp
  refine slE_P.2 ⟨[b], ⟨hl, Nat.le_refl _, hv, Or.inr ⟨b, [], rfl, rfl, by simpa using k, by simp⟩⟩, fun x => ?_⟩
  rw [hf]; simp
theorem Sat.bv {h0 h : H} {A : List Ent} (hs : Sat h0 A h) {i b l sz : Nat} {vs : List Value} (m : At A i (blk b vs)) (hl : vs.length = l * sz) (hv : ∀ v, v ∈ vs → v.oneCell' = true) :
    hsv h (some ⟨b, 0, none⟩) sz l vs := (hs.as_sl m hl hv).sv (m.put _)
theorem ints_one (k : IntKind) (ns : List Int) : ∀ v, v ∈ ints k ns → v.oneCell' = true := by
  intro v hv
  simp only [ints, List.mem_map] at hv
  obtain ⟨n, _, rfl⟩ := hv; rfl
theorem bools_one (ns : List Bool) : ∀ v, v ∈ bools ns → v.oneCell' = true := by
  intro v hv
  simp only [bools, List.mem_map] at hv
  obtain ⟨n, _, rfl⟩ := hv; rfl
theorem Sat.ofBlk {h0 h h' : H} {A : List Ent} (hs : Sat h0 A h) (x : Ext none_ h h') {b : Nat} {vs : List Value} (k : Blk h' b vs) (n : h.size ≤ b) : Sat h0 (blk b vs :: A) h' :=
  hs.add x (blk_P.2 ⟨k, fun _ => Iff.rfl⟩) fun y hy => by rw [hy]; exact n

/-! ### Slices whose first cell is known -/
theorem Sat.sl_some {h0 h : H} {A : List Ent} (hs : Sat h0 A h) {i : Nat} {p : Option Addr} {l c sz : Nat} {vs : List Value} (m : At A i (slE p l c sz vs)) (hl : 0 < l) : ∃ b, p = some ⟨b, 0, none⟩ := by
  obtain ⟨f, hp, _⟩ := hs.take m
  obtain ⟨bs, ⟨_, _, _, h4⟩, _⟩ := slE_P.1 hp
  rcases h4 with ⟨h1, _, _⟩ | ⟨b, _, h1, _⟩
  · omega
  · exact ⟨b, h1⟩
theorem Sat.sl_len {h0 h : H} {A : List Ent} (hs : Sat h0 A h) {i : Nat} {p : Option Addr} {l c sz : Nat} {vs : List Value} (m : At A i (slE p l c sz vs)) : vs.length = l * sz := (hs.sv m).1
theorem Sat.sld {h0 h : H} {A : List Ent} (hs : Sat h0 A h) {i b l c sz : Nat} {vs : List Value} (m : At A i (slE (some ⟨b, 0, none⟩) l c sz vs)) {o : Nat} {v : Value} (e : vs[o]? = some v) : hc h ⟨b, o, none⟩ = some v := by
  obtain ⟨q, hq, g⟩ := hsv_get (hs.sv m) e
  injection hq with hq; subst hq
  rwa [add_mk, Nat.zero_add] at g
/-! ### Whole blocks -/
theorem Sat.wra {h0 h h' : H} {A : List Ent} (s : Sat h0 A h) {i b : Nat} {vs xs : List Value} (a : At A i (blk b vs)) (e : h' = hwr h ⟨b, 0, none⟩ xs) (hl : xs.length = vs.length) : Sat h0 (Vc.put A i (blk b xs)) h' := by
  have := s.wr a e
  rwa [splice_all _ _ hl] at this
theorem Sat.row0 {h0 h : H} {A : List Ent} (s : Sat h0 A h) {i b : Nat} {k : IntKind} {ns : List Int} (a : At A i (blk b (ints k ns))) : hrow h ⟨b, 0, none⟩ k ns :=
  s.row a fun i _ => by rw [Nat.zero_add, ints_get]

/-! ### Cells of a slice of slices -/
def cellAt (row : List Int) (k : Nat) : List Int := (row.drop (k * 32)).take 32
theorem cellAt_length {row : List Int} {k : Nat} (h : (k + 1) * 32 ≤ row.length) : (cellAt row k).length = 32 := by simp [cellAt]; omega
theorem cellAt_get (row : List Int) (k i : Nat) (hi : i < 32) : (cellAt row k)[i]? = row[k * 32 + i]? := by
  simp only [cellAt]
  rw [List.getElem?_take_of_lt hi, List.getElem?_drop]
/-- A cell is read. -/
theorem RdM.cell {h : H} {a : Sl} {rows : List (List Int)} (r : RdM h 32 a rows) {j k : Nat} (hj : j < rows.length) (hk : (k + 1) * 32 ≤ rows[j].length) :
    ∃ q x q', a.1 = some q ∧ hc h (q.add (j * 1)) = some (Sl.v x) ∧ x.2.1 * 32 = rows[j].length ∧ x.1 = some q' ∧ hrow h (q'.add (k * 32)) .u8 (cellAt rows[j] k) := by
  obtain ⟨q, x, h1, h2, h3⟩ := r.at hj
  have hl : x.2.1 * 32 = rows[j].length := by have := h3.1; simp at this; omega
  obtain ⟨e1, e2, e3⟩ := h3
  rcases e3 with e3 | ⟨q', hq, g⟩
  · have : rows[j].length = 0 := by have := congrArg List.length e3; simpa using this
    omega
  · refine ⟨q, x, q', h1, h2, hl, hq, ?_⟩
    intro i v hv
    have hi : i < 32 := by
      have := (List.getElem?_eq_some_iff.1 hv).1
      rw [ints_length, cellAt_length hk] at this; exact this
    rw [ints_get, cellAt_get _ _ _ hi] at hv
    have : (q'.add (k * 32)).add i = q'.add (k * 32 + i) := by
      cases q' with | mk b o s => unfold Addr.add; by_cases h1 : k * 32 = 0 <;> by_cases h2 : i = 0 <;> simp [h1, h2, Nat.add_assoc]
    rw [this]
    exact g _ _ (by rw [ints_get]; exact hv)

/-! ### A row taken out of a slice of slices -/
end Go.Vc
end

/- Arguments that are read as data: what their cells are. Own work; generic over any program. -/
section
set_option maxRecDepth 100000
set_option linter.unusedVariables false
namespace Go.Vc

/-- The cells read as a datum of a type, no piece of which is too great. -/
def Rdt {D : Type} (enc : TypeId × Value → D) (P : Program) (W : World) (t : TypeId) (cs : List Value) : Prop :=
  ∃ fuel x, DataW.trod enc P W 0 (fun _ => true) true fuel t cs = some x ∧ ∀ n, n ∈ DataW.weights P t x.1 → n ≤ reachBytes

inductive XSh where
  | int (k : IntKind) | bool | str | slc (e : TypeId) | row (k : IntKind) (n : Nat)
def XSh.size : XSh → Nat
  | .row _ n => n
  | _ => 1
def xSize : List XSh → Nat
  | [] => 0
  | s :: r => s.size + xSize r

/-- The fields of a struct, one behind the other. -/
def xFields (sh : TypeId → Option (List XSh)) : Nat → List Field → Option (List XSh)
  | _, [] => some []
  | off, f :: fs => match Nat.beq f.offset off, sh f.type with
    | true, some s => (xFields sh (off + xSize s) fs).map (s ++ ·)
    | _, _ => none
def xsh (P : Program) : Nat → TypeId → Option (List XSh)
  | 0, _ => none
  | d + 1, t => match P.underlying t with
    | some (.int k) => some [.int k]
    | some .bool => some [.bool]
    | some .string => some [.str]
    | some (.slice e) => some [.slc e]
    | some (.array n e) => match P.underlying e, Nat.beq (P.cellsOf e) 1, Nat.beq (P.cellsOf t) n with
      | some (.int k), true, true => some [.row k n]
      | _, _, _ => none
    | some (.struct fs) => match xFields (fun u => match xsh P d u with | some s => (match Nat.beq (P.cellsOf u) (xSize s) with | true => some s | false => none) | none => none) 0 fs.toList with
      | some s => match Nat.beq (P.cellsOf t) (xSize s) with | true => some s | false => none
      | none => none
    | _ => none

/-- A slice of so many elements of a type. -/
def Sli {D : Type} (enc : TypeId × Value → D) (P : Program) (W : World) (e : TypeId) (p : Option Addr) (l c : Nat) : Prop :=
  l ≤ c ∧ c * P.bytesOf e ≤ reachBytes ∧ (p = none → l = 0 ∧ c = 0) ∧
    ∀ i, i < l → ∃ a es, p = some a ∧ es.length = P.cellsOf e ∧ hcs W.heap (a.add (i * P.cellsOf e)) es ∧ Rdt enc P W e es
def has (k : IntKind) (n : Int) : Prop := k.min ≤ n ∧ n ≤ k.max
theorem has_i64 {n : Int} (h : has .i64 n) : -(2 ^ 63) ≤ n ∧ n < 2 ^ 63 := by
  have h1 : IntKind.i64.min = -(2 ^ 63) := by decide
  have h2 : IntKind.i64.max = 2 ^ 63 - 1 := by decide
  unfold has at h; omega
def XM {D : Type} (enc : TypeId × Value → D) (P : Program) (W : World) : List XSh → List Value → Prop
  | [], cs => cs = []
  | .int k :: r, cs => ∃ n rest, cs = .int k n :: rest ∧ has k n ∧ XM enc P W r rest
  | .bool :: r, cs => ∃ b rest, cs = .bool b :: rest ∧ XM enc P W r rest
  | .str :: r, cs => ∃ s rest, cs = .string s :: rest ∧ s.size ≤ reachBytes ∧ XM enc P W r rest
  | .slc e :: r, cs => ∃ p l c rest, cs = .slice p l c :: rest ∧ Sli enc P W e p l c ∧ XM enc P W r rest
  | .row k n :: r, cs => ∃ ns rest, cs = ints k ns ++ rest ∧ ns.length = n ∧ (∀ x, x ∈ ns → has k x) ∧ XM enc P W r rest

section
variable {D : Type} {enc : TypeId × Value → D} {P : Program} {W : World}
theorem XM.append : ∀ {s1 s2 : List XSh} {c1 c2 : List Value}, XM enc P W s1 c1 → XM enc P W s2 c2 → XM enc P W (s1 ++ s2) (c1 ++ c2)
  | [], s2, c1, c2, h1, h2 => by simp only [XM] at h1; subst h1; exact h2
  | .int k :: r, s2, c1, c2, h1, h2 => by obtain ⟨n, rest, rfl, hn, h⟩ := h1; exact ⟨n, rest ++ c2, rfl, hn, XM.append h h2⟩
  | .bool :: r, s2, c1, c2, h1, h2 => by obtain ⟨n, rest, rfl, h⟩ := h1; exact ⟨n, rest ++ c2, rfl, XM.append h h2⟩
  | .str :: r, s2, c1, c2, h1, h2 => by obtain ⟨n, rest, rfl, hn, h⟩ := h1; exact ⟨n, rest ++ c2, rfl, hn, XM.append h h2⟩
  | .slc e :: r, s2, c1, c2, h1, h2 => by obtain ⟨p, l, c, rest, rfl, hn, h⟩ := h1; exact ⟨p, l, c, rest ++ c2, rfl, hn, XM.append h h2⟩
  | .row k n :: r, s2, c1, c2, h1, h2 => by obtain ⟨ns, rest, rfl, hn, hh, h⟩ := h1; exact ⟨ns, rest ++ c2, by simp, hn, hh, XM.append h h2⟩
theorem XM.len : ∀ {s : List XSh} {c : List Value}, XM enc P W s c → c.length = xSize s
  | [], c, h => by simp only [XM] at h; subst h; rfl
  | .int k :: r, c, h => by obtain ⟨n, rest, rfl, _, h⟩ := h; simp [xSize, XSh.size, XM.len h]; omega
  | .bool :: r, c, h => by obtain ⟨n, rest, rfl, h⟩ := h; simp [xSize, XSh.size, XM.len h]; omega
  | .str :: r, c, h => by obtain ⟨n, rest, rfl, _, h⟩ := h; simp [xSize, XSh.size, XM.len h]; omega
  | .slc e :: r, c, h => by obtain ⟨p, l, c, rest, rfl, _, h⟩ := h; simp [xSize, XSh.size, XM.len h]; omega
  | .row k n :: r, c, h => by obtain ⟨ns, rest, rfl, hn, _, h⟩ := h; simp [xSize, XSh.size, XM.len h, hn]

theorem wf_has {k : IntKind} {n : Int} (h : (Lit.int k n).wf = true) : has k n := by
  simp only [Lit.wf, Bool.and_eq_true, decide_eq_true_eq] at h
  exact h
theorem cells_hcs {a : Addr} {n : Nat} {es : List Value} (h : W.cells? 0 a n = some es) : es.length = n ∧ hcs W.heap a es := by
  simp only [World.cells?, Nat.zero_le, if_true] at h
  have hl : es.length = n := by simpa using mapM_some_length h
  refine ⟨hl, fun i v hv => ?_⟩
  have hi : i < n := by have := (List.getElem?_eq_some_iff.1 hv).1; omega
  have := mapM_some_get h i i (by simp [hi])
  rw [hv, cell_hc] at this
  exact this
theorem weights_mem_all {e : TypeId} : ∀ {ds : List (DataW D)} {d : DataW D}, d ∈ ds → ∀ n, n ∈ DataW.weights P e d → n ∈ DataW.weightsAll P e ds
  | d0 :: ds, d, hd, n, hn => by
    simp only [DataW.weightsAll, List.mem_append]
    rcases List.mem_cons.1 hd with rfl | hd
    · exact Or.inl hn
    · exact Or.inr (weights_mem_all hd n hn)

theorem Rdt.slice {t e : TypeId} {cs : List Value} (u : P.underlying t = some (.slice e)) (h : Rdt enc P W t cs) : ∃ p l c, cs = [.slice p l c] ∧ Sli enc P W e p l c := by
  obtain ⟨fuel, x, h, hw⟩ := h
  rcases DataW.trod_slice u h with ⟨rfl, rfl⟩ | ⟨a, len, cap, elems, rest, n, rfl, rfl, rfl, _, hl, hc, he, h1, h2, _⟩
  · exact ⟨none, 0, 0, rfl, Nat.le_refl _, by simp, fun _ => ⟨rfl, rfl⟩, fun i hi => by omega⟩
  · refine ⟨some a, len, cap, rfl, hl, ?_, by simp, ?_⟩
    · obtain ⟨h3, _⟩ := h2 rfl
      have := hw ((elems.length + rest.length) * P.bytesOf e) (by simp [DataW.weights, u])
      rw [he, h3] at this
      rwa [show len + (cap - len) = cap by omega] at this
    · intro i hi
      have h4 := h1 i hi
      have hei : i < elems.length := by omega
      rw [List.getElem?_eq_getElem hei] at h4
      obtain ⟨es, h5, h6⟩ := Option.bind_eq_some_iff.1 h4
      obtain ⟨h7, h8⟩ := cells_hcs h5
      refine ⟨a, es, rfl, h7, h8, n, elems[i], h6, fun m hm => hw m ?_⟩
      simp only [DataW.weights, u, List.mem_cons, List.mem_append]
      exact Or.inr (Or.inl (weights_mem_all (List.mem_map_of_mem (List.getElem_mem hei)) m hm))
theorem array_ints {t e : TypeId} {n : Nat} {k : IntKind} {cs : List Value} (u : P.underlying t = some (.array n e)) (ue : P.underlying e = some (.int k)) (h1 : P.cellsOf e = 1) (h2 : P.cellsOf t = n) (h : Rdt enc P W t cs) :
    ∃ ns : List Int, cs = ints k ns ∧ ns.length = n ∧ ∀ x, x ∈ ns → has k x := by
  obtain ⟨fuel, x, h, _⟩ := h
  cases fuel with
  | zero => simp [DataW.trod] at h
  | succ f =>
    have key : cs.length = n ∧ ∀ i, i < n → ∃ m, cs[i]? = some (.int k m) ∧ has k m := by
      unfold DataW.trod at h
      rw [u] at h
      have h : (if cs.length = P.cellsOf t then ((List.range n).mapM fun i => DataW.trod enc P W 0 (fun _ => true) true f e ((cs.drop (i * P.cellsOf e)).take (P.cellsOf e))).map fun xs => (DataW.agg (xs.map (·.1)), xs.flatMap (·.2)) else none) = some x := by
        split at h <;> simp_all
      split at h
      · rename_i hl
        obtain ⟨xs, hm, _⟩ := Option.map_eq_some_iff.1 h
        refine ⟨by omega, fun i hi => ?_⟩
        have hg := mapM_some_get hm i i (by simp [hi])
        have hxl : xs.length = n := by simpa using mapM_some_length hm
        rw [List.getElem?_eq_getElem (show i < xs.length by omega)] at hg
        obtain ⟨m, hm1, _, hm2⟩ := DataW.trod_int ue hg
        rw [h1, Nat.mul_one] at hm1
        refine ⟨m, ?_, wf_has hm2⟩
        have : ((cs.drop i).take 1)[0]? = some (.int k m) := by rw [hm1]; rfl
        rw [List.getElem?_take_of_lt (by omega), List.getElem?_drop] at this
        simpa using this
      · cases h
    obtain ⟨hl, hc⟩ := key
    refine ⟨cs.map fun v => match v with | .int _ m => m | _ => 0, ?_, by simpa using hl, ?_⟩
    · apply List.ext_getElem?
      intro i
      rw [ints_get, List.getElem?_map, Option.map_map]
      by_cases hi : i < n
      · obtain ⟨m, e, _⟩ := hc i hi
        rw [e]; rfl
      · rw [List.getElem?_eq_none (by omega)]; rfl
    · intro x hx
      obtain ⟨v, hv, rfl⟩ := List.mem_map.1 hx
      obtain ⟨i, hi, rfl⟩ := List.mem_iff_getElem.1 hv
      obtain ⟨m, e, hm⟩ := hc i (by omega)
      rw [List.getElem?_eq_getElem hi] at e
      injection e with e
      rw [e]; exact hm
theorem xFields_XM {sh : TypeId → Option (List XSh)} {cs : List Value} (ih : ∀ u s c, sh u = some s → Rdt enc P W u c → XM enc P W s c) (hz : ∀ u s, sh u = some s → P.cellsOf u = xSize s) :
    ∀ (fs : List Field) (off : Nat) (s : List XSh), xFields sh off fs = some s → off + xSize s ≤ cs.length → (∀ f, f ∈ fs → Rdt enc P W f.type ((cs.drop f.offset).take (P.cellsOf f.type))) → XM enc P W s ((cs.drop off).take (xSize s))
  | [], off, s, h, _, _ => by simp only [xFields, Option.some.injEq] at h; subst h; simp [XM, xSize]
  | f :: fs, off, s, h, hl, hf => by
    unfold xFields at h
    split at h
    · rename_i s1 ho hs1
      obtain ⟨s2, h2, rfl⟩ := Option.map_eq_some_iff.1 h
      have ho : f.offset = off := Nat.eq_of_beq_eq_true ho
      have hx : xSize (s1 ++ s2) = xSize s1 + xSize s2 := by
        clear h h2 hs1 hl
        induction s1 with
        | nil => simp [xSize]
        | cons a r ihr => simp [xSize, ihr]; omega
      rw [hx] at hl ⊢
      have r1 := ih _ _ _ hs1 (hf f (by simp))
      rw [ho, hz _ _ hs1] at r1
      have r2 := xFields_XM ih hz fs (off + xSize s1) s2 h2 (by omega) (fun g hg => hf g (by simp [hg]))
      have e : (cs.drop off).take (xSize s1 + xSize s2) = (cs.drop off).take (xSize s1) ++ (cs.drop (off + xSize s1)).take (xSize s2) := by
        rw [List.take_add, List.drop_drop]
      rw [e]
      exact r1.append r2
    · cases h
theorem Rdt.xm : ∀ (d : Nat) (t : TypeId) (s : List XSh) (cs : List Value), xsh P d t = some s → Rdt enc P W t cs → XM enc P W s cs
  | 0, t, s, cs, h, _ => by cases h
  | d + 1, t, s, cs, h, r => by
    unfold xsh at h
    split at h
    · rename_i k u
      injection h with h; subst h
      obtain ⟨fuel, x, r, _⟩ := r
      obtain ⟨n, rfl, _, hn⟩ := DataW.trod_int u r
      exact ⟨n, [], rfl, wf_has hn, rfl⟩
    · rename_i u
      injection h with h; subst h
      obtain ⟨fuel, x, r, _⟩ := r
      obtain ⟨n, rfl, _⟩ := DataW.trod_bool u r
      exact ⟨n, [], rfl, rfl⟩
    · rename_i u
      injection h with h; subst h
      obtain ⟨fuel, x, r, hw⟩ := r
      obtain ⟨n, rfl, rfl, _⟩ := DataW.trod_string u r
      refine ⟨n, [], rfl, ?_, rfl⟩
      have := hw n.data.toList.length (by simp [DataW.weights])
      simpa using this
    · rename_i e u
      injection h with h; subst h
      obtain ⟨p, l, c, rfl, hs⟩ := Rdt.slice u r
      exact ⟨p, l, c, [], rfl, hs, rfl⟩
    · rename_i n e u
      split at h
      · rename_i k ue h1 h2
        injection h with h; subst h
        obtain ⟨ns, rfl, hn, hh⟩ := array_ints u ue (Nat.eq_of_beq_eq_true h1) (Nat.eq_of_beq_eq_true h2) r
        exact ⟨ns, [], by simp, hn, hh, rfl⟩
      · cases h
    · rename_i fs u
      split at h
      · rename_i s' hx
        split at h
        · rename_i hz
          injection h with h; subst h
          have hz := Nat.eq_of_beq_eq_true hz
          obtain ⟨fuel, x, r, hw⟩ := r
          obtain ⟨xs, n, rfl, rfl, hl, hxl, hf⟩ := DataW.trod_struct u r
          have := xFields_XM (enc := enc) (W := W) (cs := cs) (fun u s c hu hr => by
              split at hu
              · rename_i s1 hs1
                split at hu
                · injection hu with hu; subst hu; exact Rdt.xm d u _ c hs1 hr
                · cases hu
              · cases hu) (fun u s hu => by
              split at hu
              · split at hu
                · rename_i hb; injection hu with hu; subst hu; exact Nat.eq_of_beq_eq_true hb
                · cases hu
              · cases hu) fs.toList 0 s' hx (by omega) (fun f hfm => by
              obtain ⟨i, hi, rfl⟩ := List.mem_iff_getElem.1 hfm
              have hi2 : i < fs.size := by simpa using hi
              have h1 := hf i fs[i] (by simp [hi2])
              rw [List.getElem?_eq_getElem (show i < xs.length by omega)] at h1
              have e : fs.toList[i] = fs[i] := by simp
              rw [e]
              refine ⟨n, _, h1, fun m hm => hw m ?_⟩
              simp only [DataW.weights, u]
              exact DataW.weights_mem_each (j := i) (by simp [hi2]) (by simp [show i < xs.length by omega]) m hm)
          rw [List.drop_zero, List.take_of_length_le (by omega)] at this
          exact this
        · cases h
      · cases h
    · cases h
end
end Go.Vc
end

/- The frame of a law's row; slices that came in. Own work; generic over any program. -/
section
set_option maxRecDepth 100000
set_option linter.unusedVariables false
namespace Go.Vc
open Go.ChangeShapes Go.WideShapes Go.ChangeAt Go.RowKit
section
variable {D : Type} {enc : TypeId × Value → D} {P : Program} {W : World}

theorem below_of {W W' : World} (r : Rest W W') (x : Ext none_ W.heap W'.heap) (ho : True) : Below W.heap.size W W' :=
  ⟨r.2.1, r.1, r.2.2, x.size, fun k hk => x.eq k hk (fun y => y)⟩

theorem law_post {f : Func} {s : ChangeSpec} {W' : World} {args : Array Value} {ds gs : List (DataW D)} {before : List MemPlace} {tb : TypeId} (hl : laidOutB P = true) (hvars : s.vars = [])
    (hty : ∀ t, t ∈ f.params.toList → P.readableRec t = true ∧ t < P.types.size) (hres : f.resultTypes = #[tb]) (ub : P.underlying tb = some .bool) (hfn : s.fn D (ds ++ gs) = { results := [.lit (.bool true)], args := ds })
    (hW : DataW.Whole enc P f.params.toList s.vars false W args.toList ds gs before) (hb : Below W.heap.size W W') : s.post enc P f false true false false W args (.bool true) W' := by
  have hW0 := hW
  have hlt := hW.lt
  obtain ⟨p, q, h1, h2, rfl, h3, h4⟩ := hW
  rw [hvars] at h2
  obtain ⟨rfl, rfl⟩ := trodVars_none h2
  rw [List.append_nil] at hlt
  refine ⟨ds, [], p ++ [], [], p, [], hW0, ?_, ?_, ?_, hb.frame _, fun h => by cases h⟩
  · rw [hfn, hres]
    exact trodAll_mk1 (shut_bool ub true)
  · rw [hfn]
    have key : ∀ (ts : List TypeId) (vs : List Value) (ds : List (DataW D)) (p : List MemPlace), (∀ t, t ∈ ts → P.readableRec t = true ∧ t < P.types.size) → (∀ x ∈ p, x.block < W.heap.size) →
        DataW.TrodAll enc P W 0 (fun _ => true) true ts vs ds p → DataW.TrodAll enc P W' 0 (fun b => decide (b < W.heap.size)) true ts vs ds p := by
      intro ts
      induction ts with
      | nil => intro vs ds p _ _ h; cases vs <;> cases ds <;> exact h
      | cons t ts ih =>
        intro vs ds p ht hp h
        cases vs with
        | nil => cases h
        | cons v vs => cases ds with
          | nil => cases h
          | cons d ds =>
            obtain ⟨a, b, ha, hb', rfl⟩ := h
            exact ⟨a, b, Below.trod hl (ht t (by simp)).1 (ht t (by simp)).2 ha hb (fun x hx => hp x (by simp [hx])), ih vs ds b (fun t' h' => ht t' (by simp [h'])) (fun x hx => hp x (by simp [hx])) hb', rfl⟩
    exact key _ _ _ _ hty hlt h1
  · rw [hfn, hvars]; rfl

theorem whole_rdt {ts : List TypeId} {vs : List Value} {ds gs : List (DataW D)} {vars : List TypeId}
    (h : ∃ p, DataW.TrodAll enc P W 0 (fun _ => true) true ts vs ds p) (hz : (DataW.weightsEach P (ts ++ vars) (ds ++ gs)).all (· ≤ reachBytes) = true) :
    ∀ (j : Nat) (t : TypeId) (v : Value), ts[j]? = some t → vs[j]? = some v → Rdt enc P W t v.cells.toList := by
  obtain ⟨p, h⟩ := h
  induction ts generalizing vs ds p with
  | nil => intro j t v ht; simp at ht
  | cons t0 ts ih =>
    cases vs with
    | nil => cases h
    | cons v0 vs => cases ds with
      | nil => cases h
      | cons d ds =>
        obtain ⟨a, b, ha, hb', rfl⟩ := h
        simp only [List.cons_append, DataW.weightsEach, List.all_append, Bool.and_eq_true] at hz
        intro j t v ht hv
        cases j with
        | zero =>
          simp only [List.getElem?_cons_zero, Option.some.injEq] at ht hv
          subst ht; subst hv
          obtain ⟨fuel, hf⟩ := ha
          exact ⟨fuel, _, hf, fun n hn => by simpa using List.all_eq_true.1 hz.1 n hn⟩
        | succ j => exact ih hz.2 b hb' j t v (by simpa using ht) (by simpa using hv)

theorem okw_agg {t : TypeId} {v : Value} {base : Nat} {r : Reach} (u : (match P.underlying t with | some (.struct _) => true | some (.array _ _) => true | _ => false) = true) (h : Value.okWide P W r base t v) : v = .agg v.cells := by
  unfold Value.okWide at h
  split at h
  · obtain ⟨cs, rfl, _⟩ := h; rfl
  · obtain ⟨cs, rfl, _⟩ := h; rfl
  · rename_i h1 h2
    split at u
    · rename_i h3; exact absurd h3 (h1 _)
    · rename_i h3; exact absurd h3 (h2 _ _)
    · cases u
theorem okw_one {t : TypeId} {v : Value} {base : Nat} {r : Reach} (u : (match P.underlying t with | some (.struct _) => false | some (.array _ _) => false | some _ => true | none => false) = true) (h : Value.okWide P W r base t v) {x : Value} (hx : v.cells.toList = [x]) : v = x := by
  cases v with
  | agg cs =>
    exfalso
    unfold Value.okWide at h
    split at h
    · rename_i h1; rw [h1] at u; cases u
    · rename_i h1; rw [h1] at u; cases u
    · unfold Cell.okWide at h
      split at h <;> first | (simp_all; done) | skip
      unfold Cell.ok at h
      split at h <;> simp_all
  | _ => simpa [Value.cells] using hx

theorem XM.one : ∀ {s : List XSh} {c : List Value}, XM enc P W s c → ∀ v, v ∈ c → v.oneCell' = true
  | [], c, h => by simp only [XM] at h; subst h; simp
  | .int k :: r, c, h => by
    obtain ⟨n, rest, rfl, _, h⟩ := h; intro v hv
    rcases List.mem_cons.1 hv with rfl | hv
    · rfl
    · exact XM.one h v hv
  | .bool :: r, c, h => by
    obtain ⟨n, rest, rfl, h⟩ := h; intro v hv
    rcases List.mem_cons.1 hv with rfl | hv
    · rfl
    · exact XM.one h v hv
  | .str :: r, c, h => by
    obtain ⟨n, rest, rfl, _, h⟩ := h; intro v hv
    rcases List.mem_cons.1 hv with rfl | hv
    · rfl
    · exact XM.one h v hv
  | .slc e :: r, c, h => by
    obtain ⟨p, l, c, rest, rfl, _, h⟩ := h; intro v hv
    rcases List.mem_cons.1 hv with rfl | hv
    · rfl
    · exact XM.one h v hv
  | .row k n :: r, c, h => by
    obtain ⟨ns, rest, rfl, _, _, h⟩ := h; intro v hv
    rcases List.mem_append.1 hv with hv | hv
    · exact ints_one _ _ v hv
    · exact XM.one h v hv

theorem trodAll_len : ∀ {ts : List TypeId} {vs : List Value} {ds : List (DataW D)} {p : List MemPlace} {W : World} {base : Nat} {sp : Nat → Bool} {hd : Bool}, DataW.TrodAll enc P W base sp hd ts vs ds p → vs.length = ts.length ∧ ds.length = ts.length
  | [], vs, ds, p, W, base, sp, hd, h => by obtain ⟨rfl, rfl, rfl⟩ := trodAll_nil h; exact ⟨rfl, rfl⟩
  | t :: ts, vs, ds, p, W, base, sp, hd, h => by
    obtain ⟨v, vs', d, ds', p', q', rfl, rfl, rfl, _, hr⟩ := trodAll_cons h
    have := trodAll_len hr
    simp [this.1, this.2]

/-- What is known of the arguments. -/
def ArgsOk (enc : TypeId × Value → D) (P : Program) (W : World) (base : Nat) (ts : List TypeId) (vs : List Value) : Prop :=
  vs.length = ts.length ∧ ∀ (j : Nat) (t : TypeId) (v : Value), ts[j]? = some t → vs[j]? = some v → Rdt enc P W t v.cells.toList ∧ Value.okWide P W .any base t v
/-- The law's code answers true, and leaves all old memory as it was. -/
abbrev CallsTrue (P : Program) (f : FuncId) (vs : List Value) (W : World) : Prop := callsV P f vs (fun rs h' => rs = [DV.one (.bool true)] ∧ Ext none_ W.heap h') W.heap
theorem law_go {f : FuncId} {fn : Func} {s : ChangeSpec} {args : Array Value} {ds gs : List (DataW D)} {before : List MemPlace} {tb : TypeId} {base : Nat} (ts : List TypeId) (hts : fn.params = ts.toArray) (hl : laidOutB P = true) (hvars : s.vars = [])
    (hty : (ts.all fun t => P.readableRec t && decide (t < P.types.size)) = true) (hres : fn.resultTypes = #[tb]) (ub : P.underlying tb = some .bool)
    (hfn : ∀ ds : List (DataW D), ds.length = ts.length → s.fn D ds = { results := [.lit (.bool true)], args := ds })
    (hval : ∀ (j : Nat) t v, fn.params[j]? = some t → args[j]? = some v → Value.okWide P W .any base t v)
    (hW : DataW.Whole enc P fn.params.toList s.vars false W args.toList ds gs before) (hsz : (DataW.weightsEach P (fn.params.toList ++ s.plain.varTypes P) (ds ++ gs)).all (· ≤ reachBytes) = true)
    (main : ∀ vs, ArgsOk enc P W base ts vs → CallsTrue P f vs W) :
    Calls P f args W fun e W' => ∃ v, e = .returned v ∧ s.post enc P fn false true false false W args v W' := by
  have hW0 := hW
  obtain ⟨p, q, h1, h2, rfl, h3, h4⟩ := hW
  have h2' := h2
  rw [hvars] at h2'
  obtain ⟨rfl, rfl⟩ := trodVars_none h2'
  have hlen := trodAll_len h1
  have hpl : fn.params.toList = ts := by rw [hts]
  have hrd := whole_rdt ⟨p, h1⟩ hsz
  rw [hpl] at hrd hlen
  have hm := main args.toList ⟨hlen.1, fun j t v ht hv => ⟨hrd j t v ht hv, hval j t v (by rw [hts]; simpa using ht) (by simpa using hv)⟩⟩
  have hc := hm.2 W rfl
  rw [show args.toList.toArray = args by simp] at hc
  refine hc.mono fun e W' he => ?_
  obtain ⟨xs, _, rfl, hr, rfl, hx⟩ := he
  refine ⟨.bool true, rfl, ?_⟩
  refine law_post hl hvars ?_ hres ub (by rw [List.append_nil]; exact hfn ds hlen.2) hW0 (below_of hr hx trivial)
  intro t ht
  rw [hpl] at ht
  have := List.all_eq_true.1 hty t ht
  simp only [Bool.and_eq_true, decide_eq_true_eq] at this
  exact this
end
end Go.Vc
end

/- Contracts of the chip's small functions. Own work. -/
section
set_option linter.unusedVariables false
namespace Go.Proofs.Ytamfkofcpoglnaa
open Go Go.Vc

structure Cfg where
  cells : Int
  slots : Int
  fuses : Int
  step : Int
  keys : Int
  erases : Int
  area : Int

def Cfg.vals (c : Cfg) : List Value :=
  [.int .i64 c.cells, .int .i64 c.slots, .int .i64 c.fuses, .int .i64 c.step, .int .i64 c.keys, .int .i64 c.erases, .int .i64 c.area]

structure Cfg.may (c : Cfg) : Prop where
  slots : 1 ≤ c.slots ∧ c.slots ≤ 8
  cells : c.slots + 3 ≤ c.cells ∧ c.cells ≤ 256
  fuses : 1 ≤ c.fuses ∧ c.fuses ≤ 64
  step : 1 ≤ c.step ∧ c.step ≤ 65536
  keys : 1 ≤ c.keys ∧ c.keys ≤ 64
  erases : 0 ≤ c.erases ∧ c.erases ≤ 65536
  area : 0 ≤ c.area ∧ c.area ≤ 64

theorem within_iff (n a b : Int) (Q : Bool → H → Prop) (h : H) : F_chip_within n a b Q h = Q (decide (a ≤ n) && decide (n ≤ b)) h := by
  unfold F_chip_within G_chip_within
  by_cases h1 : a ≤ n <;> simp [h1]
open Classical in
theorem May_spec (c : Cfg) (Q : Int → H → Prop) (h : H) (k : ∀ h', Ext none_ h h' → Q (if c.may then 0 else 1) h') :
    F_chip_May c.cells c.slots c.fuses c.step c.keys c.erases c.area Q h := by
  unfold F_chip_May G_chip_May
  intro b h' hn
  have kb := hn.blk
  have kx := k h' hn.ext
  have hc0 := kb.hc
  intro J hJ
  have fin : ∀ r : Bool, (r = true ↔ c.may) → J [SV.dv (DV.one (Value.bool r))] h' := by
    intro r hr
    apply hJ
    by_cases hm : c.may
    · rw [hr.2 hm]; rw [if_pos hm] at kx; simpa using kx
    · have : r = false := by cases r; rfl; exact absurd (hr.1 rfl) hm
      rw [this]; rw [if_neg hm] at kx; simpa using kx
  simp only [add_mk, hc0, Nat.zero_add, List.getElem?_cons_succ, List.getElem?_cons_zero, Option.some.injEq, Value.int.injEq, true_and, exists_eq_left']
  simp only [within_iff, hc0, List.getElem?_cons_succ, List.getElem?_cons_zero, Option.some.injEq, Value.int.injEq, true_and, exists_eq_left', Bool.and_eq_true, decide_eq_true_eq]
  have w3 : 1 ≤ c.slots ∧ c.slots ≤ 8 → IntKind.i64.wrap (c.slots + 3) = c.slots + 3 := by
    intro h1; rw [IntKind.wrap_i64]; omega
  split
  case isFalse h1 => exact fin false (by simp; intro hm; exact h1 hm.slots)
  rename_i h1
  rw [w3 h1]
  split
  case isFalse h2 => exact fin false (by simp; intro hm; exact h2 hm.cells)
  rename_i h2
  split
  case isFalse h3 => exact fin false (by simp; intro hm; exact h3 hm.fuses)
  rename_i h3
  split
  case isFalse h4 => exact fin false (by simp; intro hm; exact h4 hm.step)
  rename_i h4
  split
  case isFalse h5 => exact fin false (by simp; intro hm; exact h5 hm.keys)
  rename_i h5
  split
  case isFalse h6 => exact fin false (by simp; intro hm; exact h6 hm.erases)
  rename_i h6
  refine fin _ ?_
  simp only [Bool.and_eq_true, decide_eq_true_eq]
  exact ⟨fun h7 => ⟨h1, h2, h3, h4, h5, h6, h7⟩, fun hm => hm.area⟩

theorem pages_spec (c : Cfg) (hm : c.may) (Q : Int → H → Prop) (h : H) (k : ∀ h', Ext none_ h h' → Q (2 + 2 * c.area) h') :
    F_chip_pages c.cells c.slots c.fuses c.step c.keys c.erases c.area Q h := by
  unfold F_chip_pages G_chip_pages
  intro b h' hn
  have kx := k h' hn.ext
  have ha := hm.area
  have e : IntKind.i64.wrap (2 + IntKind.i64.wrap (2 * c.area)) = 2 + 2 * c.area := by simp only [IntKind.wrap_i64]; omega
  simpa [hn.blk.hc, e] using kx

theorem fuses_spec (c : Cfg) (hm : c.may) (Q : Int → H → Prop) (h : H) (k : ∀ h', Ext none_ h h' → Q (c.slots * c.fuses + c.keys) h') :
    F_chip_fuses c.cells c.slots c.fuses c.step c.keys c.erases c.area Q h := by
  unfold F_chip_fuses G_chip_fuses
  intro b h' hn
  have kx := k h' hn.ext
  have h1 := hm.slots; have h2 := hm.fuses; have h3 := hm.keys
  have e1 : 0 ≤ c.slots * c.fuses := Int.mul_nonneg (by omega) (by omega)
  have e2 : c.slots * c.fuses ≤ 8 * 64 := Int.mul_le_mul (by omega) (by omega) (by omega) (by omega)
  have e : IntKind.i64.wrap (IntKind.i64.wrap (c.slots * c.fuses) + c.keys) = c.slots * c.fuses + c.keys := by simp only [IntKind.wrap_i64]; omega
  simpa [hn.blk.hc, e] using kx
end Go.Proofs.Ytamfkofcpoglnaa
end

/- The chip's model and how it lies in memory (chip.Chip and the document's chip alike). Own work. -/
section
set_option linter.unusedVariables false
namespace Go.Proofs.Ytamfkofcpoglnaa
open Go Go.Vc

/-- What a chip holds: pages (flat bytes, 32 a cell), erases, fuses. -/
structure St where
  pages : List (List Int)
  erases : List Int
  blown : List Bool
structure Cm where
  cfg : Cfg
  s : St
  acts : Int
  out : Bool
  left : Int
  mask : List Int

instance (c : Cfg) : Decidable c.may :=
  decidable_of_iff ((1 ≤ c.slots ∧ c.slots ≤ 8) ∧ (c.slots + 3 ≤ c.cells ∧ c.cells ≤ 256) ∧ (1 ≤ c.fuses ∧ c.fuses ≤ 64) ∧ (1 ≤ c.step ∧ c.step ≤ 65536) ∧ (1 ≤ c.keys ∧ c.keys ≤ 64) ∧ (0 ≤ c.erases ∧ c.erases ≤ 65536) ∧ (0 ≤ c.area ∧ c.area ≤ 64))
    ⟨fun ⟨a, b, c, d, e, f, g⟩ => ⟨a, b, c, d, e, f, g⟩, fun ⟨a, b, c, d, e, f, g⟩ => ⟨a, b, c, d, e, f, g⟩⟩
def Cfg.may? (c : Cfg) : Int := if c.may then 0 else 1
def Cfg.np (c : Cfg) : Int := 2 + 2 * c.area
def Cfg.nf (c : Cfg) : Int := c.slots * c.fuses + c.keys
def isByte (n : Int) : Prop := 0 ≤ n ∧ n < 256
def bytesOk (ns : List Int) : Prop := ∀ n, n ∈ ns → isByte n

/-- Are the sizes those of the config? -/
structure St.fits (c : Cfg) (s : St) : Prop where
  pages : (s.pages.length : Int) = c.np
  cells : ∀ l, l ∈ s.pages → (l.length : Int) = 32 * c.cells
  erases : (s.erases.length : Int) = c.np
  blown : (s.blown.length : Int) = c.nf
/-- Are the numbers of their kinds? -/
structure St.typed (s : St) : Prop where
  bytes : ∀ l, l ∈ s.pages → bytesOk l
  erases : ∀ n, n ∈ s.erases → -(2 ^ 63) ≤ n ∧ n < 2 ^ 63
structure Cm.ok (C : Cm) : Prop where
  may : C.cfg.may
  fits : C.s.fits C.cfg
  typed : C.s.typed
  left : -1 ≤ C.left
  left2 : C.left < 2 ^ 63
  mask : bytesOk C.mask
  acts : -(2 ^ 63) ≤ C.acts ∧ C.acts < 2 ^ 63
  mlen : C.mask.length ≤ 2 ^ 47

/-- Slices of a state, read only. -/
structure RdS (h : H) (a b c : Sl) (s : St) : Prop where
  pg : RdM h 32 a s.pages
  er : hsv h b.1 1 b.2.1 (ints .i64 s.erases)
  bl : hsv h c.1 1 c.2.1 (bools s.blown)

def Cm.cells (C : Cm) (a b c m : Sl) : List Value :=
  [.int .i64 C.cfg.cells, .int .i64 C.cfg.slots, .int .i64 C.cfg.fuses, .int .i64 C.cfg.step, .int .i64 C.cfg.keys, .int .i64 C.cfg.erases, .int .i64 C.cfg.area, a.v, b.v, c.v,
    .int .i64 C.acts, .bool C.out, .int .i64 C.left, m.v]
/-- The places of a chip's parts. -/
structure Pl where
  a : Sl
  b : Sl
  c : Sl
  m : Sl
abbrev chipL (p : Nat) (C : Cm) (w : Pl) : List Ent := [blk p (C.cells w.a w.b w.c w.m), matE 32 w.a C.s.pages, sE w.b 1 (ints .i64 C.s.erases), sE w.c 1 (bools C.s.blown), sE w.m 1 (ints .u8 C.mask)]
def chipE (p : Nat) (C : Cm) : Ent := exE 2 (fun _ => C.ok) (chipL p C)

theorem RdS.ext {h h' : H} (x : Ext none_ h h') {a b c : Sl} {s : St} (r : RdS h a b c s) : RdS h' a b c s :=
  ⟨r.pg.ext x, hsv_ext x r.er (fun _ _ y => y), hsv_ext x r.bl (fun _ _ y => y)⟩
end Go.Proofs.Ytamfkofcpoglnaa
end

/- What arguments of the statements are. Own work. -/
section
set_option maxRecDepth 100000
set_option linter.unusedVariables false
namespace Go.Proofs.Ytamfkofcpoglnaa
open Go Go.Vc Go.ChangeShapes Go.WideShapes Go.ChangeAt Go.RowKit

theorem Try.own : ownKnob Try.prog.godebug = none := by kernel_rfl
theorem Try.laidOut : laidOutB Try.prog = true := by kernel_rfl
theorem Try.ubool : Try.prog.underlying 4 = some .bool := by kernel_rfl
theorem xCfg : xsh PP 8 23 = some [.int .i64, .int .i64, .int .i64, .int .i64, .int .i64, .int .i64, .int .i64] := by kernel_rfl
section
variable {D : Type} {enc : TypeId × Value → D} {W : World}
theorem cfg_of {v : Value} {base : Nat} (h : Rdt enc PP W 23 v.cells.toList) (ho : Value.okWide PP W .any base 23 v) : ∃ c : Cfg, v = .agg c.vals.toArray := by
  have e := okw_agg (by kernel_rfl) ho
  obtain ⟨a1, r1, e1, _, a2, r2, rfl, _, a3, r3, rfl, _, a4, r4, rfl, _, a5, r5, rfl, _, a6, r6, rfl, _, a7, r7, rfl, _, hr⟩ := Rdt.xm 8 _ _ _ xCfg h
  simp only [XM] at hr
  subst hr
  refine ⟨⟨a1, a2, a3, a4, a5, a6, a7⟩, ?_⟩
  rw [e]
  congr 1
  rw [← Array.toArray_toList (xs := v.cells), e1]
  rfl
end
end Go.Proofs.Ytamfkofcpoglnaa
end

/- Contracts: blank cells, clones. Own work. -/
section
set_option linter.unusedVariables false
namespace Go.Proofs.Ytamfkofcpoglnaa
open Go Go.Vc

def blankCell : List Int := List.replicate 32 255
theorem mapTo_const (n : Nat) (v : Int) (ns : List Int) (hl : ns.length = n) : mapTo (fun _ _ => v) n ns = List.replicate n v := by
  apply List.ext_getElem?; intro j
  rw [mapTo_get, List.getElem?_replicate]
  by_cases h : j < n
  · simp [h, hl]
  · rw [if_neg h, List.getElem?_eq_none (by omega)]; rfl

theorem blank_spec (Q : List Int → H → Prop) (h : H) (k : ∀ h', Ext none_ h h' → Q blankCell h') : F_chip_blank Q h := by
  unfold F_chip_blank G_chip_blank
  intro b2 h3 n2 b5 h6 n5 J hJ
  have x6 : Ext none_ h h6 := n2.ext.trans n5.ext
  have hb2 : b2 < h6.size := by have := n2.size; have := n5.size; have := n2.b; omega
  have hb2' : h.size ≤ b2 := by rw [n2.b]; exact Nat.le_refl _
  have hb5 : h.size ≤ b5 := by have := n2.size; rw [n5.b]; omega
  have hne : b2 ≠ b5 := by have := n2.size; have := n5.b; have := n2.b; omega
  refine loop_up 32 (fun i h' => Blk h' b5 (ints .u8 (mapTo (fun _ _ => 255) i (zeros 32))) ∧ Blk h' b2 (ints .u8 (zeros 32)) ∧ Ext none_ h h') ?_ ?_ 0 h6 (by omega)
    ⟨by simpa using n5.blk, n5.ext.blk n2.blk (fun x => x), x6⟩
  · rintro i h' hi ⟨k5, k2, hx⟩ hk
    apply hJ
    rw [ltI_eq, if_pos (by simp; omega)]
    refine ⟨by omega, by omega, ?_, ?_⟩
    · simp only [add_mk]; apply k5.can; simp; omega
    · intro h11 e
      simp only [add_mk, Int.toNat_natCast, Nat.mul_one, Nat.zero_add] at e
      rw [wrap_succ (by omega)]
      refine hk h11 ?_
      have w := k5.wr i [Value.int .u8 255]
      have w2 := k2.wr_ne (a := ⟨b5, i, none⟩) (xs := [Value.int .u8 255]) hne
      rw [← e] at w w2
      refine ⟨?_, w2, ?_⟩
      · simp only [splice_cons, splice_nil, ints_set] at w
        have := mapTo_succ (fun _ _ => 255) i (zeros 32) (by simpa using hi)
        rw [this] at w; exact w
      · rw [e]; exact hx.comp (Ext.wr h' b5 i _) (by rintro x h1 rfl; omega)
  · rintro h' ⟨k5, k2, hx⟩
    apply hJ
    rw [ltI_eq, if_neg (by simp)]
    rw [mapTo_const 32 255 _ (by simp)] at k5
    refine ⟨blankCell, by simp [blankCell], k5.hrow (by intro i hi; rw [Nat.zero_add, ints_get]; rfl), k2.can (by simp), ?_⟩
    intro h14 e
    have w := k2.wr 0 (ints IntKind.u8 blankCell ++ [])
    rw [splice_all _ _ (by simp [blankCell])] at w
    rw [← e] at w
    refine ⟨blankCell, by simp [blankCell], w.hrow (by intro i hi; simp [ints_get]), k _ ?_⟩
    rw [e]; exact hx.comp (Ext.wr h' b2 0 _) (by rintro x h1 rfl; omega)

end Go.Proofs.Ytamfkofcpoglnaa
end

/- Contract: slices.Repeat of one cell. Own work. -/
section
set_option linter.unusedVariables false
namespace Go.Proofs.Ytamfkofcpoglnaa
open Go Go.Vc

theorem wrap_u64_id {n : Int} (h : 0 ≤ n ∧ n < 2 ^ 64) : IntKind.u64.wrap n = n := by
  have : IntKind.u64.wrap n = n % 18446744073709551616 := by simp [IntKind.wrap, IntKind.bits, IntKind.signed]
  rw [this]; omega
theorem and32 {n : Int} (h : 0 ≤ n ∧ n < 2 ^ 32) : bits .and .u64 n 4294967295 = n := by
  have := bits_mask .u64 64 (by decide) (fun n h0 h1 => wrap_u64_id ⟨h0, h1⟩) 32 (by decide) n h.1 (by omega)
  have e : (2 : Int) ^ 32 - 1 = 4294967295 := by decide
  rw [e] at this
  rw [this]; omega
theorem fdiv32 {n : Int} (h : 0 ≤ n ∧ n < 2 ^ 32) : n.fdiv (2 ^ 32) = 0 := by
  rw [Int.fdiv_eq_ediv_of_nonneg _ (by decide)]; omega
theorem Mul_one (n : Int) (hn : 0 ≤ n ∧ n < 2 ^ 31) (Q : Int → Int → H → Prop) (h : H) (k : Q 0 n h) : F_math_bits_Mul 1 n Q h := by
  unfold F_math_bits_Mul G_math_bits_Mul F_math_bits_Mul64 G_math_bits_Mul64
  rintro i rfl
  refine ⟨by decide, ?_⟩
  rintro i rfl
  refine ⟨by decide, by decide, ?_⟩
  rintro i rfl
  refine ⟨by decide, by decide, ?_⟩
  have a1 : bits .and .u64 1 4294967295 = 1 := and32 (by decide)
  have a2 : bits .and .u64 n 4294967295 = n := and32 (by omega)
  have f1 : (1 : Int).fdiv (2 ^ 32) = 0 := fdiv32 (by decide)
  have f2 : n.fdiv (2 ^ 32) = 0 := fdiv32 (by omega)
  have w0 : IntKind.u64.wrap 0 = 0 := wrap_u64_id (by decide)
  have wn : IntKind.u64.wrap n = n := wrap_u64_id (by omega)
  have f0 : (0 : Int).fdiv (2 ^ 32) = 0 := fdiv32 (by decide)
  have a0 : bits .and .u64 0 4294967295 = 0 := and32 (by decide)
  simpa only [a1, a2, f1, f2, Int.zero_mul, Int.mul_zero, Int.one_mul, w0, wn, f0, a0, Int.add_zero, Int.zero_add] using k

theorem rep_add {α : Type} (a b : Nat) (X : List α) : (List.replicate (a + b) X).flatten = (List.replicate a X).flatten ++ (List.replicate b X).flatten := by
  rw [← List.replicate_append_replicate, List.flatten_append]

theorem Repeat_spec (p : Option Addr) (c : Nat) (n : Nat) (X : List Value) (hX : X.length = 32) (hn : 1 ≤ n ∧ n ≤ 2 ^ 20) (Q : Option Addr → Nat → Nat → H → Prop) (h : H) (hs : hsv h p 32 1 X)
    (k : ∀ b h', Ext none_ h h' → Blk h' b (List.replicate n X).flatten → h.size ≤ b → Q (some ⟨b, 0, none⟩) n n h') : F_slices_Repeat_api_Cell_api_Cell p 1 c n Q h := by
  unfold F_slices_Repeat_api_Cell_api_Cell G_slices_Repeat_api_Cell_api_Cell
  intro J7 hJ7
  rw [ltI_eq, if_neg (by simp)]
  apply hJ7
  have w1 : IntKind.u64.wrap ((1 : Nat) : Int) = 1 := wrap_u64_id (by decide)
  have wn : IntKind.u64.wrap (n : Int) = n := wrap_u64_id (by omega)
  have wi : IntKind.i64.wrap (n : Int) = n := wrap_id (by omega)
  rw [w1, wn]
  apply Mul_one _ (by omega)
  intro J12 hJ12
  rw [ltI_eq, if_neg (by simp)]
  rintro i rfl
  rw [ltI_eq, if_neg (by simp; omega)]
  apply hJ12
  simp only [wi, Int.toNat_natCast]
  refine ⟨by omega, by omega, by omega, by omega, ?_⟩
  intro b h15 hnw
  have m1 : Nat.min 1 n = 1 := Nat.min_eq_left hn.1
  simp only [m1]
  have hs' := hsv_ext hnw.ext hs (fun _ _ x => x)
  have lenr : ∀ m : Nat, (List.replicate m X).flatten.length = m * 32 := fun m => by rw [flatten_replicate_length, hX]
  refine ⟨X, hs', Or.inr ⟨_, rfl, hnw.blk.can ?_⟩, ?_⟩
  · rw [flatten_replicate_length]; simp; omega
  intro h19 e19
  intro J hJ
  have hb : h.size ≤ b := by rw [hnw.b]; exact Nat.le_refl _
  -- the block holds i copies, and something
  have main : ∀ d i h', n - i ≤ d → 1 ≤ i → i ≤ n → Ext none_ h h' → (∃ rest, rest.length = (n - i) * 32 ∧ Blk h' b ((List.replicate i X).flatten ++ rest)) → J [SV.dv (DV.one (Value.int IntKind.i64 (i : Int)))] h' := by
    intro d
    induction d with
    | zero =>
      rintro i h' hd h1 h2 hx ⟨rest, hr, kb⟩
      have : i = n := by omega
      subst this
      apply hJ
      rw [ltI_eq, if_neg (by simp)]
      have : rest = [] := List.eq_nil_of_length_eq_zero (by simp [hr])
      subst this
      exact k b h' hx (by simpa using kb) hb
    | succ d ih =>
      rintro i h' hd h1 h2 hx ⟨rest, hr, kb⟩
      apply hJ
      by_cases hin : i < n
      · rw [ltI_eq, if_pos (by simp; omega)]
        have s0 : subAddr (some (Addr.mk b 0 none)) 0 n 32 = some (Addr.mk b 0 none) := by unfold subAddr; rw [if_neg (by omega)]; simp
        have s1 : subAddr (some (Addr.mk b 0 none)) i n 32 = some (Addr.mk b (i * 32) none) := by unfold subAddr; rw [if_neg (by omega)]; simp
        simp only [Int.toNat_natCast, s0, s1, Nat.sub_zero]
        generalize hm : Nat.min i (n - i) = m
        have hm1 : m ≤ i := by rw [← hm]; exact Nat.min_le_left _ _
        have hm2 : m ≤ n - i := by rw [← hm]; exact Nat.min_le_right _ _
        have hm3 : 1 ≤ m := by rw [← hm]; exact Nat.le_min.2 ⟨h1, by omega⟩
        have spl : (List.replicate i X).flatten = (List.replicate m X).flatten ++ (List.replicate (i - m) X).flatten := by
          rw [← rep_add]; congr 2; omega
        refine ⟨by omega, by omega, by omega, by omega, (List.replicate m X).flatten, ⟨lenr m, ?_, Or.inr ⟨_, rfl, ?_⟩⟩, Or.inr ⟨_, rfl, kb.can ?_⟩, ?_⟩
        · intro v hv
          obtain ⟨l, hl, hv⟩ := List.mem_flatten.1 hv
          rw [List.eq_of_mem_replicate hl] at hv
          exact hs.2.1 v hv
        · apply kb.hcs
          intro j hj
          rw [Nat.zero_add, spl, List.append_assoc, List.getElem?_append_left hj]
        · simp [lenr, hr, hX]
          have : m * 32 ≤ (n - i) * 32 := Nat.mul_le_mul_right _ hm2
          omega
        · intro h26 e
          have w : IntKind.i64.wrap ((i : Int) + (m : Int)) = ((i + m : Nat) : Int) := by rw [wrap_id (by omega)]; omega
          rw [w]
          refine ih (i + m) h26 (by omega) (by omega) (by omega) ?_ ?_
          · rw [e]; exact hx.comp (Ext.wr h' b _ _) (by rintro x hlt rfl; omega)
          · have kw := kb.wr (i * 32) (List.replicate m X).flatten
            have e' : h26 = hwr h' ⟨b, i * 32, none⟩ (List.replicate m X).flatten := e
            rw [← e'] at kw
            refine ⟨rest.drop (m * 32), by simp [hr]; omega, ?_⟩
            have hrr : rest = rest.take (m * 32) ++ rest.drop (m * 32) := by simp
            have : splice ((List.replicate i X).flatten ++ rest) (i * 32) (List.replicate m X).flatten = (List.replicate (i + m) X).flatten ++ rest.drop (m * 32) := by
              rw [hrr, ← List.append_assoc, ← lenr i, splice_append, rep_add]
              · simp
              · simp [lenr, hr]
                have : m * 32 ≤ (n - i) * 32 := Nat.mul_le_mul_right _ hm2
                omega
            rw [this] at kw
            exact kw
      · have : i = n := by omega
        subst this
        rw [ltI_eq, if_neg (by simp)]
        have : rest = [] := List.eq_nil_of_length_eq_zero (by simp [hr])
        subst this
        exact k b h' hx (by simpa using kb) hb
  have e' : h19 = hwr h15 ⟨b, 0, none⟩ X := e19
  have kb := hnw.blk.wr 0 X
  rw [← e'] at kb
  refine main n 1 h19 (by omega) (by omega) hn.1 ?_ ⟨(List.replicate (n - 1) (ints .u8 (zeros 32))).flatten, by simp, ?_⟩
  · rw [e']; exact hnw.ext.comp (Ext.wr h15 b _ _) (by rintro x hlt rfl; omega)
  · have : splice (List.replicate n (ints .u8 (zeros 32))).flatten 0 X = (List.replicate 1 X).flatten ++ (List.replicate (n - 1) (ints .u8 (zeros 32))).flatten := by
      have e1 : (List.replicate n (ints .u8 (zeros 32))).flatten = [] ++ ints .u8 (zeros 32) ++ (List.replicate (n - 1) (ints .u8 (zeros 32))).flatten := by
        have : n = 1 + (n - 1) := by omega
        rw [this, rep_add]; simp
      rw [e1]
      have := splice_append [] (ints .u8 (zeros 32)) (List.replicate (n - 1) (ints .u8 (zeros 32))).flatten X (by simp [hX])
      simp only [List.length_nil] at this
      rw [this]; simp
    rw [this] at kb
    exact kb
end Go.Proofs.Ytamfkofcpoglnaa
end

/- Contracts: what is copied; a new chip. Own work. -/
section
set_option linter.unusedVariables false
namespace Go.Proofs.Ytamfkofcpoglnaa
open Go Go.Vc

theorem May_sp {h0 h : H} {A : List Ent} (c : Cfg) {Q : Int → H → Prop} (hs : Sat h0 A h) (k : ∀ h', Sat h0 A h' → Q c.may? h') :
    F_chip_May c.cells c.slots c.fuses c.step c.keys c.erases c.area Q h := by
  apply May_spec
  intro h' x
  have := k h' (hs.ext x)
  unfold Cfg.may? at this
  by_cases hm : c.may
  · rw [if_pos hm] at this ⊢; exact this
  · rw [if_neg hm] at this ⊢; exact this
theorem pages_sp {h0 h : H} {A : List Ent} (c : Cfg) (hm : c.may) {Q : Int → H → Prop} (hs : Sat h0 A h) (k : ∀ h', Sat h0 A h' → Q c.np h') :
    F_chip_pages c.cells c.slots c.fuses c.step c.keys c.erases c.area Q h := pages_spec c hm Q h fun h' x => k h' (hs.ext x)
theorem fuses_sp {h0 h : H} {A : List Ent} (c : Cfg) (hm : c.may) {Q : Int → H → Prop} (hs : Sat h0 A h) (k : ∀ h', Sat h0 A h' → Q c.nf h') :
    F_chip_fuses c.cells c.slots c.fuses c.step c.keys c.erases c.area Q h := fuses_spec c hm Q h fun h' x => k h' (hs.ext x)

theorem Cfg.may.np {c : Cfg} (m : c.may) : 2 ≤ c.np ∧ c.np ≤ 130 := by have := m.area; unfold Cfg.np; omega
theorem Cfg.may.nf {c : Cfg} (m : c.may) : 0 ≤ c.nf ∧ c.nf ≤ 576 := by
  have h1 := m.slots; have h2 := m.fuses; have h3 := m.keys
  have e1 : 0 ≤ c.slots * c.fuses := Int.mul_nonneg (by omega) (by omega)
  have e2 : c.slots * c.fuses ≤ 8 * 64 := Int.mul_le_mul (by omega) (by omega) (by omega) (by omega)
  unfold Cfg.nf; omega

theorem Repeat_sp {h0 h : H} {A : List Ent} (n : Nat) {k : Int} {c i b : Nat} {X : List Int} {Q : Option Addr → Nat → Nat → H → Prop} (hk : k = (n : Int)) (hs : Sat h0 A h) (m : At A i (blk b (ints .u8 X ++ []))) (hX : X.length = 32)
    (hn : 1 ≤ n ∧ n ≤ 2 ^ 20) (kk : ∀ b h', Sat h0 (sE (some ⟨b, 0, none⟩, n, n) 32 (ints .u8 (List.replicate n X).flatten) :: A) h' → Q (some ⟨b, 0, none⟩) n n h') :
    F_slices_Repeat_api_Cell_api_Cell (some ⟨b, 0, none⟩) 1 c k Q h := by
  rw [hk]
  rw [List.append_nil] at m
  refine Repeat_spec _ _ n (ints .u8 X) (by simpa using hX) hn _ _ (hs.bv m (by simpa using hX) (ints_one _ _)) ?_
  intro b' h' x kb hb
  refine kk b' h' ?_
  have e : (List.replicate n (ints .u8 X)).flatten = ints .u8 (List.replicate n X).flatten := by
    simp [ints, List.map_flatten]
  rw [e] at kb
  exact (hs.ofBlk x kb hb).as_sl (.z) (by simp [hX]) (ints_one _ _)
def blankRow (c : Cfg) : List Int := (List.replicate c.cells.toNat blankCell).flatten
def freshSt (c : Cfg) : St := ⟨List.replicate c.np.toNat (blankRow c), zeros c.np.toNat, List.replicate c.nf.toNat false⟩
def freshC (c : Cfg) : Cm := ⟨c, freshSt c, 0, false, -1, []⟩

theorem freshC_ok {c : Cfg} (hm : c.may) : (freshC c).ok := by
  have h1 := hm.np; have h2 := hm.nf; have h3 := hm.cells; have h4 := hm.slots
  refine ⟨hm, ⟨by simp [freshC, freshSt]; omega, ?_, by simp [freshC, freshSt]; omega, by simp [freshC, freshSt]; omega⟩, ⟨?_, ?_⟩, by simp [freshC], by simp [freshC], by intro n hn; simp [freshC] at hn, by simp [freshC], by simp [freshC]⟩
  · intro l hl
    rw [List.eq_of_mem_replicate hl]
    simp [blankRow, blankCell, freshC]; omega
  · intro l hl
    rw [List.eq_of_mem_replicate hl]
    intro n hn
    simp only [blankRow, List.mem_flatten, List.mem_replicate] at hn
    obtain ⟨l, ⟨_, rfl⟩, hn⟩ := hn
    have := List.eq_of_mem_replicate hn
    unfold isByte; omega
  · intro n hn
    have := List.eq_of_mem_replicate hn
    omega
theorem New_sp {h0 h : H} {A : List Ent} (c : Cfg) {Q : Option Addr → Int → H → Prop} (hs : Sat h0 A h)
    (k1 : ¬ c.may → ∀ h', Sat h0 A h' → Q none 1 h')
    (k2 : c.may → ∀ p h', Sat h0 (chipE p (freshC c) :: A) h' → Q (some ⟨p, 0, none⟩) 0 h') :
    F_chip_New c.cells c.slots c.fuses c.step c.keys c.erases c.area Q h := by
  unfold F_chip_New G_chip_New
  simp only [add_mk, Nat.zero_add]
  intro g _ hn; have hs := Sat.new hs hn; clear hn
  (repeat first | refine ⟨_, Sat.ld hs (by (repeat (first | exact At.z | apply At.s))) (by rfl), ?_⟩ | refine ⟨_, _, _, Sat.ld hs (by (repeat (first | exact At.z | apply At.s))) (by rfl), ?_⟩ | (intro _ _ hn; replace hs := Sat.new hs hn; clear hn) | refine ⟨Sat.cs hs (by (repeat (first | exact At.z | apply At.s))) (by rfl), ?_⟩ | (refine ⟨Sat.can hs (by (repeat (first | exact At.z | apply At.s))) (by simp), ?_⟩; intro _ e; replace hs := Sat.wr hs (by (repeat (first | exact At.z | apply At.s))) e; clear e; simp only [put, splice, List.set] at hs))
  refine May_sp c hs ?_
  intro h1 hs
  unfold Cfg.may?
  by_cases hm : c.may
  case neg =>
    rw [if_neg hm, if_pos (by decide)]
    exact k1 hm _ hs.drop
  rw [if_pos hm, if_neg (by decide)]
  intro J hJ
  have hnp := hm.np
  have hnf := hm.nf
  have fin : ∀ p a b h', Sat h0 (blk g c.vals :: blk b (List.replicate c.nf.toNat [Value.bool false]).flatten :: blk a (List.replicate c.np.toNat [Value.int .i64 0]).flatten ::
      blk p [.slice none 0 0, .slice (some ⟨a, 0, none⟩) c.np.toNat c.np.toNat, .slice (some ⟨b, 0, none⟩) c.nf.toNat c.nf.toNat] :: A) h' → J [SV.dv (DV.addr ⟨p, 0, none⟩)] h' := by
    intro p a b h' hs
    apply hJ
    simp only [Cfg.vals] at hs
    (repeat first | refine ⟨_, Sat.ld hs (by (repeat (first | exact At.z | apply At.s))) (by rfl), ?_⟩ | refine ⟨_, _, _, Sat.ld hs (by (repeat (first | exact At.z | apply At.s))) (by rfl), ?_⟩ | (intro _ _ hn; replace hs := Sat.new hs hn; clear hn) | refine ⟨Sat.cs hs (by (repeat (first | exact At.z | apply At.s))) (by rfl), ?_⟩ | (refine ⟨Sat.can hs (by (repeat (first | exact At.z | apply At.s))) (by simp), ?_⟩; intro _ e; replace hs := Sat.wr hs (by (repeat (first | exact At.z | apply At.s))) e; clear e; simp only [put, splice, List.set] at hs))
    refine pages_sp c hm hs ?_
    intro _ hs J38 hJ38
    have hs := hs.mat_nil 32 none
    refine loop_up c.np.toNat (fun i h => ∃ hd : Sl, hd.2.1 = i ∧ Sat h0 (matE 32 hd (List.replicate i (blankRow c)) :: blk g c.vals :: blk b (List.replicate c.nf.toNat [Value.bool false]).flatten :: blk a (List.replicate c.np.toNat [Value.int .i64 0]).flatten ::
      blk p [hd.v, .slice (some ⟨a, 0, none⟩) c.np.toNat c.np.toNat, .slice (some ⟨b, 0, none⟩) c.nf.toNat c.nf.toNat] :: A) h) ?_ ?_ 0 _ (by omega) ⟨_, rfl, hs⟩
    · rintro i h1 hi ⟨⟨hp, hl, hc⟩, e, hs⟩ hk
      simp only at e; subst e
      apply hJ38
      rw [ltI_eq, if_pos (by simp; omega)]
      simp only [Cfg.vals] at hs
      (repeat first | refine ⟨_, Sat.ld hs (by (repeat (first | exact At.z | apply At.s))) (by rfl), ?_⟩ | refine ⟨_, _, _, Sat.ld hs (by (repeat (first | exact At.z | apply At.s))) (by rfl), ?_⟩ | (intro _ _ hn; replace hs := Sat.new hs hn; clear hn) | refine ⟨Sat.cs hs (by (repeat (first | exact At.z | apply At.s))) (by rfl), ?_⟩ | (refine ⟨Sat.can hs (by (repeat (first | exact At.z | apply At.s))) (by simp), ?_⟩; intro _ e; replace hs := Sat.wr hs (by (repeat (first | exact At.z | apply At.s))) e; clear e; simp only [put, splice, List.set] at hs))
      refine blank_spec _ _ fun h2 x2 => ?_
      have hs := hs.ext x2
      (repeat first | refine ⟨_, Sat.ld hs (by (repeat (first | exact At.z | apply At.s))) (by rfl), ?_⟩ | refine ⟨_, _, _, Sat.ld hs (by (repeat (first | exact At.z | apply At.s))) (by rfl), ?_⟩ | (intro _ _ hn; replace hs := Sat.new hs hn; clear hn) | refine ⟨Sat.cs hs (by (repeat (first | exact At.z | apply At.s))) (by rfl), ?_⟩ | (refine ⟨Sat.can hs (by (repeat (first | exact At.z | apply At.s))) (by simp), ?_⟩; intro _ e; replace hs := Sat.wr hs (by (repeat (first | exact At.z | apply At.s))) e; clear e; simp only [put, splice, List.set] at hs))
      have hc' := hm.cells
      have hc'' := hm.slots
      refine Repeat_sp c.cells.toNat ?_ hs (.z) rfl ?_ ?_
      · omega
      · omega
      intro b2 h3 hs
      (repeat first | refine ⟨_, Sat.ld hs (by (repeat (first | exact At.z | apply At.s))) (by rfl), ?_⟩ | refine ⟨_, _, _, Sat.ld hs (by (repeat (first | exact At.z | apply At.s))) (by rfl), ?_⟩ | (intro _ _ hn; replace hs := Sat.new hs hn; clear hn) | refine ⟨Sat.cs hs (by (repeat (first | exact At.z | apply At.s))) (by rfl), ?_⟩ | (refine ⟨Sat.can hs (by (repeat (first | exact At.z | apply At.s))) (by simp), ?_⟩; intro _ e; replace hs := Sat.wr hs (by (repeat (first | exact At.z | apply At.s))) e; clear e; simp only [put, splice, List.set] at hs))
      refine ⟨_, Sat.bv hs (.z) (by simp) (by simp), ?_⟩
      replace hs := Sat.front hs (e := sE (some ⟨b2, 0, none⟩, _, _) 32 _) (by (repeat (first | exact At.z | apply At.s)))
      refine Sat.app_row hs (by (repeat (first | exact At.z | apply At.s))) (by dsimp only; omega) ?_
      intro p' c' h4 hs
      simp only [put, del] at hs
      (repeat first | refine ⟨_, Sat.ld hs (by (repeat (first | exact At.z | apply At.s))) (by rfl), ?_⟩ | refine ⟨_, _, _, Sat.ld hs (by (repeat (first | exact At.z | apply At.s))) (by rfl), ?_⟩ | (intro _ _ hn; replace hs := Sat.new hs hn; clear hn) | refine ⟨Sat.cs hs (by (repeat (first | exact At.z | apply At.s))) (by rfl), ?_⟩ | (refine ⟨Sat.can hs (by (repeat (first | exact At.z | apply At.s))) (by simp), ?_⟩; intro _ e; replace hs := Sat.wr hs (by (repeat (first | exact At.z | apply At.s))) e; clear e; simp only [put, splice, List.set] at hs))
      rw [wrap_succ (by omega)]
      refine hk _ ⟨(p', hl + 1, c'), rfl, ?_⟩
      replace hs := Sat.front hs (e := blk p _) (by (repeat (first | exact At.z | apply At.s)))
      replace hs := Sat.front hs (e := blk a _) (by (repeat (first | exact At.z | apply At.s)))
      replace hs := Sat.front hs (e := blk b _) (by (repeat (first | exact At.z | apply At.s)))
      replace hs := Sat.front hs (e := blk g _) (by (repeat (first | exact At.z | apply At.s)))
      replace hs := Sat.front hs (e := matE 32 _ _) (by (repeat (first | exact At.z | apply At.s)))
      simp only [del] at hs
      rw [List.replicate_succ']
      exact hs.sub (by (repeat (first | exact List.Sublist.refl _ | apply List.Sublist.cons_cons | apply List.Sublist.cons)))
    · rintro h1 ⟨⟨hp, hl, hc⟩, e, hs⟩
      apply hJ38
      rw [ltI_eq, if_neg (by simp; omega)]
      simp only [Cfg.vals] at hs
      (repeat first | refine ⟨_, Sat.ld hs (by (repeat (first | exact At.z | apply At.s))) (by rfl), ?_⟩ | refine ⟨_, _, _, Sat.ld hs (by (repeat (first | exact At.z | apply At.s))) (by rfl), ?_⟩ | (intro _ _ hn; replace hs := Sat.new hs hn; clear hn) | refine ⟨Sat.cs hs (by (repeat (first | exact At.z | apply At.s))) (by rfl), ?_⟩ | (refine ⟨Sat.can hs (by (repeat (first | exact At.z | apply At.s))) (by simp), ?_⟩; intro _ e; replace hs := Sat.wr hs (by (repeat (first | exact At.z | apply At.s))) e; clear e; simp only [put, splice, List.set] at hs))
      refine k2 hm _ _ (Sat.close ⟨(hp, hl, hc), (some ⟨a, 0, none⟩, c.np.toNat, c.np.toNat), (some ⟨b, 0, none⟩, c.nf.toNat, c.nf.toNat), (none, 0, 0)⟩ (freshC_ok hm) ?_)
      have eb : (List.replicate c.nf.toNat [Value.bool false]).flatten = bools (freshC c).s.blown := by simp [freshC, freshSt, bools]
      have ea : (List.replicate c.np.toNat [Value.int .i64 0]).flatten = ints .i64 (freshC c).s.erases := by simp [freshC, freshSt, zeros, ints]
      rw [ea, eb] at hs
      replace hs := hs.as_sl (i := 3) (l := c.nf.toNat) (sz := 1) (.s (.s (.s .z))) (by simp [freshC, freshSt]) (bools_one _)
      replace hs := hs.as_sl (i := 4) (l := c.np.toNat) (sz := 1) (.s (.s (.s (.s .z)))) (by simp [freshC, freshSt]) (ints_one _ _)
      replace hs := hs.sl_nil 1 none
      simp only [put] at hs
      replace hs := Sat.front hs (e := slE _ _ _ 1 (bools _)) (by (repeat (first | exact At.z | apply At.s)))
      replace hs := Sat.front hs (e := slE _ _ _ 1 (ints .i64 _)) (by (repeat (first | exact At.z | apply At.s)))
      replace hs := Sat.front hs (e := matE 32 _ _) (by (repeat (first | exact At.z | apply At.s)))
      replace hs := Sat.front hs (e := blk _ [_, _, _, _, _, _, _, _, _, _, _, _, _, _]) (by (repeat (first | exact At.z | apply At.s)))
      simp only [del] at hs
      exact hs.sub (by (repeat (first | exact List.Sublist.refl _ | apply List.Sublist.cons_cons | apply List.Sublist.cons)))
  repeat' (first | refine ⟨_, Sat.ld hs (by (repeat (first | exact At.z | apply At.s))) (by rfl), ?_⟩ | (intro _ _ hn; replace hs := Sat.new hs hn; clear hn) | refine ⟨Sat.cs hs (by (repeat (first | exact At.z | apply At.s))) (by rfl), ?_⟩ | (refine ⟨Sat.can hs (by (repeat (first | exact At.z | apply At.s))) (by simp), ?_⟩; intro _ e; replace hs := Sat.wr hs (by (repeat (first | exact At.z | apply At.s))) e; clear e; simp only [put, splice, List.set] at hs) | refine ⟨by omega, ?_⟩ | (refine pages_sp c hm hs ?_; intro _ hs) | (refine fuses_sp c hm hs ?_; intro _ hs) | refine And.intro ?_ ?_)
  all_goals
    replace hs := Sat.front hs (e := blk _ [Value.slice none 0 0, Value.slice (some ⟨_, 0, none⟩) _ _, Value.slice (some ⟨_, 0, none⟩) _ _]) (by (repeat (first | exact At.z | apply At.s)))
    replace hs := Sat.front hs (e := blk _ (List.replicate c.np.toNat [Value.int .i64 0]).flatten) (by (repeat (first | exact At.z | apply At.s)))
    replace hs := Sat.front hs (e := blk _ (List.replicate c.nf.toNat [Value.bool false]).flatten) (by (repeat (first | exact At.z | apply At.s)))
    replace hs := Sat.front hs (e := blk _ c.vals) (by (repeat (first | exact At.z | apply At.s)))
    exact fin _ _ _ _ hs
end Go.Proofs.Ytamfkofcpoglnaa
end

/- Contracts of the chip's methods that lay nothing into pages. Own work. -/
section
set_option linter.unusedVariables false
namespace Go.Proofs.Ytamfkofcpoglnaa
open Go Go.Vc

def askedM (C : Cm) (i n : Int) : Int := if C.out = true then 8 else if i < 0 then 2 else if n ≤ i then 2 else 0
def asksCellM (C : Cm) (page cell : Int) : Int := if askedM C page C.s.pages.length ≠ 0 then askedM C page C.s.pages.length else askedM C cell C.cfg.cells
def w64 (n : Int) : Int := IntKind.i64.wrap n
def Cm.act (C : Cm) : Cm :=
  if C.left ≠ 0 then { C with acts := w64 (C.acts + 1), left := if C.left - 1 > -1 then C.left - 1 else -1 }
  else { C with acts := w64 (C.acts + 1), out := true, left := -1, mask := [] }
/-- Which bits of each byte an act may change. -/
def maskAt (C : Cm) (i : Nat) : Int := if C.left ≠ 0 then 255 else if C.mask = [] then 0 else C.mask.getD (i % C.mask.length) 0
def errM (C : Cm) : Int := if C.left ≠ 0 then 0 else 8

theorem w64_range (n : Int) : -(2 ^ 63) ≤ w64 n ∧ w64 n < 2 ^ 63 := by unfold w64; rw [IntKind.wrap_i64]; omega
theorem Cm.ok.act {C : Cm} (k : C.ok) : C.act.ok := by
  have r := w64_range (C.acts + 1)
  have := k.left
  unfold Cm.act
  split
  · exact ⟨k.may, k.fits, k.typed, by dsimp only; split <;> omega, by have := k.left2; dsimp only; split <;> omega, k.mask, r, k.mlen⟩
  · exact ⟨k.may, k.fits, k.typed, by dsimp only; omega, by dsimp only; omega, by intro n hn; simp at hn, r, by simp⟩

theorem chip_close {h0 h : H} {A : List Ent} {i p : Nat} {C C0 : Cm} {a b c m : Sl} (ok : C.ok) (ci : At A i (chipE p C0))
    (hs : Sat h0 (blk p (C.cells a b c m) :: matE 32 a C.s.pages :: sE b 1 (ints .i64 C.s.erases) :: sE c 1 (bools C.s.blown) :: sE m 1 (ints .u8 C.mask) :: del A i) h) : Sat h0 (put A i (chipE p C)) h :=
  Sat.back ci (Sat.close ⟨a, b, c, m⟩ ok hs)
section
variable {h0 h : H} {A : List Ent} {i p : Nat} {C : Cm}
theorem Out_sp {Q : Bool → H → Prop} (hs : Sat h0 A h) (ci : At A i (chipE p C)) (k : Q C.out h) : F_chip_Chip_Out ⟨p, 0, none⟩ Q h := by
  unfold F_chip_Chip_Out G_chip_Chip_Out
  obtain ⟨w, ok, hs⟩ := (hs.front ci).open_; dsimp only [chipL, List.cons_append, List.nil_append, Cm.cells] at hs
  exact ⟨_, hs.ld .z rfl, k⟩
theorem Config_sp {Q : Int → Int → Int → Int → Int → Int → Int → H → Prop} (hs : Sat h0 A h) (ci : At A i (chipE p C))
    (k : ∀ h', Sat h0 A h' → Q C.cfg.cells C.cfg.slots C.cfg.fuses C.cfg.step C.cfg.keys C.cfg.erases C.cfg.area h') : F_chip_Chip_Config ⟨p, 0, none⟩ Q h := by
  unfold F_chip_Chip_Config G_chip_Chip_Config
  obtain ⟨w, ok, hs⟩ := (hs.front ci).open_; dsimp only [chipL, List.cons_append, List.nil_append, Cm.cells] at hs
  simp only [add_mk, Nat.zero_add]
  (repeat first | refine ⟨_, Sat.ld hs (by (repeat (first | exact At.z | apply At.s))) (by rfl), ?_⟩ | refine ⟨_, _, _, Sat.ld hs (by (repeat (first | exact At.z | apply At.s))) (by rfl), ?_⟩ | (intro _ _ hn; replace hs := Sat.new hs hn; clear hn) | refine ⟨Sat.cs hs (by (repeat (first | exact At.z | apply At.s))) (by rfl), ?_⟩ | (refine ⟨Sat.can hs (by (repeat (first | exact At.z | apply At.s))) (by simp), ?_⟩; intro _ e; replace hs := Sat.wr hs (by (repeat (first | exact At.z | apply At.s))) e; clear e; simp only [put, splice, List.set] at hs))
  refine k _ ?_
  have := chip_close ok ci hs.drop
  rwa [ci.put_self] at this
theorem asked_b {Q : Int → H → Prop} (hs : Sat h0 A h) {a b c m : Sl} (ci : At A i (blk p (C.cells a b c m))) (n j : Int) (k : Q (askedM C j n) h) : F_chip_Chip_asked ⟨p, 0, none⟩ j n Q h := by
  unfold F_chip_Chip_asked G_chip_Chip_asked
  refine ⟨_, hs.ld ci rfl, ?_⟩
  unfold askedM at k
  simp only [ltI_eq, leI_eq, decide_eq_true_eq]
  split
  · simpa [*] using k
  · split
    · simpa [*] using k
    · split <;> simpa [*] using k
theorem asked_sp {Q : Int → H → Prop} (hs : Sat h0 A h) (ci : At A i (chipE p C)) (n j : Int) (k : Q (askedM C j n) h) : F_chip_Chip_asked ⟨p, 0, none⟩ j n Q h := by
  obtain ⟨w, ok, hs⟩ := (hs.front ci).open_; dsimp only [chipL, List.cons_append, List.nil_append, Cm.cells] at hs
  exact asked_b (C := C) hs .z n j k
theorem asksCell_sp {Q : Int → H → Prop} (hs : Sat h0 A h) (ci : At A i (chipE p C)) (page cell : Int) (k : Q (asksCellM C page cell) h) : F_chip_Chip_asksCell ⟨p, 0, none⟩ page cell Q h := by
  unfold F_chip_Chip_asksCell G_chip_Chip_asksCell
  obtain ⟨w, ok, hs⟩ := (hs.front ci).open_; dsimp only [chipL, List.cons_append, List.nil_append, Cm.cells] at hs
  have hl := (hs.rdM (.s .z)).len
  refine ⟨_, _, _, hs.ld .z rfl, ?_⟩
  unfold asksCellM at k
  rw [hl] at k
  refine asked_b (C := C) hs .z _ _ ?_
  split
  · rename_i h1; rw [if_pos (by simpa using h1)] at k; exact k
  · rename_i h1; rw [if_neg (by simpa using h1)] at k
    refine ⟨_, hs.ld .z rfl, asked_b (C := C) hs .z _ _ k⟩

theorem askedM_zero {i n : Int} (e : askedM C i n = 0) : C.out = false ∧ 0 ≤ i ∧ i < n := by
  unfold askedM at e
  split at e
  · omega
  · rename_i h1
    split at e
    · omega
    · split at e
      · omega
      · exact ⟨by simpa using h1, by omega, by omega⟩
def erasesM (C : Cm) (i : Int) : Int × Int := if askedM C i C.s.pages.length ≠ 0 then (0, askedM C i C.s.pages.length) else (C.s.erases.getD i.toNat 0, 0)
theorem Erases_sp {Q : Int → Int → H → Prop} (hs : Sat h0 A h) (ci : At A i (chipE p C)) (j : Int) (k : Q (erasesM C j).1 (erasesM C j).2 h) : F_chip_Chip_Erases ⟨p, 0, none⟩ j Q h := by
  unfold F_chip_Chip_Erases G_chip_Chip_Erases
  have hs' := hs
  obtain ⟨w, ok, hs⟩ := (hs.front ci).open_; dsimp only [chipL, List.cons_append, List.nil_append, Cm.cells] at hs
  simp only [add_mk, Nat.zero_add]
  have hl := hs.sl_len (i := 2) (.s (.s .z))
  simp only [ints_length, Nat.mul_one] at hl
  have hl1 := (hs.rdM (.s .z)).len
  have hf := ok.fits
  have hnp := hf.pages
  have hne := hf.erases
  refine ⟨_, _, _, hs.ld .z rfl, ?_⟩
  rw [← hl1]
  refine asked_sp hs' ci _ _ ?_
  unfold erasesM at k
  by_cases h1 : askedM C j C.s.pages.length = 0
  · rw [if_neg (by simpa using h1)]
    rw [if_neg (by simpa using h1)] at k
    obtain ⟨_, h2, h3⟩ := askedM_zero h1
    refine ⟨_, _, _, hs.ld .z rfl, ?_⟩
    obtain ⟨q, hq⟩ := hs.sl_some (i := 2) (.s (.s .z)) (by omega)
    obtain ⟨w1, ⟨cp, cl, cc⟩, w2, w4⟩ := w
    simp only at hq hl
    subst hq
    refine ⟨_, rfl, h2, by simp only; omega, _, ?_, k⟩
    simp only [add_mk, Nat.zero_add, Nat.mul_one]
    refine hs.sld (i := 2) (.s (.s .z)) ?_
    rw [ints_get, List.getElem?_eq_getElem (by omega)]
    simp [List.getD, List.getElem?_eq_getElem (show j.toNat < C.s.erases.length by omega)]
  · rw [if_pos (by simpa using h1)]
    rw [if_pos (by simpa using h1)] at k
    exact k
end
end Go.Proofs.Ytamfkofcpoglnaa
end

/- Contracts of the chip's Read, Program, Erase. Own work. -/
section
set_option linter.unusedVariables false
namespace Go.Proofs.Ytamfkofcpoglnaa
open Go Go.Vc

section
variable {h0 h : H} {A : List Ent} {i p : Nat} {C : Cm}
theorem asksCellM_zero {page cell : Int} (ok : C.ok) (e : asksCellM C page cell = 0) : C.out = false ∧ 0 ≤ page ∧ page < C.s.pages.length ∧ 0 ≤ cell ∧ cell < C.cfg.cells ∧
    ∃ hj : page.toNat < C.s.pages.length, (C.s.pages[page.toNat].length : Int) = 32 * C.cfg.cells ∧ (cell.toNat + 1) * 32 ≤ C.s.pages[page.toNat].length := by
  unfold asksCellM at e
  split at e
  · rename_i h1; exact absurd e h1
  · rename_i h1
    have h1 : askedM C page C.s.pages.length = 0 := by simpa using h1
    obtain ⟨h2, h3, h4⟩ := askedM_zero h1
    obtain ⟨_, h5, h6⟩ := askedM_zero e
    have hj : page.toNat < C.s.pages.length := by omega
    have hl := ok.fits.cells _ (List.getElem_mem hj)
    exact ⟨h2, h3, h4, h5, h6, hj, hl, by omega⟩
def readM (C : Cm) (page cell : Int) : List Int × Int :=
  if asksCellM C page cell ≠ 0 then (zeros 32, asksCellM C page cell) else (cellAt (C.s.pages.getD page.toNat []) cell.toNat, 0)
theorem Read_sp {Q : List Int → Int → H → Prop} (hs : Sat h0 A h) (ci : At A i (chipE p C)) (page cell : Int) (k : ∀ h', Sat h0 A h' → Q (readM C page cell).1 (readM C page cell).2 h') :
    F_chip_Chip_Read ⟨p, 0, none⟩ page cell Q h := by
  unfold F_chip_Chip_Read G_chip_Chip_Read
  simp only [add_mk, Nat.zero_add, List.append_nil]
  (intro _ _ hn; replace hs := Sat.new hs hn; clear hn)
  refine asksCell_sp hs (ci.s) _ _ ?_
  unfold readM at k
  by_cases h1 : asksCellM C page cell = 0
  case neg =>
    rw [if_pos (by simpa using h1)]
    rw [if_pos (by simpa using h1)] at k
    (refine ⟨Sat.can hs (by (repeat (first | exact At.z | apply At.s))) (by simp), ?_⟩; intro _ e; replace hs := Sat.wra hs (by (repeat (first | exact At.z | apply At.s))) e (by simp [*]); clear e; simp only [put] at hs)
    refine ⟨_, ?_, hs.row0 (by (repeat (first | exact At.z | apply At.s))), ?_⟩
    · simp
    exact k _ hs.drop
  rw [if_neg (by simpa using h1)]
  rw [if_neg (by simpa using h1)] at k
  have hs' := hs
  obtain ⟨w, ok, hs⟩ := (hs.front ci.s).open_
  obtain ⟨_, h2, h3, h4, h5, hj, hl, hk⟩ := asksCellM_zero ok h1
  dsimp only [chipL, List.cons_append, List.nil_append, Cm.cells] at hs
  refine ⟨_, _, _, hs.ld .z rfl, ?_⟩
  have rd := hs.rdM (.s .z)
  have hlen := rd.len
  obtain ⟨q, x, q', e1, e2, e3, e4, e5⟩ := rd.cell hj hk
  rw [e1]
  refine ⟨_, rfl, h2, by (try dsimp only); omega, ?_⟩
  refine ⟨_, _, _, e2, ?_⟩
  refine ⟨_, e4, h4, by omega, ?_⟩
  refine ⟨_, cellAt_length hk, e5, ?_⟩
  replace hs := hs'
  have hcl := cellAt_length hk
  (refine ⟨Sat.can hs (by (repeat (first | exact At.z | apply At.s))) (by simp), ?_⟩; intro _ e; replace hs := Sat.wra hs (by (repeat (first | exact At.z | apply At.s))) e (by simp [*]); clear e; simp only [put] at hs)
  refine ⟨_, ?_, hs.row0 (by (repeat (first | exact At.z | apply At.s))), ?_⟩
  · exact hcl
  have : C.s.pages.getD page.toNat [] = C.s.pages[page.toNat] := by simp [List.getD, List.getElem?_eq_getElem hj]
  rw [this] at k
  exact k _ hs.drop

def Cm.setPage (C : Cm) (j : Nat) (row : List Int) : Cm := { C with s := { C.s with pages := C.s.pages.set j row } }
def rowOf (C : Cm) (page : Int) : List Int := C.s.pages.getD page.toNat []
theorem act_s (C : Cm) : C.act.s = C.s := by unfold Cm.act; split <;> rfl
theorem act_cfg (C : Cm) : C.act.cfg = C.cfg := by unfold Cm.act; split <;> rfl
theorem Cm.ok.setPage {C : Cm} (ok : C.ok) {j : Nat} {row : List Int} (hl : (row.length : Int) = 32 * C.cfg.cells) (hb : bytesOk row) : (C.setPage j row).ok := by
  refine ⟨ok.may, ⟨by simpa [Cm.setPage] using ok.fits.pages, ?_, ok.fits.erases, ok.fits.blown⟩, ⟨?_, ok.typed.erases⟩, ok.left, ok.left2, ok.mask, ok.acts, ok.mlen⟩
  · intro l hm
    rcases List.mem_or_eq_of_mem_set hm with hm | hm
    · exact ok.fits.cells l hm
    · rw [hm]; exact hl
  · intro l hm
    rcases List.mem_or_eq_of_mem_set hm with hm | hm
    · exact ok.typed.bytes l hm
    · rw [hm]; exact hb
theorem cellAt_mem {row : List Int} {k : Nat} {v : Int} (h : v ∈ cellAt row k) : v ∈ row := List.mem_of_mem_drop (List.mem_of_mem_take h)
def eraseRow (row : List Int) (f : Nat → Int) : List Int := mapTo (fun i b => bits .or .u8 b (f i)) row.length row
def Cm.setErase (C : Cm) (j : Nat) (n : Int) : Cm := { C with s := { C.s with erases := C.s.erases.set j n } }
def eraseM (C : Cm) (page : Int) : Cm × Int :=
  if askedM C page C.s.pages.length ≠ 0 then (C, askedM C page C.s.pages.length)
  else if C.cfg.erases ≤ C.s.erases.getD page.toNat 0 then (C, 9)
  else ((C.act.setErase page.toNat (C.s.erases.getD page.toNat 0 + 1)).setPage page.toNat (eraseRow (rowOf C page) (maskAt C)), errM C)
theorem Cm.ok.setErase {C : Cm} (ok : C.ok) {j : Nat} {n : Int} (hn : -(2 ^ 63) ≤ n ∧ n < 2 ^ 63) : (C.setErase j n).ok := by
  refine ⟨ok.may, ⟨ok.fits.pages, ok.fits.cells, by simpa [Cm.setErase] using ok.fits.erases, ok.fits.blown⟩, ⟨ok.typed.bytes, ?_⟩, ok.left, ok.left2, ok.mask, ok.acts, ok.mlen⟩
  intro l hm
  rcases List.mem_or_eq_of_mem_set hm with hm | hm
  · exact ok.typed.erases l hm
  · rw [hm]; exact hn
end
end Go.Proofs.Ytamfkofcpoglnaa
end

/- Contracts of copies: copied, State, Copy. Own work. -/
section
set_option linter.unusedVariables false
namespace Go.Proofs.Ytamfkofcpoglnaa
open Go Go.Vc

/-- May it be copied? -/
structure St.small (s : St) : Prop where
  pages : s.pages.length * 24 + 4096 ≤ 2 ^ 47
  rows : ∀ l, l ∈ s.pages → l.length + 4096 ≤ 2 ^ 47
  erases : s.erases.length * 8 + 4096 ≤ 2 ^ 47
  blown : s.blown.length + 4096 ≤ 2 ^ 47
theorem Cm.ok.small {C : Cm} (ok : C.ok) : C.s.small := by
  have h1 := ok.may.np; have h2 := ok.may.nf; have h3 := ok.fits; have h4 := ok.may.cells
  refine ⟨by have := h3.pages; omega, fun l hl => by have := h3.cells l hl; omega, by have := h3.erases; omega, by have := h3.blown; omega⟩

section
variable {h0 h : H} {A : List Ent} {i p : Nat} {C : Cm}
end
end Go.Proofs.Ytamfkofcpoglnaa
end

/- What arguments of the statements are: states of chips. Own work. -/
section
set_option maxRecDepth 100000
set_option linter.unusedVariables false
namespace Go.Proofs.Ytamfkofcpoglnaa
open Go Go.Vc Go.ChangeShapes Go.WideShapes Go.ChangeAt Go.RowKit

section
variable {D : Type} {enc : TypeId × Value → D} {W : World}
theorem int_of {t : TypeId} {v : Value} {base : Nat} (u : Try.prog.underlying t = some (.int .i64)) (h : Rdt enc PP W t v.cells.toList) (ho : Value.okWide PP W .any base t v) : ∃ n : Int, v = .int .i64 n ∧ -(2 ^ 63) ≤ n ∧ n < 2 ^ 63 := by
  obtain ⟨fuel, x, h, _⟩ := h
  obtain ⟨n, e1, _, hn⟩ := DataW.trod_int u h
  exact ⟨n, okw_one (by rw [u]) ho e1, has_i64 (wf_has hn)⟩
theorem ok_cfg (c : Cfg) : (DV.agg (c.vals.map .c)).ok := by
  intro y hy; simp only [Cfg.vals, List.map_cons, List.map_nil, List.mem_cons, List.not_mem_nil, or_false] at hy
  rcases hy with rfl | rfl | rfl | rfl | rfl | rfl | rfl <;> rfl
end
end Go.Proofs.Ytamfkofcpoglnaa
end

/- Contract of chip.Lay. Own work. -/
section
set_option linter.unusedVariables false
namespace Go.Proofs.Ytamfkofcpoglnaa
open Go Go.Vc

structure St.lays (c : Cfg) (s : St) : Prop where
  fits : s.fits c
  pos : ∀ n, n ∈ s.erases → 0 ≤ n
section
variable {h0 h : H} {A : List Ent} {i p : Nat} {C : Cm}
end
end Go.Proofs.Ytamfkofcpoglnaa
end

/- Bits of bytes. Own work; generic over any program. -/
section
namespace Go.Vc
abbrev b8 (x : Int) : BitVec 8 := BitVec.ofInt 8 x
theorem w8_nat (v : BitVec 8) : IntKind.u8.wrap (v.toNat : Int) = (v.toNat : Int) := by
  have := v.isLt
  rw [IntKind.wrap_u8]; omega
theorem bits_or8 (x y : Int) : bits .or .u8 x y = ((b8 x ||| b8 y).toNat : Int) := w8_nat (b8 x ||| b8 y)
theorem bits_xor8 (x y : Int) : bits .xor .u8 x y = ((b8 x ^^^ b8 y).toNat : Int) := w8_nat (b8 x ^^^ b8 y)
theorem full_or (b : Int) : bits .or .u8 b 255 = 255 := by
  rw [bits_or8]
  have : b8 255 = BitVec.allOnes 8 := by decide
  rw [this, BitVec.or_allOnes]
  decide
end Go.Vc
end

/- Contracts of the document's chip: configs, copies, new ones. Own work. -/
section
set_option linter.unusedVariables false
namespace Go.Proofs.Ytamfkofcpoglnaa
open Go Go.Vc

section
variable {h0 h : H} {A : List Ent} {i p : Nat} {C : Cm}
theorem rwithin_iff (n a b : Int) (Q : Bool → H → Prop) (h : H) : F_portcullisref04_within n a b Q h = Q (decide (a ≤ n) && decide (n ≤ b)) h := by
  unfold F_portcullisref04_within G_portcullisref04_within
  by_cases h1 : a ≤ n <;> simp [h1]
theorem rMay_sp (c : Cfg) {Q : Int → H → Prop} (hs : Sat h0 A h) (k : ∀ h', Sat h0 A h' → Q c.may? h') :
    F_portcullisref04_May c.cells c.slots c.fuses c.step c.keys c.erases c.area Q h := by
  unfold F_portcullisref04_May G_portcullisref04_May
  simp only [add_mk, Nat.zero_add]
  intro n1 h' hn; replace hs := Sat.new hs hn; clear hn
  replace k := k h' hs.drop
  have kb := hs.blkOf .z
  have hc0 := kb.hc
  intro J hJ
  have w3 : 1 ≤ c.slots ∧ c.slots ≤ 8 → IntKind.i64.wrap (c.slots + 3) = c.slots + 3 := by
    intro h1; rw [IntKind.wrap_i64]; omega
  have fin : ∀ r : Bool, (r = true ↔ (1 ≤ c.slots ∧ c.slots ≤ 8) ∧ (c.slots + 3 ≤ c.cells ∧ c.cells ≤ 256) ∧ (1 ≤ c.fuses ∧ c.fuses ≤ 64) ∧ (1 ≤ c.step ∧ c.step ≤ 65536)) → J [SV.dv (DV.one (Value.bool r))] h' := by
    intro r hr
    apply hJ
    simp only [hc0, rwithin_iff, List.getElem?_cons_succ, List.getElem?_cons_zero, Option.some.injEq, Value.int.injEq, true_and, exists_eq_left', Bool.and_eq_true, decide_eq_true_eq]
    have bad : ¬ c.may → Q 1 h' := fun hm => by unfold Cfg.may? at k; rwa [if_neg hm] at k
    have good : c.may → Q 0 h' := fun hm => by unfold Cfg.may? at k; rwa [if_pos hm] at k
    by_cases h4 : 1 ≤ c.keys ∧ c.keys ≤ 64
    case neg => rw [if_neg h4]; split <;> exact bad fun m => h4 m.keys
    rw [if_pos h4]
    by_cases h5 : 0 ≤ c.erases ∧ c.erases ≤ 65536
    case neg => rw [if_neg h5]; split <;> exact bad fun m => h5 m.erases
    rw [if_pos h5]
    cases r with
    | false =>
      have := mt hr.2 (by simp)
      simp only [Bool.not_false, if_true]
      exact bad fun m => this ⟨m.slots, m.cells, m.fuses, m.step⟩
    | true =>
      obtain ⟨a1, a2, a3, a4⟩ := hr.1 rfl
      rw [if_neg (by simp)]
      by_cases h6 : 0 ≤ c.area ∧ c.area ≤ 64
      · rw [if_neg (by simp; omega)]; exact good ⟨a1, a2, a3, a4, h4, h5, h6⟩
      · rw [if_pos (by simp; omega)]; exact bad fun m => h6 m.area
  simp only [hc0, rwithin_iff, List.getElem?_cons_succ, List.getElem?_cons_zero, Option.some.injEq, Value.int.injEq, true_and, exists_eq_left', Bool.and_eq_true, decide_eq_true_eq]
  split
  case isFalse h1 => exact fin false (by simp; intro a b; exact absurd ⟨a, b⟩ h1)
  rename_i h1
  rw [w3 h1]
  split
  case isFalse h2 => exact fin false (by simp; intro _ _ a b; exact absurd ⟨a, b⟩ h2)
  rename_i h2
  split
  case isFalse h3 => exact fin false (by simp; intro _ _ _ _ a b; exact absurd ⟨a, b⟩ h3)
  rename_i h3
  refine fin _ ?_
  simp only [Bool.and_eq_true, decide_eq_true_eq]
  exact ⟨fun h4 => ⟨h1, h2, h3, h4⟩, fun m => m.2.2.2⟩

end
end Go.Proofs.Ytamfkofcpoglnaa

/- Contracts of the document's chip: new ones, laid ones, copies. Own work. -/
set_option linter.unusedVariables false
namespace Go.Proofs.Ytamfkofcpoglnaa
open Go Go.Vc

section
variable {h0 h : H} {A : List Ent} {i p : Nat} {C : Cm}
end
end Go.Proofs.Ytamfkofcpoglnaa

/- Contracts of the document's chip: its methods. Own work. -/
set_option linter.unusedVariables false
namespace Go.Proofs.Ytamfkofcpoglnaa
open Go Go.Vc

/-- The document's chip: as the program's, but that a mask which is used up may stay. -/
structure RefW (C : Cm) (w : Pl × List Int) : Prop where
  ok : C.ok
  b : bytesOk w.2
  l : w.2.length ≤ 2 ^ 47
  m : 0 ≤ C.left → w.2 = C.mask
section
variable {h0 h : H} {A : List Ent} {i p : Nat} {C : Cm}
end
end Go.Proofs.Ytamfkofcpoglnaa
end

/- Contracts of the chip's statements: a state is written over. Own work. -/
section
set_option linter.unusedVariables false
namespace Go.Proofs.Ytamfkofcpoglnaa
open Go Go.Vc

section
variable {h0 h : H} {A : List Ent} {i p : Nat} {C : Cm}
end
end Go.Proofs.Ytamfkofcpoglnaa

/- Contracts of the chip's statements: pairs of chips. Own work. -/
set_option maxRecDepth 100000
set_option linter.unusedVariables false
namespace Go.Proofs.Ytamfkofcpoglnaa
open Go Go.Vc

section
variable {h0 h : H} {A : List Ent} {i j p r : Nat} {C : Cm}
theorem chip_ok (hs : Sat h0 A h) (ci : At A i (chipE p C)) : C.ok := by
  obtain ⟨w, ok, _⟩ := (hs.front ci).open_
  exact ok
end
end Go.Proofs.Ytamfkofcpoglnaa
end

/- Contracts of the chip's statements: a step. Own work. -/
section
set_option maxRecDepth 100000
set_option linter.unusedVariables false
namespace Go.Proofs.Ytamfkofcpoglnaa
open Go Go.Vc

/-- A step of a script over a chip. -/
structure Stp where
  kind : Int
  a : Int
  b : Int
  x : List Int
  mask : List Int
structure Stp.ok (s : Stp) : Prop where
  a : -(2 ^ 63) ≤ s.a ∧ s.a < 2 ^ 63
  x : s.x.length = 32
  mb : bytesOk s.mask
  ml : s.mask.length + 4096 ≤ 2 ^ 47
section
variable {h0 h : H} {A : List Ent} {i j p r : Nat} {C : Cm}
end
end Go.Proofs.Ytamfkofcpoglnaa

/- Contracts of the chip's statements: games; calls whose answers are fixed. Own work. -/
set_option maxRecDepth 100000
set_option linter.unusedVariables false
namespace Go.Proofs.Ytamfkofcpoglnaa
open Go Go.Vc

section
variable {h0 h : H} {A : List Ent} {i j p r : Nat} {C : Cm}
/-- How a script lies in memory. -/
structure ScriptRd (h : H) (p : Option Addr) (l : Nat) (sc : List Stp) : Prop where
  len : sc.length = l
  small : l < 2 ^ 62
  el : ∀ i (hi : i < sc.length), ∃ (q : Addr) (mp : Option Addr) (ml mc : Nat), p = some q ∧ hc h (q.add (i * 36)) = some (.int .i64 sc[i].kind) ∧ hc h ((q.add (i * 36)).add 1) = some (.int .i64 sc[i].a) ∧
    hc h ((q.add (i * 36)).add 2) = some (.int .i64 sc[i].b) ∧ hrow h ((q.add (i * 36)).add 3) .u8 sc[i].x ∧ hc h ((q.add (i * 36)).add 35) = some (.slice mp ml mc) ∧ hsv h mp 1 ml (ints .u8 sc[i].mask) ∧ sc[i].ok
end
end Go.Proofs.Ytamfkofcpoglnaa

/- Contracts of the chip's statements: ChipLays. Own work. -/
set_option maxRecDepth 100000
set_option linter.unusedVariables false
namespace Go.Proofs.Ytamfkofcpoglnaa
open Go Go.Vc

section
variable {h0 h : H} {A : List Ent} {i j p r : Nat} {C : Cm}
end
end Go.Proofs.Ytamfkofcpoglnaa
end

/- The fuses' model: counts of a row, raising, revoking; laws about numbers alone. Own work. -/
section
set_option maxRecDepth 100000
set_option linter.unusedVariables false
namespace Go.Proofs.Ytamfkofcpoglnaa
open Go Go.Vc

/-- A loop whose slots tell of a state. -/
theorem loop_st {J : List SV → H → Prop} {σ : Type} (N : Nat) (S : Nat → σ → List SV) (Inv : Nat → σ → H → Prop) (step : ∀ i s h, i < N → Inv i s h → (∀ s' h', Inv (i + 1) s' h' → J (S (i + 1) s') h') → J (S i s) h)
    (exit : ∀ s h, Inv N s h → J (S N s) h) (i : Nat) (s : σ) (h : H) (hi : i ≤ N) (inv : Inv i s h) : J (S i s) h := by
  generalize e : N - i = n
  induction n generalizing i s h with
  | zero =>
    have : i = N := by omega
    subst this; exact exit s h inv
  | succ n ih => exact step i s h (by omega) inv fun s' h' inv' => ih (i + 1) s' h' (by omega) inv' (by omega)

def cnt (bl : List Bool) (a : Nat) : Nat → Nat
  | 0 => 0
  | n + 1 => cnt bl a n + (if bl.getD (a + n) false = true then 1 else 0)
theorem askedM_in {C : Cm} {i n : Int} (ho : C.out = false) (h1 : 0 ≤ i) (h2 : i < n) : askedM C i n = 0 := by
  unfold askedM; rw [if_neg (by simp [ho]), if_neg (by omega), if_neg (by omega)]
theorem act_out {C : Cm} (ho : C.out = false) (hl : C.left ≠ 0) : C.act.out = false := by
  unfold Cm.act; rw [if_pos hl]; exact ho
/-- What a Raise does to a row. -/
structure Raised (a f : Nat) (n : Int) (C D : Cm) (e : Int) : Prop where
  cfg : D.cfg = C.cfg
  len : D.s.blown.length = C.s.blown.length
  same : ∀ k, k < a ∨ a + f ≤ k → D.s.blown.getD k false = C.s.blown.getD k false
  up : ∀ k, C.s.blown.getD k false = true → D.s.blown.getD k false = true
  ge : cnt C.s.blown a f ≤ cnt D.s.blown a f
  le : (cnt D.s.blown a f : Int) ≤ max n (cnt C.s.blown a f)
  good : e = 0 → (cnt D.s.blown a f : Int) = max n (cnt C.s.blown a f)
  on : e = 0 → D.out = false
  bad : e ≠ 0 → e = 8 ∧ 0 ≤ C.left ∧ C.left < n - cnt C.s.blown a f
end Go.Proofs.Ytamfkofcpoglnaa

/- Contracts of the fuses' package. Own work. -/
set_option maxRecDepth 100000
set_option linter.unusedVariables false
namespace Go.Proofs.Ytamfkofcpoglnaa
open Go Go.Vc

section
variable {h0 h : H} {A : List Ent} {i j p r : Nat} {C : Cm}
end
end Go.Proofs.Ytamfkofcpoglnaa

/- Contracts of the document's fuses. Own work. -/
set_option maxRecDepth 100000
set_option linter.unusedVariables false
namespace Go.Proofs.Ytamfkofcpoglnaa
open Go Go.Vc

section
variable {h0 h : H} {A : List Ent} {i j p r : Nat} {C : Cm}
end
end Go.Proofs.Ytamfkofcpoglnaa
end

/- Contracts of the fuses' statements: FuseDoes. Own work. -/
section
set_option maxRecDepth 100000
set_option linter.unusedVariables false
namespace Go.Proofs.Ytamfkofcpoglnaa
open Go Go.Vc

section
variable {h0 h : H} {A : List Ent} {i j p r : Nat} {C : Cm}
structure Stp7 where
  kind : Int
  a : Int
  n : Int
structure Stp7.ok (s : Stp7) : Prop where
  n : s.n < 2 ^ 63
/-- How a script lies in memory. -/
structure Script7 (h : H) (p : Option Addr) (l : Nat) (sc : List Stp7) : Prop where
  len : sc.length = l
  small : l < 2 ^ 62
  el : ∀ i (hi : i < sc.length), ∃ (q : Addr), p = some q ∧ hc h (q.add (i * 3)) = some (.int .i64 sc[i].kind) ∧ hc h ((q.add (i * 3)).add 1) = some (.int .i64 sc[i].a) ∧
    hc h ((q.add (i * 3)).add 2) = some (.int .i64 sc[i].n) ∧ sc[i].ok
end
end Go.Proofs.Ytamfkofcpoglnaa
end

/- Cells' bytes: tables, bytes of numbers, the sum of bytes; laws about numbers alone. Own work. -/
section
set_option maxRecDepth 100000
set_option linter.unusedVariables false
namespace Go.Proofs.Ytamfkofcpoglnaa
open Go Go.Vc

/-- A table of numbers. -/
def tab (n : Nat) (f : Nat → Int) : List Int := (List.range n).map f
@[simp] theorem tab_length (n : Nat) (f : Nat → Int) : (tab n f).length = n := by simp [tab]
theorem tab_get (n : Nat) (f : Nat → Int) (i : Nat) : (tab n f)[i]? = if i < n then some (f i) else none := by
  unfold tab
  rw [List.getElem?_map]
  by_cases h : i < n
  · rw [List.getElem?_range h, if_pos h]; rfl
  · rw [if_neg h, List.getElem?_eq_none (by simpa using h)]; rfl
theorem tab_set (n : Nat) (f : Nat → Int) (k : Nat) (v : Int) : (tab n f).set k v = tab n (fun i => if i = k then v else f i) := by
  apply List.ext_getElem?
  intro i
  rw [List.getElem?_set, tab_get, tab_get]
  by_cases h : k = i
  · subst h; simp
  · rw [if_neg h]; simp only [show (i = k) = False by simp; omega, if_false]
theorem tab_ext {n : Nat} {f g : Nat → Int} (h : ∀ i, i < n → f i = g i) : tab n f = tab n g := by
  apply List.ext_getElem?
  intro i
  rw [tab_get, tab_get]
  split
  · rw [h i (by assumption)]
  · rfl
theorem zeros_tab (n : Nat) : zeros n = tab n fun _ => 0 := by
  apply List.ext_getElem?
  intro i
  rw [tab_get]
  unfold zeros
  by_cases h : i < n
  · rw [List.getElem?_replicate, if_pos h]
    try rw [if_pos h]
  · rw [List.getElem?_replicate, if_neg h]
    try rw [if_neg h]
theorem ints_tab_set (k : IntKind) (n : Nat) (f : Nat → Int) (j : Nat) (v : Int) : splice (ints k (tab n f)) j [.int k v] = ints k (tab n (fun i => if i = j then v else f i)) := by
  rw [splice_cons, splice_nil, ints_set, tab_set]
def byteAt (n : Int) (i : Nat) : Int := IntKind.u8.wrap (n.fdiv (2 ^ (8 * i)))
theorem wrap_u8_byte (n : Int) : isByte (IntKind.u8.wrap n) := by unfold isByte; rw [IntKind.wrap_u8]; omega
def compl8 (x : Int) : Int := bits .xor .u8 255 x

/-! ### The sum -/
abbrev b32 (x : Int) : BitVec 32 := BitVec.ofInt 32 x
theorem w32_nat (v : BitVec 32) : IntKind.u32.wrap (v.toNat : Int) = (v.toNat : Int) := by
  have := v.isLt
  rw [IntKind.wrap_u32]; omega
theorem b32_nat (v : BitVec 32) : b32 (v.toNat : Int) = v := by simp [b32]
theorem bits_xor32 (x y : Int) : bits .xor .u32 x y = ((b32 x ^^^ b32 y).toNat : Int) := w32_nat (b32 x ^^^ b32 y)
theorem bits_and32 (x y : Int) : bits .and .u32 x y = ((b32 x &&& b32 y).toNat : Int) := w32_nat (b32 x &&& b32 y)
def is32 (x : Int) : Prop := 0 ≤ x ∧ x < 2 ^ 32
theorem is32_nat (v : BitVec 32) : is32 (v.toNat : Int) := by have := v.isLt; unfold is32; omega
theorem of32 {x : Int} (h : is32 x) : ((b32 x).toNat : Int) = x := by
  unfold is32 at h
  simp only [BitVec.toNat_ofInt]
  omega
def crcStep (x : Int) : Int := if bits .and .u32 x 1 = 1 then bits .xor .u32 (x.fdiv (2 ^ 1)) 3988292384 else x.fdiv (2 ^ 1)
def crcIt : Nat → Int → Int
  | 0, x => x
  | n + 1, x => crcIt n (crcStep x)
def vStep (v : BitVec 32) : BitVec 32 := if v.getLsbD 0 = true then (v >>> 1) ^^^ 3988292384#32 else v >>> 1
def vIt : Nat → BitVec 32 → BitVec 32
  | 0, v => v
  | n + 1, v => vIt n (vStep v)
theorem shr_nat (v : BitVec 32) (k : Nat) : ((v.toNat : Int)).fdiv (2 ^ k) = ((v >>> k).toNat : Int) := by
  rw [BitVec.toNat_ushiftRight, Nat.shiftRight_eq_div_pow, Int.fdiv_eq_ediv_of_nonneg _ (Int.le_of_lt (Int.pow_pos (by decide)))]
  simp
theorem crcStep_v (v : BitVec 32) : crcStep (v.toNat : Int) = ((vStep v).toNat : Int) := by
  unfold crcStep vStep
  rw [bits_and32, shr_nat, b32_nat]
  have : ((((v &&& b32 1).toNat : Nat) : Int) = 1) ↔ v.getLsbD 0 = true := by
    have e1 : b32 1 = 1#32 := by decide
    rw [e1]
    have : (v &&& 1#32).toNat = v.toNat % 2 := by
      rw [BitVec.toNat_and]
      exact Nat.and_one_is_mod _
    rw [this]
    have : v.getLsbD 0 = decide (v.toNat % 2 = 1) := by
      rw [BitVec.getLsbD, Nat.testBit_zero]
    rw [this, decide_eq_true_eq]; omega
  by_cases h : v.getLsbD 0 = true
  · rw [if_pos (this.2 h), if_pos h, bits_xor32, b32_nat]; rfl
  · rw [if_neg (fun x => h (this.1 x)), if_neg h]
theorem crcIt_v (n : Nat) : ∀ v : BitVec 32, crcIt n (v.toNat : Int) = ((vIt n v).toNat : Int) := by
  induction n with
  | zero => intro v; rfl
  | succ n ih => intro v; unfold crcIt vIt; rw [crcStep_v, ih]
theorem vStep_xor (v w : BitVec 32) : vStep (v ^^^ w) = vStep v ^^^ vStep w := by
  unfold vStep
  have e : (v ^^^ w) >>> 1 = (v >>> 1) ^^^ (w >>> 1) := BitVec.ushiftRight_xor_distrib v w 1
  rw [BitVec.getLsbD_xor, e]
  generalize v >>> 1 = a
  generalize w >>> 1 = b
  generalize 3988292384#32 = P
  cases v.getLsbD 0 <;> cases w.getLsbD 0 <;> simp only [Bool.xor_true, Bool.xor_false, Bool.not_true, Bool.not_false, Bool.false_eq_true, if_true, if_false]
  all_goals
    ext i hi
    simp only [BitVec.getElem_xor]
    cases a[i] <;> cases b[i] <;> cases P[i] <;> rfl
theorem vIt_xor (n : Nat) : ∀ v w : BitVec 32, vIt n (v ^^^ w) = vIt n v ^^^ vIt n w := by
  induction n with
  | zero => intro v w; rfl
  | succ n ih => intro v w; unfold vIt; rw [vStep_xor, ih]
theorem vIt_low (n : Nat) : ∀ v : BitVec 32, (∀ i, i < n → v.getLsbD i = false) → vIt n v = v >>> n := by
  induction n with
  | zero => intro v _; simp [vIt]
  | succ n ih =>
    intro v h
    unfold vIt
    have : vStep v = v >>> 1 := by unfold vStep; rw [h 0 (by omega)]; simp
    rw [this, ih]
    · rw [← BitVec.shiftRight_add, Nat.add_comm]
    · intro i hi
      rw [BitVec.getLsbD_ushiftRight]
      have := h (1 + i) (by omega)
      exact this
theorem crc_one (v : BitVec 32) (c : Int) (hc : isByte c) : bits .xor .u32 (crcIt 8 (IntKind.u32.wrap (bits .xor .u8 (IntKind.u8.wrap (v.toNat : Int)) c))) ((v.toNat : Int).fdiv (2 ^ 8)) = crcIt 8 (bits .xor .u32 (v.toNat : Int) (IntKind.u32.wrap c)) := by
  rw [shr_nat, bits_xor8, bits_xor32, bits_xor32]
  obtain ⟨c1, c2⟩ := hc
  have hw : IntKind.u32.wrap c = c := by rw [IntKind.wrap_u32]; omega
  rw [hw]
  have low : (IntKind.u32.wrap ((b8 (IntKind.u8.wrap (v.toNat : Int)) ^^^ b8 c).toNat : Int)) = (((v &&& 255#32) ^^^ b32 c).toNat : Int) := by
    have h1 : (b8 (IntKind.u8.wrap (v.toNat : Int)) ^^^ b8 c).toNat < 256 := (b8 (IntKind.u8.wrap (v.toNat : Int)) ^^^ b8 c).isLt
    rw [IntKind.wrap_u32]
    have h2 : (b8 (IntKind.u8.wrap (v.toNat : Int)) ^^^ b8 c).toNat = ((v &&& 255#32) ^^^ b32 c).toNat := by
      rw [BitVec.toNat_xor, BitVec.toNat_xor, BitVec.toNat_and]
      have e1 : (b8 (IntKind.u8.wrap (v.toNat : Int))).toNat = v.toNat % 256 := by
        simp only [BitVec.toNat_ofInt]; rw [IntKind.wrap_u8]; omega
      have e2 : (b8 c).toNat = c.toNat := by simp only [BitVec.toNat_ofInt]; omega
      have e3 : (b32 c).toNat = c.toNat := by simp only [BitVec.toNat_ofInt]; omega
      have e4 : v.toNat &&& (255#32).toNat = v.toNat % 256 := Nat.and_two_pow_sub_one_eq_mod v.toNat 8
      rw [e1, e2, e3, e4]
    omega
  rw [low, crcIt_v, b32_nat, b32_nat, b32_nat, crcIt_v]
  congr 1
  have split : v ^^^ b32 c = ((v &&& 255#32) ^^^ b32 c) ^^^ (v &&& ~~~ 255#32) := by
    ext i hi
    simp only [BitVec.getElem_xor, BitVec.getElem_and, BitVec.getElem_not]
    cases v[i] <;> cases (b32 c)[i] <;> cases (255#32)[i] <;> rfl
  rw [split, vIt_xor 8 (v &&& 255#32 ^^^ b32 c) (v &&& ~~~ 255#32)]
  congr 1
  have hb : ∀ i, i < 8 → (v &&& ~~~ 255#32).getLsbD i = false := by
    intro i hi
    have : (~~~ 255#32).getLsbD i = false := by
      have : ∀ i, i < 8 → (~~~ 255#32).getLsbD i = false := by decide
      exact this i hi
    rw [BitVec.getLsbD_and, this, Bool.and_false]
  rw [vIt_low 8 _ hb]
  congr 1
  ext i hi
  simp only [BitVec.getElem_ushiftRight, BitVec.getLsbD_and]
  have : ∀ j, j < 32 → (~~~ 255#32).getLsbD j = decide (8 ≤ j) := by decide
  by_cases hj : 8 + i < 32
  · rw [this _ hj]; simp
  · rw [BitVec.getLsbD_of_ge _ _ (by omega)]; simp
def crcF (x : Int) (c : Int) : Int := bits .xor .u32 (crcIt 8 (IntKind.u32.wrap (bits .xor .u8 (IntKind.u8.wrap x) c))) (x.fdiv (2 ^ 8))
def crcG (x : Int) (c : Int) : Int := crcIt 8 (bits .xor .u32 x (IntKind.u32.wrap c))
theorem crcFG {x c : Int} (hx : is32 x) (hc : isByte c) : crcF x c = crcG x c ∧ is32 (crcG x c) := by
  have e := of32 hx
  have := crc_one (b32 x) c hc
  rw [e] at this
  refine ⟨this, ?_⟩
  unfold crcG
  rw [bits_xor32, crcIt_v]
  exact is32_nat _
def crcM (bs : List Int) : Int := bits .xor .u32 4294967295 (bs.foldl crcG 4294967295)
theorem crc_fold (bs : List Int) (hb : bytesOk bs) : ∀ x, is32 x → bs.foldl crcF x = bs.foldl crcG x := by
  induction bs with
  | nil => intro x _; rfl
  | cons c r ih =>
    intro x hx
    obtain ⟨e1, e2⟩ := crcFG hx (hb c (by simp))
    rw [List.foldl_cons, List.foldl_cons, e1]
    exact ih (fun n hn => hb n (by simp [hn])) _ e2
theorem crcM_is (bs : List Int) : is32 (crcM bs) := by unfold crcM; rw [bits_xor32]; exact is32_nat _

/-! ### Numbers of eight bytes -/
abbrev b64 (x : Int) : BitVec 64 := BitVec.ofInt 64 x
theorem wrap_u64' (n : Int) : IntKind.u64.wrap n = n % 18446744073709551616 := by simp [IntKind.wrap, IntKind.bits, IntKind.signed]
theorem b64_nat (v : BitVec 64) : b64 (v.toNat : Int) = v := by simp [b64]
theorem or_u64 (x y : Int) : b64 (bits .or .u64 x y) = b64 x ||| b64 y := by
  have : bits .or .u64 x y = IntKind.u64.wrap ((b64 x ||| b64 y).toNat : Int) := rfl
  rw [this]
  have h := (b64 x ||| b64 y).isLt
  have : IntKind.u64.wrap ((b64 x ||| b64 y).toNat : Int) = ((b64 x ||| b64 y).toNat : Int) := by rw [wrap_u64']; omega
  rw [this, b64_nat]
theorem wrap_b64u (x : Int) : b64 (IntKind.u64.wrap x) = b64 x := by
  apply BitVec.eq_of_toNat_eq
  simp only [BitVec.toNat_ofInt]
  rw [wrap_u64']; omega
theorem wrap_b64i (x : Int) : b64 (IntKind.i64.wrap x) = b64 x := by
  apply BitVec.eq_of_toNat_eq
  simp only [BitVec.toNat_ofInt]
  rw [IntKind.wrap_i64]; omega
theorem or_i64 (x y : Int) : b64 (bits .or .i64 x y) = b64 x ||| b64 y := by
  have : bits .or .i64 x y = IntKind.i64.wrap ((b64 x ||| b64 y).toNat : Int) := rfl
  rw [this, wrap_b64i, b64_nat]
theorem wrap_of_b64 {x y : Int} (h : b64 x = b64 y) : IntKind.i64.wrap x = IntKind.i64.wrap y := by
  have h2 := congrArg BitVec.toNat h
  simp only [BitVec.toNat_ofInt] at h2
  rw [IntKind.wrap_i64, IntKind.wrap_i64]; omega
def gotU (l : List Int) : Nat → Int
  | 0 => 0
  | n + 1 => bits .or .u64 (gotU l n) (IntKind.u64.wrap (IntKind.u64.wrap (l.getD n 0) * 2 ^ (8 * n)))
def gotI (l : List Int) : Nat → Int
  | 0 => 0
  | n + 1 => bits .or .i64 (gotI l n) (IntKind.i64.wrap (IntKind.i64.wrap (l.getD n 0) * 2 ^ (8 * n)))
theorem got_b (l : List Int) (hb : bytesOk l) (n : Nat) : b64 (gotU l n) = b64 (gotI l n) := by
  induction n with
  | zero => rfl
  | succ n ih =>
    unfold gotU gotI
    rw [or_u64, or_i64, ih, wrap_b64u, wrap_b64i]
    have : isByte (l.getD n 0) := by
      rw [List.getD_eq_getElem?_getD]
      cases e : l[n]? with
      | none => exact ⟨by decide, by decide⟩
      | some v => exact hb v (List.mem_iff_getElem?.2 ⟨n, e⟩)
    obtain ⟨h1, h2⟩ := this
    have e1 : IntKind.u64.wrap (l.getD n 0) = l.getD n 0 := by rw [wrap_u64']; omega
    have e2 : IntKind.i64.wrap (l.getD n 0) = l.getD n 0 := by rw [IntKind.wrap_i64]; omega
    rw [e1, e2]
theorem gotI_range (l : List Int) (n : Nat) : IntKind.i64.wrap (gotI l n) = gotI l n := by
  cases n with
  | zero => exact (by decide : IntKind.i64.wrap 0 = 0)
  | succ n =>
    unfold gotI
    have : ∀ x y, IntKind.i64.wrap (bits .or .i64 x y) = bits .or .i64 x y := by
      intro x y
      have : bits .or .i64 x y = IntKind.i64.wrap ((b64 x ||| b64 y).toNat : Int) := rfl
      rw [this, IntKind.wrap_i64, IntKind.wrap_i64]; omega
    exact this _ _
theorem got_eq (l : List Int) (hb : bytesOk l) (n : Nat) : IntKind.i64.wrap (gotU l n) = gotI l n := by
  rw [wrap_of_b64 (got_b l hb n), gotI_range]
end Go.Proofs.Ytamfkofcpoglnaa

/- Contracts of sums, rails and cells. Own work. -/
set_option maxRecDepth 100000
set_option linter.unusedVariables false
namespace Go.Proofs.Ytamfkofcpoglnaa
open Go Go.Vc

section
variable {h0 h : H} {A : List Ent} {i j p r b : Nat} {C : Cm}
theorem max32 : (if IntKind.u32.signed = true then (-1 : Int) else IntKind.u32.max) = 4294967295 := by decide
theorem max8 : (if IntKind.u8.signed = true then (-1 : Int) else IntKind.u8.max) = 255 := by decide
theorem Sat.tab_to {N : Nat} {f g : Nat → Int} {k : IntKind} (hs : Sat h0 (blk b (ints k (tab N f)) :: A) h) (e : ∀ i, i < N → f i = g i) : Sat h0 (blk b (ints k (tab N g)) :: A) h := by
  rw [← tab_ext e]; exact hs
theorem Sat.part (hs : Sat h0 A h) {ms xs : List Int} {k : IntKind} (m : At A i (blk b (ints k ms))) (o : Nat) (e : (ms.drop o).take xs.length = xs) : hsv h (some ⟨b, o, none⟩) 1 xs.length (ints k xs) := by
  refine ⟨by simp, ints_one _ _, Or.inr ⟨_, rfl, hs.cs m ?_⟩⟩
  rw [ints_length]
  unfold ints
  rw [← List.map_drop, ← List.map_take, e]
theorem hsv_int {p : Option Addr} {l : Nat} {k : IntKind} {ns : List Int} {x : Nat} (rd : hsv h p 1 l (ints k ns)) (hx : x < l) : ∃ q, p = some q ∧ hc h (q.add x) = some (.int k (ns.getD x 0)) := by
  have hl : ns.length = l := by have := rd.1; simpa using this
  obtain ⟨q, hq, g⟩ := hsv_get rd (i := x) (v := .int k (ns.getD x 0)) (by rw [ints_get, List.getElem?_eq_getElem (by omega)]; simp [List.getD, List.getElem?_eq_getElem (show x < ns.length by omega)])
  exact ⟨q, hq, g⟩
theorem eight_sp {Q : Int → H → Prop} {x : Int} (hs : Sat h0 A h) (k : ∀ h', Sat h0 A h' → Q (crcIt 8 (IntKind.u32.wrap x)) h') : F_crc_eight x Q h := by
  unfold F_crc_eight G_crc_eight
  intro J hJ
  generalize hR : crcIt 8 (IntKind.u32.wrap x) = R at k
  refine loop_st 8 (fun n (y : Int) => [.dv (.one (.int .u32 y)), .dv (.one (.int .i64 (n : Int)))]) (fun n y h => Sat h0 A h ∧ crcIt (8 - n) y = R) ?_ ?_ 0 _ _ (by omega) ⟨hs, hR⟩
  · rintro n y h1 hn ⟨hs, hy⟩ hk
    apply hJ
    rw [ltI_eq, if_pos (by simp; omega)]
    refine ⟨by decide, ?_⟩
    obtain ⟨m, hm⟩ : ∃ m, 8 - n = m + 1 := ⟨7 - n, by omega⟩
    rw [hm] at hy
    unfold crcIt crcStep at hy
    rw [wrap_succ (by omega)]
    split
    · rename_i h2
      intro _ e; subst e
      refine hk _ _ ⟨hs, ?_⟩
      rw [if_pos (by simpa using h2)] at hy
      rw [show 8 - (n + 1) = m by omega]; exact hy
    · rename_i h2
      refine hk _ _ ⟨hs, ?_⟩
      rw [if_neg (by simpa using h2)] at hy
      rw [show 8 - (n + 1) = m by omega]; exact hy
  · rintro y h1 ⟨hs, hy⟩
    apply hJ
    rw [ltI_eq, if_neg (by simp)]
    have hy : y = R := hy
    rw [hy]
    exact k _ hs
theorem getD_snoc (bs : List Int) (n : Nat) (hn : n < bs.length) (f : Int → Int → Int) (x : Int) : (bs.take (n + 1)).foldl f x = f ((bs.take n).foldl f x) (bs.getD n 0) := by
  rw [List.take_succ, List.foldl_append]
  simp [List.getElem?_eq_getElem hn]
theorem Write_sp {Q : H → Prop} {t : Int} {s : Nat} {q : Option Addr} {l c : Nat} {bs : List Int} (hs : Sat h0 A h) (m : At A i (blk s [.int .u32 t])) (rd : ∀ h', Sat h0 A h' → hsv h' q 1 l (ints .u8 bs)) (hl : l < 2 ^ 62)
    (k : ∀ h', Sat h0 (put A i (blk s [.int .u32 (bits .xor .u32 4294967295 (bs.foldl crcF (bits .xor .u32 4294967295 t)))])) h' → Q h') : F_crc_Sum_Write ⟨s, 0, none⟩ q l c Q h := by
  unfold F_crc_Sum_Write G_crc_Sum_Write
  simp only [max32]
  refine ⟨_, hs.ld m rfl, ?_⟩
  have hbl : bs.length = l := by have := (rd _ hs).1; simpa using this
  intro J hJ
  refine loop_st l (fun n (_ : Unit) => [.dv (.one (.int .u32 ((bs.take n).foldl crcF (bits .xor .u32 4294967295 t)))), .dv (.one (.int .i64 (n : Int)))]) (fun n _ h => Sat h0 A h) ?_ ?_ 0 () _ (by omega) hs
  · intro n _ h1 hn hs hk
    apply hJ
    rw [ltI_eq, if_pos (by simp; omega)]
    obtain ⟨q', hq, g⟩ := hsv_int (rd _ hs) hn
    refine ⟨_, hq, by omega, by omega, _, by rw [Int.toNat_natCast, Nat.mul_one]; exact g, ?_⟩
    refine eight_sp hs ?_
    intro h2 hs
    refine ⟨by decide, ?_⟩
    have := hk () _ hs
    rw [getD_snoc bs n (by omega)] at this
    rw [wrap_succ (by omega)]
    exact this
  · intro _ h1 hs
    apply hJ
    rw [ltI_eq, if_neg (by simp), List.take_of_length_le (by omega)]
    refine ⟨hs.can m (by simp), ?_⟩
    intro h2 e
    exact k _ (hs.wr m e)
theorem crcOf_sp {Q : Int → H → Prop} {q : Option Addr} {l c : Nat} {bs : List Int} (hs : Sat h0 A h) (rd : ∀ h', Sat h0 A h' → hsv h' q 1 l (ints .u8 bs)) (hb : bytesOk bs) (hl : l < 2 ^ 62)
    (k : ∀ h', Sat h0 A h' → Q (crcM bs) h') : F_crc_Of q l c Q h := by
  unfold F_crc_Of G_crc_Of F_crc_New G_crc_New
  intro n1 _ hn; replace hs := Sat.new hs hn; clear hn
  refine ⟨_, rfl, ?_⟩
  refine Write_sp hs .z (fun h' hs' => rd h' hs'.drop) hl ?_
  intro h1 hs
  refine ⟨_, rfl, ?_⟩
  unfold F_crc_Sum_Sum G_crc_Sum_Sum
  refine ⟨_, hs.ld (.z) rfl, ?_⟩
  have e0 : bits .xor .u32 4294967295 0 = 4294967295 := by decide
  rw [e0, crc_fold bs hb _ ⟨by decide, by decide⟩]
  exact k _ hs.drop
theorem step8_eq {n : Nat} (h : n < 8) : min (IntKind.i64.wrap (8 * (n : Int))).toNat 64 = 8 * n := by
  rw [wrap_id (by omega)]; omega
theorem put_sp {Q : H → Prop} {N o l c : Nat} {f : Nat → Int} (x : Int) (hs : Sat h0 A h) (m : At A i (blk b (ints .u8 (tab N f)))) (hl : l ≤ 8) (ho : o + l ≤ N)
    (k : ∀ h', Sat h0 (put A i (blk b (ints .u8 (tab N fun k => if o ≤ k ∧ k < o + l then byteAt x (k - o) else f k)))) h' → Q h') : F_cell_put (some ⟨b, o, none⟩) l c x Q h := by
  unfold F_cell_put G_cell_put
  intro J hJ
  refine loop_up l (fun n h => Sat h0 (put A i (blk b (ints .u8 (tab N fun k => if o ≤ k ∧ k < o + n then byteAt x (k - o) else f k)))) h) ?_ ?_ 0 _ (by omega) ?_
  · intro n h1 hn hs hk
    apply hJ
    rw [ltI_eq, if_pos (by simp; omega)]
    rw [step8_eq (by omega)]
    refine ⟨by rw [wrap_id (by omega)]; omega, _, rfl, by omega, by omega, ?_⟩
    rw [Int.toNat_natCast, Nat.mul_one, add_mk]
    refine ⟨hs.can (m.put _) (by simp; omega), ?_⟩
    intro h2 e
    replace hs := hs.wr (m.put _) e
    rw [put_put, ints_tab_set] at hs
    rw [wrap_succ (by omega)]
    refine hk _ ?_
    have : (tab N fun k => if o ≤ k ∧ k < o + (n + 1) then byteAt x (k - o) else f k) = tab N (fun i => if i = o + n then IntKind.u8.wrap (x.fdiv (2 ^ (8 * n))) else if o ≤ i ∧ i < o + n then byteAt x (i - o) else f i) := by
      apply tab_ext
      intro i hi
      by_cases e : i = o + n
      · rw [if_pos e, if_pos (by omega), e, Nat.add_sub_cancel_left]; rfl
      · rw [if_neg e]
        by_cases e2 : o ≤ i ∧ i < o + n
        · rw [if_pos e2, if_pos (by omega)]
        · rw [if_neg e2, if_neg (by omega)]
    rw [this]; exact hs
  · intro h1 hs
    apply hJ
    rw [ltI_eq, if_neg (by simp)]
    exact k _ hs
  · have : (tab N fun k => if o ≤ k ∧ k < o + 0 then byteAt x (k - o) else f k) = tab N f := tab_ext fun i _ => if_neg (by omega)
    rw [this, m.put_self]; exact hs
theorem got_sp {Q : Int → H → Prop} {q : Option Addr} {l c : Nat} {bs : List Int} (hs : Sat h0 A h) (rd : ∀ h', Sat h0 A h' → hsv h' q 1 l (ints .u8 bs)) (hl : l ≤ 8) (k : ∀ h', Sat h0 A h' → Q (gotU bs l) h') : F_cell_got q l c Q h := by
  unfold F_cell_got G_cell_got
  intro J hJ
  refine loop_st l (fun n (_ : Unit) => [.dv (.one (.int .u64 (gotU bs n))), .dv (.one (.int .i64 (n : Int)))]) (fun n _ h => Sat h0 A h) ?_ ?_ 0 () _ (by omega) hs
  · intro n _ h1 hn hs hk
    apply hJ
    rw [ltI_eq, if_pos (by simp; omega)]
    obtain ⟨q', hq, g⟩ := hsv_int (rd _ hs) hn
    refine ⟨_, hq, by omega, by omega, _, by rw [Int.toNat_natCast, Nat.mul_one]; exact g, by rw [wrap_id (by omega)]; omega, ?_⟩
    rw [step8_eq (by omega), wrap_succ (by omega)]
    exact hk () _ hs
  · intro _ h1 hs
    apply hJ
    rw [ltI_eq, if_neg (by simp)]
    exact k _ hs
theorem flat_bytes (n : Nat) : (List.replicate n [Value.int .u8 0]).flatten = ints .u8 (tab n fun _ => 0) := by
  rw [← zeros_tab]; simp [ints, zeros]
theorem railPut_sp {Q : Option Addr → Nat → Nat → H → Prop} {q : Option Addr} {l c : Nat} {bs : List Int} (hs : Sat h0 A h) (rd : ∀ h', Sat h0 A h' → hsv h' q 1 l (ints .u8 bs)) (hl : l ≤ 2 ^ 40)
    (k : ∀ n h', Sat h0 (blk n (ints .u8 (tab (2 * l) fun k => if k < l then bs.getD k 0 else compl8 (bs.getD (k - l) 0))) :: A) h' → Q (some ⟨n, 0, none⟩) (2 * l) (2 * l) h') : F_rail_Put q l c Q h := by
  unfold F_rail_Put G_rail_Put
  have e1 : IntKind.i64.wrap (2 * (l : Int)) = ((2 * l : Nat) : Int) := by rw [wrap_id (by omega)]; omega
  simp only [e1, max8, Int.toNat_natCast]
  refine ⟨by omega, by omega, by omega, by omega, ?_⟩
  intro n1 _ hn
  rw [flat_bytes] at hn
  replace hs := Sat.new hs hn; clear hn
  unfold F_rail_halves G_rail_halves
  have e2 : IntKind.i64.wrap ((((2 * l : Nat) : Int)).tdiv 2) = (l : Int) := by rw [Int.tdiv_eq_ediv_of_nonneg (by omega), wrap_id (by omega)]; omega
  simp only [e2, e1, Int.toNat_natCast]
  refine ⟨by decide, by omega, by omega, by omega, by omega, by omega, by omega, by omega, ?_⟩
  have hbl : bs.length = l := by have := (rd _ hs.drop).1; simpa using this
  intro J hJ
  have a1 : 0 < l → subAddr (some ⟨n1, 0, none⟩) 0 l 1 = some ⟨n1, 0, none⟩ := by
    intro h; unfold subAddr; rw [if_neg (by omega)]; simp [add_mk]
  have a2 : 0 < l → subAddr (some ⟨n1, 0, none⟩) l (2 * l) 1 = some ⟨n1, l, none⟩ := by
    intro h; unfold subAddr; rw [if_neg (by omega)]; simp [add_mk]
  refine loop_up l (fun n h => Sat h0 (blk n1 (ints .u8 (tab (2 * l) fun k => if k < n then bs.getD k 0 else if l ≤ k ∧ k < l + n then compl8 (bs.getD (k - l) 0) else 0)) :: A) h) ?_ ?_ 0 _ (by omega) ?_
  · intro n h1 hn hs hk
    apply hJ
    rw [ltI_eq, if_pos (by simp; omega)]
    obtain ⟨q', hq, g⟩ := hsv_int (rd _ hs.drop) hn
    refine ⟨_, hq, by omega, by omega, _, by rw [Int.toNat_natCast, Nat.mul_one]; exact g, ?_⟩
    refine ⟨_, hq, by omega, by omega, _, by rw [Int.toNat_natCast, Nat.mul_one]; exact g, ?_⟩
    refine ⟨_, a1 (by omega), by omega, by omega, ?_⟩
    rw [Int.toNat_natCast, Nat.mul_one, add_mk]
    refine ⟨hs.can .z (by simp; omega), ?_⟩
    intro h2 e
    replace hs := hs.wr .z e
    rw [put_zero, ints_tab_set] at hs
    refine ⟨_, a2 (by omega), by omega, by omega, ?_⟩
    rw [add_mk]
    refine ⟨hs.can .z (by simp; omega), ?_⟩
    intro h3 e
    replace hs := hs.wr .z e
    rw [put_zero, ints_tab_set] at hs
    rw [wrap_succ (by omega)]
    refine hk _ ?_
    refine Sat.tab_to hs fun i hi => ?_
    by_cases e : i = l + n
    · rw [if_pos e, if_neg (by omega), if_pos (by omega), e, Nat.add_sub_cancel_left]; rfl
    · rw [if_neg e]
      by_cases e2 : i = 0 + n
      · rw [if_pos e2, if_pos (by omega), show i = n by omega]
      · rw [if_neg e2]
        by_cases e3 : i < n
        · rw [if_pos e3, if_pos (by omega)]
        · rw [if_neg e3]
          by_cases e4 : l ≤ i ∧ i < l + n
          · rw [if_pos e4, if_neg (show ¬ i < n + 1 by omega), if_pos (show l ≤ i ∧ i < l + (n + 1) by omega)]
          · rw [if_neg e4, if_neg (show ¬ i < n + 1 by omega), if_neg (show ¬ (l ≤ i ∧ i < l + (n + 1)) by omega)]
  · intro h1 hs
    apply hJ
    rw [ltI_eq, if_neg (by simp)]
    refine k _ _ ?_
    refine Sat.tab_to hs fun i hi => ?_
    by_cases e : i < l
    · rw [if_pos e, if_pos e]
    · rw [if_neg e, if_neg e, if_pos (by omega)]
  · refine Sat.tab_to hs fun i hi => ?_
    rw [if_neg (by omega), if_neg (by omega)]
def bodyF (kind slot n : Int) (k : Nat) : Int := if k = 0 then kind else if k = 1 then IntKind.u8.wrap slot else if k < 4 then 0 else if k < 12 then byteAt (IntKind.u64.wrap n) (k - 4) else 0
def bodyM (kind slot n : Int) (k : Nat) : Int := if 12 ≤ k then byteAt (crcM (tab 12 (bodyF kind slot n))) (k - 12) else bodyF kind slot n k
def laidM (kind slot n : Int) : List Int := tab 32 fun k => if k < 16 then bodyM kind slot n k else compl8 (bodyM kind slot n (k - 16))
theorem bodyF_byte {kind slot n : Int} (hk : isByte kind) (k : Nat) : isByte (bodyF kind slot n k) := by
  unfold bodyF
  repeat' split
  · exact hk
  · exact wrap_u8_byte _
  · exact ⟨by decide, by decide⟩
  · exact wrap_u8_byte _
  · exact ⟨by decide, by decide⟩
theorem tab_bytes {n : Nat} {f : Nat → Int} (h : ∀ k, isByte (f k)) : bytesOk (tab n f) := by
  intro x hx
  simp only [tab, List.mem_map] at hx
  obtain ⟨k, _, rfl⟩ := hx
  exact h k
theorem laid_sp {Q : List Int → H → Prop} (kind slot n : Int) (hk : isByte kind) (hs : Sat h0 A h) (k : ∀ h', Sat h0 A h' → Q (laidM kind slot n) h') : F_cell_laid kind slot n Q h := by
  unfold F_cell_laid G_cell_laid
  simp only [add_mk, Nat.zero_add, List.append_nil]
  intro n1 _ hn; replace hs := Sat.new hs hn; clear hn
  intro n2 _ hn; replace hs := Sat.new hs hn; clear hn
  (refine ⟨Sat.can hs (by (repeat (first | exact At.z | apply At.s))) (by simp), ?_⟩; intro _ e; replace hs := Sat.wra hs (by (repeat (first | exact At.z | apply At.s))) e (by simp [*]); clear e; simp only [put] at hs)
  have e0 : [kind, IntKind.u8.wrap slot, 0, 0, 0, 0, 0, 0, 0, 0, 0, 0, 0, 0, 0, 0] = tab 16 (fun k => if k = 0 then kind else if k = 1 then IntKind.u8.wrap slot else 0) := rfl
  rw [e0] at hs
  refine ⟨by decide, by decide, by decide, ?_⟩
  rw [show subAddr (some ⟨n2, 0, none⟩) 4 16 1 = some ⟨n2, 4, none⟩ from rfl]
  refine put_sp (IntKind.u64.wrap n) hs .z (by decide) (by decide) ?_
  intro h1 hs
  rw [put_zero] at hs
  have e1 : (tab 16 fun k => if 4 ≤ k ∧ k < 4 + 8 then byteAt (IntKind.u64.wrap n) (k - 4) else if k = 0 then kind else if k = 1 then IntKind.u8.wrap slot else 0) = tab 16 (bodyF kind slot n) := by
    apply tab_ext
    intro i hi
    unfold bodyF
    by_cases q1 : i = 0
    · rw [if_neg (by omega), if_pos q1, if_pos q1]
    by_cases q2 : i = 1
    · rw [if_neg (by omega), if_neg q1, if_pos q2, if_neg q1, if_pos q2]
    rw [if_neg q1, if_neg q2, if_neg q1, if_neg q2]
    by_cases q3 : i < 4
    · rw [if_neg (by omega), if_pos q3]
    rw [if_neg q3]
    by_cases q4 : i < 12
    · rw [if_pos (by omega), if_pos q4]
    · rw [if_neg (by omega), if_neg q4]
  rw [e1] at hs
  refine ⟨by decide, by decide, by decide, by decide, ?_⟩
  have e2 : ((tab 16 (bodyF kind slot n)).drop 0).take (tab 12 (bodyF kind slot n)).length = tab 12 (bodyF kind slot n) := rfl
  refine crcOf_sp (bs := tab 12 (bodyF kind slot n)) hs (fun h' hs' => Sat.part hs' .z 0 e2) (tab_bytes (bodyF_byte hk)) (by decide) ?_
  intro h2 hs
  have e3 : IntKind.u64.wrap (crcM (tab 12 (bodyF kind slot n))) = crcM (tab 12 (bodyF kind slot n)) := by
    obtain ⟨c1, c2⟩ := crcM_is (tab 12 (bodyF kind slot n))
    rw [wrap_u64']; omega
  rw [e3]
  refine put_sp (crcM (tab 12 (bodyF kind slot n))) hs .z (by decide) (by decide) ?_
  intro h3 hs
  rw [put_zero] at hs
  have e4 : (tab 16 fun k => if 12 ≤ k ∧ k < 12 + 4 then byteAt (crcM (tab 12 (bodyF kind slot n))) (k - 12) else bodyF kind slot n k) = tab 16 (bodyM kind slot n) := by
    apply tab_ext
    intro i hi
    unfold bodyM
    by_cases q1 : 12 ≤ i
    · rw [if_pos (by omega), if_pos q1]
    · rw [if_neg (by omega), if_neg q1]
  rw [e4] at hs
  intro n3 _ hn; replace hs := Sat.new hs hn; clear hn
  have e5 : ((tab 16 (bodyM kind slot n)).drop 0).take (tab 16 (bodyM kind slot n)).length = tab 16 (bodyM kind slot n) := rfl
  refine railPut_sp (bs := tab 16 (bodyM kind slot n)) hs (fun h' hs' => Sat.part hs' (.s .z) 0 e5) (by decide) ?_
  intro n4 h4 hs
  have e6 : (tab (2 * 16) fun k => if k < 16 then (tab 16 (bodyM kind slot n)).getD k 0 else compl8 ((tab 16 (bodyM kind slot n)).getD (k - 16) 0)) = laidM kind slot n := rfl
  rw [e6] at hs
  have hll : (laidM kind slot n).length = 32 := rfl
  refine ⟨ints .u8 (laidM kind slot n), ⟨by rw [ints_length, hll]; rfl, ints_one _ _, Or.inr ⟨_, rfl, hs.cs .z (by rw [ints_length, hll]; exact List.take_of_length_le (by rw [List.drop_zero, ints_length, hll]; decide))⟩⟩, Or.inr ⟨_, rfl, hs.can (.s .z) (by decide)⟩, ?_⟩
  intro h5 e
  replace hs := Sat.wra hs (.s .z) e (by rw [ints_length, ints_length, hll]; rfl)
  simp only [put] at hs
  refine ⟨_, hll, hs.row0 (.s .z), ?_⟩
  (refine ⟨Sat.can hs (by (repeat (first | exact At.z | apply At.s))) (by simp), ?_⟩; intro _ e; replace hs := Sat.wra hs (by (repeat (first | exact At.z | apply At.s))) e (by simp [*]); clear e; simp only [put] at hs)
  refine ⟨_, hll, hs.row0 (by (repeat (first | exact At.z | apply At.s))), ?_⟩
  exact k _ hs.drop.drop.drop.drop
end
end Go.Proofs.Ytamfkofcpoglnaa

/- Contracts of cells: Head, Value, Blank, Read. Own work. -/
set_option maxRecDepth 100000
set_option linter.unusedVariables false
namespace Go.Proofs.Ytamfkofcpoglnaa
open Go Go.Vc

section
variable {h0 h : H} {A : List Ent} {i j p r b : Nat} {C : Cm}
theorem Sat.whole (hs : Sat h0 A h) {vs : List Value} (m : At A i (blk b vs)) : hcs h ⟨b, 0, none⟩ vs := hs.cs m (by rw [List.drop_zero, List.take_length])
def most : Int := 4611686018427387904
def ffs : List Int := tab 32 fun _ => 255
theorem Blank_sp {Q : List Int → H → Prop} (hs : Sat h0 A h) (k : ∀ h', Sat h0 A h' → Q ffs h') : F_cell_Blank Q h := by
  unfold F_cell_Blank G_cell_Blank
  simp only [add_mk, Nat.zero_add, List.append_nil]
  intro n1 _ hn; replace hs := Sat.new hs hn; clear hn
  intro n2 _ hn; replace hs := Sat.new hs hn; clear hn
  rw [zeros_tab] at hs
  intro J hJ
  refine loop_up 32 (fun n h => Sat h0 (blk n2 (ints .u8 (tab 32 fun i => if i < n then 255 else 0)) :: blk n1 (ints .u8 (tab 32 fun _ => 0)) :: A) h) ?_ ?_ 0 _ (by omega) ?_
  · intro n h1 hn hs hk
    apply hJ
    rw [ltI_eq, if_pos (by simp; omega)]
    refine ⟨by omega, by omega, ?_⟩
    rw [Int.toNat_natCast, Nat.mul_one]
    refine ⟨hs.can .z (by simp; omega), ?_⟩
    intro h2 e
    replace hs := hs.wr .z e
    rw [put_zero, ints_tab_set] at hs
    rw [wrap_succ (by omega)]
    refine hk _ (Sat.tab_to hs fun i hi => ?_)
    by_cases e : i = n
    · rw [if_pos e, if_pos (by omega)]
    · rw [if_neg e]
      by_cases e2 : i < n
      · rw [if_pos e2, if_pos (by omega)]
      · rw [if_neg e2, if_neg (by omega)]
  · intro h1 hs
    apply hJ
    rw [ltI_eq, if_neg (by simp)]
    replace hs := Sat.tab_to (g := fun _ => 255) hs fun i hi => if_pos hi
    refine ⟨ffs, rfl, hs.row0 .z, ?_⟩
    have hll : ffs.length = 32 := rfl
    (refine ⟨Sat.can hs (by (repeat (first | exact At.z | apply At.s))) (by simp), ?_⟩; intro _ e; replace hs := Sat.wra hs (by (repeat (first | exact At.z | apply At.s))) e (by simp [*]); clear e; simp only [put] at hs)
    refine ⟨_, hll, hs.row0 (by (repeat (first | exact At.z | apply At.s))), ?_⟩
    exact k _ hs.drop.drop
  · exact Sat.tab_to hs fun i hi => (if_neg (by omega)).symm
/-- What a cell says: kind, slot, number. -/
def recM (x : List Int) : Int × Int × Int :=
  if x = ffs then (0, 0, 0)
  else if gotI ((x.drop 4).take 8) 8 < 1 then (3, 0, 0)
  else if most < gotI ((x.drop 4).take 8) 8 then (3, 0, 0)
  else if x.getD 0 0 = 1 ∧ x = laidM 1 0 (gotI ((x.drop 4).take 8) 8) then (1, 0, gotI ((x.drop 4).take 8) 8)
  else if x.getD 0 0 = 2 ∧ x.getD 1 0 ≤ 8 ∧ x = laidM 2 (x.getD 1 0) (gotI ((x.drop 4).take 8) 8) then (2, x.getD 1 0, gotI ((x.drop 4).take 8) 8)
  else (3, 0, 0)
theorem Read3_sp {Q : Int → Int → Int → H → Prop} (x : List Int) (hx : x.length = 32) (hb : bytesOk x) (hs : Sat h0 A h) (k : ∀ h', Sat h0 A h' → Q (recM x).1 (recM x).2.1 (recM x).2.2 h') : F_cell_Read x Q h := by
  unfold F_cell_Read G_cell_Read
  simp only [add_mk, Nat.zero_add, List.append_nil]
  intro n1 _ hn; replace hs := Sat.new hs hn; clear hn
  intro n2 _ hn; replace hs := Sat.new hs hn; clear hn
  refine ⟨by decide, by decide, by decide, ?_⟩
  rw [show subAddr (some ⟨n1, 0, none⟩) 4 32 1 = some ⟨n1, 4, none⟩ from rfl]
  have el : ((x.drop 4).take 8).length = 8 := by simp [hx]
  have e2 : (x.drop 4).take ((x.drop 4).take 8).length = (x.drop 4).take 8 := by rw [el]
  have hsub : bytesOk ((x.drop 4).take 8) := fun v hv => hb v (List.mem_of_mem_drop (List.mem_of_mem_take hv))
  refine got_sp (bs := (x.drop 4).take 8) hs (fun h' hs' => by
    have := Sat.part hs' (.s .z) 4 e2
    rw [el] at this; exact this) (by decide) ?_
  intro h1 hs
  unfold recM at k
  have eg := got_eq ((x.drop 4).take 8) hsub 8
  rw [eg]
  generalize gotI ((x.drop 4).take 8) 8 = g at k
  have x0 := hb (x.getD 0 0) (by rw [List.getD_eq_getElem?_getD, List.getElem?_eq_getElem (by omega)]; exact List.getElem_mem _)
  have x1 := hb (x.getD 1 0) (by rw [List.getD_eq_getElem?_getD, List.getElem?_eq_getElem (by omega)]; exact List.getElem_mem _)
  have g0 : (ints .u8 x)[0]? = some (.int .u8 (x.getD 0 0)) := by rw [ints_get, List.getElem?_eq_getElem (by omega)]; simp [List.getD, List.getElem?_eq_getElem (show 0 < x.length by omega)]
  have g1 : (ints .u8 x)[1]? = some (.int .u8 (x.getD 1 0)) := by rw [ints_get, List.getElem?_eq_getElem (by omega)]; simp [List.getD, List.getElem?_eq_getElem (show 1 < x.length by omega)]
  refine ⟨by decide, by decide, _, hs.ld (.s .z) g1, x, hx, hs.row0 (.s .z), ?_⟩
  have ew1 : IntKind.i64.wrap (x.getD 1 0) = x.getD 1 0 := by obtain ⟨q1, q2⟩ := x1; rw [wrap_id (by omega)]
  rw [ew1]
  refine Blank_sp hs ?_
  intro h2 hs
  refine ⟨Sat.whole hs (.s .z), ?_⟩
  by_cases c1 : x = ffs
  · rw [if_pos c1] at k
    rw [if_pos (by rw [c1]; simp)]
    (refine ⟨Sat.can hs (by (repeat (first | exact At.z | apply At.s))) (by simp), ?_⟩; intro _ e; replace hs := Sat.wra hs (by (repeat (first | exact At.z | apply At.s))) e (by simp [*]); clear e; simp only [put] at hs)
    refine ⟨_, Sat.ld hs (by (repeat (first | exact At.z | apply At.s))) (by rfl), ?_⟩
    refine ⟨_, Sat.ld hs (by (repeat (first | exact At.z | apply At.s))) (by rfl), ?_⟩
    refine ⟨_, Sat.ld hs (by (repeat (first | exact At.z | apply At.s))) (by rfl), ?_⟩
    exact k _ hs.drop.drop
  rw [if_neg c1] at k
  rw [if_neg (by simpa using c1)]
  intro J hJ
  have torn : ∀ (bb : Bool), (bb = true → g < 1 ∨ most < g) → (bb = false → ¬ g < 1 ∧ ¬ most < g) → J [.dv (.one (.bool bb))] h2 := by
    intro bb b1 b2
    apply hJ
    by_cases c2 : bb = true
    · rw [if_pos c2]
      (refine ⟨Sat.can hs (by (repeat (first | exact At.z | apply At.s))) (by simp), ?_⟩; intro _ e; replace hs := Sat.wra hs (by (repeat (first | exact At.z | apply At.s))) e (by simp [*]); clear e; simp only [put] at hs)
      refine ⟨_, Sat.ld hs (by (repeat (first | exact At.z | apply At.s))) (by rfl), ?_⟩
      refine ⟨_, Sat.ld hs (by (repeat (first | exact At.z | apply At.s))) (by rfl), ?_⟩
      refine ⟨_, Sat.ld hs (by (repeat (first | exact At.z | apply At.s))) (by rfl), ?_⟩
      rcases b1 c2 with b1 | b1
      · rw [if_pos b1] at k
        exact k _ hs.drop.drop
      · rw [if_neg (by unfold most at b1; omega), if_pos b1] at k
        exact k _ hs.drop.drop
    rw [if_neg c2]
    obtain ⟨b3, b4⟩ := b2 (by simpa using c2)
    rw [if_neg b3, if_neg b4] at k
    intro J2 hJ2
    have two : ∀ (cc : Bool), (cc = true ↔ x.getD 0 0 = 1 ∧ x = laidM 1 0 g) → ∀ h3, Sat h0 (blk n2 [.int .i64 0, .int .i64 0, .int .i64 0] :: blk n1 (ints .u8 x) :: A) h3 → J2 [.dv (.one (.bool cc))] h3 := by
      intro cc c3 h3 hs
      apply hJ2
      by_cases c4 : cc = true
      · rw [if_pos c4]
        rw [if_pos (c3.1 c4)] at k
        (refine ⟨Sat.can hs (by (repeat (first | exact At.z | apply At.s))) (by simp), ?_⟩; intro _ e; replace hs := Sat.wra hs (by (repeat (first | exact At.z | apply At.s))) e (by simp [*]); clear e; simp only [put] at hs)
        refine ⟨_, Sat.ld hs (by (repeat (first | exact At.z | apply At.s))) (by rfl), ?_⟩
        refine ⟨_, Sat.ld hs (by (repeat (first | exact At.z | apply At.s))) (by rfl), ?_⟩
        refine ⟨_, Sat.ld hs (by (repeat (first | exact At.z | apply At.s))) (by rfl), ?_⟩
        exact k _ hs.drop.drop
      rw [if_neg c4]
      rw [if_neg (fun y => c4 (c3.2 y))] at k
      refine ⟨by decide, by decide, _, hs.ld (.s .z) g0, ?_⟩
      by_cases c5 : x.getD 0 0 = 2
      case neg =>
        rw [if_neg (fun y => c5 y.1)] at k
        rw [if_neg (by rw [beq_iff_eq]; exact c5)]
        (refine ⟨Sat.can hs (by (repeat (first | exact At.z | apply At.s))) (by simp), ?_⟩; intro _ e; replace hs := Sat.wra hs (by (repeat (first | exact At.z | apply At.s))) e (by simp [*]); clear e; simp only [put] at hs)
        refine ⟨_, Sat.ld hs (by (repeat (first | exact At.z | apply At.s))) (by rfl), ?_⟩
        refine ⟨_, Sat.ld hs (by (repeat (first | exact At.z | apply At.s))) (by rfl), ?_⟩
        refine ⟨_, Sat.ld hs (by (repeat (first | exact At.z | apply At.s))) (by rfl), ?_⟩
        exact k _ hs.drop.drop
      rw [if_pos (by rw [beq_iff_eq]; exact c5)]
      by_cases c6 : x.getD 1 0 ≤ 8
      case neg =>
        rw [if_neg (fun y => c6 y.2.1)] at k
        rw [leI_eq, if_neg (by rw [decide_eq_true_eq]; exact c6)]
        (refine ⟨Sat.can hs (by (repeat (first | exact At.z | apply At.s))) (by simp), ?_⟩; intro _ e; replace hs := Sat.wra hs (by (repeat (first | exact At.z | apply At.s))) e (by simp [*]); clear e; simp only [put] at hs)
        refine ⟨_, Sat.ld hs (by (repeat (first | exact At.z | apply At.s))) (by rfl), ?_⟩
        refine ⟨_, Sat.ld hs (by (repeat (first | exact At.z | apply At.s))) (by rfl), ?_⟩
        refine ⟨_, Sat.ld hs (by (repeat (first | exact At.z | apply At.s))) (by rfl), ?_⟩
        exact k _ hs.drop.drop
      rw [leI_eq, if_pos (by rw [decide_eq_true_eq]; exact c6)]
      refine ⟨x, hx, hs.row0 (.s .z), ?_⟩
      refine laid_sp 2 (x.getD 1 0) g ⟨by decide, by decide⟩ hs ?_
      intro h4 hs
      refine ⟨Sat.whole hs (.s .z), ?_⟩
      by_cases c7 : x = laidM 2 (x.getD 1 0) g
      · rw [if_pos ⟨c5, c6, c7⟩] at k
        rw [if_pos (by rw [beq_iff_eq]; exact c7)]
        clear c7
        (refine ⟨Sat.can hs (by (repeat (first | exact At.z | apply At.s))) (by simp), ?_⟩; intro _ e; replace hs := Sat.wra hs (by (repeat (first | exact At.z | apply At.s))) e (by simp [*]); clear e; simp only [put] at hs)
        refine ⟨_, Sat.ld hs (by (repeat (first | exact At.z | apply At.s))) (by rfl), ?_⟩
        refine ⟨_, Sat.ld hs (by (repeat (first | exact At.z | apply At.s))) (by rfl), ?_⟩
        refine ⟨_, Sat.ld hs (by (repeat (first | exact At.z | apply At.s))) (by rfl), ?_⟩
        exact k _ hs.drop.drop
      · rw [if_neg (fun y => c7 y.2.2)] at k
        rw [if_neg (by rw [beq_iff_eq]; exact c7)]
        (refine ⟨Sat.can hs (by (repeat (first | exact At.z | apply At.s))) (by simp), ?_⟩; intro _ e; replace hs := Sat.wra hs (by (repeat (first | exact At.z | apply At.s))) e (by simp [*]); clear e; simp only [put] at hs)
        refine ⟨_, Sat.ld hs (by (repeat (first | exact At.z | apply At.s))) (by rfl), ?_⟩
        refine ⟨_, Sat.ld hs (by (repeat (first | exact At.z | apply At.s))) (by rfl), ?_⟩
        refine ⟨_, Sat.ld hs (by (repeat (first | exact At.z | apply At.s))) (by rfl), ?_⟩
        exact k _ hs.drop.drop
    refine ⟨by decide, by decide, _, hs.ld (.s .z) g0, ?_⟩
    by_cases c5 : x.getD 0 0 = 1
    · rw [if_pos (by rw [beq_iff_eq]; exact c5)]
      refine ⟨x, hx, hs.row0 (.s .z), ?_⟩
      refine laid_sp 1 0 g ⟨by decide, by decide⟩ hs ?_
      intro h4 hs
      refine ⟨Sat.whole hs (.s .z), ?_⟩
      refine two _ ?_ _ hs
      rw [beq_iff_eq]
      exact ⟨fun y => ⟨c5, y⟩, fun y => y.2⟩
    · rw [if_neg (by rw [beq_iff_eq]; exact c5)]
      exact two _ ⟨fun y => by simp at y, fun y => absurd y.1 c5⟩ _ hs
  by_cases c2 : g < 1
  · rw [ltI_eq, if_pos (by simpa using c2)]
    exact torn true (fun _ => Or.inl c2) (fun y => by simp at y)
  · rw [ltI_eq, if_neg (by simpa using c2)]
    intro _ e; subst e
    rw [ltI_eq]
    refine torn _ (fun y => Or.inr (by simpa [most] using y)) (fun y => ⟨c2, by simpa [most] using y⟩)
end
end Go.Proofs.Ytamfkofcpoglnaa

/- Contracts of the document's cells. Own work. -/
set_option maxRecDepth 100000
set_option linter.unusedVariables false
namespace Go.Proofs.Ytamfkofcpoglnaa
open Go Go.Vc

section
variable {h0 h : H} {A : List Ent} {i j p r b : Nat} {C : Cm}
end
end Go.Proofs.Ytamfkofcpoglnaa
end

/- Contracts of pages: what a page tells, in the program and in the document. Own work. -/
section
set_option maxRecDepth 100000
set_option linter.unusedVariables false
namespace Go.Proofs.Ytamfkofcpoglnaa
open Go Go.Vc

/-- What a page tells. -/
structure Inf where
  head : Int
  nums : List Int
  next : Int
  blank : Bool
  torn : Int
abbrev infV (a : Int) (l : List Int) (n : Int) (b : Bool) (t : Int) : List Value := .int .i64 a :: (ints .i64 l ++ [.int .i64 n, .bool b, .int .i64 t])
abbrev infI (I : Inf) : List Value := infV I.head I.nums I.next I.blank I.torn
def inf0 : Inf := ⟨0, zeros 9, 0, false, 0⟩
theorem inf_10 {a n t : Int} {l : List Int} {b : Bool} (h : l.length = 9) : (infV a l n b t)[10]? = some (.int .i64 n) := by
  have : (ints .i64 l).length = 9 := by simpa using h
  simp [infV, this]
theorem inf_11 {a n t : Int} {l : List Int} {b : Bool} (h : l.length = 9) : (infV a l n b t)[11]? = some (.bool b) := by
  have : (ints .i64 l).length = 9 := by simpa using h
  simp [infV, this]
theorem inf_12 {a n t : Int} {l : List Int} {b : Bool} (h : l.length = 9) : (infV a l n b t)[12]? = some (.int .i64 t) := by
  have : (ints .i64 l).length = 9 := by simpa using h
  simp [infV, this]
theorem inf_num {a n t : Int} {l : List Int} {b : Bool} (h : l.length = 9) {i : Nat} (hi : i < 9) : (infV a l n b t)[1 + i]? = some (.int .i64 (l.getD i 0)) := by
  have : (ints .i64 l).length = 9 := by simpa using h
  rw [infV, Nat.add_comm, List.getElem?_cons_succ, List.getElem?_append_left (by omega), ints_get, List.getElem?_eq_getElem (by omega)]
  simp [List.getD, List.getElem?_eq_getElem (show i < l.length by omega)]
theorem inf_row {a n t : Int} {l : List Int} {b : Bool} (h : l.length = 9) : ∀ i, i < l.length → (infV a l n b t)[1 + i]? = l[i]?.map (Value.int .i64) := by
  intro i hi
  rw [inf_num h (by omega), List.getElem?_eq_getElem hi]
  simp [List.getD, List.getElem?_eq_getElem hi]
theorem inf_len {a n t : Int} {l : List Int} {b : Bool} (h : l.length = 9) : (infV a l n b t).length = 13 := by simp [infV, h]
theorem inf_s0 {a n t v : Int} {l : List Int} {b : Bool} : splice (infV a l n b t) 0 [.int .i64 v] = infV v l n b t := rfl
theorem set_app (l : List Value) (x y : List Value) (i : Nat) (v : Value) : (l ++ x).set (l.length + i) v = l ++ x.set i v := by
  rw [List.set_append_right _ _ (by omega), Nat.add_sub_cancel_left]
theorem inf_s10 {a n t v : Int} {l : List Int} {b : Bool} (h : l.length = 9) : splice (infV a l n b t) 10 [.int .i64 v] = infV a l v b t := by
  have h9 : (ints .i64 l).length = 9 := by simpa using h
  show (infV a l n b t).set 10 (.int .i64 v) = _
  unfold infV
  rw [List.set_cons_succ, show 9 = (ints .i64 l).length + 0 by omega, set_app _ _ []]
  rfl
theorem inf_s11 {a n t : Int} {l : List Int} {b v : Bool} (h : l.length = 9) : splice (infV a l n b t) 11 [.bool v] = infV a l n v t := by
  have h9 : (ints .i64 l).length = 9 := by simpa using h
  show (infV a l n b t).set 11 (.bool v) = _
  unfold infV
  rw [List.set_cons_succ, show 10 = (ints .i64 l).length + 1 by omega, set_app _ _ []]
  rfl
theorem inf_s12 {a n t v : Int} {l : List Int} {b : Bool} (h : l.length = 9) : splice (infV a l n b t) 12 [.int .i64 v] = infV a l n b v := by
  have h9 : (ints .i64 l).length = 9 := by simpa using h
  show (infV a l n b t).set 12 (.int .i64 v) = _
  unfold infV
  rw [List.set_cons_succ, show 11 = (ints .i64 l).length + 2 by omega, set_app _ _ []]
  rfl
theorem inf_sn {a n t v : Int} {l : List Int} {b : Bool} (h : l.length = 9) {i : Nat} (hi : i < 9) : splice (infV a l n b t) (1 + i) [.int .i64 v] = infV a (l.set i v) n b t := by
  have h9 : (ints .i64 l).length = 9 := by simpa using h
  show (infV a l n b t).set (1 + i) (.int .i64 v) = _
  unfold infV
  rw [Nat.add_comm, List.set_cons_succ, List.set_append_left _ _ (by omega), ints_set]
def nextM (I : Inf) (n kind : Int) : Inf := if kind ≠ 0 then { I with next := IntKind.i64.wrap (n + 1) } else I
def layN (I : Inf) (n kind slot num : Int) : Inf :=
  if kind = 3 then { I with torn := IntKind.i64.wrap (I.torn + 1) }
  else if kind = 1 ∧ n = 0 then { I with head := num }
  else if kind = 2 ∧ 0 < n then { I with nums := I.nums.set slot.toNat (if num > I.nums.getD slot.toNat 0 then num else I.nums.getD slot.toNat 0) }
  else I
def layM (I : Inf) (n kind slot num : Int) : Inf := layN (nextM I n kind) n kind slot num
theorem nextM_nums (I : Inf) (n kind : Int) : (nextM I n kind).nums = I.nums := by unfold nextM; split <;> rfl
theorem layN_len (I : Inf) (n kind slot num : Int) : (layN I n kind slot num).nums.length = I.nums.length := by
  unfold layN
  split
  · rfl
  · split
    · rfl
    · split
      · simp
      · rfl
theorem layM_len (I : Inf) (n kind slot num : Int) : (layM I n kind slot num).nums.length = I.nums.length := by
  unfold layM; rw [layN_len, nextM_nums]
section
variable {h0 h : H} {A : List Ent} {i j p r b : Nat} {C : Cm}
theorem lay_sp {Q : H → Prop} (I : Inf) (hl : I.nums.length = 9) (hs : Sat h0 A h) (m : At A i (blk b (infI I))) (n kind slot num : Int) (hslot : kind = 2 → 0 ≤ slot ∧ slot ≤ 8)
    (k : ∀ h', Sat h0 (put A i (blk b (infI (layM I n kind slot num)))) h' → Q h') : F_page_Info_lay ⟨b, 0, none⟩ n kind slot num Q h := by
  unfold F_page_Info_lay G_page_Info_lay
  simp only [add_mk, Nat.zero_add, List.append_nil]
  intro n1 _ hn; replace hs := Sat.new hs hn; clear hn
  intro J hJ
  unfold layM at k
  -- behind the first if
  have main : ∀ (I : Inf), I.nums.length = 9 → (∀ h', Sat h0 (put A i (blk b (infI (layN I n kind slot num)))) h' → Q h') → ∀ h2, Sat h0 (blk n1 [.int .i64 kind, .int .i64 slot, .int .i64 num] :: put A i (blk b (infI I))) h2 → J [] h2 := by
    intro I hl k h2 hs
    unfold layN at k
    have m2 := (m.put (blk b (infI I))).s (x := blk n1 [.int .i64 kind, .int .i64 slot, .int .i64 num])
    apply hJ
    refine ⟨_, Sat.ld hs (by (repeat (first | exact At.z | apply At.s))) (by rfl), ?_⟩
    by_cases c1 : kind = 3
    · rw [if_pos c1] at k
      rw [if_pos (by simpa using c1)]
      refine ⟨_, hs.ld m2 (inf_12 hl), hs.can m2 (by rw [inf_len hl]; decide), ?_⟩
      intro h3 e
      replace hs := hs.wr m2 e
      rw [inf_s12 hl] at hs
      refine k _ ?_
      have := hs
      simp only [put_succ, put_put] at this
      exact this.drop
    rw [if_neg c1] at k
    rw [if_neg (by simpa using c1)]
    intro J2 hJ2
    have two : ∀ bb : Bool, (bb = true ↔ kind = 1 ∧ n = 0) → J2 [.dv (.one (.bool bb))] h2 := by
      intro bb c2
      apply hJ2
      by_cases c3 : bb = true
      · rw [if_pos c3]
        rw [if_pos (c2.1 c3)] at k
        refine ⟨_, Sat.ld hs (by (repeat (first | exact At.z | apply At.s))) (by rfl), ?_⟩
        refine ⟨hs.can m2 (by rw [inf_len hl]; decide), ?_⟩
        intro h3 e
        replace hs := hs.wr m2 e
        rw [inf_s0] at hs
        refine k _ ?_
        have := hs
        simp only [put_succ, put_put] at this
        exact this.drop
      rw [if_neg c3]
      rw [if_neg (fun y => c3 (c2.2 y))] at k
      refine ⟨_, Sat.ld hs (by (repeat (first | exact At.z | apply At.s))) (by rfl), ?_⟩
      by_cases c4 : kind = 2
      case neg =>
        rw [if_neg (fun y => c4 y.1)] at k
        rw [if_neg (by rw [beq_iff_eq]; exact c4)]
        exact k _ hs.drop
      rw [if_pos (by rw [beq_iff_eq]; exact c4)]
      by_cases c5 : 0 < n
      case neg =>
        rw [if_neg (fun y => c5 y.2)] at k
        rw [ltI_eq, if_neg (by simpa using c5)]
        exact k _ hs.drop
      rw [if_pos ⟨c4, c5⟩] at k
      rw [ltI_eq, if_pos (by simpa using c5)]
      obtain ⟨s1, s2⟩ := hslot c4
      refine ⟨_, Sat.ld hs (by (repeat (first | exact At.z | apply At.s))) (by rfl), ?_⟩
      refine ⟨_, Sat.ld hs (by (repeat (first | exact At.z | apply At.s))) (by rfl), ?_⟩
      refine ⟨by omega, by omega, _, by rw [Nat.mul_one]; exact hs.ld m2 (inf_num hl (by omega)), ?_⟩
      refine ⟨_, Sat.ld hs (by (repeat (first | exact At.z | apply At.s))) (by rfl), ?_⟩
      refine ⟨by omega, by omega, by rw [Nat.mul_one]; exact hs.can m2 (by rw [inf_len hl]; omega), ?_⟩
      intro h3 e
      rw [Nat.mul_one] at e
      replace hs := hs.wr m2 e
      rw [inf_sn hl (by omega)] at hs
      refine k _ ?_
      have := hs
      simp only [put_succ, put_put] at this
      exact this.drop
    refine ⟨_, Sat.ld hs (by (repeat (first | exact At.z | apply At.s))) (by rfl), ?_⟩
    by_cases c2 : kind = 1
    · rw [if_pos (by rw [beq_iff_eq]; exact c2)]
      exact two _ (by rw [beq_iff_eq]; exact ⟨fun y => ⟨c2, y⟩, fun y => y.2⟩)
    · rw [if_neg (by rw [beq_iff_eq]; exact c2)]
      exact two _ ⟨fun y => by simp at y, fun y => absurd y.1 c2⟩
  refine ⟨_, Sat.ld hs (by (repeat (first | exact At.z | apply At.s))) (by rfl), ?_⟩
  by_cases c0 : kind = 0
  · rw [if_neg (by simpa using c0)]
    have e : nextM I n kind = I := if_neg (by simpa using c0)
    rw [e] at k
    exact main I hl k _ (by rw [m.put_self]; exact hs)
  · rw [if_pos (by simpa using c0)]
    have e : nextM I n kind = { I with next := IntKind.i64.wrap (n + 1) } := if_pos (by simpa using c0)
    rw [e] at k
    refine ⟨hs.can m.s (by rw [inf_len hl]; decide), ?_⟩
    intro h3 e
    replace hs := hs.wr m.s e
    rw [inf_s10 hl, put_succ] at hs
    exact main { I with next := IntKind.i64.wrap (n + 1) } hl k _ hs
/-- What the first cells of a page tell. -/
def ofM (row : List Int) : Nat → Inf
  | 0 => inf0
  | n + 1 => layM (ofM row n) n (recM (cellAt row n)).1 (recM (cellAt row n)).2.1 (recM (cellAt row n)).2.2
theorem ofM_len (row : List Int) (n : Nat) : (ofM row n).nums.length = 9 := by
  induction n with
  | zero => rfl
  | succ n ih => unfold ofM; rw [layM_len, ih]
theorem layN_next (I : Inf) (n kind slot num : Int) : (layN I n kind slot num).next = I.next := by
  unfold layN; (repeat' split) <;> rfl
theorem ofM_blank (row : List Int) (n : Nat) (hn : n < 2 ^ 60) : ((ofM row n).next = 0 → ofM row n = inf0) ∧ (ofM row n).blank = false := by
  induction n with
  | zero => exact ⟨fun _ => rfl, rfl⟩
  | succ n ih =>
    obtain ⟨i1, i2⟩ := ih (by omega)
    unfold ofM layM
    generalize (recM (cellAt row n)).1 = kind
    generalize (recM (cellAt row n)).2.1 = slot
    generalize (recM (cellAt row n)).2.2 = num
    by_cases c : kind = 0
    · have e : nextM (ofM row n) n kind = ofM row n := if_neg (by simpa using c)
      rw [e, layN_next]
      have e2 : layN (ofM row n) n kind slot num = ofM row n := by
        unfold layN; rw [if_neg (by omega), if_neg (by omega), if_neg (by omega)]
      rw [e2]
      exact ⟨i1, i2⟩
    · have e : nextM (ofM row n) n kind = { ofM row n with next := IntKind.i64.wrap (n + 1) } := if_pos (by simpa using c)
      rw [e, layN_next]
      refine ⟨fun x => ?_, ?_⟩
      · dsimp only at x
        rw [wrap_id (by omega)] at x; omega
      · unfold layN; (repeat' split) <;> exact i2
theorem recM_slot (x : List Int) (hb : bytesOk x) (h : (recM x).1 = 2) : 0 ≤ (recM x).2.1 ∧ (recM x).2.1 ≤ 8 := by
  unfold recM at *
  split
  · rename_i c; rw [if_pos c] at h; simp at h
  · rename_i c; rw [if_neg c] at h
    split
    · rename_i c; rw [if_pos c] at h; simp at h
    · rename_i c; rw [if_neg c] at h
      split
      · rename_i c; rw [if_pos c] at h; simp at h
      · rename_i c; rw [if_neg c] at h
        split
        · rename_i c; rw [if_pos c] at h; simp at h
        · rename_i c; rw [if_neg c] at h
          split
          · rename_i c
            refine ⟨?_, c.2.1⟩
            show 0 ≤ x.getD 1 0
            rw [List.getD_eq_getElem?_getD]
            cases e : x[1]? with
            | none => exact Int.le_refl _
            | some v => exact (hb v (List.mem_iff_getElem?.2 ⟨1, e⟩)).1
          · rename_i c; rw [if_neg c] at h; simp at h
/-- The whole page. -/
def pageI (row : List Int) (n : Nat) : Inf := { ofM row n with blank := decide ((ofM row n).next = 0) }
def lookM (C : Cm) (page : Int) : Inf × Int :=
  if askedM C page C.s.pages.length ≠ 0 then (inf0, askedM C page C.s.pages.length) else (pageI (C.s.pages.getD page.toNat []) C.cfg.cells.toNat, 0)
theorem Look_sp {Q : Int → List Int → Int → Bool → Int → Int → H → Prop} (hs : Sat h0 A h) (ci : At A i (chipE p C)) (page : Int)
    (k : ∀ h', Sat h0 A h' → Q (lookM C page).1.head (lookM C page).1.nums (lookM C page).1.next (lookM C page).1.blank (lookM C page).1.torn (lookM C page).2 h') : F_page_Look ⟨p, 0, none⟩ page Q h := by
  unfold F_page_Look G_page_Look
  simp only [add_mk, Nat.zero_add, List.append_nil]
  have ok := chip_ok hs ci
  intro n1 _ hn; replace hs := Sat.new hs hn; clear hn
  intro n2 _ hn; replace hs := Sat.new hs hn; clear hn
  have z9 : (zeros 9).length = 9 := rfl
  refine Erases_sp hs ci.s.s page ?_
  unfold lookM at k
  by_cases e : askedM C page C.s.pages.length = 0
  case neg =>
    have ee : erasesM C page = (0, askedM C page C.s.pages.length) := by unfold erasesM; rw [if_pos (by simpa using e)]
    rw [ee, if_pos (by simpa using e)]
    rw [if_pos (by simpa using e)] at k
    refine ⟨_, Sat.ld hs (by (repeat (first | exact At.z | apply At.s))) rfl, _, z9, Sat.row hs (by (repeat (first | exact At.z | apply At.s))) (inf_row z9), _, Sat.ld hs (by (repeat (first | exact At.z | apply At.s))) (inf_10 z9), _, Sat.ld hs (by (repeat (first | exact At.z | apply At.s))) (inf_11 z9), _, Sat.ld hs (by (repeat (first | exact At.z | apply At.s))) (inf_12 z9), ?_⟩
    (refine ⟨Sat.can hs (by (repeat (first | exact At.z | apply At.s))) (by decide), ?_⟩; intro _ e; replace hs := Sat.wra hs (by (repeat (first | exact At.z | apply At.s))) e ((inf_len z9).trans rfl); clear e; simp only [put] at hs)
    refine ⟨_, Sat.ld hs (by (repeat (first | exact At.z | apply At.s))) rfl, _, z9, Sat.row hs (by (repeat (first | exact At.z | apply At.s))) (inf_row z9), _, Sat.ld hs (by (repeat (first | exact At.z | apply At.s))) (inf_10 z9), _, Sat.ld hs (by (repeat (first | exact At.z | apply At.s))) (inf_11 z9), _, Sat.ld hs (by (repeat (first | exact At.z | apply At.s))) (inf_12 z9), ?_⟩
    exact k _ hs.drop.drop
  have ee : erasesM C page = (C.s.erases.getD page.toNat 0, 0) := by unfold erasesM; rw [if_neg (by simpa using e)]
  rw [ee, if_neg (by simp)]
  rw [if_neg (by simpa using e)] at k
  obtain ⟨ho, p1, p2⟩ := askedM_zero e
  refine Config_sp hs ci.s.s ?_
  intro h1 hs
  have hcells := ok.may.cells
  have hj : page.toNat < C.s.pages.length := by omega
  have erow : C.s.pages.getD page.toNat [] = C.s.pages[page.toNat] := by simp [List.getD, List.getElem?_eq_getElem hj]
  have hrl := ok.fits.cells _ (List.getElem_mem hj)
  have hrb := ok.typed.bytes _ (List.getElem_mem hj)
  rw [erow] at k
  generalize hrow : C.s.pages[page.toNat] = row at *
  have eread : ∀ n : Nat, n < C.cfg.cells.toNat → readM C page n = (cellAt row n, 0) := by
    intro n hn
    have ec : asksCellM C page n = 0 := by
      unfold asksCellM
      rw [askedM_in ho p1 p2, if_neg (by simp), askedM_in ho (by omega) (by omega)]
    unfold readM
    rw [ec, if_neg (by simp), erow, Int.toNat_natCast]
  intro J hJ
  refine loop_up C.cfg.cells.toNat (fun n h => Sat h0 (blk n2 (infI (ofM row n)) :: blk n1 (infI inf0) :: A) h) ?_ ?_ 0 _ (by omega) hs
  · intro n h2 hn hs hk
    apply hJ
    rw [ltI_eq, if_pos (by simp; omega)]
    refine Read_sp hs ci.s.s page n ?_
    intro h3 hs
    rw [eread n hn]
    have hcl : (cellAt row n).length = 32 := cellAt_length (by omega)
    have hcb : bytesOk (cellAt row n) := fun v hv => hrb v (cellAt_mem hv)
    have hnl := ofM_len row n
    have hslot := recM_slot (cellAt row n) hcb
    intro n3 _ hn3; replace hs := Sat.new hs hn3; clear hn3
    refine ⟨Sat.can hs (by (repeat (first | exact At.z | apply At.s))) (by simp [hcl]), ?_⟩
    intro _ e; replace hs := Sat.wra hs (by (repeat (first | exact At.z | apply At.s))) e (by rw [ints_length, ints_length, hcl]; rfl); clear e; simp only [put] at hs
    rw [if_neg (by simp)]
    refine ⟨_, hcl, hs.row0 .z, ?_⟩
    refine Read3_sp _ hcl hcb hs ?_
    intro h4 hs
    refine lay_sp (i := 1) (ofM row n) hnl hs (.s .z) n _ _ _ hslot ?_
    intro h5 hs
    rw [wrap_succ (by omega)]
    exact hk _ hs.drop
  · intro h2 hs
    apply hJ
    rw [ltI_eq, if_neg (by simp; omega)]
    have hnl := ofM_len row C.cfg.cells.toNat
    have hbl := ofM_blank row C.cfg.cells.toNat (by omega)
    generalize hO : ofM row C.cfg.cells.toNat = O at *
    refine ⟨_, Sat.ld hs (by (repeat (first | exact At.z | apply At.s))) rfl, _, hnl, Sat.row hs (by (repeat (first | exact At.z | apply At.s))) (inf_row hnl), _, Sat.ld hs (by (repeat (first | exact At.z | apply At.s))) (inf_10 hnl), _, Sat.ld hs (by (repeat (first | exact At.z | apply At.s))) (inf_11 hnl), _, Sat.ld hs (by (repeat (first | exact At.z | apply At.s))) (inf_12 hnl), ?_⟩
    have ebl : (O.head == 0 && (O.nums == zeros 9 && (O.next == 0 && (O.blank == false && (O.torn == 0 && true))))) = decide (O.next = 0) := by
      by_cases c : O.next = 0
      · rw [hbl.1 c]; decide
      · rw [decide_eq_false c]
        have : (O.next == 0) = false := by simpa using c
        rw [this]; simp
    rw [ebl]
    refine ⟨hs.can .z (by rw [inf_len hnl]; decide), ?_⟩
    intro h3 e
    replace hs := hs.wr .z e
    rw [inf_s11 hnl, put_zero] at hs
    refine ⟨_, Sat.ld hs (by (repeat (first | exact At.z | apply At.s))) rfl, _, hnl, Sat.row hs (by (repeat (first | exact At.z | apply At.s))) (inf_row hnl), _, Sat.ld hs (by (repeat (first | exact At.z | apply At.s))) (inf_10 hnl), _, Sat.ld hs (by (repeat (first | exact At.z | apply At.s))) (inf_11 hnl), _, Sat.ld hs (by (repeat (first | exact At.z | apply At.s))) (inf_12 hnl), ?_⟩
    (refine ⟨Sat.can hs (by (repeat (first | exact At.z | apply At.s))) (by decide), ?_⟩; intro _ e; replace hs := Sat.wra hs (by (repeat (first | exact At.z | apply At.s))) e ((inf_len hnl).trans rfl); clear e; simp only [put] at hs)
    refine ⟨_, Sat.ld hs (by (repeat (first | exact At.z | apply At.s))) rfl, _, hnl, Sat.row hs (by (repeat (first | exact At.z | apply At.s))) (inf_row hnl), _, Sat.ld hs (by (repeat (first | exact At.z | apply At.s))) (inf_10 hnl), _, Sat.ld hs (by (repeat (first | exact At.z | apply At.s))) (inf_11 hnl), _, Sat.ld hs (by (repeat (first | exact At.z | apply At.s))) (inf_12 hnl), ?_⟩
    unfold pageI at k
    rw [hO] at k
    exact k _ hs.drop.drop
end
end Go.Proofs.Ytamfkofcpoglnaa

/- Contracts of the document's pages; PageLooks. Own work. -/
set_option maxRecDepth 100000
set_option linter.unusedVariables false
namespace Go.Proofs.Ytamfkofcpoglnaa
open Go Go.Vc

section
variable {h0 h : H} {A : List Ent} {i j p r b : Nat} {C : Cm}
end
end Go.Proofs.Ytamfkofcpoglnaa
end

/- Contracts of the pages' statements: PageLooks. Own work. -/
section
set_option maxRecDepth 100000
set_option linter.unusedVariables false
namespace Go.Proofs.Ytamfkofcpoglnaa
open Go Go.Vc

section
variable {h0 h : H} {A : List Ent} {i j p r b : Nat} {C : Cm}
theorem lookM_len (C : Cm) (page : Int) : (lookM C page).1.nums.length = 9 := by
  unfold lookM
  split
  · rfl
  · exact ofM_len _ _
end
end Go.Proofs.Ytamfkofcpoglnaa
end

/- PageHalf: what a cut act leaves of a sound page; laws about numbers alone. Own work. -/
section
set_option maxRecDepth 100000
set_option linter.unusedVariables false
namespace Go.Proofs.Ytamfkofcpoglnaa
open Go Go.Vc

theorem tab_getD {n : Nat} (f : Nat → Int) {k : Nat} (h : k < n) : (tab n f).getD k 0 = f k := by rw [List.getD_eq_getElem?_getD, tab_get, if_pos h]; rfl
def soundM (row : List Int) (l : Nat) : Prop := ∀ i, i < l → ∀ k, k < 16 → bits .or .u8 (row.getD (i * 32 + k) 0) (row.getD (i * 32 + (16 + k)) 0) = 255
instance (row : List Int) (l : Nat) : Decidable (soundM row l) := by unfold soundM; infer_instance
end Go.Proofs.Ytamfkofcpoglnaa
end

/- PageHalf: rows after a cut act; soundness of rows. Own work. -/
section
set_option maxRecDepth 100000
set_option linter.unusedVariables false
namespace Go.Proofs.Ytamfkofcpoglnaa
open Go Go.Vc

theorem ext_getD {x y : List Int} (h : x.length = y.length) (e : ∀ i, i < x.length → x.getD i 0 = y.getD i 0) : x = y := by
  apply List.ext_getElem h
  intro i h1 h2
  have := e i h1
  rw [List.getD_eq_getElem?_getD, List.getD_eq_getElem?_getD, List.getElem?_eq_getElem h1, List.getElem?_eq_getElem h2] at this
  exact this
theorem cellAt_getD (row : List Int) (k i : Nat) (hi : i < 32) : (cellAt row k).getD i 0 = row.getD (k * 32 + i) 0 := by
  rw [List.getD_eq_getElem?_getD, cellAt_get row k i hi, List.getD_eq_getElem?_getD]
theorem mapTo_getD (g : Nat → Int → Int) (n : Nat) (ns : List Int) (j : Nat) (hj : j < ns.length) (hn : j < n) : (mapTo g n ns).getD j 0 = g j (ns.getD j 0) := by
  rw [List.getD_eq_getElem?_getD, mapTo_get, List.getElem?_eq_getElem hj]
  simp [hn, List.getD, List.getElem?_eq_getElem hj]
section
variable {h0 h : H} {A : List Ent} {i j p r b : Nat} {C : Cm}
end
end Go.Proofs.Ytamfkofcpoglnaa
end

/- Contracts of areas: sizes, places, what is used, Worn. Own work. -/
section
set_option maxRecDepth 100000
set_option linter.unusedVariables false
namespace Go.Proofs.Ytamfkofcpoglnaa
open Go Go.Vc

section
variable {h0 h : H} {A : List Ent} {i j p r b : Nat} {C : Cm}
/-- Is there a cell that is not blank? -/
def usedP (C : Cm) (page : Int) (l : Nat) : Prop := ∃ n, n < l ∧ (readM C page n).2 = 0 ∧ (readM C page n).1 ≠ ffs
instance (C : Cm) (page : Int) (l : Nat) : Decidable (usedP C page l) := by unfold usedP; infer_instance
def usedM (C : Cm) (page : Int) : Bool := decide (usedP C page C.cfg.cells.toNat)
/-- Is a used page of the area worn out? -/
def wornP (C : Cm) (ar : Int) (l : Nat) : Prop := ∃ n : Nat, n < l ∧ (erasesM C (2 + ar * C.cfg.area + n)).2 = 0 ∧ C.cfg.erases ≤ (erasesM C (2 + ar * C.cfg.area + n)).1 ∧ usedM C (2 + ar * C.cfg.area + n) = true
instance (C : Cm) (ar : Int) (l : Nat) : Decidable (wornP C ar l) := by unfold wornP; infer_instance
end
end Go.Proofs.Ytamfkofcpoglnaa
end

/- Contracts of the document's areas: blank, Worn; what is filled. Own work. -/
section
set_option maxRecDepth 100000
set_option linter.unusedVariables false
namespace Go.Proofs.Ytamfkofcpoglnaa
open Go Go.Vc

def blankP (row : List Int) (l : Nat) : Prop := ∀ n, n < l → cellAt row n = ffs
instance (row : List Int) (l : Nat) : Decidable (blankP row l) := by unfold blankP; infer_instance
section
variable {h0 h : H} {A : List Ent} {i j p r b : Nat} {C : Cm}
end
end Go.Proofs.Ytamfkofcpoglnaa
end

/- Contracts of areas: Write. Own work. -/
section
set_option maxRecDepth 100000
set_option linter.unusedVariables false
namespace Go.Proofs.Ytamfkofcpoglnaa
open Go Go.Vc

section
variable {h0 h : H} {A : List Ent} {i j p r b : Nat} {C : Cm}
theorem add_add (q : Addr) (a b : Nat) : (q.add a).add b = q.add (a + b) := by
  cases q with | mk b' o s => unfold Addr.add; by_cases h1 : a = 0 <;> by_cases h2 : b = 0 <;> simp [h1, h2, Nat.add_assoc]
def eraseL (base : Int) : Nat → Nat → Cm → Cm × Int
  | 0, _, C => (C, 0)
  | m + 1, j, C => if usedM C (base + j) = true then (if (eraseM C (base + j)).2 ≠ 0 then eraseM C (base + j) else eraseL base m (j + 1) (eraseM C (base + j)).1) else eraseL base m (j + 1) C
end
end Go.Proofs.Ytamfkofcpoglnaa
end

/- AreaWrites: what the erases of a Write leave; laws about numbers alone. Own work. -/
section
set_option maxRecDepth 100000
set_option linter.unusedVariables false
namespace Go.Proofs.Ytamfkofcpoglnaa
open Go Go.Vc

def Cm.er (C : Cm) (x : Nat) : Int := C.s.erases.getD x 0
def Cm.pg (C : Cm) (x : Nat) : List Int := C.s.pages.getD x []
def dif (C D : Cm) : Nat → Nat → Int
  | _, 0 => 0
  | B, m + 1 => (D.er B - C.er B) + dif C D (B + 1) m
theorem dif_succ (C D : Cm) (B m : Nat) : dif C D B (m + 1) = (D.er B - C.er B) + dif C D (B + 1) m := rfl
theorem dif_congr {C C' D : Cm} (m : Nat) : ∀ B, (∀ x, B ≤ x → x < B + m → C.er x = C'.er x) → dif C D B m = dif C' D B m := by
  induction m with
  | zero => intro B _; rfl
  | succ m ih =>
    intro B h
    unfold dif
    rw [h B (by omega) (by omega), ih (B + 1) fun x h1 h2 => h x (by omega) (by omega)]
theorem dif_zero {C D : Cm} (m : Nat) : ∀ B, (∀ x, B ≤ x → x < B + m → D.er x = C.er x) → dif C D B m = 0 := by
  induction m with
  | zero => intro B _; rfl
  | succ m ih =>
    intro B h
    unfold dif
    rw [h B (by omega) (by omega), ih (B + 1) fun x h1 h2 => h x (by omega) (by omega)]; omega
theorem usedM_congr {C D : Cm} {page : Int} (hc : D.cfg = C.cfg) (ho : D.out = C.out) (hl : D.s.pages.length = C.s.pages.length) (hp : D.pg page.toNat = C.pg page.toNat) : usedM D page = usedM C page := by
  have e : ∀ n : Int, readM D page n = readM C page n := by
    intro n
    unfold readM asksCellM askedM
    unfold Cm.pg at hp
    rw [hc, ho, hl, hp]
  unfold usedM usedP
  rw [hc]
  simp only [e]
/-- What erases do to so many pages. -/
structure Er (B m : Nat) (C D : Cm) (e : Int) : Prop where
  cfg : D.cfg = C.cfg
  bl : D.s.blown = C.s.blown
  np : D.s.pages.length = C.s.pages.length
  ne : D.s.erases.length = C.s.erases.length
  pg : ∀ x, x < B ∨ B + m ≤ x → D.pg x = C.pg x
  er : ∀ x, x < B ∨ B + m ≤ x → D.er x = C.er x
  acts : D.acts = C.acts + dif C D B m
  ab : C.acts ≤ D.acts ∧ D.acts ≤ C.acts + m
  good : e = 0 → D.out = false ∧ -1 ≤ D.left ∧ ∀ x, B ≤ x → x < B + m → (D.pg x).length = C.cfg.cells.toNat * 32 ∧ blankP (D.pg x) C.cfg.cells.toNat
  bad : e ≠ 0 → e = 8
theorem erased_blank {row : List Int} {l : Nat} (hl : row.length = l * 32) (f : Nat → Int) (hf : ∀ i, f i = 255) : (eraseRow row f).length = l * 32 ∧ blankP (eraseRow row f) l := by
  refine ⟨by unfold eraseRow; rw [mapTo_length]; exact hl, ?_⟩
  intro n hn
  have h1 : (cellAt (eraseRow row f) n).length = 32 := cellAt_length (by unfold eraseRow; rw [mapTo_length]; omega)
  refine ext_getD (h1.trans rfl) fun i hi => ?_
  rw [h1] at hi
  rw [cellAt_getD _ _ _ hi]
  unfold eraseRow
  rw [mapTo_getD _ _ _ _ (by omega) (by omega), hf, full_or]
  unfold ffs
  rw [tab_getD _ hi]
theorem getD_put {α : Type} (l : List α) (j : Nat) (v d : α) (h : j < l.length) : (l.set j v).getD j d = v := by
  simp [List.getD, h]
theorem erase_step {C : Cm} {B : Nat} (ho : C.out = false) (hB : B < C.s.pages.length) (hB2 : B < C.s.erases.length) (hw : C.er B < C.cfg.erases) (ha : 0 ≤ C.acts ∧ C.acts < 2 ^ 60) :
    ∃ D : Cm, eraseM C (B : Int) = (D, errM C) ∧ D.cfg = C.cfg ∧ D.s.blown = C.s.blown ∧ D.s.pages.length = C.s.pages.length ∧ D.s.erases.length = C.s.erases.length ∧ (∀ x, x ≠ B → D.pg x = C.pg x) ∧ (∀ x, x ≠ B → D.er x = C.er x) ∧
      D.er B = C.er B + 1 ∧ D.acts = C.acts + 1 ∧ D.pg B = eraseRow (C.pg B) (maskAt C) ∧ (C.left ≠ 0 → D.out = false) ∧ (-1 ≤ C.left → -1 ≤ D.left) := by
  have hac : C.act.acts = C.acts + 1 := by
    unfold Cm.act
    have : w64 (C.acts + 1) = C.acts + 1 := by unfold w64; rw [IntKind.wrap_i64]; omega
    split <;> exact this
  unfold eraseM
  rw [askedM_in ho (by omega) (by omega), if_neg (by simp), Int.toNat_natCast]
  unfold Cm.er at hw
  rw [if_neg (by omega)]
  refine ⟨_, rfl, act_cfg C, ?_, ?_, ?_, ?_, ?_, ?_, hac, ?_, ?_, ?_⟩
  · show C.act.s.blown = _; rw [act_s]
  · show (C.act.s.pages.set B _).length = _; rw [List.length_set, act_s]
  · show (C.act.s.erases.set B _).length = _; rw [List.length_set, act_s]
  · intro x hx
    show (C.act.s.pages.set B _).getD x [] = C.s.pages.getD x []
    simp only [List.getD, List.getElem?_set_ne (Ne.symm hx), act_s]
  · intro x hx
    show (C.act.s.erases.set B _).getD x 0 = C.s.erases.getD x 0
    simp only [List.getD, List.getElem?_set_ne (Ne.symm hx), act_s]
  · show (C.act.s.erases.set B _).getD B 0 = _
    exact getD_put _ _ _ _ (by rw [act_s]; exact hB2)
  · show (C.act.s.pages.set B _).getD B [] = _
    rw [getD_put _ _ _ _ (by rw [act_s]; exact hB)]
    unfold rowOf
    rw [Int.toNat_natCast]; rfl
  · intro hl
    show C.act.out = false
    exact act_out ho hl
  · intro hl
    show -1 ≤ C.act.left
    unfold Cm.act
    split
    · dsimp only; split <;> omega
    · exact Int.le_refl _
theorem erases (base : Int) : ∀ (m j B : Nat) (C : Cm), base + j = (B : Int) → C.out = false → -1 ≤ C.left → B + m ≤ C.s.pages.length → B + m ≤ C.s.erases.length → (0 ≤ C.acts ∧ C.acts + m < 2 ^ 60) →
    (∀ x, B ≤ x → x < B + m → (C.pg x).length = C.cfg.cells.toNat * 32) → (∀ x, B ≤ x → x < B + m → usedM C (x : Int) = true → C.er x < C.cfg.erases) →
    (∀ x, B ≤ x → x < B + m → usedM C (x : Int) = false → blankP (C.pg x) C.cfg.cells.toNat) → Er B m C (eraseL base m j C).1 (eraseL base m j C).2 := by
  intro m
  induction m with
  | zero =>
    intro j B C hB ho hl _ _ _ _ _ _
    unfold eraseL
    exact ⟨rfl, rfl, rfl, rfl, fun _ _ => rfl, fun _ _ => rfl, by simp [dif], ⟨Int.le_refl _, by (try dsimp only); omega⟩, fun _ => ⟨ho, hl, fun x h1 h2 => by omega⟩, fun x => absurd rfl x⟩
  | succ m ih =>
    intro j B C hB ho hl hp he ha hlen hw hbl
    unfold eraseL
    rw [hB]
    by_cases u : usedM C (B : Int) = true
    case neg =>
      rw [if_neg u]
      have I := ih (j + 1) (B + 1) C (by omega) ho hl (by omega) (by omega) ⟨ha.1, by omega⟩ (fun x h1 h2 => hlen x (by omega) (by omega)) (fun x h1 h2 => hw x (by omega) (by omega)) (fun x h1 h2 => hbl x (by omega) (by omega))
      generalize eraseL base m (j + 1) C = X at *
      have hBp := I.pg B (by omega)
      have hBe := I.er B (by omega)
      refine ⟨I.cfg, I.bl, I.np, I.ne, fun x hx => I.pg x (by omega), fun x hx => I.er x (by omega), ?_, ⟨I.ab.1, by have := I.ab.2; omega⟩, fun e => ?_, I.bad⟩
      · rw [I.acts, dif_succ, hBe]; omega
      · obtain ⟨g1, g2, g3⟩ := I.good e
        refine ⟨g1, g2, fun x h1 h2 => ?_⟩
        by_cases c : x = B
        · subst c
          rw [hBp]
          exact ⟨hlen x (by omega) (by omega), hbl x (by omega) (by omega) (by simpa using u)⟩
        · exact g3 x (by omega) (by omega)
    rw [if_pos u]
    obtain ⟨D, hD, d1, d2, d3, d4, d5, d6, d7, d8, d9, d10, d11⟩ := erase_step ho (show B < C.s.pages.length by omega) (by omega) (hw B (by omega) (by omega) u) ⟨ha.1, by omega⟩
    rw [hD]
    dsimp only
    by_cases c : C.left = 0
    · have e8 : errM C = 8 := by unfold errM; rw [if_neg (by simpa using c)]
      rw [e8, if_pos (by simp)]
      refine ⟨d1, d2, d3, d4, fun x hx => d5 x (by omega), fun x hx => d6 x (by omega), ?_, ⟨by (try dsimp only); omega, by (try dsimp only); omega⟩, fun e => by simp at e, fun _ => rfl⟩
      rw [dif_succ, dif_zero m (B + 1) fun x h1 h2 => d6 x (by omega), d7, d8]; omega
    · have e0 : errM C = 0 := by unfold errM; rw [if_pos (by simpa using c)]
      rw [e0, if_neg (by simp)]
      have hu : ∀ x, B + 1 ≤ x → usedM D (x : Int) = usedM C (x : Int) := fun x h1 => usedM_congr d1 (by rw [d10 c, ho]) d3 (by rw [Int.toNat_natCast]; exact d5 x (by omega))
      have I := ih (j + 1) (B + 1) D (by omega) (d10 c) (d11 hl) (by omega) (by omega) ⟨by omega, by omega⟩
        (fun x h1 h2 => by rw [d5 x (by omega), d1]; exact hlen x (by omega) (by omega))
        (fun x h1 h2 h3 => by rw [d6 x (by omega), d1]; rw [hu x h1] at h3; exact hw x (by omega) (by omega) h3)
        (fun x h1 h2 h3 => by rw [d5 x (by omega), d1]; rw [hu x h1] at h3; exact hbl x (by omega) (by omega) h3)
      generalize eraseL base m (j + 1) D = X at *
      have hBp := I.pg B (by omega)
      have hBe := I.er B (by omega)
      refine ⟨I.cfg.trans d1, I.bl.trans d2, I.np.trans d3, I.ne.trans d4, fun x hx => (I.pg x (by omega)).trans (d5 x (by omega)), fun x hx => (I.er x (by omega)).trans (d6 x (by omega)), ?_, ⟨by have := I.ab.1; omega, by have := I.ab.2; omega⟩, fun e => ?_, I.bad⟩
      · rw [I.acts, dif_succ, hBe, d7, d8, dif_congr m (B + 1) fun x h1 h2 => d6 x (by omega)]; omega
      · obtain ⟨g1, g2, g3⟩ := I.good e
        rw [d1] at g3
        refine ⟨g1, g2, fun x h1 h2 => ?_⟩
        by_cases c2 : x = B
        · subst c2
          rw [hBp, d9]
          exact erased_blank (hlen x (by omega) (by omega)) _ fun i => by unfold maskAt; rw [if_pos (by simpa using c)]
        · exact g3 x (by omega) (by omega)
end Go.Proofs.Ytamfkofcpoglnaa
end

/- The log: what both pages say; which is present. Own work. -/
section
set_option maxRecDepth 100000
set_option linter.unusedVariables false
namespace Go.Proofs.Ytamfkofcpoglnaa
open Go Go.Vc

theorem len9 {l : List Int} (h : l.length = 9) : ∃ a b c d e f g i j, l = [a, b, c, d, e, f, g, i, j] := by
  match l, h with
  | [a, b, c, d, e, f, g, i, j], _ => exact ⟨a, b, c, d, e, f, g, i, j, rfl⟩
abbrev fndI (p q : Inf) (n : Int) : List Value := .int .i64 p.head :: (ints .i64 p.nums ++ .int .i64 p.next :: .bool p.blank :: .int .i64 p.torn :: .int .i64 q.head :: (ints .i64 q.nums ++ [.int .i64 q.next, .bool q.blank, .int .i64 q.torn, .int .i64 n]))
theorem fnd_len {p q : Inf} {n : Int} (hp : p.nums.length = 9) (hq : q.nums.length = 9) : (fndI p q n).length = 27 := by simp [fndI, hp, hq]
structure FndAt (h : H) (b : Nat) (p q : Inf) (n : Int) : Prop where
  a0 : hc h ⟨b, 0, none⟩ = some (.int .i64 p.head)
  a1 : hrow h ⟨b, 1, none⟩ .i64 p.nums
  a10 : hc h ⟨b, 10, none⟩ = some (.int .i64 p.next)
  a11 : hc h ⟨b, 11, none⟩ = some (.bool p.blank)
  a12 : hc h ⟨b, 12, none⟩ = some (.int .i64 p.torn)
  a13 : hc h ⟨b, 13, none⟩ = some (.int .i64 q.head)
  a14 : hrow h ⟨b, 14, none⟩ .i64 q.nums
  a23 : hc h ⟨b, 23, none⟩ = some (.int .i64 q.next)
  a24 : hc h ⟨b, 24, none⟩ = some (.bool q.blank)
  a25 : hc h ⟨b, 25, none⟩ = some (.int .i64 q.torn)
  a26 : hc h ⟨b, 26, none⟩ = some (.int .i64 n)
section
variable {h0 h : H} {A : List Ent} {i j p r b : Nat} {C : Cm}
theorem _root_.Go.Vc.Sat.fnd (hs : Sat h0 A h) {P Q : Inf} {n : Int} (m : At A i (blk b (fndI P Q n))) (hp : P.nums.length = 9) (hq : Q.nums.length = 9) : FndAt h b P Q n := by
  obtain ⟨ph, pn, px, pb, pt⟩ := P
  obtain ⟨qh, qn, qx, qb, qt⟩ := Q
  obtain ⟨a1, a2, a3, a4, a5, a6, a7, a8, a9, rfl⟩ := len9 hp
  obtain ⟨b1, b2, b3, b4, b5, b6, b7, b8, b9, rfl⟩ := len9 hq
  exact ⟨hs.ld m rfl, hs.cs m rfl, hs.ld m rfl, hs.ld m rfl, hs.ld m rfl, hs.ld m rfl, hs.cs m rfl, hs.ld m rfl, hs.ld m rfl, hs.ld m rfl, hs.ld m rfl⟩
theorem fnd_s0 {P Q R : Inf} {n : Int} (hp : P.nums.length = 9) (hr : R.nums.length = 9) : splice (fndI P Q n) 0 (infI R) = fndI R Q n := by
  obtain ⟨ph, pn, px, pb, pt⟩ := P
  obtain ⟨qh, qn, qx, qb, qt⟩ := R
  obtain ⟨a1, a2, a3, a4, a5, a6, a7, a8, a9, rfl⟩ := len9 hp
  obtain ⟨b1, b2, b3, b4, b5, b6, b7, b8, b9, rfl⟩ := len9 hr
  rfl
theorem fnd_s13 {P Q R : Inf} {n : Int} (hp : P.nums.length = 9) (hq : Q.nums.length = 9) (hr : R.nums.length = 9) : splice (fndI P Q n) 13 (infI R) = fndI P R n := by
  obtain ⟨ph, pn, px, pb, pt⟩ := P
  obtain ⟨qh, qn, qx, qb, qt⟩ := Q
  obtain ⟨rh, rn, rx, rb, rt⟩ := R
  obtain ⟨a1, a2, a3, a4, a5, a6, a7, a8, a9, rfl⟩ := len9 hp
  obtain ⟨b1, b2, b3, b4, b5, b6, b7, b8, b9, rfl⟩ := len9 hq
  obtain ⟨c1, c2, c3, c4, c5, c6, c7, c8, c9, rfl⟩ := len9 hr
  rfl
theorem fnd_s26 {P Q : Inf} {n m : Int} (hp : P.nums.length = 9) (hq : Q.nums.length = 9) : splice (fndI P Q n) 26 [.int .i64 m] = fndI P Q m := by
  obtain ⟨ph, pn, px, pb, pt⟩ := P
  obtain ⟨qh, qn, qx, qb, qt⟩ := Q
  obtain ⟨a1, a2, a3, a4, a5, a6, a7, a8, a9, rfl⟩ := len9 hp
  obtain ⟨b1, b2, b3, b4, b5, b6, b7, b8, b9, rfl⟩ := len9 hq
  rfl
theorem _root_.Go.Vc.Sat.infAt (hs : Sat h0 A h) {P : Inf} (m : At A i (blk b (infI P))) (hp : P.nums.length = 9) : hc h ⟨b, 0, none⟩ = some (.int .i64 P.head) ∧ hrow h ⟨b, 1, none⟩ .i64 P.nums ∧ hc h ⟨b, 10, none⟩ = some (.int .i64 P.next) ∧ hc h ⟨b, 11, none⟩ = some (.bool P.blank) ∧ hc h ⟨b, 12, none⟩ = some (.int .i64 P.torn) := by
  obtain ⟨ph, pn, px, pb, pt⟩ := P
  obtain ⟨a1, a2, a3, a4, a5, a6, a7, a8, a9, rfl⟩ := len9 hp
  exact ⟨hs.ld m rfl, hs.cs m rfl, hs.ld m rfl, hs.ld m rfl, hs.ld m rfl⟩

/-! ### What the log says -/
/-- What a page says. -/
def pI (C : Cm) (k : Nat) : Inf := pageI (C.pg k) C.cfg.cells.toNat
theorem pI_len (C : Cm) (k : Nat) : (pI C k).nums.length = 9 := ofM_len _ _
def presH (a b : Int) : Int := if 0 < a ∧ b ≤ a then 0 else if 0 < b then 1 else -1
def presM (C : Cm) : Int := presH (pI C 0).head (pI C 1).head
def infoM (C : Cm) : Inf := if presM C < 0 then inf0 else pI C (presM C).toNat
def tgtM (C : Cm) : Nat := if presM C = 0 then 1 else 0
theorem presM_cases (C : Cm) : presM C = -1 ∨ presM C = 0 ∨ presM C = 1 := by unfold presM presH; (repeat' split) <;> simp
theorem look_pg {C : Cm} (ho : C.out = false) (ok : C.ok) {k : Nat} (hk : k < 2) : lookM C (k : Int) = (pI C k, 0) := by
  have h1 := ok.fits.pages
  have h2 := ok.may.area
  have h3 : C.cfg.np = 2 + 2 * C.cfg.area := rfl
  unfold lookM
  rw [askedM_in ho (by omega) (by omega), if_neg (by simp), Int.toNat_natCast]; rfl
theorem look_out {C : Cm} (ho : C.out = true) (k : Int) : lookM C k = (inf0, 8) := by
  unfold lookM askedM
  rw [if_pos ho, if_pos (by decide)]
/-- What look finds. -/
structure Fnd where
  p : Inf
  q : Inf
  n : Int
def lookF (C : Cm) : Fnd × Int := if C.out = true then (⟨inf0, inf0, 0⟩, 8) else (⟨pI C 0, pI C 1, presM C⟩, 0)
theorem lookF_len (C : Cm) : (lookF C).1.p.nums.length = 9 ∧ (lookF C).1.q.nums.length = 9 := by
  unfold lookF; split
  · exact ⟨rfl, rfl⟩
  · exact ⟨pI_len C 0, pI_len C 1⟩
abbrev logE (l p : Nat) : Ent := blk l [.pointer (some ⟨p, 0, none⟩)]
theorem logLook_sp {Q : Int → List Int → Int → Bool → Int → Int → List Int → Int → Bool → Int → Int → Int → H → Prop} (hs : Sat h0 A h) (ci : At A i (chipE p C)) (cl : At A j (logE r p))
    (k : ∀ h', Sat h0 A h' → Q (lookF C).1.p.head (lookF C).1.p.nums (lookF C).1.p.next (lookF C).1.p.blank (lookF C).1.p.torn (lookF C).1.q.head (lookF C).1.q.nums (lookF C).1.q.next (lookF C).1.q.blank (lookF C).1.q.torn (lookF C).1.n (lookF C).2 h') :
    F_log_Log_look ⟨r, 0, none⟩ Q h := by
  unfold F_log_Log_look G_log_Log_look
  simp only [add_mk, Nat.zero_add]
  have ok := chip_ok hs ci
  have z9 : inf0.nums.length = 9 := rfl
  intro n4 _ hn; replace hs := Sat.new hs hn; clear hn
  intro n7 _ hn; replace hs := Sat.new hs hn; clear hn
  replace hs : Sat h0 (blk n7 (fndI inf0 inf0 0) :: blk n4 (fndI inf0 inf0 0) :: A) _ := hs
  refine ⟨Sat.can hs (i := 0) (by (repeat (first | exact At.z | apply At.s))) (by decide), ?_⟩
  intro h2 e
  replace hs := Sat.wra hs (i := 0) (by (repeat (first | exact At.z | apply At.s))) e (by rfl)
  clear e
  replace hs : Sat h0 (blk n7 (fndI inf0 inf0 (-1)) :: blk n4 (fndI inf0 inf0 0) :: A) _ := hs
  intro J hJ
  obtain ⟨G, hG⟩ : ∃ G : Nat → Inf × Inf, G = fun n => (if 0 < n then pI C 0 else inf0, if 1 < n then pI C 1 else inf0) := ⟨_, rfl⟩
  have hG0 : G 0 = (inf0, inf0) := by rw [hG]; rfl
  have hG2 : G 2 = (pI C 0, pI C 1) := by rw [hG]; rfl
  have hGl : ∀ n, (G n).1.nums.length = 9 ∧ (G n).2.nums.length = 9 := by
    intro n; rw [hG]; dsimp only
    exact ⟨by split; exact pI_len C 0; rfl, by split; exact pI_len C 1; rfl⟩
  have hs1 : Sat h0 (blk n7 (fndI (G 0).1 (G 0).2 (-1)) :: blk n4 (fndI inf0 inf0 0) :: A) h2 := by rw [hG0]; exact hs
  clear hs
  refine loop_up 2 (fun n h => (n ≠ 0 → C.out = false) ∧ Sat h0 (blk n7 (fndI (G n).1 (G n).2 (-1)) :: blk n4 (fndI inf0 inf0 0) :: A) h) ?_ ?_ 0 _ (by omega) ⟨fun y => absurd rfl y, hs1⟩
  · rintro n h3 hn ⟨hno, hs⟩ hk
    apply hJ
    rw [ltI_eq, if_pos (by simp; omega)]
    refine ⟨_, hs.ld cl.s.s rfl, _, rfl, ?_⟩
    refine Look_sp hs ci.s.s (n : Int) ?_
    intro h4 hs
    have hll := lookM_len C (n : Int)
    intro n24 _ hn24; replace hs := Sat.new hs hn24; clear hn24
    refine ⟨Sat.can hs (by (repeat (first | exact At.z | apply At.s))) (by decide), ?_⟩
    intro h5 e
    replace hs := Sat.wra hs (by (repeat (first | exact At.z | apply At.s))) e ((inf_len hll).trans rfl)
    clear e
    simp only [put] at hs
    by_cases ho : C.out = true
    · rw [look_out ho] at hs ⊢
      rw [if_pos (by simp)]
      refine ⟨Sat.can hs (by (repeat (first | exact At.z | apply At.s))) (by decide), ?_⟩
      intro h6 e
      replace hs := Sat.wra hs (i := 2) (by (repeat (first | exact At.z | apply At.s))) e (by rfl)
      clear e
      simp only [put] at hs
      replace hs : Sat h0 (blk n24 (infI inf0) :: blk n7 (fndI (G n).1 (G n).2 (-1)) :: blk n4 (fndI inf0 inf0 0) :: A) h6 := hs
      have L := hs.fnd (i := 2) (by (repeat (first | exact At.z | apply At.s))) z9 z9
      refine ⟨_, L.a0, _, ‹_›, L.a1, _, L.a10, _, L.a11, _, L.a12, _, L.a13, _, ‹_›, L.a14, _, L.a23, _, L.a24, _, L.a25, _, L.a26, ?_⟩
      have e : lookF C = (⟨inf0, inf0, 0⟩, 8) := by unfold lookF; rw [if_pos ho]
      rw [e] at k
      exact k _ hs.drop.drop.drop
    · have ho' : C.out = false := by simpa using ho
      have el := look_pg ho' ok (k := n) hn
      rw [el] at hs ⊢
      rw [if_neg (by simp)]
      have hpl := pI_len C n
      obtain ⟨L0, L1, L10, L11, L12⟩ := hs.infAt (i := 0) (by (repeat (first | exact At.z | apply At.s))) hpl
      refine ⟨_, L0, _, hpl, L1, _, L10, _, L11, _, L12, by omega, by omega, ?_⟩
      rw [Int.toNat_natCast]
      refine ⟨Sat.can hs (i := 1) (by (repeat (first | exact At.z | apply At.s))) (by rw [fnd_len (hGl n).1 (hGl n).2]; omega), ?_⟩
      intro h6 e
      replace hs := Sat.wr hs (i := 1) (by (repeat (first | exact At.z | apply At.s))) e
      clear e
      simp only [put] at hs
      rw [wrap_succ (by omega)]
      refine hk _ ⟨fun _ => ho', ?_⟩
      have hn2 : n = 0 ∨ n = 1 := by omega
      have e2 : splice (fndI (G n).1 (G n).2 (-1)) (n * 13) (infI (pI C n)) = fndI (G (n + 1)).1 (G (n + 1)).2 (-1) := by
        rcases hn2 with rfl | rfl
        · rw [hG0]
          show splice _ 0 _ = _
          rw [fnd_s0 z9 hpl, hG]; rfl
        · have : G 1 = (pI C 0, inf0) := by rw [hG]; rfl
          rw [this]
          show splice _ 13 _ = _
          rw [fnd_s13 (pI_len C 0) z9 hpl, hG]; rfl
      rw [e2] at hs
      exact hs.drop
  · rintro h3 ⟨hno, hs⟩
    have ho : C.out = false := hno (by decide)
    rw [hG2] at hs
    dsimp only at hs
    apply hJ
    rw [ltI_eq, if_neg (by simp)]
    clear hJ J hG0 hG2 hGl hG hs1
    have l0 := pI_len C 0
    have l1 := pI_len C 1
    have L := hs.fnd .z l0 l1
    refine ⟨by decide, by decide, _, L.a0, by decide, by decide, _, L.a13, ?_⟩
    have e : lookF C = (⟨pI C 0, pI C 1, presM C⟩, 0) := by unfold lookF; rw [if_neg (by simp [ho])]
    rw [e] at k
    dsimp only at k
    have pc : presM C = presH (pI C 0).head (pI C 1).head := rfl
    unfold presH at pc
    have w26 : ∀ (m : Int) (h' : H) (A' : List Ent), Sat h0 (blk n7 (splice (fndI (pI C 0) (pI C 1) (-1)) 26 [.int .i64 m]) :: A') h' → Sat h0 (blk n7 (fndI (pI C 0) (pI C 1) m) :: A') h' := fun m h' A' y => by rw [fnd_s26 l0 l1] at y; exact y
    have c26 : ∀ h', Sat h0 (blk n7 (fndI (pI C 0) (pI C 1) (-1)) :: blk n4 (fndI inf0 inf0 0) :: A) h' → hcan h' ⟨n7, 26, none⟩ 1 := fun h' y => Sat.can y .z (by rw [fnd_len l0 l1]; omega)
    by_cases g1 : 0 < (pI C 0).head
    · rw [ltI_eq, if_pos (by simpa using g1)]
      by_cases g2 : (pI C 1).head ≤ (pI C 0).head
      · rw [leI_eq, if_pos (by simpa using g2)]
        refine ⟨c26 _ hs, ?_⟩
        intro h4 e4
        replace hs := Sat.wr hs .z e4
        clear e4
        replace hs := w26 _ _ _ hs
        (have L := hs.fnd .z l0 l1; refine ⟨_, L.a0, _, ‹_›, L.a1, _, L.a10, _, L.a11, _, L.a12, _, L.a13, _, ‹_›, L.a14, _, L.a23, _, L.a24, _, L.a25, _, L.a26, ?_⟩; refine ⟨Sat.can hs (by (repeat (first | exact At.z | apply At.s))) (by decide), ?_⟩; intro h9 e9; replace hs := Sat.wra hs (i := 1) (by (repeat (first | exact At.z | apply At.s))) e9 (by rw [fnd_len z9 z9]; exact (fnd_len (n := 0) l0 l1)); clear e9; simp only [put] at hs; replace hs : Sat h0 (blk n7 (fndI (pI C 0) (pI C 1) (0)) :: blk n4 (fndI (pI C 0) (pI C 1) (0)) :: A) h9 := hs; have L := hs.fnd (i := 1) (.s .z) l0 l1; refine ⟨_, L.a0, _, ‹_›, L.a1, _, L.a10, _, L.a11, _, L.a12, _, L.a13, _, ‹_›, L.a14, _, L.a23, _, L.a24, _, L.a25, _, L.a26, ?_⟩; rw [show presM C = 0 by rw [pc]; simp [*]] at k; exact k _ hs.drop.drop)
      · rw [leI_eq, if_neg (by simpa using g2), ltI_eq, if_pos (by simp; omega)]
        refine ⟨c26 _ hs, ?_⟩
        intro h4 e4
        replace hs := Sat.wr hs .z e4
        clear e4
        replace hs := w26 _ _ _ hs
        have g3 : 0 < (pI C 1).head := by omega
        (have L := hs.fnd .z l0 l1; refine ⟨_, L.a0, _, ‹_›, L.a1, _, L.a10, _, L.a11, _, L.a12, _, L.a13, _, ‹_›, L.a14, _, L.a23, _, L.a24, _, L.a25, _, L.a26, ?_⟩; refine ⟨Sat.can hs (by (repeat (first | exact At.z | apply At.s))) (by decide), ?_⟩; intro h9 e9; replace hs := Sat.wra hs (i := 1) (by (repeat (first | exact At.z | apply At.s))) e9 (by rw [fnd_len z9 z9]; exact (fnd_len (n := 1) l0 l1)); clear e9; simp only [put] at hs; replace hs : Sat h0 (blk n7 (fndI (pI C 0) (pI C 1) (1)) :: blk n4 (fndI (pI C 0) (pI C 1) (1)) :: A) h9 := hs; have L := hs.fnd (i := 1) (.s .z) l0 l1; refine ⟨_, L.a0, _, ‹_›, L.a1, _, L.a10, _, L.a11, _, L.a12, _, L.a13, _, ‹_›, L.a14, _, L.a23, _, L.a24, _, L.a25, _, L.a26, ?_⟩; rw [show presM C = 1 by rw [pc]; simp [*]] at k; exact k _ hs.drop.drop)
    · rw [ltI_eq, if_neg (by simpa using g1)]
      by_cases g3 : 0 < (pI C 1).head
      · rw [ltI_eq, if_pos (by simpa using g3)]
        refine ⟨c26 _ hs, ?_⟩
        intro h4 e4
        replace hs := Sat.wr hs .z e4
        clear e4
        replace hs := w26 _ _ _ hs
        (have L := hs.fnd .z l0 l1; refine ⟨_, L.a0, _, ‹_›, L.a1, _, L.a10, _, L.a11, _, L.a12, _, L.a13, _, ‹_›, L.a14, _, L.a23, _, L.a24, _, L.a25, _, L.a26, ?_⟩; refine ⟨Sat.can hs (by (repeat (first | exact At.z | apply At.s))) (by decide), ?_⟩; intro h9 e9; replace hs := Sat.wra hs (i := 1) (by (repeat (first | exact At.z | apply At.s))) e9 (by rw [fnd_len z9 z9]; exact (fnd_len (n := 1) l0 l1)); clear e9; simp only [put] at hs; replace hs : Sat h0 (blk n7 (fndI (pI C 0) (pI C 1) (1)) :: blk n4 (fndI (pI C 0) (pI C 1) (1)) :: A) h9 := hs; have L := hs.fnd (i := 1) (.s .z) l0 l1; refine ⟨_, L.a0, _, ‹_›, L.a1, _, L.a10, _, L.a11, _, L.a12, _, L.a13, _, ‹_›, L.a14, _, L.a23, _, L.a24, _, L.a25, _, L.a26, ?_⟩; rw [show presM C = 1 by rw [pc]; simp [*]] at k; exact k _ hs.drop.drop)
      · rw [ltI_eq, if_neg (by simpa using g3)]
        (have L := hs.fnd .z l0 l1; refine ⟨_, L.a0, _, ‹_›, L.a1, _, L.a10, _, L.a11, _, L.a12, _, L.a13, _, ‹_›, L.a14, _, L.a23, _, L.a24, _, L.a25, _, L.a26, ?_⟩; refine ⟨Sat.can hs (by (repeat (first | exact At.z | apply At.s))) (by decide), ?_⟩; intro h9 e9; replace hs := Sat.wra hs (i := 1) (by (repeat (first | exact At.z | apply At.s))) e9 (by rw [fnd_len z9 z9]; exact (fnd_len (n := -1) l0 l1)); clear e9; simp only [put] at hs; replace hs : Sat h0 (blk n7 (fndI (pI C 0) (pI C 1) (-1)) :: blk n4 (fndI (pI C 0) (pI C 1) (-1)) :: A) h9 := hs; have L := hs.fnd (i := 1) (.s .z) l0 l1; refine ⟨_, L.a0, _, ‹_›, L.a1, _, L.a10, _, L.a11, _, L.a12, _, L.a13, _, ‹_›, L.a14, _, L.a23, _, L.a24, _, L.a25, _, L.a26, ?_⟩; rw [show presM C = -1 by rw [pc]; simp [*]] at k; exact k _ hs.drop.drop)
def finfo (p q : Inf) (n : Int) : Inf := if n < 0 then inf0 else if n = 0 then p else q
theorem infoM_f (C : Cm) : infoM C = finfo (pI C 0) (pI C 1) (presM C) := by
  unfold infoM finfo
  rcases presM_cases C with e | e | e <;> rw [e] <;> simp
theorem finfo_sp {Q : Int → List Int → Int → Bool → Int → H → Prop} {P R : Inf} {n : Int} (hp : P.nums.length = 9) (hr : R.nums.length = 9) (hn : n < 2) (hs : Sat h0 A h)
    (k : ∀ h', Sat h0 A h' → Q (finfo P R n).head (finfo P R n).nums (finfo P R n).next (finfo P R n).blank (finfo P R n).torn h') : F_log_found_info P.head P.nums P.next P.blank P.torn R.head R.nums R.next R.blank R.torn n Q h := by
  unfold F_log_found_info G_log_found_info
  simp only [add_mk, Nat.zero_add]
  intro n13 _ hn13; replace hs := Sat.new hs hn13; clear hn13
  intro n16 _ hn16; replace hs := Sat.new hs hn16; clear hn16
  replace hs : Sat h0 (blk n16 (infI inf0) :: blk n13 (fndI P R n) :: A) _ := hs
  have z9 : inf0.nums.length = 9 := rfl
  have L := hs.fnd (i := 1) (.s .z) hp hr
  refine ⟨_, L.a26, ?_⟩
  by_cases g : n < 0
  · rw [ltI_eq, if_pos (by simpa using g)]
    refine ⟨Sat.can hs (i := 0) .z (by decide), ?_⟩
    intro h4 e
    replace hs := Sat.wra hs (i := 0) .z e (by rfl)
    clear e
    replace hs : Sat h0 (blk n16 (infI inf0) :: blk n13 (fndI P R n) :: A) _ := hs
    obtain ⟨L0, L1, L10, L11, L12⟩ := hs.infAt .z z9
    refine ⟨_, L0, _, z9, L1, _, L10, _, L11, _, L12, ?_⟩
    have e : finfo P R n = inf0 := by unfold finfo; rw [if_pos g]
    rw [e] at k
    exact k _ hs.drop.drop
  rw [ltI_eq, if_neg (by simpa using g)]
  refine ⟨_, L.a26, by omega, by omega, ?_⟩
  -- either page
  have fin : ∀ (S : Inf), S.nums.length = 9 → finfo P R n = S → ∀ h', Sat h0 (blk n16 (infI inf0) :: blk n13 (fndI P R n) :: A) h' → hcan h' ⟨n16, 0, none⟩ 13 ∧ ∀ h2, h2 = hwr h' ⟨n16, 0, none⟩ (infI S) →
      ∃ i0, hc h2 ⟨n16, 0, none⟩ = some (.int .i64 i0) ∧ ∃ l1 : List Int, l1.length = 9 ∧ hrow h2 ⟨n16, 1, none⟩ .i64 l1 ∧ ∃ i10, hc h2 ⟨n16, 10, none⟩ = some (.int .i64 i10) ∧ ∃ b11, hc h2 ⟨n16, 11, none⟩ = some (.bool b11) ∧ ∃ i12, hc h2 ⟨n16, 12, none⟩ = some (.int .i64 i12) ∧ Q i0 l1 i10 b11 i12 h2 := by
    intro S hS e h' hs
    refine ⟨Sat.can hs (i := 0) .z (by decide), ?_⟩
    intro h4 e4
    replace hs := Sat.wra hs (i := 0) .z e4 ((inf_len hS).trans rfl)
    clear e4
    replace hs : Sat h0 (blk n16 (infI S) :: blk n13 (fndI P R n) :: A) _ := hs
    obtain ⟨L0, L1, L10, L11, L12⟩ := hs.infAt .z hS
    refine ⟨_, L0, _, hS, L1, _, L10, _, L11, _, L12, ?_⟩
    rw [e] at k
    exact k _ hs.drop.drop
  have h01 : n = 0 ∨ n = 1 := by omega
  rcases h01 with rfl | rfl
  · simp only [Int.toNat_zero, Nat.zero_mul, Nat.zero_add]
    exact ⟨_, L.a0, _, hp, L.a1, _, L.a10, _, L.a11, _, L.a12, fin P hp (by unfold finfo; simp) _ hs⟩
  · simp only [Int.toNat_one, Nat.one_mul, Nat.reduceAdd]
    exact ⟨_, L.a13, _, hr, L.a14, _, L.a23, _, L.a24, _, L.a25, fin R hr (by unfold finfo; simp) _ hs⟩
/-- The present page, as it is told. -/
def presT (C : Cm) : Int := if C.out = true then -1 else presM C
def freeT (C : Cm) : Int := if C.out = true then 0 else if presM C < 0 then 0 else C.cfg.cells - (infoM C).next
theorem Mount_sp {Q : Option Addr → Int → H → Prop} (hs : Sat h0 A h) (ci : At A i (chipE p C)) (k1 : C.out = true → Q none 8 h) (k2 : C.out = false → ∀ l h', Sat h0 (logE l p :: A) h' → Q (some ⟨l, 0, none⟩) 0 h') : F_log_Mount ⟨p, 0, none⟩ Q h := by
  unfold F_log_Mount G_log_Mount
  refine Out_sp hs ci ?_
  by_cases ho : C.out = true
  · rw [if_pos ho]; exact k1 ho
  · rw [if_neg ho]
    intro l _ hn; replace hs := Sat.new hs hn; clear hn
    exact k2 (by simpa using ho) _ _ hs
theorem Present_sp {Q : Int → H → Prop} (hs : Sat h0 A h) (ci : At A i (chipE p C)) (cl : At A j (logE r p)) (k : ∀ h', Sat h0 A h' → Q (presT C) h') : F_log_Log_Present ⟨r, 0, none⟩ Q h := by
  unfold F_log_Log_Present G_log_Log_Present
  simp only [add_mk, Nat.zero_add]
  refine logLook_sp hs ci cl ?_
  intro h1 hs
  obtain ⟨lp, lq⟩ := lookF_len C
  intro n17 _ hn; replace hs := Sat.new hs hn; clear hn
  refine ⟨Sat.can hs (i := 0) .z (by decide), ?_⟩
  intro h2 e
  replace hs := Sat.wra hs (i := 0) .z e (by rw [fnd_len lp lq]; rfl)
  clear e
  replace hs : Sat h0 (blk n17 (fndI (lookF C).1.p (lookF C).1.q (lookF C).1.n) :: A) h2 := hs
  have L := hs.fnd .z lp lq
  unfold presT at k
  by_cases ho : C.out = true
  · have e : lookF C = (⟨inf0, inf0, 0⟩, 8) := by unfold lookF; rw [if_pos ho]
    rw [if_pos ho] at k
    rw [e, if_pos (by simp)]
    exact k _ hs.drop
  · have e : lookF C = (⟨pI C 0, pI C 1, presM C⟩, 0) := by unfold lookF; rw [if_neg ho]
    rw [if_neg ho] at k
    rw [e] at L ⊢
    rw [if_neg (by simp)]
    exact ⟨_, L.a26, k _ hs.drop⟩
theorem Free_sp {Q : Int → H → Prop} (hs : Sat h0 A h) (ci : At A i (chipE p C)) (cl : At A j (logE r p)) (k : ∀ h', Sat h0 A h' → Q (IntKind.i64.wrap (freeT C)) h') : F_log_Log_Free ⟨r, 0, none⟩ Q h := by
  unfold F_log_Log_Free G_log_Log_Free
  simp only [add_mk, Nat.zero_add]
  refine logLook_sp hs ci cl ?_
  intro h1 hs
  obtain ⟨lp, lq⟩ := lookF_len C
  intro n17 _ hn; replace hs := Sat.new hs hn; clear hn
  refine ⟨Sat.can hs (i := 0) .z (by decide), ?_⟩
  intro h2 e
  replace hs := Sat.wra hs (i := 0) .z e (by rw [fnd_len lp lq]; rfl)
  clear e
  replace hs : Sat h0 (blk n17 (fndI (lookF C).1.p (lookF C).1.q (lookF C).1.n) :: A) h2 := hs
  unfold freeT at k
  by_cases ho : C.out = true
  · have e : lookF C = (⟨inf0, inf0, 0⟩, 8) := by unfold lookF; rw [if_pos ho]
    rw [if_pos ho] at k
    rw [e, if_pos (by simp)]
    exact k _ hs.drop
  · have e : lookF C = (⟨pI C 0, pI C 1, presM C⟩, 0) := by unfold lookF; rw [if_neg ho]
    rw [if_neg ho] at k
    rw [e] at hs lp lq ⊢
    dsimp only at hs lp lq ⊢
    have L := hs.fnd .z lp lq
    rw [if_neg (by simp)]
    refine ⟨_, L.a26, ?_⟩
    by_cases g : presM C < 0
    · rw [if_pos g] at k
      rw [ltI_eq, if_pos (by simpa using g)]
      exact k _ hs.drop
    rw [if_neg g] at k
    rw [ltI_eq, if_neg (by simpa using g)]
    refine ⟨_, hs.ld cl.s rfl, ?_⟩
    refine ⟨_, L.a0, _, ‹_›, L.a1, _, L.a10, _, L.a11, _, L.a12, _, L.a13, _, ‹_›, L.a14, _, L.a23, _, L.a24, _, L.a25, _, L.a26, ?_⟩
    refine ⟨_, rfl, ?_⟩
    refine Config_sp hs ci.s ?_
    intro h3 hs
    refine ⟨Sat.whole hs .z, ?_⟩
    have hc2 := presM_cases C
    refine finfo_sp lp lq (by omega) hs ?_
    intro h4 hs
    rw [← infoM_f]
    exact k _ hs.drop
end
end Go.Proofs.Ytamfkofcpoglnaa
end

/- The log: bounds of what pages say; the document's log. Own work. -/
section
set_option maxRecDepth 100000
set_option linter.unusedVariables false
namespace Go.Proofs.Ytamfkofcpoglnaa
open Go Go.Vc

theorem recM_num (x : List Int) : 0 ≤ (recM x).2.2 ∧ (recM x).2.2 ≤ most := by
  unfold recM
  (repeat' split) <;> simp only [most] at * <;> omega
structure InfOk (I : Inf) (l : Nat) : Prop where
  head : 0 ≤ I.head ∧ I.head ≤ most
  next : 0 ≤ I.next ∧ I.next ≤ l
  torn : 0 ≤ I.torn ∧ I.torn ≤ l
  nums : ∀ k, 0 ≤ I.nums.getD k 0 ∧ I.nums.getD k 0 ≤ most
theorem set_getD (l : List Int) (j k : Nat) (v : Int) : (l.set j v).getD k 0 = if j = k ∧ k < l.length then v else l.getD k 0 := by
  rw [List.getD_eq_getElem?_getD, List.getElem?_set]
  by_cases c : j = k
  · subst c
    by_cases d : j < l.length
    · simp [d]
    · simp [d]
  · simp [c]
theorem ofM_ok (row : List Int) (n : Nat) (hn : n < 2 ^ 60) : InfOk (ofM row n) n := by
  induction n with
  | zero =>
    refine ⟨by show (0 : Int) ≤ 0 ∧ (0 : Int) ≤ most; decide, by show (0 : Int) ≤ 0 ∧ (0 : Int) ≤ 0; decide, by show (0 : Int) ≤ 0 ∧ (0 : Int) ≤ 0; decide, fun k => ?_⟩
    show 0 ≤ (zeros 9).getD k 0 ∧ (zeros 9).getD k 0 ≤ most
    have : (zeros 9).getD k 0 = 0 := by
      rw [List.getD_eq_getElem?_getD]
      unfold zeros
      rw [List.getElem?_replicate]; split <;> rfl
    rw [this]; decide
  | succ n ih =>
    obtain ⟨i1, i2, i3, i4⟩ := ih (by omega)
    obtain ⟨r1, r2⟩ := recM_num (cellAt row n)
    have hl := ofM_len row n
    unfold ofM layM
    generalize (recM (cellAt row n)).1 = kind
    generalize (recM (cellAt row n)).2.1 = slot
    generalize (recM (cellAt row n)).2.2 = num at *
    generalize ofM row n = I at *
    have hN : InfOk (nextM I n kind) (n + 1) ∧ (nextM I n kind).torn ≤ n := by
      unfold nextM
      split
      · exact ⟨⟨i1, by dsimp only; rw [wrap_id (by omega)]; omega, by dsimp only; omega, i4⟩, i3.2⟩
      · exact ⟨⟨i1, by omega, by omega, i4⟩, i3.2⟩
    obtain ⟨⟨j1, j2, j3, j4⟩, j5⟩ := hN
    generalize nextM I n kind = J at *
    unfold layN
    split
    · exact ⟨j1, j2, by dsimp only; rw [wrap_id (by omega)]; omega, j4⟩
    · split
      · exact ⟨⟨r1, r2⟩, j2, j3, j4⟩
      · split
        · refine ⟨j1, j2, j3, fun k => ?_⟩
          dsimp only
          rw [set_getD]
          split
          · have := j4 slot.toNat
            split <;> omega
          · exact j4 k
        · exact ⟨j1, j2, j3, j4⟩
theorem pageI_ok (row : List Int) (n : Nat) (hn : n < 2 ^ 60) : InfOk (pageI row n) n := ⟨(ofM_ok row n hn).1, (ofM_ok row n hn).2, (ofM_ok row n hn).3, (ofM_ok row n hn).4⟩
theorem pI_ok {C : Cm} (ok : C.ok) (k : Nat) : InfOk (pI C k) C.cfg.cells.toNat := pageI_ok _ _ (by have := ok.may.cells; omega)
theorem infoM_ok {C : Cm} (ok : C.ok) : InfOk (infoM C) C.cfg.cells.toNat := by
  unfold infoM
  split
  · refine ⟨by decide, ⟨by decide, by show (0 : Int) ≤ _; omega⟩, ⟨by decide, by show (0 : Int) ≤ _; omega⟩, fun k => ?_⟩
    have := (ofM_ok [] 0 (by decide)).nums k
    exact this
  · exact pI_ok ok _
section
variable {h0 h : H} {A : List Ent} {i j p r l b : Nat} {C : Cm}
theorem ok_pages {C : Cm} (ok : C.ok) : (2 : Int) ≤ C.s.pages.length ∧ (2 : Int) ≤ C.s.erases.length := by
  have h1 := ok.fits.pages
  have h4 := ok.fits.erases
  have h2 := ok.may.area
  have h3 : C.cfg.np = 2 + 2 * C.cfg.area := rfl
  omega
theorem freeT_range {C : Cm} (ok : C.ok) : 0 ≤ freeT C ∧ freeT C ≤ 256 := by
  have h1 := (infoM_ok ok).next
  have h2 := ok.may.cells
  have h3 := ok.may.slots
  unfold freeT; (repeat' split) <;> omega
end
end Go.Proofs.Ytamfkofcpoglnaa
end

/- Maps as owned things. Own work; generic over any program. -/
section
set_option linter.unusedVariables false
namespace Go.Vc

@[irreducible] def mapP (r : Nat) (es : List (Value × DV)) (h : H) (f : Nat → Prop) : Prop := hmap h r es ∧ ∀ x, f x ↔ x = r
theorem hmap_lt {h : H} {r : Nat} {es : List (Value × DV)} (m : hmap h r es) : r < h.size := by
  obtain ⟨a, cl, e, _⟩ := m
  exact (Array.getElem?_eq_some_iff.1 e).1
def mapE (r : Nat) (es : List (Value × DV)) : Ent where
  tag := .of r
  P := mapP r es
  st := by unfold mapP; rintro h h' f ⟨⟨a, cl, k, ke⟩, e⟩ hs; exact ⟨⟨a, cl, by rw [hs r ((e r).2 rfl)]; exact k, ke⟩, e⟩
  lt := by unfold mapP; rintro h f x ⟨k, e⟩ hx; rw [(e x).1 hx]; exact hmap_lt k
theorem mapE_P {r : Nat} {es : List (Value × DV)} {h : H} {f : Nat → Prop} : (mapE r es).P h f ↔ hmap h r es ∧ ∀ x, f x ↔ x = r := by
  show mapP r es h f ↔ _; unfold mapP; rfl
theorem Sat.mapNew {h0 h h' : H} {A : List Ent} (s : Sat h0 A h) {b : Nat} (n : hmnew h b h') : Sat h0 (mapE b [] :: A) h' := by
  obtain ⟨rfl, rfl⟩ := n
  refine s.add ⟨by simp, fun x hx _ => by rw [Array.getElem?_push, if_neg (by omega)]⟩ (f := fun x => x = h.size) (mapE_P.2 ⟨⟨#[], 0, by simp, rfl, fun e he => by cases he⟩, fun _ => Iff.rfl⟩) fun x hx => by rw [hx]; exact Nat.le_refl _
theorem Sat.mapAt {h0 h : H} {A : List Ent} (s : Sat h0 A h) {i r : Nat} {es : List (Value × DV)} (a : At A i (mapE r es)) : hmap h r es := by
  obtain ⟨f, hp, _⟩ := s.take a
  exact (mapE_P.1 hp).1
theorem Sat.mapSet {h0 h h' : H} {A : List Ent} (s : Sat h0 A h) {i r : Nat} {es es' : List (Value × DV)} (a : At A i (mapE r es)) (e : hmset h r es' h') : Sat h0 (Vc.put A i (mapE r es')) h' := by
  refine s.upd a fun f hp => ?_
  obtain ⟨k, hf⟩ := mapE_P.1 hp
  have hlt := hmap_lt k
  obtain ⟨m, cl, rfl, hent⟩ := e
  refine ⟨f, mapE_P.2 ⟨⟨m, cl, by rw [Array.getElem?_setIfInBounds_self_of_lt hlt], hent⟩, hf⟩, fun _ => Or.inl, ⟨by simp, fun x _ hx => ?_⟩⟩
  rw [Array.getElem?_setIfInBounds_ne]
  intro y; exact hx ((hf x).2 y.symm)
/-- The same entries, told otherwise. -/
theorem hmap_as {h : H} {r : Nat} {es es' : List (Value × DV)} (m : hmap h r es) (e : es.map (fun e => (e.1, e.2.flat)) = es'.map (fun e => (e.1, e.2.flat))) (ok : ∀ x, x ∈ es' → x.2.ok) : hmap h r es' := by
  obtain ⟨a, cl, h1, h2, h3⟩ := m
  exact ⟨a, cl, h1, h2.trans e, ok⟩
/-- A function value, of whatever is bound, is called. -/
theorem callFn_dv {P : Program} {f : FuncId} {run : Run} (hr : RunOk P f run) {xs ys args : List DV} {Q : List DV → H → Prop} {h : H} (hx : ∀ x, x ∈ xs ++ args ++ ys → x.ok) (hrun : run (xs ++ args ++ ys) Q h) :
    callFn P (.func (.func f) (xs.map DV.flat).toArray (ys.map DV.flat).toArray) args Q h := by
  refine ⟨f, _, _, rfl, ?_⟩
  have := hr _ _ _ hx hrun
  simpa using this
end Go.Vc
end

/- Wear: budgets, acts, how a chip stands. Own work. -/
section
set_option maxRecDepth 100000
set_option linter.unusedVariables false
namespace Go.Proofs.Ytamfkofcpoglnaa
open Go Go.Vc

section
variable {h0 h : H} {A : List Ent} {i j p r l b : Nat} {C : Cm}
def wRaiseM (c : Cfg) : Int := IntKind.i64.wrap (IntKind.i64.wrap (c.slots + 3) + c.fuses)
def wStageM (c : Cfg) : Int := IntKind.i64.wrap (IntKind.i64.wrap (IntKind.i64.wrap (c.slots + 3) + c.area) + IntKind.i64.wrap (c.area * c.cells))
def wLaysM (c : Cfg) : Int := IntKind.i64.wrap (IntKind.i64.wrap (c.cells - c.slots) - 1)
theorem raise_sp (c : Cfg) {Q : Int → H → Prop} (hs : Sat h0 A h) (k : ∀ h', Sat h0 A h' → Q (wRaiseM c) h') : F_wear_config_raise c.cells c.slots c.fuses c.step c.keys c.erases c.area Q h := by
  unfold F_wear_config_raise G_wear_config_raise
  simp only [add_mk, Nat.zero_add]
  (repeat first | refine ⟨_, Sat.ld hs (by (repeat (first | exact At.z | apply At.s))) (by rfl), ?_⟩ | refine ⟨_, _, _, Sat.ld hs (by (repeat (first | exact At.z | apply At.s))) (by rfl), ?_⟩ | (intro _ _ hn; replace hs := Sat.new hs hn; clear hn) | refine ⟨Sat.cs hs (by (repeat (first | exact At.z | apply At.s))) (by rfl), ?_⟩ | (refine ⟨Sat.can hs (by (repeat (first | exact At.z | apply At.s))) (by simp), ?_⟩; intro _ e; replace hs := Sat.wr hs (by (repeat (first | exact At.z | apply At.s))) e; clear e; simp only [put, splice, List.set] at hs) | refine ⟨_, rfl, ?_⟩)
  exact k _ hs.drop
theorem revoke_sp (c : Cfg) {Q : Int → H → Prop} (hs : Sat h0 A h) (k : ∀ h', Sat h0 A h' → Q 1 h') : F_wear_config_revoke c.cells c.slots c.fuses c.step c.keys c.erases c.area Q h := by
  unfold F_wear_config_revoke G_wear_config_revoke
  (repeat first | refine ⟨_, Sat.ld hs (by (repeat (first | exact At.z | apply At.s))) (by rfl), ?_⟩ | refine ⟨_, _, _, Sat.ld hs (by (repeat (first | exact At.z | apply At.s))) (by rfl), ?_⟩ | (intro _ _ hn; replace hs := Sat.new hs hn; clear hn) | refine ⟨Sat.cs hs (by (repeat (first | exact At.z | apply At.s))) (by rfl), ?_⟩ | (refine ⟨Sat.can hs (by (repeat (first | exact At.z | apply At.s))) (by simp), ?_⟩; intro _ e; replace hs := Sat.wr hs (by (repeat (first | exact At.z | apply At.s))) e; clear e; simp only [put, splice, List.set] at hs) | refine ⟨_, rfl, ?_⟩)
  exact k _ hs.drop
theorem stage_sp (c : Cfg) {Q : Int → H → Prop} (hs : Sat h0 A h) (k : ∀ h', Sat h0 A h' → Q (wStageM c) h') : F_wear_config_stage c.cells c.slots c.fuses c.step c.keys c.erases c.area Q h := by
  unfold F_wear_config_stage G_wear_config_stage
  simp only [add_mk, Nat.zero_add]
  (repeat first | refine ⟨_, Sat.ld hs (by (repeat (first | exact At.z | apply At.s))) (by rfl), ?_⟩ | refine ⟨_, _, _, Sat.ld hs (by (repeat (first | exact At.z | apply At.s))) (by rfl), ?_⟩ | (intro _ _ hn; replace hs := Sat.new hs hn; clear hn) | refine ⟨Sat.cs hs (by (repeat (first | exact At.z | apply At.s))) (by rfl), ?_⟩ | (refine ⟨Sat.can hs (by (repeat (first | exact At.z | apply At.s))) (by simp), ?_⟩; intro _ e; replace hs := Sat.wr hs (by (repeat (first | exact At.z | apply At.s))) e; clear e; simp only [put, splice, List.set] at hs) | refine ⟨_, rfl, ?_⟩)
  exact k _ hs.drop
theorem lays_sp (c : Cfg) {Q : Int → H → Prop} (hs : Sat h0 A h) (k : ∀ h', Sat h0 A h' → Q (wLaysM c) h') : F_wear_config_lays c.cells c.slots c.fuses c.step c.keys c.erases c.area Q h := by
  unfold F_wear_config_lays G_wear_config_lays
  simp only [add_mk, Nat.zero_add]
  (repeat first | refine ⟨_, Sat.ld hs (by (repeat (first | exact At.z | apply At.s))) (by rfl), ?_⟩ | refine ⟨_, _, _, Sat.ld hs (by (repeat (first | exact At.z | apply At.s))) (by rfl), ?_⟩ | (intro _ _ hn; replace hs := Sat.new hs hn; clear hn) | refine ⟨Sat.cs hs (by (repeat (first | exact At.z | apply At.s))) (by rfl), ?_⟩ | (refine ⟨Sat.can hs (by (repeat (first | exact At.z | apply At.s))) (by simp), ?_⟩; intro _ e; replace hs := Sat.wr hs (by (repeat (first | exact At.z | apply At.s))) e; clear e; simp only [put, splice, List.set] at hs) | refine ⟨_, rfl, ?_⟩)
  exact k _ hs.drop
theorem rlays_sp (c : Cfg) {Q : Int → H → Prop} (hs : Sat h0 A h) (k : ∀ h', Sat h0 A h' → Q (wLaysM c) h') : F_portcullisref20_lays c.cells c.slots c.fuses c.step c.keys c.erases c.area Q h := by
  unfold F_portcullisref20_lays G_portcullisref20_lays
  simp only [add_mk, Nat.zero_add]
  (repeat first | refine ⟨_, Sat.ld hs (by (repeat (first | exact At.z | apply At.s))) (by rfl), ?_⟩ | refine ⟨_, _, _, Sat.ld hs (by (repeat (first | exact At.z | apply At.s))) (by rfl), ?_⟩ | (intro _ _ hn; replace hs := Sat.new hs hn; clear hn) | refine ⟨Sat.cs hs (by (repeat (first | exact At.z | apply At.s))) (by rfl), ?_⟩ | (refine ⟨Sat.can hs (by (repeat (first | exact At.z | apply At.s))) (by simp), ?_⟩; intro _ e; replace hs := Sat.wr hs (by (repeat (first | exact At.z | apply At.s))) e; clear e; simp only [put, splice, List.set] at hs) | refine ⟨_, rfl, ?_⟩)
  exact k _ hs.drop
abbrev cfgA (c : Cfg) : Value := .agg #[.int .i64 c.cells, .int .i64 c.slots, .int .i64 c.fuses, .int .i64 c.step, .int .i64 c.keys, .int .i64 c.erases, .int .i64 c.area]
abbrev fnA (f : Nat) (c : Cfg) : Value := .func (.func f) #[cfgA c] #[]
def actsE (c : Cfg) : List (Value × DV) := [(.int .i64 2, .one (fnA id_wear_config_raise c)), (.int .i64 3, .one (fnA id_wear_config_raise c)), (.int .i64 7, .one (fnA id_wear_config_raise c)), (.int .i64 4, .one (fnA id_wear_config_revoke c)), (.int .i64 8, .one (fnA id_wear_config_stage c))]
theorem acts_sp (c : Cfg) {Q : Option Nat → H → Prop} (hs : Sat h0 A h) (k : ∀ m h', Sat h0 (mapE m (actsE c) :: A) h' → Q (some m) h') : F_wear_config_acts c.cells c.slots c.fuses c.step c.keys c.erases c.area Q h := by
  unfold F_wear_config_acts G_wear_config_acts
  simp only [add_mk, Nat.zero_add]
  intro n9 _ hn; replace hs := Sat.new hs hn; clear hn
  intro m _ hn; replace hs := Sat.mapNew hs hn; clear hn
  (repeat refine ⟨_, Sat.ld hs (by (repeat (first | exact At.z | apply At.s))) (by rfl), ?_⟩)
  refine ⟨_, _, _, rfl, hs.mapAt .z, rfl, ?_⟩
  intro _ e; replace hs := hs.mapSet .z e; clear e
  (repeat refine ⟨_, Sat.ld hs (by (repeat (first | exact At.z | apply At.s))) (by rfl), ?_⟩)
  refine ⟨_, _, _, rfl, hs.mapAt .z, rfl, ?_⟩
  intro _ e; replace hs := hs.mapSet .z e; clear e
  (repeat refine ⟨_, Sat.ld hs (by (repeat (first | exact At.z | apply At.s))) (by rfl), ?_⟩)
  refine ⟨_, _, _, rfl, hs.mapAt .z, rfl, ?_⟩
  intro _ e; replace hs := hs.mapSet .z e; clear e
  (repeat refine ⟨_, Sat.ld hs (by (repeat (first | exact At.z | apply At.s))) (by rfl), ?_⟩)
  refine ⟨_, _, _, rfl, hs.mapAt .z, rfl, ?_⟩
  intro _ e; replace hs := hs.mapSet .z e; clear e
  (repeat refine ⟨_, Sat.ld hs (by (repeat (first | exact At.z | apply At.s))) (by rfl), ?_⟩)
  refine ⟨_, _, _, rfl, hs.mapAt .z, rfl, ?_⟩
  intro _ e; replace hs := hs.mapSet .z e; clear e
  refine k m _ ?_
  exact hs.sub (by (repeat (first | exact List.Sublist.refl _ | apply List.Sublist.cons_cons | apply List.Sublist.cons)))
def actsM (c : Cfg) (kind : Int) : Int := if c.may then (if kind = 2 ∨ kind = 3 ∨ kind = 7 then wRaiseM c else if kind = 4 then 1 else if kind = 8 then wStageM c else 0) else 0
def actsF (c : Cfg) : List (Value × DV) := [(.int .i64 2, .fnv (fnA id_wear_config_raise c)), (.int .i64 3, .fnv (fnA id_wear_config_raise c)), (.int .i64 7, .fnv (fnA id_wear_config_raise c)), (.int .i64 4, .fnv (fnA id_wear_config_revoke c)), (.int .i64 8, .fnv (fnA id_wear_config_stage c))]
theorem ok_cfgA (c : Cfg) : ∀ x, x ∈ [DV.agg (c.vals.map .c)] ++ [] ++ [] → x.ok := by
  intro x hx
  simp at hx
  subst hx
  intro y hy
  simp only [List.mem_map] at hy
  obtain ⟨v, hv, rfl⟩ := hy
  simp only [Cfg.vals, List.mem_cons, List.not_mem_nil, or_false] at hv
  rcases hv with rfl | rfl | rfl | rfl | rfl | rfl | rfl <;> rfl
theorem Acts20_sp (c : Cfg) (kind : Int) {Q : Int → H → Prop} (hs : Sat h0 A h) (k : ∀ h', Sat h0 A h' → Q (actsM c kind) h') : F_wear_Acts c.cells c.slots c.fuses c.step c.keys c.erases c.area kind Q h := by
  unfold F_wear_Acts G_wear_Acts
  simp only [add_mk, Nat.zero_add]
  intro n9 _ hn; replace hs := Sat.new hs hn; clear hn
  (repeat first | refine ⟨_, Sat.ld hs (by (repeat (first | exact At.z | apply At.s))) (by rfl), ?_⟩ | refine ⟨_, _, _, Sat.ld hs (by (repeat (first | exact At.z | apply At.s))) (by rfl), ?_⟩ | (intro _ _ hn; replace hs := Sat.new hs hn; clear hn) | refine ⟨Sat.cs hs (by (repeat (first | exact At.z | apply At.s))) (by rfl), ?_⟩ | (refine ⟨Sat.can hs (by (repeat (first | exact At.z | apply At.s))) (by simp), ?_⟩; intro _ e; replace hs := Sat.wr hs (by (repeat (first | exact At.z | apply At.s))) e; clear e; simp only [put, splice, List.set] at hs) | refine ⟨_, rfl, ?_⟩)
  refine May_sp c hs ?_
  intro h1 hs
  unfold actsM at k
  by_cases m : c.may
  case neg =>
    rw [if_neg m] at k
    have e : c.may? = 1 := by unfold Cfg.may?; rw [if_neg m]
    rw [e, if_pos (by simp)]
    exact k _ hs.drop
  rw [if_pos m] at k
  have e : c.may? = 0 := by unfold Cfg.may?; rw [if_pos m]
  rw [e, if_neg (by simp)]
  (repeat first | refine ⟨_, Sat.ld hs (by (repeat (first | exact At.z | apply At.s))) (by rfl), ?_⟩ | refine ⟨_, _, _, Sat.ld hs (by (repeat (first | exact At.z | apply At.s))) (by rfl), ?_⟩ | (intro _ _ hn; replace hs := Sat.new hs hn; clear hn) | refine ⟨Sat.cs hs (by (repeat (first | exact At.z | apply At.s))) (by rfl), ?_⟩ | (refine ⟨Sat.can hs (by (repeat (first | exact At.z | apply At.s))) (by simp), ?_⟩; intro _ e; replace hs := Sat.wr hs (by (repeat (first | exact At.z | apply At.s))) e; clear e; simp only [put, splice, List.set] at hs) | refine ⟨_, rfl, ?_⟩)
  refine acts_sp c hs ?_
  intro mm h2 hs
  have hm : hmapO h2 (some mm) (actsF c) := hmap_as (hs.mapAt .z) rfl (by
    intro x hx
    simp only [actsF, List.mem_cons, List.not_mem_nil, or_false] at hx
    rcases hx with rfl | rfl | rfl | rfl | rfl <;> rfl)
  have look : ∀ (v : Value) (b : Bool), mlook (.int .i64 kind) (.fnv .nilFunc) (actsF c) = some (.fnv v, b) → (b = false → ∀ h', Sat h0 A h' → Q 0 h') → (b = true → callFn PP v [] (fun l37 h38 => ∃ x39 l40, l37 = x39 :: l40 ∧ ∃ i41, x39 = DV.one (Value.int IntKind.i64 i41) ∧ l40 = [] ∧ Q i41 h38) h2) →
      ∃ l33 x34 b35, hmapO h2 (some mm) l33 ∧ mlook (.int .i64 kind) (.fnv .nilFunc) l33 = some (x34, b35) ∧ ∃ v36, x34 = DV.fnv v36 ∧ if (!b35) = true then Q 0 h2 else callFn PP v36 [] (fun l37 h38 => ∃ x39 l40, l37 = x39 :: l40 ∧ ∃ i41, x39 = DV.one (Value.int IntKind.i64 i41) ∧ l40 = [] ∧ Q i41 h38) h2 := by
    intro v b e1 e2 e3
    refine ⟨_, _, _, hm, e1, _, rfl, ?_⟩
    cases b with
    | false => exact e2 rfl _ hs.drop.drop
    | true => exact e3 rfl
  by_cases g2 : kind = 2
  · subst g2
    refine look _ true rfl (fun y => by cases y) fun _ => ?_
    refine callFn_dv (R_wear_config_raise) (xs := [.agg (c.vals.map .c)]) (ys := []) (args := []) (ok_cfgA c) ?_
    show F_wear_config_raise c.cells c.slots c.fuses c.step c.keys c.erases c.area _ h2
    refine raise_sp c hs ?_
    intro h3 hs
    exact ⟨_, _, rfl, _, rfl, rfl, k _ hs.drop.drop⟩
  by_cases g3 : kind = 3
  · subst g3
    refine look _ true rfl (fun y => by cases y) fun _ => ?_
    refine callFn_dv (R_wear_config_raise) (xs := [.agg (c.vals.map .c)]) (ys := []) (args := []) (ok_cfgA c) ?_
    show F_wear_config_raise c.cells c.slots c.fuses c.step c.keys c.erases c.area _ h2
    refine raise_sp c hs ?_
    intro h3 hs
    exact ⟨_, _, rfl, _, rfl, rfl, k _ hs.drop.drop⟩
  by_cases g7 : kind = 7
  · subst g7
    refine look _ true rfl (fun y => by cases y) fun _ => ?_
    refine callFn_dv (R_wear_config_raise) (xs := [.agg (c.vals.map .c)]) (ys := []) (args := []) (ok_cfgA c) ?_
    show F_wear_config_raise c.cells c.slots c.fuses c.step c.keys c.erases c.area _ h2
    refine raise_sp c hs ?_
    intro h3 hs
    exact ⟨_, _, rfl, _, rfl, rfl, k _ hs.drop.drop⟩
  rw [if_neg (by omega)] at k
  by_cases g4 : kind = 4
  · subst g4
    refine look _ true rfl (fun y => by cases y) fun _ => ?_
    refine callFn_dv (R_wear_config_revoke) (xs := [.agg (c.vals.map .c)]) (ys := []) (args := []) (ok_cfgA c) ?_
    show F_wear_config_revoke c.cells c.slots c.fuses c.step c.keys c.erases c.area _ h2
    refine revoke_sp c hs ?_
    intro h3 hs
    exact ⟨_, _, rfl, _, rfl, rfl, k _ hs.drop.drop⟩
  rw [if_neg g4] at k
  by_cases g8 : kind = 8
  · subst g8
    refine look _ true rfl (fun y => by cases y) fun _ => ?_
    refine callFn_dv (R_wear_config_stage) (xs := [.agg (c.vals.map .c)]) (ys := []) (args := []) (ok_cfgA c) ?_
    show F_wear_config_stage c.cells c.slots c.fuses c.step c.keys c.erases c.area _ h2
    refine stage_sp c hs ?_
    intro h3 hs
    exact ⟨_, _, rfl, _, rfl, rfl, k _ hs.drop.drop⟩
  rw [if_neg g8] at k
  refine look .nilFunc false ?_ (fun _ => k) (fun y => by cases y)
  have e2 : (kind == 2) = false := by simpa using g2
  have e3 : (kind == 3) = false := by simpa using g3
  have e7 : (kind == 7) = false := by simpa using g7
  have e4 : (kind == 4) = false := by simpa using g4
  have e8 : (kind == 8) = false := by simpa using g8
  simp [mlook, actsF, keyEq, e2, e3, e7, e4, e8]
theorem rActs20_sp (c : Cfg) (kind : Int) {Q : Int → H → Prop} (hs : Sat h0 A h) (k : ∀ h', Sat h0 A h' → Q (actsM c kind) h') : F_portcullisref20_Acts c.cells c.slots c.fuses c.step c.keys c.erases c.area kind Q h := by
  unfold F_portcullisref20_Acts G_portcullisref20_Acts
  simp only [add_mk, Nat.zero_add]
  intro n9 _ hn; replace hs := Sat.new hs hn; clear hn
  (repeat first | refine ⟨_, Sat.ld hs (by (repeat (first | exact At.z | apply At.s))) (by rfl), ?_⟩ | refine ⟨_, _, _, Sat.ld hs (by (repeat (first | exact At.z | apply At.s))) (by rfl), ?_⟩ | (intro _ _ hn; replace hs := Sat.new hs hn; clear hn) | refine ⟨Sat.cs hs (by (repeat (first | exact At.z | apply At.s))) (by rfl), ?_⟩ | (refine ⟨Sat.can hs (by (repeat (first | exact At.z | apply At.s))) (by simp), ?_⟩; intro _ e; replace hs := Sat.wr hs (by (repeat (first | exact At.z | apply At.s))) e; clear e; simp only [put, splice, List.set] at hs) | refine ⟨_, rfl, ?_⟩)
  refine rMay_sp c hs ?_
  intro h1 hs
  unfold actsM at k
  by_cases m : c.may
  case neg =>
    rw [if_neg m] at k
    have e : c.may? = 1 := by unfold Cfg.may?; rw [if_neg m]
    rw [e, if_pos (by simp)]
    exact k _ hs.drop
  rw [if_pos m] at k
  have e : c.may? = 0 := by unfold Cfg.may?; rw [if_pos m]
  rw [e, if_neg (by simp)]
  intro J hJ
  have way : ∀ b : Bool, (b = true ↔ (kind = 2 ∨ kind = 3 ∨ kind = 7)) → J [.dv (.one (.bool b))] h1 := by
    intro b hb
    apply hJ
    by_cases g : b = true
    · rw [if_pos g]
      rw [if_pos (hb.1 g)] at k
      (repeat first | refine ⟨_, Sat.ld hs (by (repeat (first | exact At.z | apply At.s))) (by rfl), ?_⟩ | refine ⟨_, _, _, Sat.ld hs (by (repeat (first | exact At.z | apply At.s))) (by rfl), ?_⟩ | (intro _ _ hn; replace hs := Sat.new hs hn; clear hn) | refine ⟨Sat.cs hs (by (repeat (first | exact At.z | apply At.s))) (by rfl), ?_⟩ | (refine ⟨Sat.can hs (by (repeat (first | exact At.z | apply At.s))) (by simp), ?_⟩; intro _ e; replace hs := Sat.wr hs (by (repeat (first | exact At.z | apply At.s))) e; clear e; simp only [put, splice, List.set] at hs) | refine ⟨_, rfl, ?_⟩)
      exact k _ hs.drop
    · rw [if_neg g]
      rw [if_neg (fun y => g (hb.2 y))] at k
      by_cases g4 : kind = 4
      · rw [if_pos (by simpa using g4)]
        rw [if_pos g4] at k
        exact k _ hs.drop
      rw [if_neg (by simpa using g4)]
      rw [if_neg g4] at k
      by_cases g8 : kind = 8
      · rw [if_pos (by simpa using g8)]
        rw [if_pos g8] at k
        (repeat first | refine ⟨_, Sat.ld hs (by (repeat (first | exact At.z | apply At.s))) (by rfl), ?_⟩ | refine ⟨_, _, _, Sat.ld hs (by (repeat (first | exact At.z | apply At.s))) (by rfl), ?_⟩ | (intro _ _ hn; replace hs := Sat.new hs hn; clear hn) | refine ⟨Sat.cs hs (by (repeat (first | exact At.z | apply At.s))) (by rfl), ?_⟩ | (refine ⟨Sat.can hs (by (repeat (first | exact At.z | apply At.s))) (by simp), ?_⟩; intro _ e; replace hs := Sat.wr hs (by (repeat (first | exact At.z | apply At.s))) e; clear e; simp only [put, splice, List.set] at hs) | refine ⟨_, rfl, ?_⟩)
        exact k _ hs.drop
      · rw [if_neg (by simpa using g8)]
        rw [if_neg g8] at k
        exact k _ hs.drop
  by_cases g2 : kind = 2
  · rw [if_pos (by simpa using g2)]
    exact way _ (by simp [g2])
  rw [if_neg (by simpa using g2)]
  by_cases g3 : kind = 3
  · rw [if_pos (by simpa using g3)]
    exact way _ (by simp [g3])
  rw [if_neg (by simpa using g3)]
  exact way _ (by simp [g2, g3])
def budgM (c : Cfg) (cuts : Int) : Int := if c.may ∧ 0 ≤ cuts ∧ cuts ≤ c.erases then IntKind.i64.wrap (IntKind.i64.wrap (IntKind.i64.wrap (2 * IntKind.i64.wrap (c.erases - cuts)) + 2) * wLaysM c) else 0
theorem Budget_sp (c : Cfg) (cuts : Int) {Q : Int → H → Prop} (hs : Sat h0 A h) (k : ∀ h', Sat h0 A h' → Q (budgM c cuts) h') : F_wear_Budget c.cells c.slots c.fuses c.step c.keys c.erases c.area cuts Q h := by
  unfold F_wear_Budget G_wear_Budget
  simp only [add_mk, Nat.zero_add]
  intro n9 _ hn; replace hs := Sat.new hs hn; clear hn
  intro J hJ
  (repeat first | refine ⟨_, Sat.ld hs (by (repeat (first | exact At.z | apply At.s))) (by rfl), ?_⟩ | refine ⟨_, _, _, Sat.ld hs (by (repeat (first | exact At.z | apply At.s))) (by rfl), ?_⟩ | (intro _ _ hn; replace hs := Sat.new hs hn; clear hn) | refine ⟨Sat.cs hs (by (repeat (first | exact At.z | apply At.s))) (by rfl), ?_⟩ | (refine ⟨Sat.can hs (by (repeat (first | exact At.z | apply At.s))) (by simp), ?_⟩; intro _ e; replace hs := Sat.wr hs (by (repeat (first | exact At.z | apply At.s))) e; clear e; simp only [put, splice, List.set] at hs) | refine ⟨_, rfl, ?_⟩)
  refine May_sp c hs ?_
  intro h1 hs
  unfold budgM at k
  by_cases m : c.may
  case neg =>
    rw [if_neg (fun y => m y.1)] at k
    have e : c.may? = 1 := by unfold Cfg.may?; rw [if_neg m]
    rw [e, if_pos (by simp)]
    exact k _ hs.drop
  have e : c.may? = 0 := by unfold Cfg.may?; rw [if_pos m]
  rw [e, if_neg (by simp), ltI_eq]
  by_cases g1 : cuts < 0
  · rw [if_pos (by simpa using g1)]
    rw [if_neg (fun y => by omega)] at k
    exact k _ hs.drop
  rw [if_neg (by simpa using g1)]
  refine ⟨_, Sat.ld hs (by (repeat (first | exact At.z | apply At.s))) (by rfl), ?_⟩
  rw [ltI_eq]
  by_cases g2 : c.erases < cuts
  · rw [if_pos (by simpa using g2)]
    rw [if_neg (fun y => by omega)] at k
    exact k _ hs.drop
  rw [if_neg (by simpa using g2)]
  rw [if_pos ⟨m, by omega, by omega⟩] at k
  apply hJ
  (repeat first | refine ⟨_, Sat.ld hs (by (repeat (first | exact At.z | apply At.s))) (by rfl), ?_⟩ | refine ⟨_, _, _, Sat.ld hs (by (repeat (first | exact At.z | apply At.s))) (by rfl), ?_⟩ | (intro _ _ hn; replace hs := Sat.new hs hn; clear hn) | refine ⟨Sat.cs hs (by (repeat (first | exact At.z | apply At.s))) (by rfl), ?_⟩ | (refine ⟨Sat.can hs (by (repeat (first | exact At.z | apply At.s))) (by simp), ?_⟩; intro _ e; replace hs := Sat.wr hs (by (repeat (first | exact At.z | apply At.s))) e; clear e; simp only [put, splice, List.set] at hs) | refine ⟨_, rfl, ?_⟩)
  refine lays_sp c hs ?_
  intro h2 hs
  refine ⟨Sat.cs hs (by (repeat (first | exact At.z | apply At.s))) (by rfl), ?_⟩
  exact k _ hs.drop
theorem rBudget_sp (c : Cfg) (cuts : Int) {Q : Int → H → Prop} (hs : Sat h0 A h) (k : ∀ h', Sat h0 A h' → Q (budgM c cuts) h') : F_portcullisref20_Budget c.cells c.slots c.fuses c.step c.keys c.erases c.area cuts Q h := by
  unfold F_portcullisref20_Budget G_portcullisref20_Budget
  simp only [add_mk, Nat.zero_add]
  intro n9 _ hn; replace hs := Sat.new hs hn; clear hn
  (repeat first | refine ⟨_, Sat.ld hs (by (repeat (first | exact At.z | apply At.s))) (by rfl), ?_⟩ | refine ⟨_, _, _, Sat.ld hs (by (repeat (first | exact At.z | apply At.s))) (by rfl), ?_⟩ | (intro _ _ hn; replace hs := Sat.new hs hn; clear hn) | refine ⟨Sat.cs hs (by (repeat (first | exact At.z | apply At.s))) (by rfl), ?_⟩ | (refine ⟨Sat.can hs (by (repeat (first | exact At.z | apply At.s))) (by simp), ?_⟩; intro _ e; replace hs := Sat.wr hs (by (repeat (first | exact At.z | apply At.s))) e; clear e; simp only [put, splice, List.set] at hs) | refine ⟨_, rfl, ?_⟩)
  refine rMay_sp c hs ?_
  intro h1 hs
  intro J hJ
  unfold budgM at k
  by_cases m : c.may
  case neg =>
    rw [if_neg (fun y => m y.1)] at k
    have e : c.may? = 1 := by unfold Cfg.may?; rw [if_neg m]
    rw [e, if_pos (by simp)]
    exact k _ hs.drop
  have e : c.may? = 0 := by unfold Cfg.may?; rw [if_pos m]
  rw [e, if_neg (by simp), ltI_eq]
  by_cases g1 : cuts < 0
  · rw [if_pos (by simpa using g1)]
    rw [if_neg (fun y => by omega)] at k
    exact k _ hs.drop
  rw [if_neg (by simpa using g1)]
  refine ⟨_, Sat.ld hs (by (repeat (first | exact At.z | apply At.s))) (by rfl), ?_⟩
  rw [ltI_eq]
  by_cases g2 : c.erases < cuts
  · rw [if_pos (by simpa using g2)]
    rw [if_neg (fun y => by omega)] at k
    exact k _ hs.drop
  rw [if_neg (by simpa using g2)]
  rw [if_pos ⟨m, by omega, by omega⟩] at k
  apply hJ
  (repeat first | refine ⟨_, Sat.ld hs (by (repeat (first | exact At.z | apply At.s))) (by rfl), ?_⟩ | refine ⟨_, _, _, Sat.ld hs (by (repeat (first | exact At.z | apply At.s))) (by rfl), ?_⟩ | (intro _ _ hn; replace hs := Sat.new hs hn; clear hn) | refine ⟨Sat.cs hs (by (repeat (first | exact At.z | apply At.s))) (by rfl), ?_⟩ | (refine ⟨Sat.can hs (by (repeat (first | exact At.z | apply At.s))) (by simp), ?_⟩; intro _ e; replace hs := Sat.wr hs (by (repeat (first | exact At.z | apply At.s))) e; clear e; simp only [put, splice, List.set] at hs) | refine ⟨_, rfl, ?_⟩)
  refine rlays_sp c hs ?_
  intro h2 hs
  refine ⟨Sat.cs hs (by (repeat (first | exact At.z | apply At.s))) (by rfl), ?_⟩
  exact k _ hs.drop
end
end Go.Proofs.Ytamfkofcpoglnaa
end
