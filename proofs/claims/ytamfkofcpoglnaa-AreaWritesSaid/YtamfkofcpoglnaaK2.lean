/- AreaWrites: what is proved and its parts, laid together by a program of ours: Sl Mt Rd Re Ch1 Cm Ag Ch2 Ch3 Ch4 Ch5 Ch6 Ch7 Ah Ch8 By Rf3 La2 La5 Fu3 Fu4 Ce4 Pg2 Pg4 Pg5 Ar1 Ar2 Ar3 Ar5 -/
import Derived.Laws.Closers25b
import Derived.ProofKit
import Derived.SizedLaws
import Derived.Test.YtamfkofcpoglnaaRows
import Derived.Test.YtamfkofcpoglnaaK1
set_option autoImplicit false
set_option linter.all false
/- Assertions: a list of things that own blocks, none twice; all else is as it was in a base heap. Own work; generic over any program. -/
section
set_option linter.unusedVariables false
namespace Go.Vc

@[simp] theorem oneCell_slice (p : Option Addr) (l c : Nat) : (Value.slice p l c).oneCell' = true := rfl
@[simp] theorem oneCell_bool (b : Bool) : (Value.bool b).oneCell' = true := rfl
@[simp] theorem oneCell_ptr (p : Option Addr) : (Value.pointer p).oneCell' = true := rfl
@[simp] theorem oneCell_str (s : ByteArray) : (Value.string s).oneCell' = true := rfl

inductive Tag where
  | blk (b : Nat) (vs : List Value)
  | sl (p : Option Addr) (l c sz : Nat) (vs : List Value)
  | of (n : Nat)

/-- Something that lies in memory: what it says of a heap and of the blocks that it owns. -/
structure Ent where
  tag : Tag
  P : H → (Nat → Prop) → Prop
  st : ∀ {h h' : H} {f : Nat → Prop}, P h f → (∀ b, f b → h'[b]? = h[b]?) → P h' f
  lt : ∀ {h : H} {f : Nat → Prop} {b : Nat}, P h f → f b → b < h.size

def SatX : List Ent → H → (Nat → Prop) → Prop
  | [], _, O => ∀ b, ¬ O b
  | e :: A, h, O => ∃ f g, e.P h f ∧ SatX A h g ∧ (∀ b, f b → ¬ g b) ∧ (∀ b, O b ↔ f b ∨ g b)

theorem SatX.st {A : List Ent} {h h' : H} {O : Nat → Prop} (s : SatX A h O) (e : ∀ b, O b → h'[b]? = h[b]?) : SatX A h' O := by
  induction A generalizing O with
  | nil => exact s
  | cons x A ih =>
    obtain ⟨f, g, hp, hg, hd, ho⟩ := s
    exact ⟨f, g, x.st hp fun b hb => e b ((ho b).2 (Or.inl hb)), ih hg fun b hb => e b ((ho b).2 (Or.inr hb)), hd, ho⟩
theorem SatX.lt {A : List Ent} {h : H} {O : Nat → Prop} (s : SatX A h O) {b : Nat} (hb : O b) : b < h.size := by
  induction A generalizing O with
  | nil => exact absurd hb (s b)
  | cons x A ih =>
    obtain ⟨f, g, hp, hg, hd, ho⟩ := s
    rcases (ho b).1 hb with k | k
    · exact x.lt hp k
    · exact ih hg k
theorem SatX.iff {A : List Ent} {h : H} {O O' : Nat → Prop} (s : SatX A h O) (e : ∀ b, O b ↔ O' b) : SatX A h O' := by
  have : O = O' := funext fun b => propext (e b)
  exact this ▸ s
theorem SatX.append {A B : List Ent} {h : H} {O : Nat → Prop} : SatX (A ++ B) h O ↔ ∃ f g, SatX A h f ∧ SatX B h g ∧ (∀ b, f b → ¬ g b) ∧ (∀ b, O b ↔ f b ∨ g b) := by
  induction A generalizing O with
  | nil =>
    constructor
    · intro s; exact ⟨fun _ => False, O, fun _ x => x, s, fun _ x => x.elim, fun b => by simp⟩
    · rintro ⟨f, g, hf, hg, _, ho⟩
      refine hg.iff fun b => ?_
      rw [ho]; constructor
      · exact Or.inr
      · rintro (k | k)
        · exact absurd k (hf b)
        · exact k
  | cons x A ih =>
    constructor
    · rintro ⟨f, g, hp, hg, hd, ho⟩
      obtain ⟨f', g', h1, h2, h3, h4⟩ := ih.1 hg
      refine ⟨fun b => f b ∨ f' b, g', ⟨f, f', hp, h1, fun b k k' => hd b k ((h4 b).2 (Or.inl k')), fun b => Iff.rfl⟩, h2, ?_, ?_⟩
      · rintro b (k | k) k'
        · exact hd b k ((h4 b).2 (Or.inr k'))
        · exact h3 b k k'
      · intro b; rw [ho, h4, or_assoc]
    · rintro ⟨f, g, ⟨f1, f2, hp, h1, h2, h3⟩, hg, hd, ho⟩
      refine ⟨f1, fun b => f2 b ∨ g b, hp, ih.2 ⟨f2, g, h1, hg, fun b k k' => hd b ((h3 b).2 (Or.inr k)) k', fun b => Iff.rfl⟩, ?_, ?_⟩
      · rintro b k (k' | k')
        · exact h2 b k k'
        · exact hd b ((h3 b).2 (Or.inl k)) k'
      · intro b; rw [ho, h3, or_assoc]

/-- The thing at a place of the list. -/
inductive At : List Ent → Nat → Ent → Prop where
  | z {A : List Ent} {e : Ent} : At (e :: A) 0 e
  | s {A : List Ent} {e x : Ent} {i : Nat} : At A i e → At (x :: A) (i + 1) e
def put : List Ent → Nat → Ent → List Ent
  | [], _, _ => []
  | _ :: A, 0, e => e :: A
  | x :: A, i + 1, e => x :: put A i e
@[simp] theorem put_zero (x e : Ent) (A : List Ent) : put (x :: A) 0 e = e :: A := rfl
@[simp] theorem put_succ (x e : Ent) (A : List Ent) (i : Nat) : put (x :: A) (i + 1) e = x :: put A i e := rfl
theorem At.put {A : List Ent} {i : Nat} {e : Ent} (a : At A i e) (x : Ent) : At (Vc.put A i x) i x := by
  induction a with
  | z => exact .z
  | s _ ih => exact .s ih
@[simp] theorem put_put (A : List Ent) (i : Nat) (x y : Ent) : put (put A i x) i y = put A i y := by
  induction A generalizing i with
  | nil => rfl
  | cons a A ih => cases i with
    | zero => rfl
    | succ i => simp [ih]
theorem At.put_self {A : List Ent} {i : Nat} {e : Ent} (a : At A i e) : Vc.put A i e = A := by
  induction a with
  | z => rfl
  | s _ ih => simp [ih]

/-- A thing taken out of the list, and another one put in its place. -/
theorem SatX.take {A : List Ent} {i : Nat} {e : Ent} (a : At A i e) {h : H} {O : Nat → Prop} (s : SatX A h O) :
    ∃ f g : Nat → Prop, e.P h f ∧ (∀ b, f b → ¬ g b) ∧ (∀ b, O b ↔ f b ∨ g b) ∧
      ∀ (e' : Ent) (h' : H) (f' : Nat → Prop), e'.P h' f' → (∀ b, g b → h'[b]? = h[b]?) → (∀ b, f' b → ¬ g b) → SatX (Vc.put A i e') h' (fun b => f' b ∨ g b) := by
  induction a generalizing O with
  | z =>
    obtain ⟨f, g, hp, hg, hd, ho⟩ := s
    exact ⟨f, g, hp, hd, ho, fun e' h' f' hp' hsame hd' => ⟨f', g, hp', hg.st hsame, hd', fun b => Iff.rfl⟩⟩
  | s a ih =>
    obtain ⟨f, g, hp, hg, hd, ho⟩ := s
    obtain ⟨f1, g1, h1, h2, h3, h4⟩ := ih hg
    refine ⟨f1, fun b => f b ∨ g1 b, h1, ?_, ?_, ?_⟩
    · rintro b k (k' | k')
      · exact hd b k' ((h3 b).2 (Or.inl k))
      · exact h2 b k k'
    · intro b; rw [ho, h3]; constructor
      · rintro (k | k | k) <;> simp [k]
      · rintro (k | k | k) <;> simp [k]
    · intro e' h' f' hp' hsame hd'
      refine ⟨f, fun b => f' b ∨ g1 b, Ent.st _ hp fun b k => hsame b (Or.inl k), h4 e' h' f' hp' (fun b k => hsame b (Or.inr k)) (fun b k k' => hd' b k (Or.inr k')), ?_, ?_⟩
      · rintro b k (k' | k')
        · exact hd' b k' (Or.inl k)
        · exact hd b k ((h3 b).2 (Or.inr k'))
      · intro b; constructor
        · rintro (k | k | k) <;> simp [k]
        · rintro (k | k | k) <;> simp [k]

/-! ### With a base -/
/-- The things lie in new blocks; all blocks of the base heap are as they were. -/
def Sat (h0 : H) (A : List Ent) (h : H) : Prop := Ext none_ h0 h ∧ ∃ O, SatX A h O ∧ ∀ b, O b → h0.size ≤ b

theorem Sat.init (h : H) : Sat h [] h := ⟨Ext.refl _ _, fun _ => False, fun _ x => x, fun _ x => x.elim⟩
theorem Sat.ex {h0 h : H} {A : List Ent} (s : Sat h0 A h) : Ext none_ h0 h := s.1
theorem Sat.ext {h0 h h' : H} {A : List Ent} (s : Sat h0 A h) (x : Ext none_ h h') : Sat h0 A h' := by
  obtain ⟨s1, O, s2, s3⟩ := s
  exact ⟨s1.trans x, O, s2.st fun b hb => x.eq b (s2.lt hb) (fun y => y), s3⟩
theorem Sat.add {h0 h h' : H} {A : List Ent} (s : Sat h0 A h) (x : Ext none_ h h') {e : Ent} {f : Nat → Prop} (p : e.P h' f) (n : ∀ b, f b → h.size ≤ b) : Sat h0 (e :: A) h' := by
  obtain ⟨s1, O, s2, s3⟩ := s
  refine ⟨s1.trans x, fun b => f b ∨ O b, ⟨f, O, p, s2.st fun b hb => x.eq b (s2.lt hb) (fun y => y), ?_, fun b => Iff.rfl⟩, ?_⟩
  · intro b k k'; have := n b k; have := s2.lt k'; omega
  · rintro b (k | k)
    · have := n b k; have := s1.size; omega
    · exact s3 b k
theorem Sat.drop {h0 h : H} {A : List Ent} {e : Ent} (s : Sat h0 (e :: A) h) : Sat h0 A h := by
  obtain ⟨s1, O, ⟨f, g, _, hg, _, ho⟩, s3⟩ := s
  exact ⟨s1, g, hg, fun b hb => s3 b ((ho b).2 (Or.inr hb))⟩
theorem Sat.sub {h0 h : H} {A B : List Ent} (s : Sat h0 A h) (p : B.Sublist A) : Sat h0 B h := by
  obtain ⟨s1, O, s2, s3⟩ := s
  have : ∃ O', SatX B h O' ∧ ∀ b, O' b → O b := by
    clear s3
    induction p generalizing O with
    | slnil => exact ⟨O, s2, fun _ x => x⟩
    | cons a _ ih =>
      obtain ⟨f, g, hp, hg, hd, ho⟩ := s2
      obtain ⟨O', h1, h2⟩ := ih g hg
      exact ⟨O', h1, fun b hb => (ho b).2 (Or.inr (h2 b hb))⟩
    | cons_cons a _ ih =>
      obtain ⟨f, g, hp, hg, hd, ho⟩ := s2
      obtain ⟨O', h1, h2⟩ := ih g hg
      exact ⟨fun b => f b ∨ O' b, ⟨f, O', hp, h1, fun b k k' => hd b k (h2 b k'), fun b => Iff.rfl⟩, fun b hb => (ho b).2 (hb.imp id (h2 b))⟩
  obtain ⟨O', h1, h2⟩ := this
  exact ⟨s1, O', h1, fun b hb => s3 b (h2 b hb)⟩
theorem Sat.nil {h0 h : H} {A : List Ent} (s : Sat h0 A h) : Sat h0 [] h := ⟨s.1, fun _ => False, fun _ x => x, fun _ x => x.elim⟩
theorem Sat.perm {h0 h : H} {A B : List Ent} (s : Sat h0 A h) (p : A.Perm B) : Sat h0 B h := by
  obtain ⟨s1, O, s2, s3⟩ := s
  refine ⟨s1, O, ?_, s3⟩
  clear s3
  induction p generalizing O with
  | nil => exact s2
  | cons x _ ih =>
    obtain ⟨f, g, hp, hg, hd, ho⟩ := s2
    exact ⟨f, g, hp, ih g hg, hd, ho⟩
  | swap x y l =>
    obtain ⟨f, g, hp, ⟨f1, g1, hp1, hg1, hd1, ho1⟩, hd, ho⟩ := s2
    refine ⟨f1, fun b => f b ∨ g1 b, hp1, ⟨f, g1, hp, hg1, fun b k k' => hd b k ((ho1 b).2 (Or.inr k')), fun b => Iff.rfl⟩, ?_, ?_⟩
    · rintro b k (k' | k')
      · exact hd b k' ((ho1 b).2 (Or.inl k))
      · exact hd1 b k k'
    · intro b; rw [ho, ho1]; constructor
      · rintro (k | k | k) <;> simp [k]
      · rintro (k | k | k) <;> simp [k]
  | trans _ _ ih1 ih2 => exact ih2 O (ih1 O s2)
theorem Sat.takeK {h0 h : H} {A : List Ent} (s : Sat h0 A h) {i : Nat} {e : Ent} (a : At A i e) : ∃ f : Nat → Prop, e.P h f ∧ (∀ b, f b → h0.size ≤ b) ∧
    ∀ (h' : H) (e' : Ent) (f' : Nat → Prop), e'.P h' f' → (∀ b, f' b → f b ∨ h.size ≤ b) → Ext f h h' → Sat h0 (Vc.put A i e') h' := by
  obtain ⟨s1, O, s2, s3⟩ := s
  obtain ⟨f, g, hp, hd, ho, hk⟩ := s2.take a
  refine ⟨f, hp, fun b hb => s3 b ((ho b).2 (Or.inl hb)), fun h' e' f' hp' hn hx => ?_⟩
  have hg : ∀ b, g b → b < h.size := fun b hb => s2.lt ((ho b).2 (Or.inr hb))
  refine ⟨s1.comp hx (fun b hb hf => ?_), _, hk e' h' f' hp' (fun b hb => hx.eq b (hg b hb) (fun hf => hd b hf hb)) ?_, ?_⟩
  · have := s3 b ((ho b).2 (Or.inl hf)); omega
  · intro b k1 k2
    rcases hn b k1 with k | k
    · exact hd b k k2
    · have := hg b k2; omega
  · rintro b (k1 | k1)
    · rcases hn b k1 with k | k
      · exact s3 b ((ho b).2 (Or.inl k))
      · have := s1.size; omega
    · exact s3 b ((ho b).2 (Or.inr k1))
theorem Sat.take {h0 h : H} {A : List Ent} (s : Sat h0 A h) {i : Nat} {e : Ent} (a : At A i e) : ∃ f, e.P h f ∧ ∀ b, f b → h0.size ≤ b := by
  obtain ⟨f, h1, h2, _⟩ := s.takeK a
  exact ⟨f, h1, h2⟩
/-- One thing becomes another one: only its own blocks, and new ones, change. -/
theorem Sat.upd {h0 h h' : H} {A : List Ent} (s : Sat h0 A h) {i : Nat} {e e' : Ent} (a : At A i e)
    (k : ∀ f, e.P h f → ∃ f', e'.P h' f' ∧ (∀ b, f' b → f b ∨ h.size ≤ b) ∧ Ext f h h') : Sat h0 (Vc.put A i e') h' := by
  obtain ⟨f, hp, _, hk⟩ := s.takeK a
  obtain ⟨f', h1, h2, h3⟩ := k f hp
  exact hk h' e' f' h1 h2 h3
/-- The same heap, read otherwise. -/
theorem Sat.as {h0 h : H} {A : List Ent} (s : Sat h0 A h) {i : Nat} {e e' : Ent} (a : At A i e) (k : ∀ f, e.P h f → e'.P h f) : Sat h0 (Vc.put A i e') h :=
  s.upd a fun f hp => ⟨f, k f hp, fun _ => Or.inl, Ext.refl _ _⟩

/-! ### A block; a slice -/
@[irreducible] def blkP (b : Nat) (vs : List Value) (h : H) (f : Nat → Prop) : Prop := Blk h b vs ∧ ∀ x, f x ↔ x = b
def blk (b : Nat) (vs : List Value) : Ent where
  tag := .blk b vs
  P := blkP b vs
  st := by unfold blkP; rintro h h' f ⟨k, e⟩ hs; exact ⟨k.of_eq (hs b ((e b).2 rfl)), e⟩
  lt := by unfold blkP; rintro h f x ⟨k, e⟩ hx; rw [(e x).1 hx]; exact k.lt
theorem blk_P {b : Nat} {vs : List Value} {h : H} {f : Nat → Prop} : (blk b vs).P h f ↔ Blk h b vs ∧ ∀ x, f x ↔ x = b := by
  show blkP b vs h f ↔ _; unfold blkP; rfl
@[irreducible] def slP (p : Option Addr) (l c sz : Nat) (vs : List Value) (h : H) (f : Nat → Prop) : Prop := ∃ bs, OwnS h p l c sz vs bs ∧ ∀ x, f x ↔ x ∈ bs
def slE (p : Option Addr) (l c sz : Nat) (vs : List Value) : Ent where
  tag := .sl p l c sz vs
  P := slP p l c sz vs
  st := by
    unfold slP; rintro h h' f ⟨bs, ⟨h1, h2, h3, h4⟩, e⟩ hs
    refine ⟨bs, ⟨h1, h2, h3, ?_⟩, e⟩
    rcases h4 with h4 | ⟨b, rest, e1, rfl, k, e2⟩
    · exact Or.inl h4
    · exact Or.inr ⟨b, rest, e1, rfl, k.of_eq (hs b ((e b).2 (by simp))), e2⟩
  lt := by unfold slP; rintro h f x ⟨bs, o, e⟩ hx; exact o.lt x ((e x).1 hx)
theorem slE_P {p : Option Addr} {l c sz : Nat} {vs : List Value} {h : H} {f : Nat → Prop} : (slE p l c sz vs).P h f ↔ ∃ bs, OwnS h p l c sz vs bs ∧ ∀ x, f x ↔ x ∈ bs := by
  show slP p l c sz vs h f ↔ _; unfold slP; rfl
@[irreducible] def exP {α : Type} (φ : α → Prop) (F : α → List Ent) (h : H) (f : Nat → Prop) : Prop := ∃ a, φ a ∧ SatX (F a) h f
/-- Things whose places nobody need know. -/
def exE {α : Type} (n : Nat) (φ : α → Prop) (F : α → List Ent) : Ent where
  tag := .of n
  P := exP φ F
  st := by unfold exP; rintro h h' f ⟨a, ha, s⟩ hs; exact ⟨a, ha, s.st hs⟩
  lt := by unfold exP; rintro h f x ⟨a, ha, s⟩ hx; exact s.lt hx
theorem exE_P {α : Type} {n : Nat} {φ : α → Prop} {F : α → List Ent} {h : H} {f : Nat → Prop} : (exE n φ F).P h f ↔ ∃ a, φ a ∧ SatX (F a) h f := by
  show exP φ F h f ↔ _; unfold exP; rfl
theorem Sat.open_ {h0 h : H} {A : List Ent} {α : Type} {n : Nat} {φ : α → Prop} {F : α → List Ent} (s : Sat h0 (exE n φ F :: A) h) : ∃ a, φ a ∧ Sat h0 (F a ++ A) h := by
  obtain ⟨s1, O, ⟨f, g, hp, hg, hd, ho⟩, s3⟩ := s
  obtain ⟨a, ha, s⟩ := exE_P.1 hp
  exact ⟨a, ha, s1, O, SatX.append.2 ⟨f, g, s, hg, hd, ho⟩, s3⟩
theorem Sat.close {h0 h : H} {A : List Ent} {α : Type} {n : Nat} {φ : α → Prop} {F : α → List Ent} (a : α) (ha : φ a) (s : Sat h0 (F a ++ A) h) : Sat h0 (exE n φ F :: A) h := by
  obtain ⟨s1, O, s2, s3⟩ := s
  obtain ⟨f, g, hf, hg, hd, ho⟩ := SatX.append.1 s2
  exact ⟨s1, O, ⟨f, g, exE_P.2 ⟨a, ha, hf⟩, hg, hd, ho⟩, s3⟩
/-- Moved to the front. -/
def del : List Ent → Nat → List Ent
  | [], _ => []
  | _ :: A, 0 => A
  | x :: A, i + 1 => x :: del A i
theorem At.perm {A : List Ent} {i : Nat} {e : Ent} (a : At A i e) : A.Perm (e :: del A i) := by
  induction a with
  | z => exact .refl _
  | s _ ih => exact (ih.cons _).trans (.swap _ _ _)
theorem At.perm_put {A : List Ent} {i : Nat} {e : Ent} (a : At A i e) (x : Ent) : (x :: del A i).Perm (Vc.put A i x) := by
  induction a with
  | z => exact .refl _
  | s _ ih => exact (List.Perm.swap _ _ _).trans (ih.cons _)
theorem Sat.front {h0 h : H} {A : List Ent} (s : Sat h0 A h) {i : Nat} {e : Ent} (a : At A i e) : Sat h0 (e :: del A i) h := s.perm a.perm
theorem Sat.back {h0 h : H} {A : List Ent} {i : Nat} {e x : Ent} (a : At A i e) (s : Sat h0 (x :: del A i) h) : Sat h0 (Vc.put A i x) h := s.perm (a.perm_put x)

/-! ### Steps -/
theorem Sat.new {h0 h h' : H} {A : List Ent} (s : Sat h0 A h) {b : Nat} {vs : List Value} (n : hnew h b vs h') : Sat h0 (blk b vs :: A) h' :=
  s.add n.ext (blk_P.2 ⟨n.blk, fun _ => Iff.rfl⟩) fun x hx => by rw [hx, n.b]; exact Nat.le_refl _
theorem Sat.blkOf {h0 h : H} {A : List Ent} (s : Sat h0 A h) {i b : Nat} {vs : List Value} (a : At A i (blk b vs)) : Blk h b vs := by
  obtain ⟨f, hp, _⟩ := s.take a
  exact (blk_P.1 hp).1
theorem Sat.old {h0 h : H} {A : List Ent} (s : Sat h0 A h) {i b : Nat} {vs : List Value} (a : At A i (blk b vs)) : h0.size ≤ b := by
  obtain ⟨f, hp, hl⟩ := s.take a
  exact hl b (((blk_P.1 hp).2 b).2 rfl)
theorem Sat.ld {h0 h : H} {A : List Ent} (s : Sat h0 A h) {i b : Nat} {vs : List Value} (a : At A i (blk b vs)) {o : Nat} {v : Value} (e : vs[o]? = some v) : hc h ⟨b, o, none⟩ = some v := by
  rw [(s.blkOf a).hc, e]
theorem Sat.cs1 {h0 h : H} {A : List Ent} (s : Sat h0 A h) {i b : Nat} {vs : List Value} (a : At A i (blk b vs)) {o : Nat} {xs : List Value} (e : ∀ i, i < xs.length → vs[o + i]? = xs[i]?) : hcs h ⟨b, o, none⟩ xs := (s.blkOf a).hcs e
theorem Sat.cs {h0 h : H} {A : List Ent} (s : Sat h0 A h) {i b : Nat} {vs : List Value} (a : At A i (blk b vs)) {o : Nat} {xs : List Value} (e : (vs.drop o).take xs.length = xs) : hcs h ⟨b, o, none⟩ xs := by
  refine s.cs1 a fun i hi => ?_
  have : ((vs.drop o).take xs.length)[i]? = xs[i]? := by rw [e]
  rw [List.getElem?_take_of_lt hi, List.getElem?_drop] at this
  exact this
theorem Sat.row {h0 h : H} {A : List Ent} (s : Sat h0 A h) {i b : Nat} {vs : List Value} (a : At A i (blk b vs)) {o : Nat} {k : IntKind} {ns : List Int} (e : ∀ i, i < ns.length → vs[o + i]? = ns[i]?.map (Value.int k)) : hrow h ⟨b, o, none⟩ k ns := (s.blkOf a).hrow e
theorem Sat.can {h0 h : H} {A : List Ent} (s : Sat h0 A h) {i b : Nat} {vs : List Value} (a : At A i (blk b vs)) {o n : Nat} (e : o + n ≤ vs.length) : hcan h ⟨b, o, none⟩ n := (s.blkOf a).can e
theorem Sat.wr {h0 h h' : H} {A : List Ent} (s : Sat h0 A h) {i b : Nat} {vs : List Value} (a : At A i (blk b vs)) {o : Nat} {xs : List Value} (e : h' = hwr h ⟨b, o, none⟩ xs) : Sat h0 (Vc.put A i (blk b (splice vs o xs))) h' := by
  subst e
  refine s.upd a fun f hp => ?_
  obtain ⟨k, hf⟩ := blk_P.1 hp
  refine ⟨f, blk_P.2 ⟨k.wr o xs, hf⟩, fun _ => Or.inl, (Ext.wr h b o xs).mono fun x _ hx => (hf x).2 hx⟩
theorem Sat.sv {h0 h : H} {A : List Ent} (s : Sat h0 A h) {i : Nat} {p : Option Addr} {l c sz : Nat} {vs : List Value} (a : At A i (slE p l c sz vs)) : hsv h p sz l vs := by
  obtain ⟨f, hp, _⟩ := s.take a
  obtain ⟨bs, o, _⟩ := slE_P.1 hp
  exact o.hsv
theorem Sat.base {h0 h : H} {A : List Ent} (s : Sat h0 A h) {p : Option Addr} {sz l : Nat} {vs : List Value} (e : hsv h0 p sz l vs) : hsv h p sz l vs := hsv_ext s.1 e fun _ _ x => x
theorem Sat.own {h0 h h' : H} {A : List Ent} (s : Sat h0 A h) (x : Ext none_ h h') {p : Option Addr} {l c sz : Nat} {vs : List Value} {bs : List Nat} (o : OwnS h' p l c sz vs bs) (n : newB h bs) : Sat h0 (slE p l c sz vs :: A) h' :=
  s.add x (f := fun x => x ∈ bs) (slE_P.2 ⟨bs, o, fun _ => Iff.rfl⟩) n
/-- Cells are appended to a slice that is owned. -/
theorem Sat.app {h0 h : H} {A : List Ent} (s : Sat h0 A h) {i : Nat} {p : Option Addr} {l c n sz : Nat} {old vs z : List Value} {B : Nat} (a : At A i (slE p l c sz old)) {K : Option Addr → Nat → Nat → H → Prop}
    (hl : vs.length = n * sz) (hz : z.length = sz) (hv : ∀ v, v ∈ vs → v.oneCell' = true) (hb : (l + n) * B ≤ 2 ^ 47)
    (k : ∀ p' c' h', Sat h0 (Vc.put A i (slE p' (l + n) c' sz (old ++ vs))) h' → K p' (l + n) c' h') : pApp h sz z B p l c n vs K := by
  obtain ⟨f, hp, _, hk⟩ := s.takeK a
  obtain ⟨bs, o, hf⟩ := slE_P.1 hp
  refine pApp_own o hl hz hv hb fun p' c' h' bs' hx ho hn => k _ _ _ ?_
  refine hk h' _ (fun x => x ∈ bs') (slE_P.2 ⟨bs', ho, fun _ => Iff.rfl⟩) (fun b hb => ?_) (hx.mono fun x _ hx => (hf x).2 hx)
  rcases hn b hb with h1 | h1
  · exact Or.inl ((hf b).2 h1)
  · exact Or.inr h1
theorem At.app {A B : List Ent} {i : Nat} {e : Ent} (a : At A i e) : At (A ++ B) i e := by
  induction a with
  | z => exact .z
  | s _ ih => exact .s ih
theorem At.get {A : List Ent} {i : Nat} {e : Ent} (h : A[i]? = some e) : At A i e := by
  induction A generalizing i with
  | nil => simp at h
  | cons x A ih => cases i with
    | zero => simp at h; subst h; exact .z
    | succ i => exact .s (ih (by simpa using h))
theorem At.mem {A : List Ent} {e : Ent} (h : e ∈ A) : ∃ i, At A i e := by
  obtain ⟨i, hi⟩ := List.mem_iff_getElem?.1 h
  exact ⟨i, At.get hi⟩

end Go.Vc
end

/- Slices of slices of bytes. Own work; generic over any program. -/
section
set_option linter.unusedVariables false
namespace Go.Vc

def bools (bs : List Bool) : List Value := bs.map Value.bool
@[simp] theorem bools_length (bs : List Bool) : (bools bs).length = bs.length := by simp [bools]
@[simp] theorem bools_get (bs : List Bool) (i : Nat) : (bools bs)[i]? = bs[i]?.map Value.bool := by simp [bools]
abbrev Sl := Option Addr × Nat × Nat
abbrev Sl.v (s : Sl) : Value := .slice s.1 s.2.1 s.2.2
abbrev sE (s : Sl) (sz : Nat) (vs : List Value) : Ent := slE s.1 s.2.1 s.2.2 sz vs

/-- A row's slice, and its bytes. -/
structure Pg where
  sl : Sl
  bytes : List Int
def Pg.rd (h : H) (sz : Nat) (x : Pg) : Prop := hsv h x.sl.1 sz x.sl.2.1 (ints .u8 x.bytes)
def pgSl (l : List Pg) : List Value := l.map fun x => x.sl.v
def pgBytes (l : List Pg) : List (List Int) := l.map Pg.bytes
def rowsE (sz : Nat) (l : List Pg) : List Ent := l.map fun x => sE x.sl sz (ints .u8 x.bytes)
@[simp] theorem pgSl_length (l : List Pg) : (pgSl l).length = l.length := by simp [pgSl]
@[simp] theorem pgBytes_length (l : List Pg) : (pgBytes l).length = l.length := by simp [pgBytes]

/-- A slice of slices of bytes (sz a element of the inner ones), read only. -/
def RdM (h : H) (sz : Nat) (a : Sl) (rows : List (List Int)) : Prop := ∃ pgs, rows = pgBytes pgs ∧ hsv h a.1 1 a.2.1 (pgSl pgs) ∧ ∀ x, x ∈ pgs → x.rd h sz
/-- A slice of slices of bytes that is owned. -/
def matL (sz : Nat) (a : Sl) (pgs : List Pg) : List Ent := sE a 1 (pgSl pgs) :: rowsE sz pgs
def matE (sz : Nat) (a : Sl) (rows : List (List Int)) : Ent := exE 1 (fun pgs => rows = pgBytes pgs) (matL sz a)
theorem RdM.ext {h h' : H} (x : Ext none_ h h') {sz : Nat} {a : Sl} {rows : List (List Int)} (r : RdM h sz a rows) : RdM h' sz a rows := by
  obtain ⟨pgs, h1, h2, h3⟩ := r
  exact ⟨pgs, h1, hsv_ext x h2 (fun _ _ y => y), fun y hy => hsv_ext x (h3 y hy) (fun _ _ y => y)⟩
theorem RdM.len {h : H} {sz : Nat} {a : Sl} {rows : List (List Int)} (r : RdM h sz a rows) : rows.length = a.2.1 := by
  obtain ⟨pgs, rfl, h2, _⟩ := r
  have := h2.1; simpa using this
/-- The slice of a row, and what it holds. -/
theorem RdM.at {h : H} {sz : Nat} {a : Sl} {rows : List (List Int)} (r : RdM h sz a rows) {j : Nat} (hj : j < rows.length) :
    ∃ q x, a.1 = some q ∧ hc h (q.add (j * 1)) = some (Sl.v x) ∧ hsv h x.1 sz x.2.1 (ints .u8 rows[j]) := by
  obtain ⟨pgs, rfl, h2, h3⟩ := r
  have hj' : j < pgs.length := by simpa using hj
  have e : (pgSl pgs)[j]? = some (pgs[j].sl.v) := by simp [pgSl, hj']
  obtain ⟨q, hq, g⟩ := hsv_get h2 e
  refine ⟨q, pgs[j].sl, hq, by simpa using g, ?_⟩
  have := h3 pgs[j] (List.getElem_mem hj')
  simpa [Pg.rd, pgBytes] using this
theorem Sat.rdM {h0 h : H} {A : List Ent} (hs : Sat h0 A h) {i sz : Nat} {a : Sl} {rows : List (List Int)} (m : At A i (matE sz a rows)) : RdM h sz a rows := by
  obtain ⟨pgs, he, hs⟩ := (hs.front m).open_
  refine ⟨pgs, he, hs.sv (.z), ?_⟩
  intro x hx
  obtain ⟨j, hj⟩ := At.mem (A := rowsE sz pgs) (e := sE x.sl sz (ints .u8 x.bytes)) (List.mem_map_of_mem hx)
  exact hs.sv (.s hj.app)
/-- A row is appended. -/
theorem Sat.app_row {h0 h : H} {A : List Ent} {i sz : Nat} {p : Option Addr} {l c : Nat} {r : Sl} {rows : List (List Int)} {bs : List Int} {K : Option Addr → Nat → Nat → H → Prop}
    (hs : Sat h0 (sE r sz (ints .u8 bs) :: A) h) (m : At A i (matE sz (p, l, c) rows)) (hb : (l + 1) * 24 ≤ 2 ^ 47)
    (k : ∀ p' c' h', Sat h0 (Vc.put A i (matE sz (p', l + 1, c') (rows ++ [bs]))) h' → K p' (l + 1) c' h') : pApp h 1 [.slice none 0 0] 24 p l c 1 [r.v] K := by
  obtain ⟨pgs, he, hs⟩ := (hs.front (m.s)).open_
  have hs : Sat h0 (sE (p, l, c) 1 (pgSl pgs) :: (rowsE sz pgs ++ (sE r sz (ints .u8 bs) :: del A i))) h := hs
  refine hs.app (.z) (by simp) rfl (by intro v hv; simp at hv; subst hv; rfl) hb ?_
  intro p' c' h' hs
  refine k p' c' h' (Sat.back m ?_)
  refine Sat.close (pgs ++ [⟨r, bs⟩]) (by simp [he, pgBytes]) ?_
  refine hs.perm ?_
  simp only [Vc.put, matL, rowsE, pgSl, List.map_append, List.map_cons, List.map_nil, List.cons_append, List.append_assoc, List.nil_append]
  exact .refl _
theorem Sat.mat_nil {h0 h : H} {A : List Ent} (hs : Sat h0 A h) (sz : Nat) (p : Option Addr) : Sat h0 (matE sz (p, 0, 0) [] :: A) h := by
  refine Sat.close [] rfl ?_
  refine hs.own (Ext.refl _ _) (bs := []) (OwnS.nil _ _ _) (by intro b hb; simp at hb)
theorem Sat.sl_nil {h0 h : H} {A : List Ent} (hs : Sat h0 A h) (sz : Nat) (p : Option Addr) : Sat h0 (sE (p, 0, 0) sz [] :: A) h :=
  hs.own (Ext.refl _ _) (bs := []) (OwnS.nil _ _ _) (by intro b hb; simp at hb)
/-- A block, held for a slice. -/
theorem Sat.as_sl {h0 h : H} {A : List Ent} (hs : Sat h0 A h) {i b l sz : Nat} {vs : List Value} (m : At A i (blk b vs)) (hl : vs.length = l * sz) (hv : ∀ v, v ∈ vs → v.oneCell' = true) :
    Sat h0 (Vc.put A i (slE (some ⟨b, 0, none⟩) l l sz vs)) h := by
  refine hs.as m fun f hp => ?_
  obtain ⟨k, hf⟩ := blk_P.1 hp
  refine slE_P.2 ⟨[b], ⟨hl, Nat.le_refl _, hv, Or.inr ⟨b, [], rfl, rfl, by simpa using k, by simp⟩⟩, fun x => ?_⟩
  rw [hf]; simp
theorem Sat.bv {h0 h : H} {A : List Ent} (hs : Sat h0 A h) {i b l sz : Nat} {vs : List Value} (m : At A i (blk b vs)) (hl : vs.length = l * sz) (hv : ∀ v, v ∈ vs → v.oneCell' = true) :
    hsv h (some ⟨b, 0, none⟩) sz l vs := (hs.as_sl m hl hv).sv (m.put _)
theorem ints_one (k : IntKind) (ns : List Int) : ∀ v, v ∈ ints k ns → v.oneCell' = true := by
  intro v hv
  simp only [ints, List.mem_map] at hv
  obtain ⟨n, _, rfl⟩ := hv; rfl
theorem bools_one (ns : List Bool) : ∀ v, v ∈ bools ns → v.oneCell' = true := by
  intro v hv
  simp only [bools, List.mem_map] at hv
  obtain ⟨n, _, rfl⟩ := hv; rfl
theorem Sat.ofBlk {h0 h h' : H} {A : List Ent} (hs : Sat h0 A h) (x : Ext none_ h h') {b : Nat} {vs : List Value} (k : Blk h' b vs) (n : h.size ≤ b) : Sat h0 (blk b vs :: A) h' :=
  hs.add x (blk_P.2 ⟨k, fun _ => Iff.rfl⟩) fun y hy => by rw [hy]; exact n

/-! ### Slices whose first cell is known -/
theorem Sat.sl_some {h0 h : H} {A : List Ent} (hs : Sat h0 A h) {i : Nat} {p : Option Addr} {l c sz : Nat} {vs : List Value} (m : At A i (slE p l c sz vs)) (hl : 0 < l) : ∃ b, p = some ⟨b, 0, none⟩ := by
  obtain ⟨f, hp, _⟩ := hs.take m
  obtain ⟨bs, ⟨_, _, _, h4⟩, _⟩ := slE_P.1 hp
  rcases h4 with ⟨h1, _, _⟩ | ⟨b, _, h1, _⟩
  · omega
  · exact ⟨b, h1⟩
theorem Sat.sl_len {h0 h : H} {A : List Ent} (hs : Sat h0 A h) {i : Nat} {p : Option Addr} {l c sz : Nat} {vs : List Value} (m : At A i (slE p l c sz vs)) : vs.length = l * sz := (hs.sv m).1
theorem Sat.sld {h0 h : H} {A : List Ent} (hs : Sat h0 A h) {i b l c sz : Nat} {vs : List Value} (m : At A i (slE (some ⟨b, 0, none⟩) l c sz vs)) {o : Nat} {v : Value} (e : vs[o]? = some v) : hc h ⟨b, o, none⟩ = some v := by
  obtain ⟨q, hq, g⟩ := hsv_get (hs.sv m) e
  injection hq with hq; subst hq
  rwa [add_mk, Nat.zero_add] at g
theorem OwnS.blk' {h : H} {b l c sz : Nat} {vs : List Value} {bs : List Nat} (o : OwnS h (some ⟨b, 0, none⟩) l c sz vs bs) (hv : 0 < l) : bs = [b] ∧ ∃ rest, Blk h b (vs ++ rest) ∧ (c - l) * sz ≤ rest.length := by
  obtain ⟨h1, _, _, h4⟩ := o
  rcases h4 with ⟨r, _, _⟩ | ⟨b', rest, e, h5, k, h6⟩
  · omega
  · injection e with e; injection e with e; subst e
    exact ⟨h5, rest, k, h6⟩
theorem Sat.scan {h0 h : H} {A : List Ent} (hs : Sat h0 A h) {i b l c sz : Nat} {vs : List Value} (m : At A i (slE (some ⟨b, 0, none⟩) l c sz vs)) {o n : Nat} (hl : 0 < l) (e : o + n ≤ vs.length) : hcan h ⟨b, o, none⟩ n := by
  obtain ⟨f, hp, _⟩ := hs.take m
  obtain ⟨bs, o', _⟩ := slE_P.1 hp
  obtain ⟨_, rest, k, _⟩ := o'.blk' hl
  exact k.can (by simp; omega)
theorem splice_left (vs rest : List Value) (o : Nat) (xs : List Value) (h : o + xs.length ≤ vs.length) : splice (vs ++ rest) o xs = splice vs o xs ++ rest := by
  induction xs generalizing vs o with
  | nil => rfl
  | cons x r ih =>
    simp only [List.length_cons] at h
    rw [splice_cons, splice_cons, List.set_append_left _ _ (by omega), ih _ _ (by simp; omega)]
theorem splice_mem {vs xs : List Value} {o : Nat} {v : Value} (h : v ∈ splice vs o xs) : v ∈ vs ∨ v ∈ xs := by
  induction xs generalizing vs o with
  | nil => exact Or.inl h
  | cons x r ih =>
    rw [splice_cons] at h
    rcases ih h with h | h
    · rcases List.mem_or_eq_of_mem_set h with h | h
      · exact Or.inl h
      · exact Or.inr (by simp [h])
    · exact Or.inr (by simp [h])
theorem Sat.swr {h0 h h' : H} {A : List Ent} (hs : Sat h0 A h) {i b l c sz : Nat} {vs : List Value} (m : At A i (slE (some ⟨b, 0, none⟩) l c sz vs)) {o : Nat} {xs : List Value} (e : h' = hwr h ⟨b, o, none⟩ xs) (hl : 0 < l) (hx : o + xs.length ≤ vs.length)
    (h1 : ∀ v, v ∈ xs → v.oneCell' = true) : Sat h0 (Vc.put A i (slE (some ⟨b, 0, none⟩) l c sz (splice vs o xs))) h' := by
  subst e
  refine hs.upd m fun f hp => ?_
  obtain ⟨bs, o', hf⟩ := slE_P.1 hp
  obtain ⟨e, rest, k, hr⟩ := o'.blk' hl
  subst e
  refine ⟨f, slE_P.2 ⟨[b], ⟨by rw [splice_length]; exact o'.1, o'.2.1, ?_, Or.inr ⟨b, rest, rfl, rfl, ?_, hr⟩⟩, hf⟩, fun _ => Or.inl, (Ext.wr h b o xs).mono fun x _ hx => (hf x).2 (by simp [hx])⟩
  · intro v hv
    rcases splice_mem hv with hv | hv
    · exact o'.2.2.1 v hv
    · exact h1 v hv
  · rw [← splice_left _ _ _ _ hx]; exact k.wr o xs

/-! ### Whole blocks -/
theorem Sat.wra {h0 h h' : H} {A : List Ent} (s : Sat h0 A h) {i b : Nat} {vs xs : List Value} (a : At A i (blk b vs)) (e : h' = hwr h ⟨b, 0, none⟩ xs) (hl : xs.length = vs.length) : Sat h0 (Vc.put A i (blk b xs)) h' := by
  have := s.wr a e
  rwa [splice_all _ _ hl] at this
theorem Sat.row0 {h0 h : H} {A : List Ent} (s : Sat h0 A h) {i b : Nat} {k : IntKind} {ns : List Int} (a : At A i (blk b (ints k ns))) : hrow h ⟨b, 0, none⟩ k ns :=
  s.row a fun i _ => by rw [Nat.zero_add, ints_get]

/-! ### Cells of a slice of slices -/
def cellAt (row : List Int) (k : Nat) : List Int := (row.drop (k * 32)).take 32
theorem cellAt_length {row : List Int} {k : Nat} (h : (k + 1) * 32 ≤ row.length) : (cellAt row k).length = 32 := by simp [cellAt]; omega
theorem cellAt_get (row : List Int) (k i : Nat) (hi : i < 32) : (cellAt row k)[i]? = row[k * 32 + i]? := by
  simp only [cellAt]
  rw [List.getElem?_take_of_lt hi, List.getElem?_drop]
/-- A cell is read. -/
theorem RdM.cell {h : H} {a : Sl} {rows : List (List Int)} (r : RdM h 32 a rows) {j k : Nat} (hj : j < rows.length) (hk : (k + 1) * 32 ≤ rows[j].length) :
    ∃ q x q', a.1 = some q ∧ hc h (q.add (j * 1)) = some (Sl.v x) ∧ x.2.1 * 32 = rows[j].length ∧ x.1 = some q' ∧ hrow h (q'.add (k * 32)) .u8 (cellAt rows[j] k) := by
  obtain ⟨q, x, h1, h2, h3⟩ := r.at hj
  have hl : x.2.1 * 32 = rows[j].length := by have := h3.1; simp at this; omega
  obtain ⟨e1, e2, e3⟩ := h3
  rcases e3 with e3 | ⟨q', hq, g⟩
  · have : rows[j].length = 0 := by have := congrArg List.length e3; simpa using this
    omega
  · refine ⟨q, x, q', h1, h2, hl, hq, ?_⟩
    intro i v hv
    have hi : i < 32 := by
      have := (List.getElem?_eq_some_iff.1 hv).1
      rw [ints_length, cellAt_length hk] at this; exact this
    rw [ints_get, cellAt_get _ _ _ hi] at hv
    have : (q'.add (k * 32)).add i = q'.add (k * 32 + i) := by
      cases q' with | mk b o s => unfold Addr.add; by_cases h1 : k * 32 = 0 <;> by_cases h2 : i = 0 <;> simp [h1, h2, Nat.add_assoc]
    rw [this]
    exact g _ _ (by rw [ints_get]; exact hv)

def rowSet (row : List Int) (k : Nat) (c : List Int) : List Int := row.take (k * 32) ++ c ++ row.drop (k * 32 + 32)
theorem rowSet_length {row c : List Int} {k : Nat} (hk : (k + 1) * 32 ≤ row.length) (hc : c.length = 32) : (rowSet row k c).length = row.length := by
  simp [rowSet, hc]; omega
theorem splice_rowSet {row c : List Int} {k : Nat} (hk : (k + 1) * 32 ≤ row.length) (hc : c.length = 32) : splice (ints .u8 row) (k * 32) (ints .u8 c) = ints .u8 (rowSet row k c) := by
  have e : row = row.take (k * 32) ++ (row.drop (k * 32)).take 32 ++ row.drop (k * 32 + 32) := by
    rw [List.append_assoc, ← List.drop_drop, List.take_append_drop, List.take_append_drop]
  have hl : (ints .u8 (row.take (k * 32))).length = k * 32 := by simp; omega
  have key := splice_append (ints .u8 (row.take (k * 32))) (ints .u8 ((row.drop (k * 32)).take 32)) (ints .u8 (row.drop (k * 32 + 32))) (ints .u8 c) (by simp [hc]; omega)
  rw [hl, ← ints_append, ← ints_append, ← e] at key
  rw [key]
  simp [rowSet]

/-! ### A row taken out of a slice of slices -/
theorem rowsE_put (sz : Nat) (pgs : List Pg) (j : Nat) (x : Pg) : put (rowsE sz pgs) j (sE x.sl sz (ints .u8 x.bytes)) = rowsE sz (pgs.set j x) := by
  induction pgs generalizing j with
  | nil => rfl
  | cons y r ih => cases j with
    | zero => rfl
    | succ j => simp only [rowsE, List.map_cons, put_succ, List.set_cons_succ]; congr 1; exact ih j
theorem rowsE_at (sz : Nat) (pgs : List Pg) (j : Nat) (hj : j < pgs.length) : At (rowsE sz pgs) j (sE pgs[j].sl sz (ints .u8 pgs[j].bytes)) := At.get (by simp [rowsE, hj])
theorem Sat.row_take {h0 h : H} {A : List Ent} {sz : Nat} {a : Sl} {rows : List (List Int)} (hs : Sat h0 (matE sz a rows :: A) h) {j : Nat} (hj : j < rows.length) :
    ∃ (x : Sl) (hd : List Value) (R : List Ent), hd[j]? = some x.v ∧ Sat h0 (sE x sz (ints .u8 rows[j]) :: sE a 1 hd :: (A ++ R)) h ∧
      ∀ h' bs B, Sat h0 (sE x sz (ints .u8 bs) :: sE a 1 hd :: (B ++ R)) h' → Sat h0 (matE sz a (rows.set j bs) :: B) h' := by
  obtain ⟨pgs, he, hs⟩ := hs.open_
  have hj' : j < pgs.length := by rw [he] at hj; simpa using hj
  have m := rowsE_at sz pgs j hj'
  refine ⟨pgs[j].sl, pgSl pgs, del (rowsE sz pgs) j, by simp [pgSl, hj'], ?_, ?_⟩
  · have e : pgs[j].bytes = rows[j] := by subst he; simp [pgBytes]
    rw [← e]
    refine hs.perm ?_
    have hp := (m.perm.append_right A).cons (sE a 1 (pgSl pgs))
    exact hp.trans ((List.Perm.swap _ _ _).trans ((List.perm_append_comm.cons _).cons _))
  · intro h' bs B hs'
    refine Sat.close (pgs.set j ⟨pgs[j].sl, bs⟩) ?_ ?_
    · subst he; simp [pgBytes, List.map_set]
    · have e1 : pgSl (pgs.set j ⟨pgs[j].sl, bs⟩) = pgSl pgs := by
        apply List.ext_getElem?; intro k
        simp only [pgSl, List.getElem?_map, List.getElem?_set]
        split
        · rename_i e; subst e; simp [hj']
        · rfl
      refine hs'.perm ?_
      simp only [matL, e1]
      rw [← rowsE_put sz pgs j ⟨pgs[j].sl, bs⟩]
      refine (List.Perm.swap _ _ _).trans ?_
      refine List.Perm.cons _ ?_
      exact ((List.perm_append_comm.cons _)).trans ((m.perm_put _).append_right B)
end Go.Vc
end

/- Arguments that are read as data: what their cells are. Own work; generic over any program. -/
section
set_option maxRecDepth 100000
set_option linter.unusedVariables false
namespace Go.Vc

/-- The cells read as a datum of a type, no piece of which is too great. -/
def Rdt {D : Type} (enc : TypeId × Value → D) (P : Program) (W : World) (t : TypeId) (cs : List Value) : Prop :=
  ∃ fuel x, DataW.trod enc P W 0 (fun _ => true) true fuel t cs = some x ∧ ∀ n, n ∈ DataW.weights P t x.1 → n ≤ reachBytes

inductive XSh where
  | int (k : IntKind) | bool | str | slc (e : TypeId) | row (k : IntKind) (n : Nat)
def XSh.size : XSh → Nat
  | .row _ n => n
  | _ => 1
def xSize : List XSh → Nat
  | [] => 0
  | s :: r => s.size + xSize r

/-- The fields of a struct, one behind the other. -/
def xFields (sh : TypeId → Option (List XSh)) : Nat → List Field → Option (List XSh)
  | _, [] => some []
  | off, f :: fs => match Nat.beq f.offset off, sh f.type with
    | true, some s => (xFields sh (off + xSize s) fs).map (s ++ ·)
    | _, _ => none
def xsh (P : Program) : Nat → TypeId → Option (List XSh)
  | 0, _ => none
  | d + 1, t => match P.underlying t with
    | some (.int k) => some [.int k]
    | some .bool => some [.bool]
    | some .string => some [.str]
    | some (.slice e) => some [.slc e]
    | some (.array n e) => match P.underlying e, Nat.beq (P.cellsOf e) 1, Nat.beq (P.cellsOf t) n with
      | some (.int k), true, true => some [.row k n]
      | _, _, _ => none
    | some (.struct fs) => match xFields (fun u => match xsh P d u with | some s => (match Nat.beq (P.cellsOf u) (xSize s) with | true => some s | false => none) | none => none) 0 fs.toList with
      | some s => match Nat.beq (P.cellsOf t) (xSize s) with | true => some s | false => none
      | none => none
    | _ => none

/-- A slice of so many elements of a type. -/
def Sli {D : Type} (enc : TypeId × Value → D) (P : Program) (W : World) (e : TypeId) (p : Option Addr) (l c : Nat) : Prop :=
  l ≤ c ∧ c * P.bytesOf e ≤ reachBytes ∧ (p = none → l = 0 ∧ c = 0) ∧
    ∀ i, i < l → ∃ a es, p = some a ∧ es.length = P.cellsOf e ∧ hcs W.heap (a.add (i * P.cellsOf e)) es ∧ Rdt enc P W e es
def has (k : IntKind) (n : Int) : Prop := k.min ≤ n ∧ n ≤ k.max
theorem has_u8 {n : Int} (h : has .u8 n) : 0 ≤ n ∧ n < 256 := by
  have h1 : IntKind.u8.min = 0 := rfl
  have h2 : IntKind.u8.max = 255 := by decide
  unfold has at h; omega
theorem has_i64 {n : Int} (h : has .i64 n) : -(2 ^ 63) ≤ n ∧ n < 2 ^ 63 := by
  have h1 : IntKind.i64.min = -(2 ^ 63) := by decide
  have h2 : IntKind.i64.max = 2 ^ 63 - 1 := by decide
  unfold has at h; omega
def XM {D : Type} (enc : TypeId × Value → D) (P : Program) (W : World) : List XSh → List Value → Prop
  | [], cs => cs = []
  | .int k :: r, cs => ∃ n rest, cs = .int k n :: rest ∧ has k n ∧ XM enc P W r rest
  | .bool :: r, cs => ∃ b rest, cs = .bool b :: rest ∧ XM enc P W r rest
  | .str :: r, cs => ∃ s rest, cs = .string s :: rest ∧ s.size ≤ reachBytes ∧ XM enc P W r rest
  | .slc e :: r, cs => ∃ p l c rest, cs = .slice p l c :: rest ∧ Sli enc P W e p l c ∧ XM enc P W r rest
  | .row k n :: r, cs => ∃ ns rest, cs = ints k ns ++ rest ∧ ns.length = n ∧ (∀ x, x ∈ ns → has k x) ∧ XM enc P W r rest

section
variable {D : Type} {enc : TypeId × Value → D} {P : Program} {W : World}
theorem XM.append : ∀ {s1 s2 : List XSh} {c1 c2 : List Value}, XM enc P W s1 c1 → XM enc P W s2 c2 → XM enc P W (s1 ++ s2) (c1 ++ c2)
  | [], s2, c1, c2, h1, h2 => by simp only [XM] at h1; subst h1; exact h2
  | .int k :: r, s2, c1, c2, h1, h2 => by obtain ⟨n, rest, rfl, hn, h⟩ := h1; exact ⟨n, rest ++ c2, rfl, hn, XM.append h h2⟩
  | .bool :: r, s2, c1, c2, h1, h2 => by obtain ⟨n, rest, rfl, h⟩ := h1; exact ⟨n, rest ++ c2, rfl, XM.append h h2⟩
  | .str :: r, s2, c1, c2, h1, h2 => by obtain ⟨n, rest, rfl, hn, h⟩ := h1; exact ⟨n, rest ++ c2, rfl, hn, XM.append h h2⟩
  | .slc e :: r, s2, c1, c2, h1, h2 => by obtain ⟨p, l, c, rest, rfl, hn, h⟩ := h1; exact ⟨p, l, c, rest ++ c2, rfl, hn, XM.append h h2⟩
  | .row k n :: r, s2, c1, c2, h1, h2 => by obtain ⟨ns, rest, rfl, hn, hh, h⟩ := h1; exact ⟨ns, rest ++ c2, by simp, hn, hh, XM.append h h2⟩
theorem XM.len : ∀ {s : List XSh} {c : List Value}, XM enc P W s c → c.length = xSize s
  | [], c, h => by simp only [XM] at h; subst h; rfl
  | .int k :: r, c, h => by obtain ⟨n, rest, rfl, _, h⟩ := h; simp [xSize, XSh.size, XM.len h]; omega
  | .bool :: r, c, h => by obtain ⟨n, rest, rfl, h⟩ := h; simp [xSize, XSh.size, XM.len h]; omega
  | .str :: r, c, h => by obtain ⟨n, rest, rfl, _, h⟩ := h; simp [xSize, XSh.size, XM.len h]; omega
  | .slc e :: r, c, h => by obtain ⟨p, l, c, rest, rfl, _, h⟩ := h; simp [xSize, XSh.size, XM.len h]; omega
  | .row k n :: r, c, h => by obtain ⟨ns, rest, rfl, hn, _, h⟩ := h; simp [xSize, XSh.size, XM.len h, hn]

theorem wf_has {k : IntKind} {n : Int} (h : (Lit.int k n).wf = true) : has k n := by
  simp only [Lit.wf, Bool.and_eq_true, decide_eq_true_eq] at h
  exact h
theorem cells_hcs {a : Addr} {n : Nat} {es : List Value} (h : W.cells? 0 a n = some es) : es.length = n ∧ hcs W.heap a es := by
  simp only [World.cells?, Nat.zero_le, if_true] at h
  have hl : es.length = n := by simpa using mapM_some_length h
  refine ⟨hl, fun i v hv => ?_⟩
  have hi : i < n := by have := (List.getElem?_eq_some_iff.1 hv).1; omega
  have := mapM_some_get h i i (by simp [hi])
  rw [hv, cell_hc] at this
  exact this
theorem weights_mem_all {e : TypeId} : ∀ {ds : List (DataW D)} {d : DataW D}, d ∈ ds → ∀ n, n ∈ DataW.weights P e d → n ∈ DataW.weightsAll P e ds
  | d0 :: ds, d, hd, n, hn => by
    simp only [DataW.weightsAll, List.mem_append]
    rcases List.mem_cons.1 hd with rfl | hd
    · exact Or.inl hn
    · exact Or.inr (weights_mem_all hd n hn)

theorem Rdt.slice {t e : TypeId} {cs : List Value} (u : P.underlying t = some (.slice e)) (h : Rdt enc P W t cs) : ∃ p l c, cs = [.slice p l c] ∧ Sli enc P W e p l c := by
  obtain ⟨fuel, x, h, hw⟩ := h
  rcases DataW.trod_slice u h with ⟨rfl, rfl⟩ | ⟨a, len, cap, elems, rest, n, rfl, rfl, rfl, _, hl, hc, he, h1, h2, _⟩
  · exact ⟨none, 0, 0, rfl, Nat.le_refl _, by simp, fun _ => ⟨rfl, rfl⟩, fun i hi => by omega⟩
  · refine ⟨some a, len, cap, rfl, hl, ?_, by simp, ?_⟩
    · obtain ⟨h3, _⟩ := h2 rfl
      have := hw ((elems.length + rest.length) * P.bytesOf e) (by simp [DataW.weights, u])
      rw [he, h3] at this
      rwa [show len + (cap - len) = cap by omega] at this
    · intro i hi
      have h4 := h1 i hi
      have hei : i < elems.length := by omega
      rw [List.getElem?_eq_getElem hei] at h4
      obtain ⟨es, h5, h6⟩ := Option.bind_eq_some_iff.1 h4
      obtain ⟨h7, h8⟩ := cells_hcs h5
      refine ⟨a, es, rfl, h7, h8, n, elems[i], h6, fun m hm => hw m ?_⟩
      simp only [DataW.weights, u, List.mem_cons, List.mem_append]
      exact Or.inr (Or.inl (weights_mem_all (List.mem_map_of_mem (List.getElem_mem hei)) m hm))
theorem array_ints {t e : TypeId} {n : Nat} {k : IntKind} {cs : List Value} (u : P.underlying t = some (.array n e)) (ue : P.underlying e = some (.int k)) (h1 : P.cellsOf e = 1) (h2 : P.cellsOf t = n) (h : Rdt enc P W t cs) :
    ∃ ns : List Int, cs = ints k ns ∧ ns.length = n ∧ ∀ x, x ∈ ns → has k x := by
  obtain ⟨fuel, x, h, _⟩ := h
  cases fuel with
  | zero => simp [DataW.trod] at h
  | succ f =>
    have key : cs.length = n ∧ ∀ i, i < n → ∃ m, cs[i]? = some (.int k m) ∧ has k m := by
      unfold DataW.trod at h
      rw [u] at h
      have h : (if cs.length = P.cellsOf t then ((List.range n).mapM fun i => DataW.trod enc P W 0 (fun _ => true) true f e ((cs.drop (i * P.cellsOf e)).take (P.cellsOf e))).map fun xs => (DataW.agg (xs.map (·.1)), xs.flatMap (·.2)) else none) = some x := by
        split at h <;> simp_all
      split at h
      · rename_i hl
        obtain ⟨xs, hm, _⟩ := Option.map_eq_some_iff.1 h
        refine ⟨by omega, fun i hi => ?_⟩
        have hg := mapM_some_get hm i i (by simp [hi])
        have hxl : xs.length = n := by simpa using mapM_some_length hm
        rw [List.getElem?_eq_getElem (show i < xs.length by omega)] at hg
        obtain ⟨m, hm1, _, hm2⟩ := DataW.trod_int ue hg
        rw [h1, Nat.mul_one] at hm1
        refine ⟨m, ?_, wf_has hm2⟩
        have : ((cs.drop i).take 1)[0]? = some (.int k m) := by rw [hm1]; rfl
        rw [List.getElem?_take_of_lt (by omega), List.getElem?_drop] at this
        simpa using this
      · cases h
    obtain ⟨hl, hc⟩ := key
    refine ⟨cs.map fun v => match v with | .int _ m => m | _ => 0, ?_, by simpa using hl, ?_⟩
    · apply List.ext_getElem?
      intro i
      rw [ints_get, List.getElem?_map, Option.map_map]
      by_cases hi : i < n
      · obtain ⟨m, e, _⟩ := hc i hi
        rw [e]; rfl
      · rw [List.getElem?_eq_none (by omega)]; rfl
    · intro x hx
      obtain ⟨v, hv, rfl⟩ := List.mem_map.1 hx
      obtain ⟨i, hi, rfl⟩ := List.mem_iff_getElem.1 hv
      obtain ⟨m, e, hm⟩ := hc i (by omega)
      rw [List.getElem?_eq_getElem hi] at e
      injection e with e
      rw [e]; exact hm
theorem xFields_XM {sh : TypeId → Option (List XSh)} {cs : List Value} (ih : ∀ u s c, sh u = some s → Rdt enc P W u c → XM enc P W s c) (hz : ∀ u s, sh u = some s → P.cellsOf u = xSize s) :
    ∀ (fs : List Field) (off : Nat) (s : List XSh), xFields sh off fs = some s → off + xSize s ≤ cs.length → (∀ f, f ∈ fs → Rdt enc P W f.type ((cs.drop f.offset).take (P.cellsOf f.type))) → XM enc P W s ((cs.drop off).take (xSize s))
  | [], off, s, h, _, _ => by simp only [xFields, Option.some.injEq] at h; subst h; simp [XM, xSize]
  | f :: fs, off, s, h, hl, hf => by
    unfold xFields at h
    split at h
    · rename_i s1 ho hs1
      obtain ⟨s2, h2, rfl⟩ := Option.map_eq_some_iff.1 h
      have ho : f.offset = off := Nat.eq_of_beq_eq_true ho
      have hx : xSize (s1 ++ s2) = xSize s1 + xSize s2 := by
        clear h h2 hs1 hl
        induction s1 with
        | nil => simp [xSize]
        | cons a r ihr => simp [xSize, ihr]; omega
      rw [hx] at hl ⊢
      have r1 := ih _ _ _ hs1 (hf f (by simp))
      rw [ho, hz _ _ hs1] at r1
      have r2 := xFields_XM ih hz fs (off + xSize s1) s2 h2 (by omega) (fun g hg => hf g (by simp [hg]))
      have e : (cs.drop off).take (xSize s1 + xSize s2) = (cs.drop off).take (xSize s1) ++ (cs.drop (off + xSize s1)).take (xSize s2) := by
        rw [List.take_add, List.drop_drop]
      rw [e]
      exact r1.append r2
    · cases h
theorem Rdt.xm : ∀ (d : Nat) (t : TypeId) (s : List XSh) (cs : List Value), xsh P d t = some s → Rdt enc P W t cs → XM enc P W s cs
  | 0, t, s, cs, h, _ => by cases h
  | d + 1, t, s, cs, h, r => by
    unfold xsh at h
    split at h
    · rename_i k u
      injection h with h; subst h
      obtain ⟨fuel, x, r, _⟩ := r
      obtain ⟨n, rfl, _, hn⟩ := DataW.trod_int u r
      exact ⟨n, [], rfl, wf_has hn, rfl⟩
    · rename_i u
      injection h with h; subst h
      obtain ⟨fuel, x, r, _⟩ := r
      obtain ⟨n, rfl, _⟩ := DataW.trod_bool u r
      exact ⟨n, [], rfl, rfl⟩
    · rename_i u
      injection h with h; subst h
      obtain ⟨fuel, x, r, hw⟩ := r
      obtain ⟨n, rfl, rfl, _⟩ := DataW.trod_string u r
      refine ⟨n, [], rfl, ?_, rfl⟩
      have := hw n.data.toList.length (by simp [DataW.weights])
      simpa using this
    · rename_i e u
      injection h with h; subst h
      obtain ⟨p, l, c, rfl, hs⟩ := Rdt.slice u r
      exact ⟨p, l, c, [], rfl, hs, rfl⟩
    · rename_i n e u
      split at h
      · rename_i k ue h1 h2
        injection h with h; subst h
        obtain ⟨ns, rfl, hn, hh⟩ := array_ints u ue (Nat.eq_of_beq_eq_true h1) (Nat.eq_of_beq_eq_true h2) r
        exact ⟨ns, [], by simp, hn, hh, rfl⟩
      · cases h
    · rename_i fs u
      split at h
      · rename_i s' hx
        split at h
        · rename_i hz
          injection h with h; subst h
          have hz := Nat.eq_of_beq_eq_true hz
          obtain ⟨fuel, x, r, hw⟩ := r
          obtain ⟨xs, n, rfl, rfl, hl, hxl, hf⟩ := DataW.trod_struct u r
          have := xFields_XM (enc := enc) (W := W) (cs := cs) (fun u s c hu hr => by
              split at hu
              · rename_i s1 hs1
                split at hu
                · injection hu with hu; subst hu; exact Rdt.xm d u _ c hs1 hr
                · cases hu
              · cases hu) (fun u s hu => by
              split at hu
              · split at hu
                · rename_i hb; injection hu with hu; subst hu; exact Nat.eq_of_beq_eq_true hb
                · cases hu
              · cases hu) fs.toList 0 s' hx (by omega) (fun f hfm => by
              obtain ⟨i, hi, rfl⟩ := List.mem_iff_getElem.1 hfm
              have hi2 : i < fs.size := by simpa using hi
              have h1 := hf i fs[i] (by simp [hi2])
              rw [List.getElem?_eq_getElem (show i < xs.length by omega)] at h1
              have e : fs.toList[i] = fs[i] := by simp
              rw [e]
              refine ⟨n, _, h1, fun m hm => hw m ?_⟩
              simp only [DataW.weights, u]
              exact DataW.weights_mem_each (j := i) (by simp [hi2]) (by simp [show i < xs.length by omega]) m hm)
          rw [List.drop_zero, List.take_of_length_le (by omega)] at this
          exact this
        · cases h
      · cases h
    · cases h
end
end Go.Vc
end

/- The frame of a law's row; slices that came in. Own work; generic over any program. -/
section
set_option maxRecDepth 100000
set_option linter.unusedVariables false
namespace Go.Vc
open Go.ChangeShapes Go.WideShapes Go.ChangeAt Go.RowKit
section
variable {D : Type} {enc : TypeId × Value → D} {P : Program} {W : World}

theorem below_of {W W' : World} (r : Rest W W') (x : Ext none_ W.heap W'.heap) (ho : True) : Below W.heap.size W W' :=
  ⟨r.2.1, r.1, r.2.2, x.size, fun k hk => x.eq k hk (fun y => y)⟩

theorem law_post {f : Func} {s : ChangeSpec} {W' : World} {args : Array Value} {ds gs : List (DataW D)} {before : List MemPlace} {tb : TypeId} (hl : laidOutB P = true) (hvars : s.vars = [])
    (hty : ∀ t, t ∈ f.params.toList → P.readableRec t = true ∧ t < P.types.size) (hres : f.resultTypes = #[tb]) (ub : P.underlying tb = some .bool) (hfn : s.fn D (ds ++ gs) = { results := [.lit (.bool true)], args := ds })
    (hW : DataW.Whole enc P f.params.toList s.vars false W args.toList ds gs before) (hb : Below W.heap.size W W') : s.post enc P f false true false false W args (.bool true) W' := by
  have hW0 := hW
  have hlt := hW.lt
  obtain ⟨p, q, h1, h2, rfl, h3, h4⟩ := hW
  rw [hvars] at h2
  obtain ⟨rfl, rfl⟩ := trodVars_none h2
  rw [List.append_nil] at hlt
  refine ⟨ds, [], p ++ [], [], p, [], hW0, ?_, ?_, ?_, hb.frame _, fun h => by cases h⟩
  · rw [hfn, hres]
    exact trodAll_mk1 (shut_bool ub true)
  · rw [hfn]
    have key : ∀ (ts : List TypeId) (vs : List Value) (ds : List (DataW D)) (p : List MemPlace), (∀ t, t ∈ ts → P.readableRec t = true ∧ t < P.types.size) → (∀ x ∈ p, x.block < W.heap.size) →
        DataW.TrodAll enc P W 0 (fun _ => true) true ts vs ds p → DataW.TrodAll enc P W' 0 (fun b => decide (b < W.heap.size)) true ts vs ds p := by
      intro ts
      induction ts with
      | nil => intro vs ds p _ _ h; cases vs <;> cases ds <;> exact h
      | cons t ts ih =>
        intro vs ds p ht hp h
        cases vs with
        | nil => cases h
        | cons v vs => cases ds with
          | nil => cases h
          | cons d ds =>
            obtain ⟨a, b, ha, hb', rfl⟩ := h
            exact ⟨a, b, Below.trod hl (ht t (by simp)).1 (ht t (by simp)).2 ha hb (fun x hx => hp x (by simp [hx])), ih vs ds b (fun t' h' => ht t' (by simp [h'])) (fun x hx => hp x (by simp [hx])) hb', rfl⟩
    exact key _ _ _ _ hty hlt h1
  · rw [hfn, hvars]; rfl

theorem whole_rdt {ts : List TypeId} {vs : List Value} {ds gs : List (DataW D)} {vars : List TypeId}
    (h : ∃ p, DataW.TrodAll enc P W 0 (fun _ => true) true ts vs ds p) (hz : (DataW.weightsEach P (ts ++ vars) (ds ++ gs)).all (· ≤ reachBytes) = true) :
    ∀ (j : Nat) (t : TypeId) (v : Value), ts[j]? = some t → vs[j]? = some v → Rdt enc P W t v.cells.toList := by
  obtain ⟨p, h⟩ := h
  induction ts generalizing vs ds p with
  | nil => intro j t v ht; simp at ht
  | cons t0 ts ih =>
    cases vs with
    | nil => cases h
    | cons v0 vs => cases ds with
      | nil => cases h
      | cons d ds =>
        obtain ⟨a, b, ha, hb', rfl⟩ := h
        simp only [List.cons_append, DataW.weightsEach, List.all_append, Bool.and_eq_true] at hz
        intro j t v ht hv
        cases j with
        | zero =>
          simp only [List.getElem?_cons_zero, Option.some.injEq] at ht hv
          subst ht; subst hv
          obtain ⟨fuel, hf⟩ := ha
          exact ⟨fuel, _, hf, fun n hn => by simpa using List.all_eq_true.1 hz.1 n hn⟩
        | succ j => exact ih hz.2 b hb' j t v (by simpa using ht) (by simpa using hv)

theorem okw_agg {t : TypeId} {v : Value} {base : Nat} {r : Reach} (u : (match P.underlying t with | some (.struct _) => true | some (.array _ _) => true | _ => false) = true) (h : Value.okWide P W r base t v) : v = .agg v.cells := by
  unfold Value.okWide at h
  split at h
  · obtain ⟨cs, rfl, _⟩ := h; rfl
  · obtain ⟨cs, rfl, _⟩ := h; rfl
  · rename_i h1 h2
    split at u
    · rename_i h3; exact absurd h3 (h1 _)
    · rename_i h3; exact absurd h3 (h2 _ _)
    · cases u
theorem okw_one {t : TypeId} {v : Value} {base : Nat} {r : Reach} (u : (match P.underlying t with | some (.struct _) => false | some (.array _ _) => false | some _ => true | none => false) = true) (h : Value.okWide P W r base t v) {x : Value} (hx : v.cells.toList = [x]) : v = x := by
  cases v with
  | agg cs =>
    exfalso
    unfold Value.okWide at h
    split at h
    · rename_i h1; rw [h1] at u; cases u
    · rename_i h1; rw [h1] at u; cases u
    · unfold Cell.okWide at h
      split at h <;> first | (simp_all; done) | skip
      unfold Cell.ok at h
      split at h <;> simp_all
  | _ => simpa [Value.cells] using hx

theorem XM.one : ∀ {s : List XSh} {c : List Value}, XM enc P W s c → ∀ v, v ∈ c → v.oneCell' = true
  | [], c, h => by simp only [XM] at h; subst h; simp
  | .int k :: r, c, h => by
    obtain ⟨n, rest, rfl, _, h⟩ := h; intro v hv
    rcases List.mem_cons.1 hv with rfl | hv
    · rfl
    · exact XM.one h v hv
  | .bool :: r, c, h => by
    obtain ⟨n, rest, rfl, h⟩ := h; intro v hv
    rcases List.mem_cons.1 hv with rfl | hv
    · rfl
    · exact XM.one h v hv
  | .str :: r, c, h => by
    obtain ⟨n, rest, rfl, _, h⟩ := h; intro v hv
    rcases List.mem_cons.1 hv with rfl | hv
    · rfl
    · exact XM.one h v hv
  | .slc e :: r, c, h => by
    obtain ⟨p, l, c, rest, rfl, _, h⟩ := h; intro v hv
    rcases List.mem_cons.1 hv with rfl | hv
    · rfl
    · exact XM.one h v hv
  | .row k n :: r, c, h => by
    obtain ⟨ns, rest, rfl, _, _, h⟩ := h; intro v hv
    rcases List.mem_append.1 hv with hv | hv
    · exact ints_one _ _ v hv
    · exact XM.one h v hv

/-- The elements of a slice that came in, one behind the other. -/
theorem Sli.els {e : TypeId} {p : Option Addr} {l c d : Nat} {s : List XSh} (hs : Sli enc P W e p l c) (hx : xsh P d e = some s) :
    ∃ ess : List (List Value), ess.length = l ∧ (∀ es, es ∈ ess → es.length = P.cellsOf e ∧ XM enc P W s es) ∧ hsv W.heap p (P.cellsOf e) l ess.flatten ∧
      ∀ i (hi : i < ess.length), ∃ a, p = some a ∧ hcs W.heap (a.add (i * P.cellsOf e)) ess[i] := by
  obtain ⟨_, _, hn, hi⟩ := hs
  have key : ∀ m, m ≤ l → ∃ ess : List (List Value), ess.length = m ∧ (∀ es, es ∈ ess → es.length = P.cellsOf e ∧ XM enc P W s es) ∧ ∀ i (hi : i < ess.length), ∃ a, p = some a ∧ hcs W.heap (a.add (i * P.cellsOf e)) ess[i] := by
    intro m
    induction m with
    | zero => intro _; exact ⟨[], rfl, by simp, fun i hi => by simp at hi⟩
    | succ m ih =>
      intro hm
      obtain ⟨ess, h1, h2, h3⟩ := ih (by omega)
      obtain ⟨a, es, ha, hl, hc, hr⟩ := hi m (by omega)
      refine ⟨ess ++ [es], by simp [h1], ?_, ?_⟩
      · intro x hxm
        rcases List.mem_append.1 hxm with hxm | hxm
        · exact h2 x hxm
        · simp at hxm; subst hxm; exact ⟨hl, Rdt.xm d e s x hx hr⟩
      · intro i hi
        by_cases hie : i < ess.length
        · rw [List.getElem_append_left hie]; exact h3 i hie
        · have : i = m := by simp at hi; omega
          subst this
          refine ⟨a, ha, ?_⟩
          rw [List.getElem_append_right (by omega)]
          simpa [h1] using hc
  obtain ⟨ess, h1, h2, h3⟩ := key l (Nat.le_refl _)
  refine ⟨ess, h1, h2, ⟨?_, ?_, ?_⟩, h3⟩
  · have : ∀ (ess : List (List Value)), (∀ es, es ∈ ess → es.length = P.cellsOf e) → ess.flatten.length = ess.length * P.cellsOf e := by
      intro ess
      induction ess with
      | nil => intro _; simp
      | cons x r ih => intro h; simp [ih (fun y hy => h y (by simp [hy])), h x (by simp), Nat.succ_mul]; omega
    rw [this ess (fun es he => (h2 es he).1), h1]
  · intro v hv
    obtain ⟨es, he, hv⟩ := List.mem_flatten.1 hv
    exact (h2 es he).2.one v hv
  · cases p with
    | none =>
      left
      have := (hn rfl).1
      rw [this] at h1
      rw [List.eq_nil_of_length_eq_zero h1]; rfl
    | some a =>
      right
      refine ⟨a, rfl, ?_⟩
      have key : ∀ (k : Nat) (fs : List (List Value)), ess.drop k = fs → ∀ i v, fs.flatten[i]? = some v → hc W.heap (a.add (k * P.cellsOf e + i)) = some v := by
        intro k fs
        induction fs generalizing k with
        | nil => intro _ i v hv; simp at hv
        | cons x r ih =>
          intro hd i v hv
          have hk : k < ess.length := by
            rcases Nat.lt_or_ge k ess.length with h | h
            · exact h
            · rw [List.drop_eq_nil_of_le h] at hd; cases hd
          rw [List.drop_eq_getElem_cons hk] at hd
          injection hd with hx1 hx2
          have hxl : x.length = P.cellsOf e := by rw [← hx1]; exact (h2 _ (List.getElem_mem hk)).1
          obtain ⟨a', ha', hcx⟩ := h3 k hk
          injection ha' with ha'; subst ha'
          rw [hx1] at hcx
          simp only [List.flatten_cons] at hv
          by_cases hi : i < x.length
          · rw [List.getElem?_append_left hi] at hv
            have := hcx i v hv
            have e2 : (a.add (k * P.cellsOf e)).add i = a.add (k * P.cellsOf e + i) := by
              cases a with | mk b o sp => unfold Addr.add; by_cases h1 : k * P.cellsOf e = 0 <;> by_cases h2 : i = 0 <;> simp [h1, h2, Nat.add_assoc]
            rw [e2] at this; exact this
          · rw [List.getElem?_append_right (by omega)] at hv
            have := ih (k + 1) hx2 _ _ hv
            rw [Nat.succ_mul] at this
            rw [show k * P.cellsOf e + i = k * P.cellsOf e + P.cellsOf e + (i - x.length) by omega]
            exact this
      intro i v hv
      have := key 0 ess (by simp) i v hv
      simpa using this

theorem trodAll_len : ∀ {ts : List TypeId} {vs : List Value} {ds : List (DataW D)} {p : List MemPlace} {W : World} {base : Nat} {sp : Nat → Bool} {hd : Bool}, DataW.TrodAll enc P W base sp hd ts vs ds p → vs.length = ts.length ∧ ds.length = ts.length
  | [], vs, ds, p, W, base, sp, hd, h => by obtain ⟨rfl, rfl, rfl⟩ := trodAll_nil h; exact ⟨rfl, rfl⟩
  | t :: ts, vs, ds, p, W, base, sp, hd, h => by
    obtain ⟨v, vs', d, ds', p', q', rfl, rfl, rfl, _, hr⟩ := trodAll_cons h
    have := trodAll_len hr
    simp [this.1, this.2]

/-- What is known of the arguments. -/
def ArgsOk (enc : TypeId × Value → D) (P : Program) (W : World) (base : Nat) (ts : List TypeId) (vs : List Value) : Prop :=
  vs.length = ts.length ∧ ∀ (j : Nat) (t : TypeId) (v : Value), ts[j]? = some t → vs[j]? = some v → Rdt enc P W t v.cells.toList ∧ Value.okWide P W .any base t v
/-- The law's code answers true, and leaves all old memory as it was. -/
abbrev CallsTrue (P : Program) (f : FuncId) (vs : List Value) (W : World) : Prop := callsV P f vs (fun rs h' => rs = [DV.one (.bool true)] ∧ Ext none_ W.heap h') W.heap
theorem law_go {f : FuncId} {fn : Func} {s : ChangeSpec} {args : Array Value} {ds gs : List (DataW D)} {before : List MemPlace} {tb : TypeId} {base : Nat} (ts : List TypeId) (hts : fn.params = ts.toArray) (hl : laidOutB P = true) (hvars : s.vars = [])
    (hty : (ts.all fun t => P.readableRec t && decide (t < P.types.size)) = true) (hres : fn.resultTypes = #[tb]) (ub : P.underlying tb = some .bool)
    (hfn : ∀ ds : List (DataW D), ds.length = ts.length → s.fn D ds = { results := [.lit (.bool true)], args := ds })
    (hval : ∀ (j : Nat) t v, fn.params[j]? = some t → args[j]? = some v → Value.okWide P W .any base t v)
    (hW : DataW.Whole enc P fn.params.toList s.vars false W args.toList ds gs before) (hsz : (DataW.weightsEach P (fn.params.toList ++ s.plain.varTypes P) (ds ++ gs)).all (· ≤ reachBytes) = true)
    (main : ∀ vs, ArgsOk enc P W base ts vs → CallsTrue P f vs W) :
    Calls P f args W fun e W' => ∃ v, e = .returned v ∧ s.post enc P fn false true false false W args v W' := by
  have hW0 := hW
  obtain ⟨p, q, h1, h2, rfl, h3, h4⟩ := hW
  have h2' := h2
  rw [hvars] at h2'
  obtain ⟨rfl, rfl⟩ := trodVars_none h2'
  have hlen := trodAll_len h1
  have hpl : fn.params.toList = ts := by rw [hts]
  have hrd := whole_rdt ⟨p, h1⟩ hsz
  rw [hpl] at hrd hlen
  have hm := main args.toList ⟨hlen.1, fun j t v ht hv => ⟨hrd j t v ht hv, hval j t v (by rw [hts]; simpa using ht) (by simpa using hv)⟩⟩
  have hc := hm.2 W rfl
  rw [show args.toList.toArray = args by simp] at hc
  refine hc.mono fun e W' he => ?_
  obtain ⟨xs, _, rfl, hr, rfl, hx⟩ := he
  refine ⟨.bool true, rfl, ?_⟩
  refine law_post hl hvars ?_ hres ub (by rw [List.append_nil]; exact hfn ds hlen.2) hW0 (below_of hr hx trivial)
  intro t ht
  rw [hpl] at ht
  have := List.all_eq_true.1 hty t ht
  simp only [Bool.and_eq_true, decide_eq_true_eq] at this
  exact this
end
end Go.Vc
end

/- Contracts of the chip's small functions. Own work. -/
section
set_option linter.unusedVariables false
namespace Go.Proofs.Ytamfkofcpoglnaa
open Go Go.Vc

structure Cfg where
  cells : Int
  slots : Int
  fuses : Int
  step : Int
  keys : Int
  erases : Int
  area : Int

def Cfg.vals (c : Cfg) : List Value :=
  [.int .i64 c.cells, .int .i64 c.slots, .int .i64 c.fuses, .int .i64 c.step, .int .i64 c.keys, .int .i64 c.erases, .int .i64 c.area]

structure Cfg.may (c : Cfg) : Prop where
  slots : 1 ≤ c.slots ∧ c.slots ≤ 8
  cells : c.slots + 3 ≤ c.cells ∧ c.cells ≤ 256
  fuses : 1 ≤ c.fuses ∧ c.fuses ≤ 64
  step : 1 ≤ c.step ∧ c.step ≤ 65536
  keys : 1 ≤ c.keys ∧ c.keys ≤ 64
  erases : 0 ≤ c.erases ∧ c.erases ≤ 65536
  area : 0 ≤ c.area ∧ c.area ≤ 64

theorem within_iff (n a b : Int) (Q : Bool → H → Prop) (h : H) : F_chip_within n a b Q h = Q (decide (a ≤ n) && decide (n ≤ b)) h := by
  unfold F_chip_within G_chip_within
  by_cases h1 : a ≤ n <;> simp [h1]
open Classical in
theorem May_spec (c : Cfg) (Q : Int → H → Prop) (h : H) (k : ∀ h', Ext none_ h h' → Q (if c.may then 0 else 1) h') :
    F_chip_May c.cells c.slots c.fuses c.step c.keys c.erases c.area Q h := by
  unfold F_chip_May G_chip_May
  intro b h' hn
  have kb := hn.blk
  have kx := k h' hn.ext
  have hc0 := kb.hc
  intro J hJ
  have fin : ∀ r : Bool, (r = true ↔ c.may) → J [SV.dv (DV.one (Value.bool r))] h' := by
    intro r hr
    apply hJ
    by_cases hm : c.may
    · rw [hr.2 hm]; rw [if_pos hm] at kx; simpa using kx
    · have : r = false := by cases r; rfl; exact absurd (hr.1 rfl) hm
      rw [this]; rw [if_neg hm] at kx; simpa using kx
  simp only [add_mk, hc0, Nat.zero_add, List.getElem?_cons_succ, List.getElem?_cons_zero, Option.some.injEq, Value.int.injEq, true_and, exists_eq_left']
  simp only [within_iff, hc0, List.getElem?_cons_succ, List.getElem?_cons_zero, Option.some.injEq, Value.int.injEq, true_and, exists_eq_left', Bool.and_eq_true, decide_eq_true_eq]
  have w3 : 1 ≤ c.slots ∧ c.slots ≤ 8 → IntKind.i64.wrap (c.slots + 3) = c.slots + 3 := by
    intro h1; rw [IntKind.wrap_i64]; omega
  split
  case isFalse h1 => exact fin false (by simp; intro hm; exact h1 hm.slots)
  rename_i h1
  rw [w3 h1]
  split
  case isFalse h2 => exact fin false (by simp; intro hm; exact h2 hm.cells)
  rename_i h2
  split
  case isFalse h3 => exact fin false (by simp; intro hm; exact h3 hm.fuses)
  rename_i h3
  split
  case isFalse h4 => exact fin false (by simp; intro hm; exact h4 hm.step)
  rename_i h4
  split
  case isFalse h5 => exact fin false (by simp; intro hm; exact h5 hm.keys)
  rename_i h5
  split
  case isFalse h6 => exact fin false (by simp; intro hm; exact h6 hm.erases)
  rename_i h6
  refine fin _ ?_
  simp only [Bool.and_eq_true, decide_eq_true_eq]
  exact ⟨fun h7 => ⟨h1, h2, h3, h4, h5, h6, h7⟩, fun hm => hm.area⟩

theorem pages_spec (c : Cfg) (hm : c.may) (Q : Int → H → Prop) (h : H) (k : ∀ h', Ext none_ h h' → Q (2 + 2 * c.area) h') :
    F_chip_pages c.cells c.slots c.fuses c.step c.keys c.erases c.area Q h := by
  unfold F_chip_pages G_chip_pages
  intro b h' hn
  have kx := k h' hn.ext
  have ha := hm.area
  have e : IntKind.i64.wrap (2 + IntKind.i64.wrap (2 * c.area)) = 2 + 2 * c.area := by simp only [IntKind.wrap_i64]; omega
  simpa [hn.blk.hc, e] using kx

theorem fuses_spec (c : Cfg) (hm : c.may) (Q : Int → H → Prop) (h : H) (k : ∀ h', Ext none_ h h' → Q (c.slots * c.fuses + c.keys) h') :
    F_chip_fuses c.cells c.slots c.fuses c.step c.keys c.erases c.area Q h := by
  unfold F_chip_fuses G_chip_fuses
  intro b h' hn
  have kx := k h' hn.ext
  have h1 := hm.slots; have h2 := hm.fuses; have h3 := hm.keys
  have e1 : 0 ≤ c.slots * c.fuses := Int.mul_nonneg (by omega) (by omega)
  have e2 : c.slots * c.fuses ≤ 8 * 64 := Int.mul_le_mul (by omega) (by omega) (by omega) (by omega)
  have e : IntKind.i64.wrap (IntKind.i64.wrap (c.slots * c.fuses) + c.keys) = c.slots * c.fuses + c.keys := by simp only [IntKind.wrap_i64]; omega
  simpa [hn.blk.hc, e] using kx
end Go.Proofs.Ytamfkofcpoglnaa
end

/- The chip's model and how it lies in memory (chip.Chip and the document's chip alike). Own work. -/
section
set_option linter.unusedVariables false
namespace Go.Proofs.Ytamfkofcpoglnaa
open Go Go.Vc

/-- What a chip holds: pages (flat bytes, 32 a cell), erases, fuses. -/
structure St where
  pages : List (List Int)
  erases : List Int
  blown : List Bool
structure Cm where
  cfg : Cfg
  s : St
  acts : Int
  out : Bool
  left : Int
  mask : List Int

instance (c : Cfg) : Decidable c.may :=
  decidable_of_iff ((1 ≤ c.slots ∧ c.slots ≤ 8) ∧ (c.slots + 3 ≤ c.cells ∧ c.cells ≤ 256) ∧ (1 ≤ c.fuses ∧ c.fuses ≤ 64) ∧ (1 ≤ c.step ∧ c.step ≤ 65536) ∧ (1 ≤ c.keys ∧ c.keys ≤ 64) ∧ (0 ≤ c.erases ∧ c.erases ≤ 65536) ∧ (0 ≤ c.area ∧ c.area ≤ 64))
    ⟨fun ⟨a, b, c, d, e, f, g⟩ => ⟨a, b, c, d, e, f, g⟩, fun ⟨a, b, c, d, e, f, g⟩ => ⟨a, b, c, d, e, f, g⟩⟩
def Cfg.may? (c : Cfg) : Int := if c.may then 0 else 1
def Cfg.np (c : Cfg) : Int := 2 + 2 * c.area
def Cfg.nf (c : Cfg) : Int := c.slots * c.fuses + c.keys
def isByte (n : Int) : Prop := 0 ≤ n ∧ n < 256
def bytesOk (ns : List Int) : Prop := ∀ n, n ∈ ns → isByte n

/-- Are the sizes those of the config? -/
structure St.fits (c : Cfg) (s : St) : Prop where
  pages : (s.pages.length : Int) = c.np
  cells : ∀ l, l ∈ s.pages → (l.length : Int) = 32 * c.cells
  erases : (s.erases.length : Int) = c.np
  blown : (s.blown.length : Int) = c.nf
/-- Are the numbers of their kinds? -/
structure St.typed (s : St) : Prop where
  bytes : ∀ l, l ∈ s.pages → bytesOk l
  erases : ∀ n, n ∈ s.erases → -(2 ^ 63) ≤ n ∧ n < 2 ^ 63
structure Cm.ok (C : Cm) : Prop where
  may : C.cfg.may
  fits : C.s.fits C.cfg
  typed : C.s.typed
  left : -1 ≤ C.left
  left2 : C.left < 2 ^ 63
  mask : bytesOk C.mask
  acts : -(2 ^ 63) ≤ C.acts ∧ C.acts < 2 ^ 63
  mlen : C.mask.length ≤ 2 ^ 47

/-- Slices of a state, read only. -/
structure RdS (h : H) (a b c : Sl) (s : St) : Prop where
  pg : RdM h 32 a s.pages
  er : hsv h b.1 1 b.2.1 (ints .i64 s.erases)
  bl : hsv h c.1 1 c.2.1 (bools s.blown)

abbrev stL (a b c : Sl) (s : St) : List Ent := [matE 32 a s.pages, sE b 1 (ints .i64 s.erases), sE c 1 (bools s.blown)]

def Cm.cells (C : Cm) (a b c m : Sl) : List Value :=
  [.int .i64 C.cfg.cells, .int .i64 C.cfg.slots, .int .i64 C.cfg.fuses, .int .i64 C.cfg.step, .int .i64 C.cfg.keys, .int .i64 C.cfg.erases, .int .i64 C.cfg.area, a.v, b.v, c.v,
    .int .i64 C.acts, .bool C.out, .int .i64 C.left, m.v]
/-- The places of a chip's parts. -/
structure Pl where
  a : Sl
  b : Sl
  c : Sl
  m : Sl
abbrev chipL (p : Nat) (C : Cm) (w : Pl) : List Ent := [blk p (C.cells w.a w.b w.c w.m), matE 32 w.a C.s.pages, sE w.b 1 (ints .i64 C.s.erases), sE w.c 1 (bools C.s.blown), sE w.m 1 (ints .u8 C.mask)]
def chipE (p : Nat) (C : Cm) : Ent := exE 2 (fun _ => C.ok) (chipL p C)

theorem RdS.ext {h h' : H} (x : Ext none_ h h') {a b c : Sl} {s : St} (r : RdS h a b c s) : RdS h' a b c s :=
  ⟨r.pg.ext x, hsv_ext x r.er (fun _ _ y => y), hsv_ext x r.bl (fun _ _ y => y)⟩
theorem sat_rdS {h0 h : H} {A : List Ent} (hs : Sat h0 A h) {i j k : Nat} {a b c : Sl} {s : St} (m : At A i (matE 32 a s.pages)) (n : At A j (sE b 1 (ints .i64 s.erases))) (o : At A k (sE c 1 (bools s.blown))) : RdS h a b c s :=
  ⟨hs.rdM m, hs.sv n, hs.sv o⟩
end Go.Proofs.Ytamfkofcpoglnaa
end

/- What arguments of the statements are. Own work. -/
section
set_option maxRecDepth 100000
set_option linter.unusedVariables false
namespace Go.Proofs.Ytamfkofcpoglnaa
open Go Go.Vc Go.ChangeShapes Go.WideShapes Go.ChangeAt Go.RowKit

theorem Try.own : ownKnob Try.prog.godebug = none := by kernel_rfl
theorem Try.laidOut : laidOutB Try.prog = true := by kernel_rfl
theorem Try.ubool : Try.prog.underlying 4 = some .bool := by kernel_rfl
theorem xCfg : xsh PP 8 23 = some [.int .i64, .int .i64, .int .i64, .int .i64, .int .i64, .int .i64, .int .i64] := by kernel_rfl
theorem xByte : xsh PP 8 5 = some [.int .u8] := by kernel_rfl

section
variable {D : Type} {enc : TypeId × Value → D} {W : World}
theorem cfg_of {v : Value} {base : Nat} (h : Rdt enc PP W 23 v.cells.toList) (ho : Value.okWide PP W .any base 23 v) : ∃ c : Cfg, v = .agg c.vals.toArray := by
  have e := okw_agg (by kernel_rfl) ho
  obtain ⟨a1, r1, e1, _, a2, r2, rfl, _, a3, r3, rfl, _, a4, r4, rfl, _, a5, r5, rfl, _, a6, r6, rfl, _, a7, r7, rfl, _, hr⟩ := Rdt.xm 8 _ _ _ xCfg h
  simp only [XM] at hr
  subst hr
  refine ⟨⟨a1, a2, a3, a4, a5, a6, a7⟩, ?_⟩
  rw [e]
  congr 1
  rw [← Array.toArray_toList (xs := v.cells), e1]
  rfl
theorem bytes_of {p : Option Addr} {l c : Nat} (h : Sli enc PP W 5 p l c) : ∃ ns : List Int, hsv W.heap p 1 l (ints .u8 ns) ∧ bytesOk ns ∧ ns.length + 4096 ≤ 2 ^ 47 := by
  have hb : Try.prog.bytesOf 5 = 1 := by kernel_rfl
  have hc : Try.prog.cellsOf 5 = 1 := by kernel_rfl
  obtain ⟨ess, h1, h2, h3, _⟩ := h.els xByte
  have hlc := h.1
  have hr := h.2.1
  rw [hb] at hr
  rw [hc] at h3
  have key : ∀ ess : List (List Value), (∀ es, es ∈ ess → es.length = Try.prog.cellsOf 5 ∧ XM enc PP W [XSh.int .u8] es) → ∃ ns : List Int, ess.flatten = ints .u8 ns ∧ bytesOk ns := by
    intro ess
    induction ess with
    | nil => intro _; exact ⟨[], rfl, by intro n hn; simp at hn⟩
    | cons x r ih =>
      intro h
      obtain ⟨ns, e, hn⟩ := ih fun es hes => h es (by simp [hes])
      obtain ⟨n, rest, rfl, hh, hr⟩ := (h x (by simp)).2
      simp only [XM] at hr
      subst hr
      refine ⟨n :: ns, by simp [e], ?_⟩
      intro m hm
      rcases List.mem_cons.1 hm with rfl | hm
      · exact has_u8 hh
      · exact hn m hm
  obtain ⟨ns, e, hn⟩ := key ess h2
  rw [e] at h3
  have : ns.length = l := by have := h3.1; simpa using this
  refine ⟨ns, h3, hn, ?_⟩
  unfold reachBytes at hr
  omega
end
end Go.Proofs.Ytamfkofcpoglnaa
end

/- Contracts: blank cells, clones. Own work. -/
section
set_option linter.unusedVariables false
namespace Go.Proofs.Ytamfkofcpoglnaa
open Go Go.Vc

def blankCell : List Int := List.replicate 32 255
theorem mapTo_const (n : Nat) (v : Int) (ns : List Int) (hl : ns.length = n) : mapTo (fun _ _ => v) n ns = List.replicate n v := by
  apply List.ext_getElem?; intro j
  rw [mapTo_get, List.getElem?_replicate]
  by_cases h : j < n
  · simp [h, hl]
  · rw [if_neg h, List.getElem?_eq_none (by omega)]; rfl

theorem blank_spec (Q : List Int → H → Prop) (h : H) (k : ∀ h', Ext none_ h h' → Q blankCell h') : F_chip_blank Q h := by
  unfold F_chip_blank G_chip_blank
  intro b2 h3 n2 b5 h6 n5 J hJ
  have x6 : Ext none_ h h6 := n2.ext.trans n5.ext
  have hb2 : b2 < h6.size := by have := n2.size; have := n5.size; have := n2.b; omega
  have hb2' : h.size ≤ b2 := by rw [n2.b]; exact Nat.le_refl _
  have hb5 : h.size ≤ b5 := by have := n2.size; rw [n5.b]; omega
  have hne : b2 ≠ b5 := by have := n2.size; have := n5.b; have := n2.b; omega
  refine loop_up 32 (fun i h' => Blk h' b5 (ints .u8 (mapTo (fun _ _ => 255) i (zeros 32))) ∧ Blk h' b2 (ints .u8 (zeros 32)) ∧ Ext none_ h h') ?_ ?_ 0 h6 (by omega)
    ⟨by simpa using n5.blk, n5.ext.blk n2.blk (fun x => x), x6⟩
  · rintro i h' hi ⟨k5, k2, hx⟩ hk
    apply hJ
    rw [ltI_eq, if_pos (by simp; omega)]
    refine ⟨by omega, by omega, ?_, ?_⟩
    · simp only [add_mk]; apply k5.can; simp; omega
    · intro h11 e
      simp only [add_mk, Int.toNat_natCast, Nat.mul_one, Nat.zero_add] at e
      rw [wrap_succ (by omega)]
      refine hk h11 ?_
      have w := k5.wr i [Value.int .u8 255]
      have w2 := k2.wr_ne (a := ⟨b5, i, none⟩) (xs := [Value.int .u8 255]) hne
      rw [← e] at w w2
      refine ⟨?_, w2, ?_⟩
      · simp only [splice_cons, splice_nil, ints_set] at w
        have := mapTo_succ (fun _ _ => 255) i (zeros 32) (by simpa using hi)
        rw [this] at w; exact w
      · rw [e]; exact hx.comp (Ext.wr h' b5 i _) (by rintro x h1 rfl; omega)
  · rintro h' ⟨k5, k2, hx⟩
    apply hJ
    rw [ltI_eq, if_neg (by simp)]
    rw [mapTo_const 32 255 _ (by simp)] at k5
    refine ⟨blankCell, by simp [blankCell], k5.hrow (by intro i hi; rw [Nat.zero_add, ints_get]; rfl), k2.can (by simp), ?_⟩
    intro h14 e
    have w := k2.wr 0 (ints IntKind.u8 blankCell ++ [])
    rw [splice_all _ _ (by simp [blankCell])] at w
    rw [← e] at w
    refine ⟨blankCell, by simp [blankCell], w.hrow (by intro i hi; simp [ints_get]), k _ ?_⟩
    rw [e]; exact hx.comp (Ext.wr h' b2 0 _) (by rintro x h1 rfl; omega)

theorem clone_body (sz : Nat) (z : List Value) (B : Nat) (hsz : 0 < sz) (hz : z.length = sz) (p : Option Addr) (l : Nat) (vs : List Value) (Q : Option Addr → Nat → Nat → H → Prop) (h : H) (hs : hsv h p sz l vs) (hb : l * B ≤ 2 ^ 47)
    (k : ∀ p' c' h' bs, Ext none_ h h' → OwnS h' p' l c' sz vs bs → newB h bs → Q p' l c' h') :
    if p.isNone = true then Q none 0 0 h else ∀ (n5 : Nat) (h6 : H), hnew h n5 [] h6 → ∃ (l8 : List Value), hsv h6 p sz l l8 ∧
      pApp h6 sz z B (some (Addr.mk n5 0 none)) 0 0 l l8 fun (o9 : Option Addr) (n10 n11 : Nat) (h12 : H) => Q o9 n10 n11 h12 := by
  cases p with
  | none =>
    have e := hsv_none hs
    have hl : l = 0 := by
      have := hs.1; rw [e] at this
      rcases Nat.eq_zero_or_pos l with h0 | h0
      · exact h0
      · have := Nat.mul_pos h0 hsz; simp_all
    subst hl
    simp only [Option.isNone_none, if_true]
    refine k none 0 h [] (Ext.refl _ _) ?_ (by intro b hb; simp at hb)
    rw [e]; exact OwnS.nil _ _ _
  | some a =>
    rw [if_neg (by simp)]
    intro b h' hn
    have hs' := hsv_ext hn.ext hs (fun _ _ x => x)
    refine ⟨_, hs', pApp_empty hs'.1 hz hs'.2.1 hb ?_⟩
    intro p' c' h'' bs hx ho hbs
    exact k p' c' h'' bs (hn.ext.trans hx) ho (hbs.ext hn.ext)
theorem Clone_bytes_spec (p : Option Addr) (l c : Nat) (vs : List Value) (Q : Option Addr → Nat → Nat → H → Prop) (h : H) (hs : hsv h p 1 l vs) (hb : l * 1 ≤ 2 ^ 47)
    (k : ∀ p' c' h' bs, Ext none_ h h' → OwnS h' p' l c' 1 vs bs → newB h bs → Q p' l c' h') : F_slices_Clone_byte_byte p l c Q h := by
  unfold F_slices_Clone_byte_byte; exact clone_body 1 _ 1 (by omega) rfl p l vs Q h hs hb k
theorem Clone_ints_spec (p : Option Addr) (l c : Nat) (vs : List Value) (Q : Option Addr → Nat → Nat → H → Prop) (h : H) (hs : hsv h p 1 l vs) (hb : l * 8 ≤ 2 ^ 47)
    (k : ∀ p' c' h' bs, Ext none_ h h' → OwnS h' p' l c' 1 vs bs → newB h bs → Q p' l c' h') : F_slices_Clone_int_int p l c Q h := by
  unfold F_slices_Clone_int_int; exact clone_body 1 _ 8 (by omega) rfl p l vs Q h hs hb k
theorem Clone_bools_spec (p : Option Addr) (l c : Nat) (vs : List Value) (Q : Option Addr → Nat → Nat → H → Prop) (h : H) (hs : hsv h p 1 l vs) (hb : l * 1 ≤ 2 ^ 47)
    (k : ∀ p' c' h' bs, Ext none_ h h' → OwnS h' p' l c' 1 vs bs → newB h bs → Q p' l c' h') : F_slices_Clone_bool_bool p l c Q h := by
  unfold F_slices_Clone_bool_bool; exact clone_body 1 _ 1 (by omega) rfl p l vs Q h hs hb k
theorem Clone_cells_spec (p : Option Addr) (l c : Nat) (vs : List Value) (Q : Option Addr → Nat → Nat → H → Prop) (h : H) (hs : hsv h p 32 l vs) (hb : l * 32 ≤ 2 ^ 47)
    (k : ∀ p' c' h' bs, Ext none_ h h' → OwnS h' p' l c' 32 vs bs → newB h bs → Q p' l c' h') : F_slices_Clone_api_Cell_api_Cell p l c Q h := by
  unfold F_slices_Clone_api_Cell_api_Cell; exact clone_body 32 _ 32 (by omega) (by simp) p l vs Q h hs hb k
end Go.Proofs.Ytamfkofcpoglnaa
end

/- Contract: slices.Repeat of one cell. Own work. -/
section
set_option linter.unusedVariables false
namespace Go.Proofs.Ytamfkofcpoglnaa
open Go Go.Vc

theorem wrap_u64_id {n : Int} (h : 0 ≤ n ∧ n < 2 ^ 64) : IntKind.u64.wrap n = n := by
  have : IntKind.u64.wrap n = n % 18446744073709551616 := by simp [IntKind.wrap, IntKind.bits, IntKind.signed]
  rw [this]; omega
theorem and32 {n : Int} (h : 0 ≤ n ∧ n < 2 ^ 32) : bits .and .u64 n 4294967295 = n := by
  have := bits_mask .u64 64 (by decide) (fun n h0 h1 => wrap_u64_id ⟨h0, h1⟩) 32 (by decide) n h.1 (by omega)
  have e : (2 : Int) ^ 32 - 1 = 4294967295 := by decide
  rw [e] at this
  rw [this]; omega
theorem fdiv32 {n : Int} (h : 0 ≤ n ∧ n < 2 ^ 32) : n.fdiv (2 ^ 32) = 0 := by
  rw [Int.fdiv_eq_ediv_of_nonneg _ (by decide)]; omega
theorem Mul_one (n : Int) (hn : 0 ≤ n ∧ n < 2 ^ 31) (Q : Int → Int → H → Prop) (h : H) (k : Q 0 n h) : F_math_bits_Mul 1 n Q h := by
  unfold F_math_bits_Mul G_math_bits_Mul F_math_bits_Mul64 G_math_bits_Mul64
  rintro i rfl
  refine ⟨by decide, ?_⟩
  rintro i rfl
  refine ⟨by decide, by decide, ?_⟩
  rintro i rfl
  refine ⟨by decide, by decide, ?_⟩
  have a1 : bits .and .u64 1 4294967295 = 1 := and32 (by decide)
  have a2 : bits .and .u64 n 4294967295 = n := and32 (by omega)
  have f1 : (1 : Int).fdiv (2 ^ 32) = 0 := fdiv32 (by decide)
  have f2 : n.fdiv (2 ^ 32) = 0 := fdiv32 (by omega)
  have w0 : IntKind.u64.wrap 0 = 0 := wrap_u64_id (by decide)
  have wn : IntKind.u64.wrap n = n := wrap_u64_id (by omega)
  have f0 : (0 : Int).fdiv (2 ^ 32) = 0 := fdiv32 (by decide)
  have a0 : bits .and .u64 0 4294967295 = 0 := and32 (by decide)
  simpa only [a1, a2, f1, f2, Int.zero_mul, Int.mul_zero, Int.one_mul, w0, wn, f0, a0, Int.add_zero, Int.zero_add] using k

theorem rep_add {α : Type} (a b : Nat) (X : List α) : (List.replicate (a + b) X).flatten = (List.replicate a X).flatten ++ (List.replicate b X).flatten := by
  rw [← List.replicate_append_replicate, List.flatten_append]

theorem Repeat_spec (p : Option Addr) (c : Nat) (n : Nat) (X : List Value) (hX : X.length = 32) (hn : 1 ≤ n ∧ n ≤ 2 ^ 20) (Q : Option Addr → Nat → Nat → H → Prop) (h : H) (hs : hsv h p 32 1 X)
    (k : ∀ b h', Ext none_ h h' → Blk h' b (List.replicate n X).flatten → h.size ≤ b → Q (some ⟨b, 0, none⟩) n n h') : F_slices_Repeat_api_Cell_api_Cell p 1 c n Q h := by
  unfold F_slices_Repeat_api_Cell_api_Cell G_slices_Repeat_api_Cell_api_Cell
  intro J7 hJ7
  rw [ltI_eq, if_neg (by simp)]
  apply hJ7
  have w1 : IntKind.u64.wrap ((1 : Nat) : Int) = 1 := wrap_u64_id (by decide)
  have wn : IntKind.u64.wrap (n : Int) = n := wrap_u64_id (by omega)
  have wi : IntKind.i64.wrap (n : Int) = n := wrap_id (by omega)
  rw [w1, wn]
  apply Mul_one _ (by omega)
  intro J12 hJ12
  rw [ltI_eq, if_neg (by simp)]
  rintro i rfl
  rw [ltI_eq, if_neg (by simp; omega)]
  apply hJ12
  simp only [wi, Int.toNat_natCast]
  refine ⟨by omega, by omega, by omega, by omega, ?_⟩
  intro b h15 hnw
  have m1 : Nat.min 1 n = 1 := Nat.min_eq_left hn.1
  simp only [m1]
  have hs' := hsv_ext hnw.ext hs (fun _ _ x => x)
  have lenr : ∀ m : Nat, (List.replicate m X).flatten.length = m * 32 := fun m => by rw [flatten_replicate_length, hX]
  refine ⟨X, hs', Or.inr ⟨_, rfl, hnw.blk.can ?_⟩, ?_⟩
  · rw [flatten_replicate_length]; simp; omega
  intro h19 e19
  intro J hJ
  have hb : h.size ≤ b := by rw [hnw.b]; exact Nat.le_refl _
  -- the block holds i copies, and something
  have main : ∀ d i h', n - i ≤ d → 1 ≤ i → i ≤ n → Ext none_ h h' → (∃ rest, rest.length = (n - i) * 32 ∧ Blk h' b ((List.replicate i X).flatten ++ rest)) → J [SV.dv (DV.one (Value.int IntKind.i64 (i : Int)))] h' := by
    intro d
    induction d with
    | zero =>
      rintro i h' hd h1 h2 hx ⟨rest, hr, kb⟩
      have : i = n := by omega
      subst this
      apply hJ
      rw [ltI_eq, if_neg (by simp)]
      have : rest = [] := List.eq_nil_of_length_eq_zero (by simp [hr])
      subst this
      exact k b h' hx (by simpa using kb) hb
    | succ d ih =>
      rintro i h' hd h1 h2 hx ⟨rest, hr, kb⟩
      apply hJ
      by_cases hin : i < n
      · rw [ltI_eq, if_pos (by simp; omega)]
        have s0 : subAddr (some (Addr.mk b 0 none)) 0 n 32 = some (Addr.mk b 0 none) := by unfold subAddr; rw [if_neg (by omega)]; simp
        have s1 : subAddr (some (Addr.mk b 0 none)) i n 32 = some (Addr.mk b (i * 32) none) := by unfold subAddr; rw [if_neg (by omega)]; simp
        simp only [Int.toNat_natCast, s0, s1, Nat.sub_zero]
        generalize hm : Nat.min i (n - i) = m
        have hm1 : m ≤ i := by rw [← hm]; exact Nat.min_le_left _ _
        have hm2 : m ≤ n - i := by rw [← hm]; exact Nat.min_le_right _ _
        have hm3 : 1 ≤ m := by rw [← hm]; exact Nat.le_min.2 ⟨h1, by omega⟩
        have spl : (List.replicate i X).flatten = (List.replicate m X).flatten ++ (List.replicate (i - m) X).flatten := by
          rw [← rep_add]; congr 2; omega
        refine ⟨by omega, by omega, by omega, by omega, (List.replicate m X).flatten, ⟨lenr m, ?_, Or.inr ⟨_, rfl, ?_⟩⟩, Or.inr ⟨_, rfl, kb.can ?_⟩, ?_⟩
        · intro v hv
          obtain ⟨l, hl, hv⟩ := List.mem_flatten.1 hv
          rw [List.eq_of_mem_replicate hl] at hv
          exact hs.2.1 v hv
        · apply kb.hcs
          intro j hj
          rw [Nat.zero_add, spl, List.append_assoc, List.getElem?_append_left hj]
        · simp [lenr, hr, hX]
          have : m * 32 ≤ (n - i) * 32 := Nat.mul_le_mul_right _ hm2
          omega
        · intro h26 e
          have w : IntKind.i64.wrap ((i : Int) + (m : Int)) = ((i + m : Nat) : Int) := by rw [wrap_id (by omega)]; omega
          rw [w]
          refine ih (i + m) h26 (by omega) (by omega) (by omega) ?_ ?_
          · rw [e]; exact hx.comp (Ext.wr h' b _ _) (by rintro x hlt rfl; omega)
          · have kw := kb.wr (i * 32) (List.replicate m X).flatten
            have e' : h26 = hwr h' ⟨b, i * 32, none⟩ (List.replicate m X).flatten := e
            rw [← e'] at kw
            refine ⟨rest.drop (m * 32), by simp [hr]; omega, ?_⟩
            have hrr : rest = rest.take (m * 32) ++ rest.drop (m * 32) := by simp
            have : splice ((List.replicate i X).flatten ++ rest) (i * 32) (List.replicate m X).flatten = (List.replicate (i + m) X).flatten ++ rest.drop (m * 32) := by
              rw [hrr, ← List.append_assoc, ← lenr i, splice_append, rep_add]
              · simp
              · simp [lenr, hr]
                have : m * 32 ≤ (n - i) * 32 := Nat.mul_le_mul_right _ hm2
                omega
            rw [this] at kw
            exact kw
      · have : i = n := by omega
        subst this
        rw [ltI_eq, if_neg (by simp)]
        have : rest = [] := List.eq_nil_of_length_eq_zero (by simp [hr])
        subst this
        exact k b h' hx (by simpa using kb) hb
  have e' : h19 = hwr h15 ⟨b, 0, none⟩ X := e19
  have kb := hnw.blk.wr 0 X
  rw [← e'] at kb
  refine main n 1 h19 (by omega) (by omega) hn.1 ?_ ⟨(List.replicate (n - 1) (ints .u8 (zeros 32))).flatten, by simp, ?_⟩
  · rw [e']; exact hnw.ext.comp (Ext.wr h15 b _ _) (by rintro x hlt rfl; omega)
  · have : splice (List.replicate n (ints .u8 (zeros 32))).flatten 0 X = (List.replicate 1 X).flatten ++ (List.replicate (n - 1) (ints .u8 (zeros 32))).flatten := by
      have e1 : (List.replicate n (ints .u8 (zeros 32))).flatten = [] ++ ints .u8 (zeros 32) ++ (List.replicate (n - 1) (ints .u8 (zeros 32))).flatten := by
        have : n = 1 + (n - 1) := by omega
        rw [this, rep_add]; simp
      rw [e1]
      have := splice_append [] (ints .u8 (zeros 32)) (List.replicate (n - 1) (ints .u8 (zeros 32))).flatten X (by simp [hX])
      simp only [List.length_nil] at this
      rw [this]; simp
    rw [this] at kb
    exact kb
end Go.Proofs.Ytamfkofcpoglnaa
end

/- Contracts: what is copied; a new chip. Own work. -/
section
set_option linter.unusedVariables false
namespace Go.Proofs.Ytamfkofcpoglnaa
open Go Go.Vc

theorem May_sp {h0 h : H} {A : List Ent} (c : Cfg) {Q : Int → H → Prop} (hs : Sat h0 A h) (k : ∀ h', Sat h0 A h' → Q c.may? h') :
    F_chip_May c.cells c.slots c.fuses c.step c.keys c.erases c.area Q h := by
  apply May_spec
  intro h' x
  have := k h' (hs.ext x)
  unfold Cfg.may? at this
  by_cases hm : c.may
  · rw [if_pos hm] at this ⊢; exact this
  · rw [if_neg hm] at this ⊢; exact this
theorem pages_sp {h0 h : H} {A : List Ent} (c : Cfg) (hm : c.may) {Q : Int → H → Prop} (hs : Sat h0 A h) (k : ∀ h', Sat h0 A h' → Q c.np h') :
    F_chip_pages c.cells c.slots c.fuses c.step c.keys c.erases c.area Q h := pages_spec c hm Q h fun h' x => k h' (hs.ext x)
theorem fuses_sp {h0 h : H} {A : List Ent} (c : Cfg) (hm : c.may) {Q : Int → H → Prop} (hs : Sat h0 A h) (k : ∀ h', Sat h0 A h' → Q c.nf h') :
    F_chip_fuses c.cells c.slots c.fuses c.step c.keys c.erases c.area Q h := fuses_spec c hm Q h fun h' x => k h' (hs.ext x)

theorem Cfg.may.np {c : Cfg} (m : c.may) : 2 ≤ c.np ∧ c.np ≤ 130 := by have := m.area; unfold Cfg.np; omega
theorem Cfg.may.nf {c : Cfg} (m : c.may) : 0 ≤ c.nf ∧ c.nf ≤ 576 := by
  have h1 := m.slots; have h2 := m.fuses; have h3 := m.keys
  have e1 : 0 ≤ c.slots * c.fuses := Int.mul_nonneg (by omega) (by omega)
  have e2 : c.slots * c.fuses ≤ 8 * 64 := Int.mul_le_mul (by omega) (by omega) (by omega) (by omega)
  unfold Cfg.nf; omega

theorem Repeat_sp {h0 h : H} {A : List Ent} (n : Nat) {k : Int} {c i b : Nat} {X : List Int} {Q : Option Addr → Nat → Nat → H → Prop} (hk : k = (n : Int)) (hs : Sat h0 A h) (m : At A i (blk b (ints .u8 X ++ []))) (hX : X.length = 32)
    (hn : 1 ≤ n ∧ n ≤ 2 ^ 20) (kk : ∀ b h', Sat h0 (sE (some ⟨b, 0, none⟩, n, n) 32 (ints .u8 (List.replicate n X).flatten) :: A) h' → Q (some ⟨b, 0, none⟩) n n h') :
    F_slices_Repeat_api_Cell_api_Cell (some ⟨b, 0, none⟩) 1 c k Q h := by
  rw [hk]
  rw [List.append_nil] at m
  refine Repeat_spec _ _ n (ints .u8 X) (by simpa using hX) hn _ _ (hs.bv m (by simpa using hX) (ints_one _ _)) ?_
  intro b' h' x kb hb
  refine kk b' h' ?_
  have e : (List.replicate n (ints .u8 X)).flatten = ints .u8 (List.replicate n X).flatten := by
    simp [ints, List.map_flatten]
  rw [e] at kb
  exact (hs.ofBlk x kb hb).as_sl (.z) (by simp [hX]) (ints_one _ _)
def blankRow (c : Cfg) : List Int := (List.replicate c.cells.toNat blankCell).flatten
def freshSt (c : Cfg) : St := ⟨List.replicate c.np.toNat (blankRow c), zeros c.np.toNat, List.replicate c.nf.toNat false⟩
def freshC (c : Cfg) : Cm := ⟨c, freshSt c, 0, false, -1, []⟩

theorem freshC_ok {c : Cfg} (hm : c.may) : (freshC c).ok := by
  have h1 := hm.np; have h2 := hm.nf; have h3 := hm.cells; have h4 := hm.slots
  refine ⟨hm, ⟨by simp [freshC, freshSt]; omega, ?_, by simp [freshC, freshSt]; omega, by simp [freshC, freshSt]; omega⟩, ⟨?_, ?_⟩, by simp [freshC], by simp [freshC], by intro n hn; simp [freshC] at hn, by simp [freshC], by simp [freshC]⟩
  · intro l hl
    rw [List.eq_of_mem_replicate hl]
    simp [blankRow, blankCell, freshC]; omega
  · intro l hl
    rw [List.eq_of_mem_replicate hl]
    intro n hn
    simp only [blankRow, List.mem_flatten, List.mem_replicate] at hn
    obtain ⟨l, ⟨_, rfl⟩, hn⟩ := hn
    have := List.eq_of_mem_replicate hn
    unfold isByte; omega
  · intro n hn
    have := List.eq_of_mem_replicate hn
    omega
theorem New_sp {h0 h : H} {A : List Ent} (c : Cfg) {Q : Option Addr → Int → H → Prop} (hs : Sat h0 A h)
    (k1 : ¬ c.may → ∀ h', Sat h0 A h' → Q none 1 h')
    (k2 : c.may → ∀ p h', Sat h0 (chipE p (freshC c) :: A) h' → Q (some ⟨p, 0, none⟩) 0 h') :
    F_chip_New c.cells c.slots c.fuses c.step c.keys c.erases c.area Q h := by
  unfold F_chip_New G_chip_New
  simp only [add_mk, Nat.zero_add]
  intro g _ hn; have hs := Sat.new hs hn; clear hn
  (repeat first | refine ⟨_, Sat.ld hs (by (repeat (first | exact At.z | apply At.s))) (by rfl), ?_⟩ | refine ⟨_, _, _, Sat.ld hs (by (repeat (first | exact At.z | apply At.s))) (by rfl), ?_⟩ | (intro _ _ hn; replace hs := Sat.new hs hn; clear hn) | refine ⟨Sat.cs hs (by (repeat (first | exact At.z | apply At.s))) (by rfl), ?_⟩ | (refine ⟨Sat.can hs (by (repeat (first | exact At.z | apply At.s))) (by simp), ?_⟩; intro _ e; replace hs := Sat.wr hs (by (repeat (first | exact At.z | apply At.s))) e; clear e; simp only [put, splice, List.set] at hs))
  refine May_sp c hs ?_
  intro h1 hs
  unfold Cfg.may?
  by_cases hm : c.may
  case neg =>
    rw [if_neg hm, if_pos (by decide)]
    exact k1 hm _ hs.drop
  rw [if_pos hm, if_neg (by decide)]
  intro J hJ
  have hnp := hm.np
  have hnf := hm.nf
  have fin : ∀ p a b h', Sat h0 (blk g c.vals :: blk b (List.replicate c.nf.toNat [Value.bool false]).flatten :: blk a (List.replicate c.np.toNat [Value.int .i64 0]).flatten ::
      blk p [.slice none 0 0, .slice (some ⟨a, 0, none⟩) c.np.toNat c.np.toNat, .slice (some ⟨b, 0, none⟩) c.nf.toNat c.nf.toNat] :: A) h' → J [SV.dv (DV.addr ⟨p, 0, none⟩)] h' := by
    intro p a b h' hs
    apply hJ
    simp only [Cfg.vals] at hs
    (repeat first | refine ⟨_, Sat.ld hs (by (repeat (first | exact At.z | apply At.s))) (by rfl), ?_⟩ | refine ⟨_, _, _, Sat.ld hs (by (repeat (first | exact At.z | apply At.s))) (by rfl), ?_⟩ | (intro _ _ hn; replace hs := Sat.new hs hn; clear hn) | refine ⟨Sat.cs hs (by (repeat (first | exact At.z | apply At.s))) (by rfl), ?_⟩ | (refine ⟨Sat.can hs (by (repeat (first | exact At.z | apply At.s))) (by simp), ?_⟩; intro _ e; replace hs := Sat.wr hs (by (repeat (first | exact At.z | apply At.s))) e; clear e; simp only [put, splice, List.set] at hs))
    refine pages_sp c hm hs ?_
    intro _ hs J38 hJ38
    have hs := hs.mat_nil 32 none
    refine loop_up c.np.toNat (fun i h => ∃ hd : Sl, hd.2.1 = i ∧ Sat h0 (matE 32 hd (List.replicate i (blankRow c)) :: blk g c.vals :: blk b (List.replicate c.nf.toNat [Value.bool false]).flatten :: blk a (List.replicate c.np.toNat [Value.int .i64 0]).flatten ::
      blk p [hd.v, .slice (some ⟨a, 0, none⟩) c.np.toNat c.np.toNat, .slice (some ⟨b, 0, none⟩) c.nf.toNat c.nf.toNat] :: A) h) ?_ ?_ 0 _ (by omega) ⟨_, rfl, hs⟩
    · rintro i h1 hi ⟨⟨hp, hl, hc⟩, e, hs⟩ hk
      simp only at e; subst e
      apply hJ38
      rw [ltI_eq, if_pos (by simp; omega)]
      simp only [Cfg.vals] at hs
      (repeat first | refine ⟨_, Sat.ld hs (by (repeat (first | exact At.z | apply At.s))) (by rfl), ?_⟩ | refine ⟨_, _, _, Sat.ld hs (by (repeat (first | exact At.z | apply At.s))) (by rfl), ?_⟩ | (intro _ _ hn; replace hs := Sat.new hs hn; clear hn) | refine ⟨Sat.cs hs (by (repeat (first | exact At.z | apply At.s))) (by rfl), ?_⟩ | (refine ⟨Sat.can hs (by (repeat (first | exact At.z | apply At.s))) (by simp), ?_⟩; intro _ e; replace hs := Sat.wr hs (by (repeat (first | exact At.z | apply At.s))) e; clear e; simp only [put, splice, List.set] at hs))
      refine blank_spec _ _ fun h2 x2 => ?_
      have hs := hs.ext x2
      (repeat first | refine ⟨_, Sat.ld hs (by (repeat (first | exact At.z | apply At.s))) (by rfl), ?_⟩ | refine ⟨_, _, _, Sat.ld hs (by (repeat (first | exact At.z | apply At.s))) (by rfl), ?_⟩ | (intro _ _ hn; replace hs := Sat.new hs hn; clear hn) | refine ⟨Sat.cs hs (by (repeat (first | exact At.z | apply At.s))) (by rfl), ?_⟩ | (refine ⟨Sat.can hs (by (repeat (first | exact At.z | apply At.s))) (by simp), ?_⟩; intro _ e; replace hs := Sat.wr hs (by (repeat (first | exact At.z | apply At.s))) e; clear e; simp only [put, splice, List.set] at hs))
      have hc' := hm.cells
      have hc'' := hm.slots
      refine Repeat_sp c.cells.toNat ?_ hs (.z) rfl ?_ ?_
      · omega
      · omega
      intro b2 h3 hs
      (repeat first | refine ⟨_, Sat.ld hs (by (repeat (first | exact At.z | apply At.s))) (by rfl), ?_⟩ | refine ⟨_, _, _, Sat.ld hs (by (repeat (first | exact At.z | apply At.s))) (by rfl), ?_⟩ | (intro _ _ hn; replace hs := Sat.new hs hn; clear hn) | refine ⟨Sat.cs hs (by (repeat (first | exact At.z | apply At.s))) (by rfl), ?_⟩ | (refine ⟨Sat.can hs (by (repeat (first | exact At.z | apply At.s))) (by simp), ?_⟩; intro _ e; replace hs := Sat.wr hs (by (repeat (first | exact At.z | apply At.s))) e; clear e; simp only [put, splice, List.set] at hs))
      refine ⟨_, Sat.bv hs (.z) (by simp) (by simp), ?_⟩
      replace hs := Sat.front hs (e := sE (some ⟨b2, 0, none⟩, _, _) 32 _) (by (repeat (first | exact At.z | apply At.s)))
      refine Sat.app_row hs (by (repeat (first | exact At.z | apply At.s))) (by dsimp only; omega) ?_
      intro p' c' h4 hs
      simp only [put, del] at hs
      (repeat first | refine ⟨_, Sat.ld hs (by (repeat (first | exact At.z | apply At.s))) (by rfl), ?_⟩ | refine ⟨_, _, _, Sat.ld hs (by (repeat (first | exact At.z | apply At.s))) (by rfl), ?_⟩ | (intro _ _ hn; replace hs := Sat.new hs hn; clear hn) | refine ⟨Sat.cs hs (by (repeat (first | exact At.z | apply At.s))) (by rfl), ?_⟩ | (refine ⟨Sat.can hs (by (repeat (first | exact At.z | apply At.s))) (by simp), ?_⟩; intro _ e; replace hs := Sat.wr hs (by (repeat (first | exact At.z | apply At.s))) e; clear e; simp only [put, splice, List.set] at hs))
      rw [wrap_succ (by omega)]
      refine hk _ ⟨(p', hl + 1, c'), rfl, ?_⟩
      replace hs := Sat.front hs (e := blk p _) (by (repeat (first | exact At.z | apply At.s)))
      replace hs := Sat.front hs (e := blk a _) (by (repeat (first | exact At.z | apply At.s)))
      replace hs := Sat.front hs (e := blk b _) (by (repeat (first | exact At.z | apply At.s)))
      replace hs := Sat.front hs (e := blk g _) (by (repeat (first | exact At.z | apply At.s)))
      replace hs := Sat.front hs (e := matE 32 _ _) (by (repeat (first | exact At.z | apply At.s)))
      simp only [del] at hs
      rw [List.replicate_succ']
      exact hs.sub (by (repeat (first | exact List.Sublist.refl _ | apply List.Sublist.cons_cons | apply List.Sublist.cons)))
    · rintro h1 ⟨⟨hp, hl, hc⟩, e, hs⟩
      apply hJ38
      rw [ltI_eq, if_neg (by simp; omega)]
      simp only [Cfg.vals] at hs
      (repeat first | refine ⟨_, Sat.ld hs (by (repeat (first | exact At.z | apply At.s))) (by rfl), ?_⟩ | refine ⟨_, _, _, Sat.ld hs (by (repeat (first | exact At.z | apply At.s))) (by rfl), ?_⟩ | (intro _ _ hn; replace hs := Sat.new hs hn; clear hn) | refine ⟨Sat.cs hs (by (repeat (first | exact At.z | apply At.s))) (by rfl), ?_⟩ | (refine ⟨Sat.can hs (by (repeat (first | exact At.z | apply At.s))) (by simp), ?_⟩; intro _ e; replace hs := Sat.wr hs (by (repeat (first | exact At.z | apply At.s))) e; clear e; simp only [put, splice, List.set] at hs))
      refine k2 hm _ _ (Sat.close ⟨(hp, hl, hc), (some ⟨a, 0, none⟩, c.np.toNat, c.np.toNat), (some ⟨b, 0, none⟩, c.nf.toNat, c.nf.toNat), (none, 0, 0)⟩ (freshC_ok hm) ?_)
      have eb : (List.replicate c.nf.toNat [Value.bool false]).flatten = bools (freshC c).s.blown := by simp [freshC, freshSt, bools]
      have ea : (List.replicate c.np.toNat [Value.int .i64 0]).flatten = ints .i64 (freshC c).s.erases := by simp [freshC, freshSt, zeros, ints]
      rw [ea, eb] at hs
      replace hs := hs.as_sl (i := 3) (l := c.nf.toNat) (sz := 1) (.s (.s (.s .z))) (by simp [freshC, freshSt]) (bools_one _)
      replace hs := hs.as_sl (i := 4) (l := c.np.toNat) (sz := 1) (.s (.s (.s (.s .z)))) (by simp [freshC, freshSt]) (ints_one _ _)
      replace hs := hs.sl_nil 1 none
      simp only [put] at hs
      replace hs := Sat.front hs (e := slE _ _ _ 1 (bools _)) (by (repeat (first | exact At.z | apply At.s)))
      replace hs := Sat.front hs (e := slE _ _ _ 1 (ints .i64 _)) (by (repeat (first | exact At.z | apply At.s)))
      replace hs := Sat.front hs (e := matE 32 _ _) (by (repeat (first | exact At.z | apply At.s)))
      replace hs := Sat.front hs (e := blk _ [_, _, _, _, _, _, _, _, _, _, _, _, _, _]) (by (repeat (first | exact At.z | apply At.s)))
      simp only [del] at hs
      exact hs.sub (by (repeat (first | exact List.Sublist.refl _ | apply List.Sublist.cons_cons | apply List.Sublist.cons)))
  repeat' (first | refine ⟨_, Sat.ld hs (by (repeat (first | exact At.z | apply At.s))) (by rfl), ?_⟩ | (intro _ _ hn; replace hs := Sat.new hs hn; clear hn) | refine ⟨Sat.cs hs (by (repeat (first | exact At.z | apply At.s))) (by rfl), ?_⟩ | (refine ⟨Sat.can hs (by (repeat (first | exact At.z | apply At.s))) (by simp), ?_⟩; intro _ e; replace hs := Sat.wr hs (by (repeat (first | exact At.z | apply At.s))) e; clear e; simp only [put, splice, List.set] at hs) | refine ⟨by omega, ?_⟩ | (refine pages_sp c hm hs ?_; intro _ hs) | (refine fuses_sp c hm hs ?_; intro _ hs) | refine And.intro ?_ ?_)
  all_goals
    replace hs := Sat.front hs (e := blk _ [Value.slice none 0 0, Value.slice (some ⟨_, 0, none⟩) _ _, Value.slice (some ⟨_, 0, none⟩) _ _]) (by (repeat (first | exact At.z | apply At.s)))
    replace hs := Sat.front hs (e := blk _ (List.replicate c.np.toNat [Value.int .i64 0]).flatten) (by (repeat (first | exact At.z | apply At.s)))
    replace hs := Sat.front hs (e := blk _ (List.replicate c.nf.toNat [Value.bool false]).flatten) (by (repeat (first | exact At.z | apply At.s)))
    replace hs := Sat.front hs (e := blk _ c.vals) (by (repeat (first | exact At.z | apply At.s)))
    exact fin _ _ _ _ hs
end Go.Proofs.Ytamfkofcpoglnaa
end

/- Contracts of the chip's methods that lay nothing into pages. Own work. -/
section
set_option linter.unusedVariables false
namespace Go.Proofs.Ytamfkofcpoglnaa
open Go Go.Vc

def askedM (C : Cm) (i n : Int) : Int := if C.out = true then 8 else if i < 0 then 2 else if n ≤ i then 2 else 0
def asksCellM (C : Cm) (page cell : Int) : Int := if askedM C page C.s.pages.length ≠ 0 then askedM C page C.s.pages.length else askedM C cell C.cfg.cells
def w64 (n : Int) : Int := IntKind.i64.wrap n
def Cm.act (C : Cm) : Cm :=
  if C.left ≠ 0 then { C with acts := w64 (C.acts + 1), left := if C.left - 1 > -1 then C.left - 1 else -1 }
  else { C with acts := w64 (C.acts + 1), out := true, left := -1, mask := [] }
/-- Which bits of each byte an act may change. -/
def maskAt (C : Cm) (i : Nat) : Int := if C.left ≠ 0 then 255 else if C.mask = [] then 0 else C.mask.getD (i % C.mask.length) 0
def errM (C : Cm) : Int := if C.left ≠ 0 then 0 else 8

theorem w64_range (n : Int) : -(2 ^ 63) ≤ w64 n ∧ w64 n < 2 ^ 63 := by unfold w64; rw [IntKind.wrap_i64]; omega
theorem Cm.ok.act {C : Cm} (k : C.ok) : C.act.ok := by
  have r := w64_range (C.acts + 1)
  have := k.left
  unfold Cm.act
  split
  · exact ⟨k.may, k.fits, k.typed, by dsimp only; split <;> omega, by have := k.left2; dsimp only; split <;> omega, k.mask, r, k.mlen⟩
  · exact ⟨k.may, k.fits, k.typed, by dsimp only; omega, by dsimp only; omega, by intro n hn; simp at hn, r, by simp⟩

theorem chip_close {h0 h : H} {A : List Ent} {i p : Nat} {C C0 : Cm} {a b c m : Sl} (ok : C.ok) (ci : At A i (chipE p C0))
    (hs : Sat h0 (blk p (C.cells a b c m) :: matE 32 a C.s.pages :: sE b 1 (ints .i64 C.s.erases) :: sE c 1 (bools C.s.blown) :: sE m 1 (ints .u8 C.mask) :: del A i) h) : Sat h0 (put A i (chipE p C)) h :=
  Sat.back ci (Sat.close ⟨a, b, c, m⟩ ok hs)
section
variable {h0 h : H} {A : List Ent} {i p : Nat} {C : Cm}
theorem Acts_sp {Q : Int → H → Prop} (hs : Sat h0 A h) (ci : At A i (chipE p C)) (k : Q C.acts h) : F_chip_Chip_Acts ⟨p, 0, none⟩ Q h := by
  unfold F_chip_Chip_Acts G_chip_Chip_Acts
  obtain ⟨w, ok, hs⟩ := (hs.front ci).open_; dsimp only [chipL, List.cons_append, List.nil_append, Cm.cells] at hs
  exact ⟨_, hs.ld .z rfl, k⟩
theorem Out_sp {Q : Bool → H → Prop} (hs : Sat h0 A h) (ci : At A i (chipE p C)) (k : Q C.out h) : F_chip_Chip_Out ⟨p, 0, none⟩ Q h := by
  unfold F_chip_Chip_Out G_chip_Chip_Out
  obtain ⟨w, ok, hs⟩ := (hs.front ci).open_; dsimp only [chipL, List.cons_append, List.nil_append, Cm.cells] at hs
  exact ⟨_, hs.ld .z rfl, k⟩
theorem Config_sp {Q : Int → Int → Int → Int → Int → Int → Int → H → Prop} (hs : Sat h0 A h) (ci : At A i (chipE p C))
    (k : ∀ h', Sat h0 A h' → Q C.cfg.cells C.cfg.slots C.cfg.fuses C.cfg.step C.cfg.keys C.cfg.erases C.cfg.area h') : F_chip_Chip_Config ⟨p, 0, none⟩ Q h := by
  unfold F_chip_Chip_Config G_chip_Chip_Config
  obtain ⟨w, ok, hs⟩ := (hs.front ci).open_; dsimp only [chipL, List.cons_append, List.nil_append, Cm.cells] at hs
  simp only [add_mk, Nat.zero_add]
  (repeat first | refine ⟨_, Sat.ld hs (by (repeat (first | exact At.z | apply At.s))) (by rfl), ?_⟩ | refine ⟨_, _, _, Sat.ld hs (by (repeat (first | exact At.z | apply At.s))) (by rfl), ?_⟩ | (intro _ _ hn; replace hs := Sat.new hs hn; clear hn) | refine ⟨Sat.cs hs (by (repeat (first | exact At.z | apply At.s))) (by rfl), ?_⟩ | (refine ⟨Sat.can hs (by (repeat (first | exact At.z | apply At.s))) (by simp), ?_⟩; intro _ e; replace hs := Sat.wr hs (by (repeat (first | exact At.z | apply At.s))) e; clear e; simp only [put, splice, List.set] at hs))
  refine k _ ?_
  have := chip_close ok ci hs.drop
  rwa [ci.put_self] at this
theorem asked_b {Q : Int → H → Prop} (hs : Sat h0 A h) {a b c m : Sl} (ci : At A i (blk p (C.cells a b c m))) (n j : Int) (k : Q (askedM C j n) h) : F_chip_Chip_asked ⟨p, 0, none⟩ j n Q h := by
  unfold F_chip_Chip_asked G_chip_Chip_asked
  refine ⟨_, hs.ld ci rfl, ?_⟩
  unfold askedM at k
  simp only [ltI_eq, leI_eq, decide_eq_true_eq]
  split
  · simpa [*] using k
  · split
    · simpa [*] using k
    · split <;> simpa [*] using k
theorem asked_sp {Q : Int → H → Prop} (hs : Sat h0 A h) (ci : At A i (chipE p C)) (n j : Int) (k : Q (askedM C j n) h) : F_chip_Chip_asked ⟨p, 0, none⟩ j n Q h := by
  obtain ⟨w, ok, hs⟩ := (hs.front ci).open_; dsimp only [chipL, List.cons_append, List.nil_append, Cm.cells] at hs
  exact asked_b (C := C) hs .z n j k
theorem asksCell_sp {Q : Int → H → Prop} (hs : Sat h0 A h) (ci : At A i (chipE p C)) (page cell : Int) (k : Q (asksCellM C page cell) h) : F_chip_Chip_asksCell ⟨p, 0, none⟩ page cell Q h := by
  unfold F_chip_Chip_asksCell G_chip_Chip_asksCell
  obtain ⟨w, ok, hs⟩ := (hs.front ci).open_; dsimp only [chipL, List.cons_append, List.nil_append, Cm.cells] at hs
  have hl := (hs.rdM (.s .z)).len
  refine ⟨_, _, _, hs.ld .z rfl, ?_⟩
  unfold asksCellM at k
  rw [hl] at k
  refine asked_b (C := C) hs .z _ _ ?_
  split
  · rename_i h1; rw [if_pos (by simpa using h1)] at k; exact k
  · rename_i h1; rw [if_neg (by simpa using h1)] at k
    refine ⟨_, hs.ld .z rfl, asked_b (C := C) hs .z _ _ k⟩

def mayV (v : Value) (f : Nat → Int) : Option (Nat × Sl × List Int) → Prop
  | none => v = .func (.func id_chip_Chip_begins_1) #[] #[] ∧ f = fun _ => 255
  | some (b, _, mask) => v = .func (.func id_chip_Chip_begins_2) #[] #[.pointer (some ⟨b, 0, none⟩)] ∧ f = fun i => if mask = [] then 0 else mask.getD (i % mask.length) 0
def mayL : Option (Nat × Sl × List Int) → List Ent
  | none => []
  | some (b, m, mask) => [blk b [m.v], sE m 1 (ints .u8 mask)]
def mayE (v : Value) (f : Nat → Int) : Ent := exE 3 (mayV v f) mayL
theorem begins_sp {Q : Value → Int → H → Prop} (hs : Sat h0 A h) (ci : At A i (chipE p C))
    (k : ∀ v h', Sat h0 (mayE v (maskAt C) :: put A i (chipE p C.act)) h' → Q v (errM C) h') : F_chip_Chip_begins ⟨p, 0, none⟩ Q h := by
  unfold F_chip_Chip_begins G_chip_Chip_begins
  obtain ⟨w, ok, hs⟩ := (hs.front ci).open_; dsimp only [chipL, List.cons_append, List.nil_append, Cm.cells] at hs
  simp only [add_mk, Nat.zero_add]
  (repeat first | refine ⟨_, Sat.ld hs (by (repeat (first | exact At.z | apply At.s))) (by rfl), ?_⟩ | refine ⟨_, _, _, Sat.ld hs (by (repeat (first | exact At.z | apply At.s))) (by rfl), ?_⟩ | (intro _ _ hn; replace hs := Sat.new hs hn; clear hn) | refine ⟨Sat.cs hs (by (repeat (first | exact At.z | apply At.s))) (by rfl), ?_⟩ | (refine ⟨Sat.can hs (by (repeat (first | exact At.z | apply At.s))) (by simp), ?_⟩; intro _ e; replace hs := Sat.wr hs (by (repeat (first | exact At.z | apply At.s))) e; clear e; simp only [put, splice, List.set] at hs))
  have hl := ok.left
  have ha := ok.act
  by_cases h1 : C.left = 0
  · rw [if_neg (by simp [h1])]
    (repeat first | refine ⟨_, Sat.ld hs (by (repeat (first | exact At.z | apply At.s))) (by rfl), ?_⟩ | refine ⟨_, _, _, Sat.ld hs (by (repeat (first | exact At.z | apply At.s))) (by rfl), ?_⟩ | (intro _ _ hn; replace hs := Sat.new hs hn; clear hn) | refine ⟨Sat.cs hs (by (repeat (first | exact At.z | apply At.s))) (by rfl), ?_⟩ | (refine ⟨Sat.can hs (by (repeat (first | exact At.z | apply At.s))) (by simp), ?_⟩; intro _ e; replace hs := Sat.wr hs (by (repeat (first | exact At.z | apply At.s))) e; clear e; simp only [put, splice, List.set] at hs))
    have e : errM C = 8 := by simp [errM, h1]
    rw [e] at k
    have em : maskAt C = fun i => if C.mask = [] then 0 else C.mask.getD (i % C.mask.length) 0 := by funext i; simp [maskAt, h1]
    have ea : C.act = { C with acts := w64 (C.acts + 1), out := true, left := -1, mask := [] } := by simp [Cm.act, h1]
    rw [em] at k
    rw [ea] at k ha
    refine k _ _ ?_
    replace hs := Sat.front hs (e := slE _ _ _ 1 (ints .u8 C.mask)) (by (repeat (first | exact At.z | apply At.s)))
    replace hs := Sat.front hs (e := blk _ [w.m.v]) (by (repeat (first | exact At.z | apply At.s)))
    replace hs := hs.sl_nil 1 none
    replace hs := Sat.front hs (e := slE _ _ _ 1 (ints .u8 [])) (by (repeat (first | exact At.z | apply At.s))); replace hs := Sat.front hs (e := slE _ _ _ 1 (bools _)) (by (repeat (first | exact At.z | apply At.s))); replace hs := Sat.front hs (e := slE _ _ _ 1 (ints .i64 _)) (by (repeat (first | exact At.z | apply At.s))); replace hs := Sat.front hs (e := matE 32 _ _) (by (repeat (first | exact At.z | apply At.s))); replace hs := Sat.front hs (e := blk p _) (by (repeat (first | exact At.z | apply At.s))); simp only [del] at hs
    exact Sat.close (some (_, w.m, C.mask)) ⟨rfl, rfl⟩ (chip_close (a := w.a) (b := w.b) (c := w.c) (m := (none, 0, 0)) ha ci.s.s hs)
  · rw [if_pos (by simp [h1])]
    (repeat first | refine ⟨_, Sat.ld hs (by (repeat (first | exact At.z | apply At.s))) (by rfl), ?_⟩ | refine ⟨_, _, _, Sat.ld hs (by (repeat (first | exact At.z | apply At.s))) (by rfl), ?_⟩ | (intro _ _ hn; replace hs := Sat.new hs hn; clear hn) | refine ⟨Sat.cs hs (by (repeat (first | exact At.z | apply At.s))) (by rfl), ?_⟩ | (refine ⟨Sat.can hs (by (repeat (first | exact At.z | apply At.s))) (by simp), ?_⟩; intro _ e; replace hs := Sat.wr hs (by (repeat (first | exact At.z | apply At.s))) e; clear e; simp only [put, splice, List.set] at hs))
    have e : errM C = 0 := by simp [errM, h1]
    rw [e] at k
    have em : maskAt C = fun i => 255 := by funext i; simp [maskAt, h1]
    have hw : IntKind.i64.wrap (C.left - 1) = C.left - 1 := by
      have := ok.left2
      rw [IntKind.wrap_i64]; omega
    have ea : C.act = { C with acts := w64 (C.acts + 1), left := if C.left - 1 > -1 then C.left - 1 else -1 } := by simp [Cm.act, h1]
    rw [em] at k
    rw [ea] at k ha
    rw [hw] at hs
    refine k _ _ ?_
    exact Sat.close none ⟨rfl, rfl⟩ (chip_close ha ci hs)
theorem call_may {v : Value} {f : Nat → Int} {Q : List DV → H → Prop} (hs : Sat h0 A h) (mm : At A i (mayE v f)) (n : Nat) {x : Int} (hx : x = n) (k : Q [DV.one (.int .u8 (f n))] h) : callFn PP v [DV.one (.int .i64 x)] Q h := by
  obtain ⟨w, e, hs⟩ := (hs.front mm).open_
  subst hx
  cases w with
  | none =>
    obtain ⟨rfl, rfl⟩ := e
    refine callFn_of R_chip_Chip_begins_1 (by simp) (by simp) (by simp [DV.ok]) ?_
    show F_chip_Chip_begins_1 (n : Int) (fun i h => Q [DV.one (.int .u8 i)] h) h
    unfold F_chip_Chip_begins_1 G_chip_Chip_begins_1
    exact k
  | some w =>
    obtain ⟨b, m, mask⟩ := w
    obtain ⟨rfl, rfl⟩ := e
    refine callFn_of R_chip_Chip_begins_2 (by simp) (by simp) (by simp [DV.ok]) ?_
    show F_chip_Chip_begins_2 (n : Int) ⟨b, 0, none⟩ (fun i h => Q [DV.one (.int .u8 i)] h) h
    unfold F_chip_Chip_begins_2 G_chip_Chip_begins_2
    replace hs : Sat h0 (blk b [m.v] :: sE m 1 (ints .u8 mask) :: del A i) h := hs
    dsimp only at k ⊢
    have hl := hs.sl_len (.s .z)
    simp only [ints_length, Nat.mul_one] at hl
    refine ⟨_, _, _, hs.ld .z rfl, ?_⟩
    by_cases h1 : mask = []
    · rw [if_pos h1] at k
      subst h1
      rw [if_pos (by simp at hl; simp [← hl])]
      exact k
    · rw [if_neg h1] at k
      have hp : 0 < mask.length := List.length_pos_iff.2 h1
      rw [if_neg (by simp; omega)]
      refine ⟨_, _, _, hs.ld .z rfl, ?_⟩
      refine ⟨_, _, _, hs.ld .z rfl, ?_⟩
      obtain ⟨q, hq⟩ := hs.sl_some (.s .z) (by omega)
      obtain ⟨mp, ml, mc⟩ := m
      simp only at hq hl
      subst hq
      have e : (n : Int).tmod (ml : Int) = ((n % ml : Nat) : Int) := by rw [Int.tmod_eq_emod_of_nonneg (by omega)]; omega
      rw [hl] at k
      have hlt : n % ml < ml := Nat.mod_lt _ (by omega)
      refine ⟨by dsimp only; omega, _, rfl, by dsimp only; rw [e]; omega, by dsimp only; rw [e]; omega, _, ?_, k⟩
      dsimp only
      rw [e]
      simp only [add_mk, Nat.zero_add, Int.toNat_natCast, Nat.mul_one]
      refine hs.sld (.s .z) ?_
      rw [ints_get, List.getElem?_eq_getElem (by omega)]
      simp [List.getD, List.getElem?_eq_getElem (show n % ml < mask.length by omega)]

theorem askedM_zero {i n : Int} (e : askedM C i n = 0) : C.out = false ∧ 0 ≤ i ∧ i < n := by
  unfold askedM at e
  split at e
  · omega
  · rename_i h1
    split at e
    · omega
    · split at e
      · omega
      · exact ⟨by simpa using h1, by omega, by omega⟩
def erasesM (C : Cm) (i : Int) : Int × Int := if askedM C i C.s.pages.length ≠ 0 then (0, askedM C i C.s.pages.length) else (C.s.erases.getD i.toNat 0, 0)
theorem Erases_sp {Q : Int → Int → H → Prop} (hs : Sat h0 A h) (ci : At A i (chipE p C)) (j : Int) (k : Q (erasesM C j).1 (erasesM C j).2 h) : F_chip_Chip_Erases ⟨p, 0, none⟩ j Q h := by
  unfold F_chip_Chip_Erases G_chip_Chip_Erases
  have hs' := hs
  obtain ⟨w, ok, hs⟩ := (hs.front ci).open_; dsimp only [chipL, List.cons_append, List.nil_append, Cm.cells] at hs
  simp only [add_mk, Nat.zero_add]
  have hl := hs.sl_len (i := 2) (.s (.s .z))
  simp only [ints_length, Nat.mul_one] at hl
  have hl1 := (hs.rdM (.s .z)).len
  have hf := ok.fits
  have hnp := hf.pages
  have hne := hf.erases
  refine ⟨_, _, _, hs.ld .z rfl, ?_⟩
  rw [← hl1]
  refine asked_sp hs' ci _ _ ?_
  unfold erasesM at k
  by_cases h1 : askedM C j C.s.pages.length = 0
  · rw [if_neg (by simpa using h1)]
    rw [if_neg (by simpa using h1)] at k
    obtain ⟨_, h2, h3⟩ := askedM_zero h1
    refine ⟨_, _, _, hs.ld .z rfl, ?_⟩
    obtain ⟨q, hq⟩ := hs.sl_some (i := 2) (.s (.s .z)) (by omega)
    obtain ⟨w1, ⟨cp, cl, cc⟩, w2, w4⟩ := w
    simp only at hq hl
    subst hq
    refine ⟨_, rfl, h2, by simp only; omega, _, ?_, k⟩
    simp only [add_mk, Nat.zero_add, Nat.mul_one]
    refine hs.sld (i := 2) (.s (.s .z)) ?_
    rw [ints_get, List.getElem?_eq_getElem (by omega)]
    simp [List.getD, List.getElem?_eq_getElem (show j.toNat < C.s.erases.length by omega)]
  · rw [if_pos (by simpa using h1)]
    rw [if_pos (by simpa using h1)] at k
    exact k
def cutM (C : Cm) (n : Int) (mask : List Int) : Cm := { C with left := if n > -1 then n else -1, mask := mask }
theorem Cut_sp {Q : H → Prop} {q : Option Addr} {l c : Nat} {bs : List Int} (hs : Sat h0 A h) (ci : At A i (chipE p C)) (n : Int) (hn : n < 2 ^ 63) (rd : hsv h q 1 l (ints .u8 bs)) (hb : bytesOk bs) (hl : l * 1 ≤ 2 ^ 47)
    (k : ∀ h', Sat h0 (put A i (chipE p (cutM C n bs))) h' → Q h') : F_chip_Chip_Cut ⟨p, 0, none⟩ n q l c Q h := by
  unfold F_chip_Chip_Cut G_chip_Chip_Cut
  obtain ⟨w, ok, hs⟩ := (hs.front ci).open_; dsimp only [chipL, List.cons_append, List.nil_append, Cm.cells] at hs
  simp only [add_mk, Nat.zero_add]
  refine Clone_bytes_spec q l c _ _ h rd hl ?_
  intro p' c' h' bs' x o nb
  replace hs := hs.own x o nb
  (repeat first | refine ⟨_, Sat.ld hs (by (repeat (first | exact At.z | apply At.s))) (by rfl), ?_⟩ | refine ⟨_, _, _, Sat.ld hs (by (repeat (first | exact At.z | apply At.s))) (by rfl), ?_⟩ | (intro _ _ hn; replace hs := Sat.new hs hn; clear hn) | refine ⟨Sat.cs hs (by (repeat (first | exact At.z | apply At.s))) (by rfl), ?_⟩ | (refine ⟨Sat.can hs (by (repeat (first | exact At.z | apply At.s))) (by simp), ?_⟩; intro _ e; replace hs := Sat.wr hs (by (repeat (first | exact At.z | apply At.s))) e; clear e; simp only [put, splice, List.set] at hs))
  refine k _ ?_
  have okc : (cutM C n bs).ok := ⟨ok.may, ok.fits, ok.typed, by simp only [cutM]; split <;> omega, by simp only [cutM]; split <;> omega, hb, ok.acts, by have := rd.1; simp at this; simp only [cutM]; omega⟩
  replace hs := Sat.front hs (e := slE _ _ _ 1 (ints .u8 bs)) (by (repeat (first | exact At.z | apply At.s))); replace hs := Sat.front hs (e := slE _ _ _ 1 (bools _)) (by (repeat (first | exact At.z | apply At.s))); replace hs := Sat.front hs (e := slE _ _ _ 1 (ints .i64 _)) (by (repeat (first | exact At.z | apply At.s))); replace hs := Sat.front hs (e := matE 32 _ _) (by (repeat (first | exact At.z | apply At.s))); replace hs := Sat.front hs (e := blk p _) (by (repeat (first | exact At.z | apply At.s))); simp only [del] at hs
  exact (chip_close (C := cutM C n bs) (a := w.a) (b := w.b) (c := w.c) (m := (p', l, c')) okc ci.s hs).drop
end
end Go.Proofs.Ytamfkofcpoglnaa
end

/- Contracts of the chip's Read, Program, Erase. Own work. -/
section
set_option linter.unusedVariables false
namespace Go.Proofs.Ytamfkofcpoglnaa
open Go Go.Vc

section
variable {h0 h : H} {A : List Ent} {i p : Nat} {C : Cm}
theorem asksCellM_zero {page cell : Int} (ok : C.ok) (e : asksCellM C page cell = 0) : C.out = false ∧ 0 ≤ page ∧ page < C.s.pages.length ∧ 0 ≤ cell ∧ cell < C.cfg.cells ∧
    ∃ hj : page.toNat < C.s.pages.length, (C.s.pages[page.toNat].length : Int) = 32 * C.cfg.cells ∧ (cell.toNat + 1) * 32 ≤ C.s.pages[page.toNat].length := by
  unfold asksCellM at e
  split at e
  · rename_i h1; exact absurd e h1
  · rename_i h1
    have h1 : askedM C page C.s.pages.length = 0 := by simpa using h1
    obtain ⟨h2, h3, h4⟩ := askedM_zero h1
    obtain ⟨_, h5, h6⟩ := askedM_zero e
    have hj : page.toNat < C.s.pages.length := by omega
    have hl := ok.fits.cells _ (List.getElem_mem hj)
    exact ⟨h2, h3, h4, h5, h6, hj, hl, by omega⟩
def readM (C : Cm) (page cell : Int) : List Int × Int :=
  if asksCellM C page cell ≠ 0 then (zeros 32, asksCellM C page cell) else (cellAt (C.s.pages.getD page.toNat []) cell.toNat, 0)
theorem Read_sp {Q : List Int → Int → H → Prop} (hs : Sat h0 A h) (ci : At A i (chipE p C)) (page cell : Int) (k : ∀ h', Sat h0 A h' → Q (readM C page cell).1 (readM C page cell).2 h') :
    F_chip_Chip_Read ⟨p, 0, none⟩ page cell Q h := by
  unfold F_chip_Chip_Read G_chip_Chip_Read
  simp only [add_mk, Nat.zero_add, List.append_nil]
  (intro _ _ hn; replace hs := Sat.new hs hn; clear hn)
  refine asksCell_sp hs (ci.s) _ _ ?_
  unfold readM at k
  by_cases h1 : asksCellM C page cell = 0
  case neg =>
    rw [if_pos (by simpa using h1)]
    rw [if_pos (by simpa using h1)] at k
    (refine ⟨Sat.can hs (by (repeat (first | exact At.z | apply At.s))) (by simp), ?_⟩; intro _ e; replace hs := Sat.wra hs (by (repeat (first | exact At.z | apply At.s))) e (by simp [*]); clear e; simp only [put] at hs)
    refine ⟨_, ?_, hs.row0 (by (repeat (first | exact At.z | apply At.s))), ?_⟩
    · simp
    exact k _ hs.drop
  rw [if_neg (by simpa using h1)]
  rw [if_neg (by simpa using h1)] at k
  have hs' := hs
  obtain ⟨w, ok, hs⟩ := (hs.front ci.s).open_
  obtain ⟨_, h2, h3, h4, h5, hj, hl, hk⟩ := asksCellM_zero ok h1
  dsimp only [chipL, List.cons_append, List.nil_append, Cm.cells] at hs
  refine ⟨_, _, _, hs.ld .z rfl, ?_⟩
  have rd := hs.rdM (.s .z)
  have hlen := rd.len
  obtain ⟨q, x, q', e1, e2, e3, e4, e5⟩ := rd.cell hj hk
  rw [e1]
  refine ⟨_, rfl, h2, by (try dsimp only); omega, ?_⟩
  refine ⟨_, _, _, e2, ?_⟩
  refine ⟨_, e4, h4, by omega, ?_⟩
  refine ⟨_, cellAt_length hk, e5, ?_⟩
  replace hs := hs'
  have hcl := cellAt_length hk
  (refine ⟨Sat.can hs (by (repeat (first | exact At.z | apply At.s))) (by simp), ?_⟩; intro _ e; replace hs := Sat.wra hs (by (repeat (first | exact At.z | apply At.s))) e (by simp [*]); clear e; simp only [put] at hs)
  refine ⟨_, ?_, hs.row0 (by (repeat (first | exact At.z | apply At.s))), ?_⟩
  · exact hcl
  have : C.s.pages.getD page.toNat [] = C.s.pages[page.toNat] := by simp [List.getD, List.getElem?_eq_getElem hj]
  rw [this] at k
  exact k _ hs.drop

def progCell (old x : List Int) (f : Nat → Int) : List Int := mapTo (fun i now => bits .andNot .u8 now (bits .andNot .u8 (f i) (x.getD i 0))) 32 old
def Cm.setPage (C : Cm) (j : Nat) (row : List Int) : Cm := { C with s := { C.s with pages := C.s.pages.set j row } }
def rowOf (C : Cm) (page : Int) : List Int := C.s.pages.getD page.toNat []
def programM (C : Cm) (page cell : Int) (x : List Int) : Cm × Int :=
  if asksCellM C page cell ≠ 0 then (C, asksCellM C page cell)
  else (C.act.setPage page.toNat (rowSet (rowOf C page) cell.toNat (progCell (cellAt (rowOf C page) cell.toNat) x (maskAt C))), errM C)
theorem act_s (C : Cm) : C.act.s = C.s := by unfold Cm.act; split <;> rfl
theorem act_cfg (C : Cm) : C.act.cfg = C.cfg := by unfold Cm.act; split <;> rfl
theorem byte_bits (op : BinOp) (a b : Int) : isByte (bits op .u8 a b) := by
  have h1 := bits_lo_u8 op a b; have h2 := bits_hi_u8 op a b
  unfold isByte; omega
theorem Cm.ok.setPage {C : Cm} (ok : C.ok) {j : Nat} {row : List Int} (hl : (row.length : Int) = 32 * C.cfg.cells) (hb : bytesOk row) : (C.setPage j row).ok := by
  refine ⟨ok.may, ⟨by simpa [Cm.setPage] using ok.fits.pages, ?_, ok.fits.erases, ok.fits.blown⟩, ⟨?_, ok.typed.erases⟩, ok.left, ok.left2, ok.mask, ok.acts, ok.mlen⟩
  · intro l hm
    rcases List.mem_or_eq_of_mem_set hm with hm | hm
    · exact ok.fits.cells l hm
    · rw [hm]; exact hl
  · intro l hm
    rcases List.mem_or_eq_of_mem_set hm with hm | hm
    · exact ok.typed.bytes l hm
    · rw [hm]; exact hb
theorem mapTo_mem {g : Nat → Int → Int} {n : Nat} {ns : List Int} {P : Int → Prop} (h1 : ∀ v, v ∈ ns → P v) (h2 : ∀ i v, v ∈ ns → P (g i v)) : ∀ v, v ∈ mapTo g n ns → P v := by
  intro v hv
  obtain ⟨i, hi⟩ := List.mem_iff_getElem?.1 hv
  rw [mapTo_get] at hi
  cases e : ns[i]? with
  | none => rw [e] at hi; simp at hi
  | some u =>
    rw [e] at hi
    have hu : u ∈ ns := List.mem_iff_getElem?.2 ⟨i, e⟩
    simp only [Option.map_some, Option.some.injEq] at hi
    rw [← hi]; split
    · exact h2 _ _ hu
    · exact h1 _ hu
theorem cellAt_mem {row : List Int} {k : Nat} {v : Int} (h : v ∈ cellAt row k) : v ∈ row := List.mem_of_mem_drop (List.mem_of_mem_take h)
theorem rowSet_mem {row c : List Int} {k : Nat} {v : Int} (h : v ∈ rowSet row k c) : v ∈ row ∨ v ∈ c := by
  simp only [rowSet, List.mem_append] at h
  rcases h with (h | h) | h
  · exact Or.inl (List.mem_of_mem_take h)
  · exact Or.inr h
  · exact Or.inl (List.mem_of_mem_drop h)

theorem Program_sp {Q : Int → H → Prop} (hs : Sat h0 A h) (ci : At A i (chipE p C)) (page cell : Int) (x : List Int) (hx : x.length = 32) (k : ∀ h', Sat h0 (put A i (chipE p (programM C page cell x).1)) h' → Q (programM C page cell x).2 h') :
    F_chip_Chip_Program ⟨p, 0, none⟩ page cell x Q h := by
  unfold F_chip_Chip_Program G_chip_Chip_Program
  simp only [add_mk, Nat.zero_add, List.append_nil]
  intro nx _ hn
  replace hs := Sat.new hs hn
  clear hn
  refine asksCell_sp hs (ci.s) _ _ ?_
  unfold programM at k
  by_cases h1 : asksCellM C page cell = 0
  case neg =>
    rw [if_pos (by simpa using h1)]
    rw [if_pos (by simpa using h1)] at k
    exact k _ (ci.put_self.symm ▸ hs.drop)
  rw [if_neg (by simpa using h1)]
  rw [if_neg (by simpa using h1)] at k
  obtain ⟨w0, ok, _⟩ := (hs.front ci.s).open_
  obtain ⟨_, h2, h3, h4, h5, hj, hl, hk⟩ := asksCellM_zero ok h1
  have erow : rowOf C page = C.s.pages[page.toNat] := by simp [rowOf, List.getD, List.getElem?_eq_getElem hj]
  rw [erow] at k
  refine begins_sp hs ci.s ?_
  intro v h6 hs
  simp only [put_succ] at hs
  have ci2 := ((ci.put (chipE p C.act)).s (x := blk nx (ints .u8 x))).s (x := mayE v (maskAt C))
  have hsO := (hs.front ci2).open_
  obtain ⟨w, ok', hsO⟩ := hsO
  dsimp only [chipL, List.cons_append, List.nil_append, Cm.cells] at hsO
  rw [act_s] at hsO
  refine ⟨_, _, _, hsO.ld .z rfl, ?_⟩
  have rd := hsO.rdM (.s .z)
  have hlen := rd.len
  obtain ⟨q, y, q', e1, e2, e3, e4, e5⟩ := rd.cell hj hk
  rw [e1]
  refine ⟨_, rfl, h2, by (try dsimp only); omega, ?_⟩
  refine ⟨_, _, _, e2, ?_⟩
  refine ⟨_, e4, h4, by omega, ?_⟩
  have hcl := cellAt_length hk
  refine ⟨_, hcl, e5, ?_⟩
  intro no _ hn
  replace hs := Sat.new hs hn
  clear hn
  (refine ⟨Sat.can hs (by (repeat (first | exact At.z | apply At.s))) (by simp), ?_⟩; intro _ e; replace hs := Sat.wra hs (by (repeat (first | exact At.z | apply At.s))) e (by simp [*]); clear e; simp only [put] at hs)
  refine ⟨_, ?_, hs.row0 (by (repeat (first | exact At.z | apply At.s))), ?_⟩
  · exact hcl
  intro nn _ hn
  replace hs := Sat.new hs hn
  clear hn
  (refine ⟨Sat.can hs (by (repeat (first | exact At.z | apply At.s))) (by simp), ?_⟩; intro _ e; replace hs := Sat.wra hs (by (repeat (first | exact At.z | apply At.s))) e (by simp [*]); clear e; simp only [put] at hs)
  intro J hJ
  generalize hold : cellAt C.s.pages[page.toNat] cell.toNat = old at *
  let g := fun (i : Nat) (now : Int) => bits .andNot .u8 now (bits .andNot .u8 (maskAt C i) (x.getD i 0))
  refine loop_up 32 (fun i h => Sat h0 (blk nn (ints .u8 (mapTo g i old)) :: blk no (ints .u8 old) :: mayE v (maskAt C) :: blk nx (ints .u8 x) :: put A _ (chipE p C.act)) h) ?_ ?_ 0 _ (by omega) (by simpa using hs)
  · intro j h7 hjl hs hk'
    apply hJ
    rw [ltI_eq, if_pos (by simp; omega)]
    simp only [Int.toNat_natCast, Nat.mul_one]
    have hmj : j < (mapTo g j old).length := by simp; omega
    have eg : (mapTo g j old)[j] = old[j] := by
      have := mapTo_get g j old j
      rw [List.getElem?_eq_getElem hmj, List.getElem?_eq_getElem (by omega)] at this
      simpa using this
    refine ⟨by omega, by omega, _, hs.ld .z (by rw [ints_get, List.getElem?_eq_getElem hmj]; rfl), by omega, by omega, _, hs.ld (.s (.s (.s .z))) (by rw [ints_get, List.getElem?_eq_getElem (by omega)]; rfl), ?_⟩
    refine call_may hs (.s (.s .z)) j rfl ?_
    refine ⟨_, _, rfl, _, rfl, rfl, hcs_one (hs.ld (.s (.s (.s .z))) (by rw [ints_get, List.getElem?_eq_getElem (by omega)]; rfl)), hcs_one (hs.ld .z (by rw [ints_get, List.getElem?_eq_getElem hmj]; rfl)), by omega, by omega, hs.can .z (by simp; omega), ?_⟩
    intro h8 e8
    replace hs := hs.wr .z e8
    rw [wrap_succ (by omega)]
    refine hk' _ ?_
    simp only [splice_cons, splice_nil, ints_set, put] at hs
    have e9 := mapTo_succ g j old (by omega)
    rw [← e9]
    have e10 : x.getD j 0 = x[j] := by simp [List.getD, List.getElem?_eq_getElem (show j < x.length by omega)]
    rw [eg] at hs
    simpa only [g, e10] using hs
  · intro h7 hs
    apply hJ
    rw [ltI_eq, if_neg (by simp)]
    have hnl : (mapTo g 32 old).length = 32 := by simpa using hcl
    refine ⟨_, ?_, hs.row0 (by (repeat (first | exact At.z | apply At.s))), ?_⟩
    · exact hnl
    refine ⟨_, hcl, hs.row0 (.s .z), ?_⟩
    have ci3 := (ci2.s (x := blk no (ints .u8 old))).s (x := blk nn (ints .u8 (mapTo g 32 old)))
    obtain ⟨w', _, hsO⟩ := (hs.front ci3).open_
    dsimp only [chipL, List.cons_append, List.nil_append, Cm.cells] at hsO
    rw [act_s] at hsO
    have hrow : (C.s.pages[page.toNat].length : Int) = 32 * C.act.cfg.cells := by rw [act_cfg]; exact hl
    have ok2 := ok'.setPage (j := page.toNat) (row := rowSet C.s.pages[page.toNat] cell.toNat (mapTo g 32 old)) (by rw [rowSet_length hk hnl]; exact hrow) (by
      intro n hn
      rcases rowSet_mem hn with hn | hn
      · exact ok.typed.bytes _ (List.getElem_mem hj) n hn
      · refine mapTo_mem (P := isByte) (fun v hv => ?_) (fun i v hv => byte_bits _ _ _) n hn
        rw [← hold] at hv
        exact ok.typed.bytes _ (List.getElem_mem hj) v (cellAt_mem hv))
    split
    case isTrue hne =>
      refine ⟨_, _, _, hsO.ld .z rfl, ?_⟩
      have hl1 := (hsO.rdM (.s .z)).len
      obtain ⟨y', hd, R, e6, hsT, give⟩ := (hsO.front (.s .z)).row_take hj
      obtain ⟨⟨wp, wl, wc⟩, wb, wc', wm⟩ := w'
      dsimp only at hl1 hsT give
      have hl2 : C.s.pages.length = wl := hl1
      obtain ⟨qb, hq⟩ := hsT.sl_some (.s .z) (show 0 < wl by omega)
      subst hq
      refine ⟨_, rfl, h2, by dsimp only; omega, ?_⟩
      simp only [add_mk, Nat.zero_add, Nat.mul_one]
      refine ⟨_, _, _, hsT.sld (.s .z) e6, ?_⟩
      refine ⟨_, ?_, hs.row0 (by (repeat (first | exact At.z | apply At.s))), ?_⟩
      · exact hnl
      have hyl := hsT.sl_len .z
      simp only [ints_length] at hyl
      obtain ⟨yp, yl, yc⟩ := y'
      dsimp only at hyl
      obtain ⟨yb, hy⟩ := hsT.sl_some .z (by dsimp only; omega)
      dsimp only at hy
      subst hy
      refine ⟨_, rfl, h4, by dsimp only; omega, ?_⟩
      simp only [add_mk, Nat.zero_add]
      refine ⟨hsT.scan .z (by dsimp only; omega) (by simp; omega), ?_⟩
      intro h8 e8
      have hsW := hsT.swr .z e8 (by dsimp only; omega) (by simp [hcl]; omega) (ints_one _ _)
      rw [splice_rowSet hk hnl] at hsW
      have hsG := give _ _ _ hsW
      have hsC := chip_close (a := (some ⟨qb, 0, none⟩, wl, wc)) (b := wb) (c := wc') (m := wm) ok2 ci3 (by rw [Cm.setPage, act_s]; exact hsG.front (.s .z))
      simp only [put_succ, put_put] at hsC
      exact k _ hsC.drop.drop.drop.drop
    case isFalse hne =>
      have hne : mapTo g 32 old = old := by simpa using hne
      replace hne : progCell old x (maskAt C) = old := hne
      have e1 : rowSet C.s.pages[page.toNat] cell.toNat (cellAt C.s.pages[page.toNat] cell.toNat) = C.s.pages[page.toNat] := by
        unfold rowSet cellAt
        rw [List.append_assoc, ← List.drop_drop, List.take_append_drop, List.take_append_drop]
      have e2 : C.act.setPage page.toNat C.s.pages[page.toNat] = C.act := by
        have : C.act.s.pages.set page.toNat C.s.pages[page.toNat] = C.act.s.pages := by rw [act_s]; exact List.set_getElem_self hj
        unfold Cm.setPage; rw [this]
      rw [hne, ← hold, e1, e2] at k
      exact k _ hs.drop.drop.drop.drop

def eraseRow (row : List Int) (f : Nat → Int) : List Int := mapTo (fun i b => bits .or .u8 b (f i)) row.length row
def Cm.setErase (C : Cm) (j : Nat) (n : Int) : Cm := { C with s := { C.s with erases := C.s.erases.set j n } }
def eraseM (C : Cm) (page : Int) : Cm × Int :=
  if askedM C page C.s.pages.length ≠ 0 then (C, askedM C page C.s.pages.length)
  else if C.cfg.erases ≤ C.s.erases.getD page.toNat 0 then (C, 9)
  else ((C.act.setErase page.toNat (C.s.erases.getD page.toNat 0 + 1)).setPage page.toNat (eraseRow (rowOf C page) (maskAt C)), errM C)
theorem Cm.ok.setErase {C : Cm} (ok : C.ok) {j : Nat} {n : Int} (hn : -(2 ^ 63) ≤ n ∧ n < 2 ^ 63) : (C.setErase j n).ok := by
  refine ⟨ok.may, ⟨ok.fits.pages, ok.fits.cells, by simpa [Cm.setErase] using ok.fits.erases, ok.fits.blown⟩, ⟨ok.typed.bytes, ?_⟩, ok.left, ok.left2, ok.mask, ok.acts, ok.mlen⟩
  intro l hm
  rcases List.mem_or_eq_of_mem_set hm with hm | hm
  · exact ok.typed.erases l hm
  · rw [hm]; exact hn
/-- The first i entries of a row mapped, in place. -/
theorem mapTo_out {g : Nat → Int → Int} {i j : Nat} {ns : List Int} (h : i ≤ j) (hj : j < ns.length) : (mapTo g i ns)[j]? = some ns[j] := by
  rw [mapTo_get, List.getElem?_eq_getElem hj]; simp; omega

theorem Erase_sp {Q : Int → H → Prop} (hs : Sat h0 A h) (ci : At A i (chipE p C)) (page : Int) (k : ∀ h', Sat h0 (put A i (chipE p (eraseM C page).1)) h' → Q (eraseM C page).2 h') :
    F_chip_Chip_Erase ⟨p, 0, none⟩ page Q h := by
  unfold F_chip_Chip_Erase G_chip_Chip_Erase
  simp only [add_mk, Nat.zero_add]
  have hs' := hs
  obtain ⟨w, ok, hs⟩ := (hs.front ci).open_; dsimp only [chipL, List.cons_append, List.nil_append, Cm.cells] at hs
  have hlp := (hs.rdM (.s .z)).len
  have hle := hs.sl_len (i := 2) (.s (.s .z))
  simp only [ints_length, Nat.mul_one] at hle
  refine ⟨_, _, _, hs.ld .z rfl, ?_⟩
  rw [← hlp]
  refine asked_sp hs' ci _ _ ?_
  unfold eraseM at k
  by_cases h1 : askedM C page C.s.pages.length = 0
  case neg =>
    rw [if_pos (by simpa using h1)]
    rw [if_pos (by simpa using h1)] at k
    exact k _ (ci.put_self.symm ▸ hs')
  rw [if_neg (by simpa using h1)]
  rw [if_neg (by simpa using h1)] at k
  obtain ⟨_, h2, h3⟩ := askedM_zero h1
  have hf1 := ok.fits.pages
  have hf2 := ok.fits.erases
  have hje : page.toNat < C.s.erases.length := by omega
  have hjp : page.toNat < C.s.pages.length := by omega
  have eer : C.s.erases.getD page.toNat 0 = C.s.erases[page.toNat] := by simp [List.getD, List.getElem?_eq_getElem hje]
  have erow : rowOf C page = C.s.pages[page.toNat] := by simp [rowOf, List.getD, List.getElem?_eq_getElem hjp]
  rw [eer, erow] at k
  refine ⟨_, _, _, hs.ld .z rfl, ?_⟩
  obtain ⟨w1, ⟨ep, el, ec⟩, w3, w4⟩ := w
  replace hle : C.s.erases.length = el := hle
  obtain ⟨eb, he⟩ := hs.sl_some (i := 2) (.s (.s .z)) (show 0 < el by omega)
  dsimp only at he
  subst he
  refine ⟨_, rfl, h2, by (try dsimp only); omega, ?_⟩
  simp only [add_mk, Nat.zero_add, Nat.mul_one]
  refine ⟨_, hs.sld (i := 2) (.s (.s .z)) (by rw [ints_get, List.getElem?_eq_getElem hje]; rfl), ?_⟩
  refine ⟨_, Sat.ld hs (by (repeat (first | exact At.z | apply At.s))) (by rfl), ?_⟩
  by_cases h4 : C.cfg.erases ≤ C.s.erases[page.toNat]
  case pos =>
    rw [leI_eq, if_pos (by simpa using h4)]
    rw [if_pos h4] at k
    exact k _ (ci.put_self.symm ▸ hs')
  rw [leI_eq, if_neg (by simpa using h4)]
  rw [if_neg h4] at k
  refine begins_sp hs' ci ?_
  intro v h6 hs
  have ci2 := (ci.put (chipE p C.act)).s (x := mayE v (maskAt C))
  obtain ⟨w, ok', hs⟩ := (hs.front ci2).open_
  dsimp only [chipL, List.cons_append, List.nil_append, Cm.cells] at hs
  rw [act_s] at hs
  have hle := hs.sl_len (i := 2) (.s (.s .z))
  simp only [ints_length, Nat.mul_one] at hle
  have hlp := (hs.rdM (.s .z)).len
  obtain ⟨⟨pp, pl, pc⟩, ⟨ep, el, ec⟩, w3, w4⟩ := w
  replace hle : C.s.erases.length = el := hle
  replace hlp : C.s.pages.length = pl := hlp
  obtain ⟨eb, he⟩ := hs.sl_some (i := 2) (.s (.s .z)) (show 0 < el by omega)
  dsimp only at he
  subst he
  refine ⟨_, _, _, Sat.ld hs (by (repeat (first | exact At.z | apply At.s))) (by rfl), ?_⟩
  refine ⟨_, rfl, h2, by (try dsimp only); omega, ?_⟩
  simp only [add_mk, Nat.zero_add, Nat.mul_one]
  refine ⟨_, hs.sld (i := 2) (.s (.s .z)) (by rw [ints_get, List.getElem?_eq_getElem hje]; rfl), ?_⟩
  refine ⟨_, rfl, h2, by (try dsimp only); omega, ?_⟩
  simp only [add_mk, Nat.zero_add, Nat.mul_one]
  refine ⟨hs.scan (i := 2) (.s (.s .z)) (show 0 < el by omega) (by simp; omega), ?_⟩
  intro h7 e7
  replace hs := hs.swr (i := 2) (.s (.s .z)) e7 (show 0 < el by omega) (by simp; omega) (by simp)
  simp only [put, splice, ints_set] at hs
  have hce := ok.typed.erases _ (List.getElem_mem hje)
  have hcm := ok.may.erases
  rw [show IntKind.i64.wrap (C.s.erases[page.toNat] + 1) = C.s.erases[page.toNat] + 1 by rw [IntKind.wrap_i64]; omega] at hs
  have hs7 := hs
  refine ⟨_, _, _, Sat.ld hs (by (repeat (first | exact At.z | apply At.s))) (by rfl), ?_⟩
  obtain ⟨⟨yp, yl, yc⟩, hd, R, e8, hs, give⟩ := (hs.front (.s .z)).row_take hjp
  obtain ⟨qb, hq⟩ := hs.sl_some (.s .z) (show 0 < pl by omega)
  dsimp only at hq
  subst hq
  refine ⟨_, rfl, h2, by (try dsimp only); omega, ?_⟩
  simp only [add_mk, Nat.zero_add, Nat.mul_one]
  refine ⟨_, _, _, hs.sld (.s .z) e8, ?_⟩
  have hcl := ok.fits.cells _ (List.getElem_mem hjp)
  have hcc := ok.may.cells
  have hcs := ok.may.slots
  have hyl := hs.sl_len .z
  simp only [ints_length] at hyl
  obtain ⟨yb, hy⟩ := hs.sl_some .z (show 0 < yl by omega)
  dsimp only at hy
  subst hy
  have hbr := ok.typed.bytes _ (List.getElem_mem hjp)
  generalize C.s.pages[page.toNat] = row at *
  let g := fun (i : Nat) (b : Int) => bits .or .u8 b (maskAt C i)
  intro J hJ
  have hmg : ∀ n, (mapTo g n row).length = row.length := fun n => by simp
  refine loop_up C.cfg.cells.toNat (fun k h => Sat h0 (sE (some ⟨yb, 0, none⟩, yl, yc) 32 (ints .u8 (mapTo g (32 * k) row)) :: sE (some ⟨qb, 0, none⟩, pl, pc) 1 hd :: ((blk p (C.act.cells (some ⟨qb, 0, none⟩, pl, pc) (some ⟨eb, 0, none⟩, el, ec) w3 w4) ::
      sE (some ⟨eb, 0, none⟩, el, ec) 1 (ints .i64 (C.s.erases.set page.toNat (C.s.erases[page.toNat] + 1))) :: sE w3 1 (bools C.s.blown) :: sE w4 1 (ints .u8 C.act.mask) :: mayE v (maskAt C) :: del (put A i (chipE p C.act)) i) ++ R)) h) ?_ ?_ 0 _ (by omega) (by rw [Nat.mul_zero, mapTo_zero]; exact hs)
  · intro k h8 hk hs hk'
    apply hJ
    rw [ltI_eq, if_pos (by simp; omega)]
    simp only [Cm.cells] at hs
    refine ⟨_, _, _, hs.ld (.s (.s .z)) rfl, ?_⟩
    refine ⟨_, rfl, h2, by (try dsimp only); omega, ?_⟩
    simp only [add_mk, Nat.zero_add, Nat.mul_one]
    refine ⟨_, _, _, hs.sld (.s .z) e8, ?_⟩
    refine ⟨_, rfl, by omega, by (try dsimp only); omega, ?_⟩
    intro J2 hJ2
    refine loop_up 32 (fun j h => Sat h0 (sE (some ⟨yb, 0, none⟩, yl, yc) 32 (ints .u8 (mapTo g (32 * k + j) row)) :: sE (some ⟨qb, 0, none⟩, pl, pc) 1 hd :: ((blk p (C.act.cells (some ⟨qb, 0, none⟩, pl, pc) (some ⟨eb, 0, none⟩, el, ec) w3 w4) ::
      sE (some ⟨eb, 0, none⟩, el, ec) 1 (ints .i64 (C.s.erases.set page.toNat (C.s.erases[page.toNat] + 1))) :: sE w3 1 (bools C.s.blown) :: sE w4 1 (ints .u8 C.act.mask) :: mayE v (maskAt C) :: del (put A i (chipE p C.act)) i) ++ R)) h) ?_ ?_ 0 _ (by omega) (by rw [Nat.add_zero]; exact hs)
    · intro j h9 hj hs hk2
      apply hJ2
      rw [ltI_eq, if_pos (by simp; omega)]
      simp only [add_mk, Nat.zero_add, Nat.mul_one, Int.toNat_natCast]
      have hlt : k * 32 + j < row.length := by omega
      have ea : (mapTo g (32 * k + j) row)[k * 32 + j]? = some row[k * 32 + j] := mapTo_out (by omega) hlt
      have eb' : (ints .u8 (mapTo g (32 * k + j) row))[k * 32 + j]? = some (.int .u8 row[k * 32 + j]) := by rw [ints_get, ea]; rfl
      refine ⟨by omega, by omega, _, hs.sld .z eb', ?_⟩
      have ew : IntKind.i64.wrap (IntKind.i64.wrap ((k : Int) * 32) + (j : Int)) = ((k * 32 + j : Nat) : Int) := by rw [wrap_id (n := (k : Int) * 32) (by omega), wrap_id (by omega)]; omega
      rw [ew]
      refine call_may (i := 6) hs (.s (.s (.s (.s (.s (.s .z)))))) (k * 32 + j) rfl ?_
      refine ⟨_, _, rfl, _, rfl, rfl, hcs_one (hs.sld .z eb'), by omega, by omega, hs.scan .z (show 0 < yl by omega) (by simp; omega), ?_⟩
      intro h10 e10
      replace hs := hs.swr .z e10 (show 0 < yl by omega) (by simp; omega) (by simp)
      rw [wrap_succ (by omega)]
      refine hk2 _ ?_
      simp only [splice_cons, splice_nil, ints_set, put] at hs
      have e11 : (mapTo g (32 * k + j) row).set (k * 32 + j) (bits .or .u8 row[k * 32 + j] (maskAt C (k * 32 + j))) = mapTo g (32 * k + (j + 1)) row := by
        have := mapTo_succ g (32 * k + j) row (by omega)
        rw [show 32 * k + (j + 1) = 32 * k + j + 1 by omega, ← this]
        have e12 : 32 * k + j = k * 32 + j := by omega
        simp only [e12, g]
      rw [e11] at hs
      exact hs
    · intro h9 hs
      apply hJ2
      rw [ltI_eq, if_neg (by simp)]
      rw [wrap_succ (by omega)]
      exact hk' _ hs
  · intro h8 hs
    apply hJ
    rw [ltI_eq, if_neg (by simp; omega)]
    have e12 : mapTo g (32 * C.cfg.cells.toNat) row = eraseRow row (maskAt C) := by
      unfold eraseRow
      have : 32 * C.cfg.cells.toNat = row.length := by omega
      rw [this]
    rw [e12] at hs
    replace hs := (give _ _ _ hs).front (.s .z)
    have hce' : ((C.act.setErase page.toNat (C.s.erases[page.toNat] + 1)).setPage page.toNat (eraseRow row (maskAt C))).ok := by
      refine (ok'.setErase (by omega)).setPage ?_ ?_
      · show ((eraseRow row (maskAt C)).length : Int) = 32 * C.act.cfg.cells
        rw [act_cfg, ← e12, hmg]; exact hcl
      · refine mapTo_mem (P := isByte) (fun v hv => hbr v hv) (fun i v hv => byte_bits _ _ _)
    have hsC := chip_close (a := (some ⟨qb, 0, none⟩, pl, pc)) (b := (some ⟨eb, 0, none⟩, el, ec)) (c := w3) (m := w4) hce' ci2 (by rw [Cm.setPage, Cm.setErase, act_s]; exact hs)
    simp only [put_succ, put_put] at hsC
    exact k _ hsC.drop
end
end Go.Proofs.Ytamfkofcpoglnaa
end

/- Contracts of copies: copied, State, Copy. Own work. -/
section
set_option linter.unusedVariables false
namespace Go.Proofs.Ytamfkofcpoglnaa
open Go Go.Vc

/-- May it be copied? -/
structure St.small (s : St) : Prop where
  pages : s.pages.length * 24 + 4096 ≤ 2 ^ 47
  rows : ∀ l, l ∈ s.pages → l.length + 4096 ≤ 2 ^ 47
  erases : s.erases.length * 8 + 4096 ≤ 2 ^ 47
  blown : s.blown.length + 4096 ≤ 2 ^ 47
theorem Cm.ok.small {C : Cm} (ok : C.ok) : C.s.small := by
  have h1 := ok.may.np; have h2 := ok.may.nf; have h3 := ok.fits; have h4 := ok.may.cells
  refine ⟨by have := h3.pages; omega, fun l hl => by have := h3.cells l hl; omega, by have := h3.erases; omega, by have := h3.blown; omega⟩

section
variable {h0 h : H} {A : List Ent} {i p : Nat} {C : Cm}
theorem Clone_cells_sp {p : Option Addr} {l c : Nat} {bs : List Int} {Q : Option Addr → Nat → Nat → H → Prop} (hs : Sat h0 A h) (rd : hsv h p 32 l (ints .u8 bs)) (hb : bs.length ≤ 2 ^ 47)
    (k : ∀ p' c' h', Sat h0 (sE (p', l, c') 32 (ints .u8 bs) :: A) h' → Q p' l c' h') : F_slices_Clone_api_Cell_api_Cell p l c Q h :=
  Clone_cells_spec p l c _ Q h rd (by have := rd.1; simp at this; omega) fun p' c' h' bs' x o n => k _ _ _ (hs.own x o n)
theorem Clone_ints_sp {p : Option Addr} {l c : Nat} {bs : List Int} {Q : Option Addr → Nat → Nat → H → Prop} (hs : Sat h0 A h) (rd : hsv h p 1 l (ints .i64 bs)) (hb : bs.length * 8 ≤ 2 ^ 47)
    (k : ∀ p' c' h', Sat h0 (sE (p', l, c') 1 (ints .i64 bs) :: A) h' → Q p' l c' h') : F_slices_Clone_int_int p l c Q h :=
  Clone_ints_spec p l c _ Q h rd (by have := rd.1; simp at this; omega) fun p' c' h' bs' x o n => k _ _ _ (hs.own x o n)
theorem Clone_bools_sp {p : Option Addr} {l c : Nat} {bs : List Bool} {Q : Option Addr → Nat → Nat → H → Prop} (hs : Sat h0 A h) (rd : hsv h p 1 l (bools bs)) (hb : bs.length ≤ 2 ^ 47)
    (k : ∀ p' c' h', Sat h0 (sE (p', l, c') 1 (bools bs) :: A) h' → Q p' l c' h') : F_slices_Clone_bool_bool p l c Q h :=
  Clone_bools_spec p l c _ Q h rd (by have := rd.1; simp at this; omega) fun p' c' h' bs' x o n => k _ _ _ (hs.own x o n)
theorem copied_sp {a b c : Sl} {s : St} {Q : Option Addr → Nat → Nat → Option Addr → Nat → Nat → Option Addr → Nat → Nat → H → Prop} (hs : Sat h0 A h) (rd : ∀ h', Sat h0 A h' → RdS h' a b c s) (sm : s.small)
    (k : ∀ (a' b' c' : Sl) h', Sat h0 (stL a' b' c' s ++ A) h' → Q a'.1 a'.2.1 a'.2.2 b'.1 b'.2.1 b'.2.2 c'.1 c'.2.1 c'.2.2 h') :
    F_chip_copied a.1 a.2.1 a.2.2 b.1 b.2.1 b.2.2 c.1 c.2.1 c.2.2 Q h := by
  unfold F_chip_copied G_chip_copied
  simp only [add_mk, Nat.zero_add]
  intro n1 _ hn; replace hs := Sat.new hs hn; clear hn
  intro n2 _ hn; replace hs := Sat.new hs hn; clear hn
  intro J hJ
  have fin : ∀ q b2 b3 c2 c3 h', Sat h0 (blk q [.slice none 0 0, .slice b2 b.2.1 b3, .slice c2 c.2.1 c3] :: sE (b2, b.2.1, b3) 1 (ints .i64 s.erases) :: sE (c2, c.2.1, c3) 1 (bools s.blown) ::
      blk n1 [a.v, b.v, c.v] :: blk n2 [.slice none 0 0, .slice none 0 0, .slice none 0 0] :: A) h' → J [SV.dv (DV.addr ⟨q, 0, none⟩)] h' := by
    intro q b2 b3 c2 c3 h' hs
    apply hJ
    (repeat first | refine ⟨_, Sat.ld hs (by (repeat (first | exact At.z | apply At.s))) (by rfl), ?_⟩ | refine ⟨_, _, _, Sat.ld hs (by (repeat (first | exact At.z | apply At.s))) (by rfl), ?_⟩ | (intro _ _ hn; replace hs := Sat.new hs hn; clear hn) | refine ⟨Sat.cs hs (by (repeat (first | exact At.z | apply At.s))) (by rfl), ?_⟩ | (refine ⟨Sat.can hs (by (repeat (first | exact At.z | apply At.s))) (by simp), ?_⟩; intro _ e; replace hs := Sat.wr hs (by (repeat (first | exact At.z | apply At.s))) e; clear e; simp only [put, splice, List.set] at hs))
    intro J2 hJ2
    have hlen := (rd _ hs.drop.drop.drop.drop.drop).pg.len
    replace hs := hs.mat_nil 32 none
    refine loop_up a.2.1 (fun i h => ∃ hd : Sl, hd.2.1 = i ∧ Sat h0 (matE 32 hd (s.pages.take i) :: blk q [hd.v, .slice b2 b.2.1 b3, .slice c2 c.2.1 c3] :: sE (b2, b.2.1, b3) 1 (ints .i64 s.erases) :: sE (c2, c.2.1, c3) 1 (bools s.blown) ::
      blk n1 [a.v, b.v, c.v] :: blk n2 [.slice none 0 0, .slice none 0 0, .slice none 0 0] :: A) h) ?_ ?_ 0 _ (by omega) ⟨_, rfl, hs⟩
    · rintro i h1 hi ⟨⟨hp, hl, hc⟩, e, hs⟩ hk
      simp only at e; subst e
      apply hJ2
      rw [ltI_eq, if_pos (by simp; omega)]
      have hlt : hl < s.pages.length := by omega
      obtain ⟨q', x, e1, e2, e3⟩ := (rd _ hs.drop.drop.drop.drop.drop.drop).pg.at hlt
      rw [e1]
      refine ⟨_, rfl, by omega, by omega, ?_⟩
      refine ⟨_, _, _, e2, ?_⟩
      refine ⟨_, _, _, Sat.ld hs (by (repeat (first | exact At.z | apply At.s))) (by rfl), ?_⟩
      refine Clone_cells_sp hs e3 (Nat.le_trans (Nat.le_add_right _ _) (sm.rows _ (List.getElem_mem hlt))) ?_
      intro p' c' h2 hs
      refine ⟨Sat.cs hs (by (repeat (first | exact At.z | apply At.s))) (by rfl), ?_⟩
      (intro _ _ hn; replace hs := Sat.new hs hn; clear hn)
      refine ⟨Sat.cs hs (by (repeat (first | exact At.z | apply At.s))) (by rfl), ?_⟩
      refine ⟨_, Sat.bv hs (.z) (by simp) (by simp), ?_⟩
      replace hs := Sat.front hs (.s .z)
      have hpl := sm.pages
      refine Sat.app_row hs (i := 1) (.s .z) (by dsimp only; omega) ?_
      intro p2 c2' h4 hs
      simp only [put, del] at hs
      (refine ⟨Sat.can hs (by (repeat (first | exact At.z | apply At.s))) (by simp), ?_⟩; intro _ e; replace hs := Sat.wr hs (by (repeat (first | exact At.z | apply At.s))) e; clear e; simp only [put, splice, List.set] at hs)
      rw [wrap_succ (by omega)]
      refine hk _ ⟨(p2, hl + 1, c2'), rfl, ?_⟩
      rw [List.take_succ_eq_append_getElem hlt]
      exact hs.sub (by (repeat (first | exact List.Sublist.refl _ | apply List.Sublist.cons_cons | apply List.Sublist.cons)))
    · rintro h1 ⟨⟨hp, hl, hc⟩, e, hs⟩
      simp only at e; subst e
      apply hJ2
      rw [ltI_eq, if_neg (by simp)]
      (repeat first | refine ⟨_, Sat.ld hs (by (repeat (first | exact At.z | apply At.s))) (by rfl), ?_⟩ | refine ⟨_, _, _, Sat.ld hs (by (repeat (first | exact At.z | apply At.s))) (by rfl), ?_⟩ | (intro _ _ hn; replace hs := Sat.new hs hn; clear hn) | refine ⟨Sat.cs hs (by (repeat (first | exact At.z | apply At.s))) (by rfl), ?_⟩ | (refine ⟨Sat.can hs (by (repeat (first | exact At.z | apply At.s))) (by simp), ?_⟩; intro _ e; replace hs := Sat.wr hs (by (repeat (first | exact At.z | apply At.s))) e; clear e; simp only [put, splice, List.set] at hs))
      refine k (hp, _, hc) (b2, _, b3) (c2, _, c3) _ ?_
      rw [← hlen, List.take_length] at hs
      replace hs := Sat.front hs (e := blk n2 _) (by (repeat (first | exact At.z | apply At.s)))
      replace hs := Sat.front hs (e := blk n1 _) (by (repeat (first | exact At.z | apply At.s)))
      replace hs := Sat.front hs (e := blk q _) (by (repeat (first | exact At.z | apply At.s)))
      simp only [del] at hs
      have := hs.drop.drop.drop
      rw [hlen] at this
      exact this
  repeat' (first | refine ⟨_, Sat.ld hs (by (repeat (first | exact At.z | apply At.s))) (by rfl), ?_⟩ | refine ⟨_, _, _, Sat.ld hs (by (repeat (first | exact At.z | apply At.s))) (by rfl), ?_⟩ | (intro _ _ hn; replace hs := Sat.new hs hn; clear hn) | refine ⟨Sat.cs hs (by (repeat (first | exact At.z | apply At.s))) (by rfl), ?_⟩ | (refine ⟨Sat.can hs (by (repeat (first | exact At.z | apply At.s))) (by simp), ?_⟩; intro _ e; replace hs := Sat.wr hs (by (repeat (first | exact At.z | apply At.s))) e; clear e; simp only [put, splice, List.set] at hs) | (refine Clone_ints_sp hs (rd _ (hs.sub (by (repeat (first | exact List.Sublist.refl _ | apply List.Sublist.cons_cons | apply List.Sublist.cons))))).er (Nat.le_trans (Nat.le_add_right _ _) sm.erases) ?_; intro _ _ _ hs) | (refine Clone_bools_sp hs (rd _ (hs.sub (by (repeat (first | exact List.Sublist.refl _ | apply List.Sublist.cons_cons | apply List.Sublist.cons))))).bl (Nat.le_trans (Nat.le_add_right _ _) sm.blown) ?_; intro _ _ _ hs) | refine And.intro ?_ ?_)
  all_goals
    replace hs := Sat.front hs (e := blk n2 _) (by (repeat (first | exact At.z | apply At.s)))
    replace hs := Sat.front hs (e := blk n1 _) (by (repeat (first | exact At.z | apply At.s)))
    replace hs := Sat.front hs (e := slE _ _ _ 1 (bools _)) (by (repeat (first | exact At.z | apply At.s)))
    replace hs := Sat.front hs (e := slE _ _ _ 1 (ints .i64 _)) (by (repeat (first | exact At.z | apply At.s)))
    replace hs := Sat.front hs (e := blk _ [.slice none 0 0, .slice _ b.2.1 _, .slice _ c.2.1 _]) (by (repeat (first | exact At.z | apply At.s)))
    exact fin _ _ _ _ _ _ hs

theorem chip_make {a b c m : Sl} (ok : C.ok) (hs : Sat h0 (blk p (C.cells a b c m) :: matE 32 a C.s.pages :: sE b 1 (ints .i64 C.s.erases) :: sE c 1 (bools C.s.blown) :: sE m 1 (ints .u8 C.mask) :: A) h) : Sat h0 (chipE p C :: A) h :=
  Sat.close ⟨a, b, c, m⟩ ok hs
theorem State_sp {Q : Option Addr → Nat → Nat → Option Addr → Nat → Nat → Option Addr → Nat → Nat → H → Prop} (hs : Sat h0 A h) (ci : At A i (chipE p C))
    (k : ∀ (a' b' c' : Sl) h', Sat h0 (stL a' b' c' C.s ++ A) h' → Q a'.1 a'.2.1 a'.2.2 b'.1 b'.2.1 b'.2.2 c'.1 c'.2.1 c'.2.2 h') : F_chip_Chip_State ⟨p, 0, none⟩ Q h := by
  unfold F_chip_Chip_State G_chip_Chip_State
  simp only [add_mk, Nat.zero_add]
  obtain ⟨w, ok, hs⟩ := (hs.front ci).open_; dsimp only [chipL, List.cons_append, List.nil_append, Cm.cells] at hs
  intro nl _ hn; replace hs := Sat.new hs hn; clear hn
  refine ⟨_, _, _, Sat.ld hs (by (repeat (first | exact At.z | apply At.s))) (by rfl), ?_⟩
  refine ⟨_, _, _, Sat.ld hs (by (repeat (first | exact At.z | apply At.s))) (by rfl), ?_⟩
  refine ⟨_, _, _, Sat.ld hs (by (repeat (first | exact At.z | apply At.s))) (by rfl), ?_⟩
  refine copied_sp (a := w.a) (b := w.b) (c := w.c) (s := C.s) hs (fun h' hs' => sat_rdS hs' (i := 2) (j := 3) (k := 4) (.s (.s .z)) (.s (.s (.s .z))) (.s (.s (.s (.s .z))))) ok.small ?_
  intro a' b' c' h' hs
  replace hs : Sat h0 (matE 32 a' C.s.pages :: sE b' 1 (ints .i64 C.s.erases) :: sE c' 1 (bools C.s.blown) :: blk nl [.slice none 0 0, .slice none 0 0, .slice none 0 0] :: chipL p C w ++ del A i) h' := hs
  dsimp only [chipL, List.cons_append, List.nil_append, Cm.cells] at hs
  (repeat first | refine ⟨_, Sat.ld hs (by (repeat (first | exact At.z | apply At.s))) (by rfl), ?_⟩ | refine ⟨_, _, _, Sat.ld hs (by (repeat (first | exact At.z | apply At.s))) (by rfl), ?_⟩ | (intro _ _ hn; replace hs := Sat.new hs hn; clear hn) | refine ⟨Sat.cs hs (by (repeat (first | exact At.z | apply At.s))) (by rfl), ?_⟩ | (refine ⟨Sat.can hs (by (repeat (first | exact At.z | apply At.s))) (by simp), ?_⟩; intro _ e; replace hs := Sat.wr hs (by (repeat (first | exact At.z | apply At.s))) e; clear e; simp only [put, splice, List.set] at hs))
  refine k a' b' c' _ ?_
  replace hs := Sat.front hs (e := slE w.m.1 _ _ 1 (ints .u8 C.mask)) (by (repeat (first | exact At.z | apply At.s)))
  replace hs := Sat.front hs (e := slE w.c.1 w.c.2.1 w.c.2.2 1 (bools C.s.blown)) (by (repeat (first | exact At.z | apply At.s)))
  replace hs := Sat.front hs (e := slE w.b.1 w.b.2.1 w.b.2.2 1 (ints .i64 C.s.erases)) (by (repeat (first | exact At.z | apply At.s)))
  replace hs := Sat.front hs (e := matE 32 w.a C.s.pages) (by (repeat (first | exact At.z | apply At.s)))
  replace hs := Sat.front hs (e := blk p _) (by (repeat (first | exact At.z | apply At.s)))
  simp only [del] at hs
  have hC := chip_close (a := w.a) (b := w.b) (c := w.c) (m := w.m) ok ci.s.s.s.s hs
  simp only [put_succ, ci.put_self] at hC
  exact hC.sub (by (repeat (first | exact List.Sublist.refl _ | apply List.Sublist.cons_cons | apply List.Sublist.cons)))
end
end Go.Proofs.Ytamfkofcpoglnaa
end

/- What arguments of the statements are: states of chips. Own work. -/
section
set_option maxRecDepth 100000
set_option linter.unusedVariables false
namespace Go.Proofs.Ytamfkofcpoglnaa
open Go Go.Vc Go.ChangeShapes Go.WideShapes Go.ChangeAt Go.RowKit

theorem xChip : xsh PP 8 40 = some [.slc 53, .slc 3, .slc 4] := by kernel_rfl
theorem xCells : xsh PP 8 53 = some [.slc 42] := by kernel_rfl
theorem xCell : xsh PP 8 42 = some [.row .u8 32] := by kernel_rfl
theorem xInt : xsh PP 8 3 = some [.int .i64] := by kernel_rfl
theorem xBool : xsh PP 8 4 = some [.bool] := by kernel_rfl
section
variable {D : Type} {enc : TypeId × Value → D} {W : World}
theorem ints_of {p : Option Addr} {l c : Nat} (h : Sli enc PP W 3 p l c) : ∃ ns : List Int, hsv W.heap p 1 l (ints .i64 ns) ∧ (∀ n, n ∈ ns → -(2 ^ 63) ≤ n ∧ n < 2 ^ 63) ∧ ns.length * 8 + 4096 ≤ 2 ^ 47 := by
  have hb : Try.prog.bytesOf 3 = 8 := by kernel_rfl
  have hc : Try.prog.cellsOf 3 = 1 := by kernel_rfl
  obtain ⟨ess, h1, h2, h3, _⟩ := h.els xInt
  have hlc := h.1
  have hr := h.2.1
  rw [hb] at hr
  rw [hc] at h3
  have key : ∀ ess : List (List Value), (∀ es, es ∈ ess → es.length = Try.prog.cellsOf 3 ∧ XM enc PP W [XSh.int .i64] es) → ∃ ns : List Int, ess.flatten = ints .i64 ns ∧ ∀ n, n ∈ ns → -(2 ^ 63) ≤ n ∧ n < 2 ^ 63 := by
    intro ess
    induction ess with
    | nil => intro _; exact ⟨[], rfl, by intro n hn; simp at hn⟩
    | cons x r ih =>
      intro h
      obtain ⟨ns, e, hn⟩ := ih fun es hes => h es (by simp [hes])
      obtain ⟨n, rest, rfl, hh, hr⟩ := (h x (by simp)).2
      simp only [XM] at hr
      subst hr
      refine ⟨n :: ns, by simp [e], ?_⟩
      intro m hm
      rcases List.mem_cons.1 hm with rfl | hm
      · exact has_i64 hh
      · exact hn m hm
  obtain ⟨ns, e, hn⟩ := key ess h2
  rw [e] at h3
  have : ns.length = l := by have := h3.1; simpa using this
  refine ⟨ns, h3, hn, ?_⟩
  unfold reachBytes at hr
  omega
theorem bools_of {p : Option Addr} {l c : Nat} (h : Sli enc PP W 4 p l c) : ∃ ns : List Bool, hsv W.heap p 1 l (bools ns) ∧ ns.length + 4096 ≤ 2 ^ 47 := by
  have hb : Try.prog.bytesOf 4 = 1 := by kernel_rfl
  have hc : Try.prog.cellsOf 4 = 1 := by kernel_rfl
  obtain ⟨ess, h1, h2, h3, _⟩ := h.els xBool
  have hlc := h.1
  have hr := h.2.1
  rw [hb] at hr
  rw [hc] at h3
  have key : ∀ ess : List (List Value), (∀ es, es ∈ ess → es.length = Try.prog.cellsOf 4 ∧ XM enc PP W [XSh.bool] es) → ∃ ns : List Bool, ess.flatten = bools ns := by
    intro ess
    induction ess with
    | nil => intro _; exact ⟨[], rfl⟩
    | cons x r ih =>
      intro h
      obtain ⟨ns, e⟩ := ih fun es hes => h es (by simp [hes])
      obtain ⟨n, rest, rfl, hr⟩ := (h x (by simp)).2
      simp only [XM] at hr
      subst hr
      exact ⟨n :: ns, by simp [e, bools]⟩
  obtain ⟨ns, e⟩ := key ess h2
  rw [e] at h3
  have : ns.length = l := by have := h3.1; simpa using this
  refine ⟨ns, h3, ?_⟩
  unfold reachBytes at hr
  omega
theorem rows_of {p : Option Addr} {l c : Nat} (h : Sli enc PP W 42 p l c) : ∃ ns : List Int, hsv W.heap p 32 l (ints .u8 ns) ∧ bytesOk ns ∧ ns.length + 4096 ≤ 2 ^ 47 := by
  have hb : Try.prog.bytesOf 42 = 32 := by kernel_rfl
  have hc : Try.prog.cellsOf 42 = 32 := by kernel_rfl
  obtain ⟨ess, h1, h2, h3, _⟩ := h.els xCell
  have hlc := h.1
  have hr := h.2.1
  rw [hb] at hr
  rw [hc] at h3
  have key : ∀ ess : List (List Value), (∀ es, es ∈ ess → es.length = Try.prog.cellsOf 42 ∧ XM enc PP W [XSh.row .u8 32] es) → ∃ ns : List Int, ess.flatten = ints .u8 ns ∧ bytesOk ns := by
    intro ess
    induction ess with
    | nil => intro _; exact ⟨[], rfl, by intro n hn; simp at hn⟩
    | cons x r ih =>
      intro h
      obtain ⟨ns, e, hn⟩ := ih fun es hes => h es (by simp [hes])
      obtain ⟨xs, rest, rfl, _, hh, hr⟩ := (h x (by simp)).2
      simp only [XM] at hr
      subst hr
      refine ⟨xs ++ ns, by simp [e], ?_⟩
      intro m hm
      rcases List.mem_append.1 hm with hm | hm
      · exact has_u8 (hh m hm)
      · exact hn m hm
  obtain ⟨ns, e, hn⟩ := key ess h2
  rw [e] at h3
  have : ns.length = l * 32 := by have := h3.1; simpa using this
  refine ⟨ns, h3, hn, ?_⟩
  unfold reachBytes at hr
  omega
theorem mat_of {p : Option Addr} {l c : Nat} (h : Sli enc PP W 53 p l c) : ∃ rows : List (List Int), RdM W.heap 32 (p, l, c) rows ∧ (∀ r, r ∈ rows → bytesOk r ∧ r.length + 4096 ≤ 2 ^ 47) ∧ rows.length * 24 + 4096 ≤ 2 ^ 47 := by
  have hb : Try.prog.bytesOf 53 = 24 := by kernel_rfl
  have hc : Try.prog.cellsOf 53 = 1 := by kernel_rfl
  obtain ⟨ess, h1, h2, h3, _⟩ := h.els xCells
  have hlc := h.1
  have hr := h.2.1
  rw [hb] at hr
  rw [hc] at h3
  have key : ∀ ess : List (List Value), (∀ es, es ∈ ess → es.length = Try.prog.cellsOf 53 ∧ XM enc PP W [XSh.slc 42] es) → ∃ pgs : List Pg, ess.flatten = pgSl pgs ∧ (∀ x, x ∈ pgs → x.rd W.heap 32) ∧ ∀ x, x ∈ pgs → bytesOk x.bytes ∧ x.bytes.length + 4096 ≤ 2 ^ 47 := by
    intro ess
    induction ess with
    | nil => intro _; exact ⟨[], rfl, by simp, by simp⟩
    | cons x r ih =>
      intro h
      obtain ⟨pgs, e, hn, hn2⟩ := ih fun es hes => h es (by simp [hes])
      obtain ⟨xp, xl, xc, rest, rfl, hh, hr⟩ := (h x (by simp)).2
      simp only [XM] at hr
      subst hr
      obtain ⟨bs, b1, b2, b3⟩ := rows_of hh
      refine ⟨⟨(xp, xl, xc), bs⟩ :: pgs, by simp [e, pgSl], ?_, ?_⟩
      · intro y hy
        rcases List.mem_cons.1 hy with rfl | hy
        · exact b1
        · exact hn y hy
      · intro y hy
        rcases List.mem_cons.1 hy with rfl | hy
        · exact ⟨b2, b3⟩
        · exact hn2 y hy
  obtain ⟨pgs, e, hn, hn2⟩ := key ess h2
  rw [e] at h3
  have : pgs.length = l := by have := h3.1; simpa using this
  refine ⟨pgBytes pgs, ⟨pgs, rfl, h3, hn⟩, ?_, ?_⟩
  · intro r hr
    obtain ⟨x, hx, rfl⟩ := List.mem_map.1 hr
    exact hn2 x hx
  · unfold reachBytes at hr
    simp; omega
theorem chip_of {v : Value} {base : Nat} (h : Rdt enc PP W 40 v.cells.toList) (ho : Value.okWide PP W .any base 40 v) :
    ∃ (a b c : Sl) (s : St), v = .agg #[a.v, b.v, c.v] ∧ RdS W.heap a b c s ∧ s.typed ∧ s.small := by
  have e := okw_agg (by kernel_rfl) ho
  obtain ⟨p1, l1, c1, r1, e1, s1, p2, l2, c2, r2, rfl, s2, p3, l3, c3, r3, rfl, s3, hr⟩ := Rdt.xm 8 _ _ _ xChip h
  simp only [XM] at hr
  subst hr
  obtain ⟨rows, m1, m2, m3⟩ := mat_of s1
  obtain ⟨es, i1, i2, i3⟩ := ints_of s2
  obtain ⟨bs, b1, b2⟩ := bools_of s3
  refine ⟨(p1, l1, c1), (p2, l2, c2), (p3, l3, c3), ⟨rows, es, bs⟩, ?_, ⟨m1, i1, b1⟩, ⟨fun l hl => (m2 l hl).1, i2⟩, ⟨m3, fun l hl => (m2 l hl).2, i3, b2⟩⟩
  rw [e]
  congr 1
  rw [← Array.toArray_toList (xs := v.cells), e1]
theorem slice_of {t e : TypeId} {v : Value} {base : Nat} (u : Try.prog.underlying t = some (.slice e)) (h : Rdt enc PP W t v.cells.toList) (ho : Value.okWide PP W .any base t v) : ∃ p l c, v = .slice p l c ∧ Sli enc PP W e p l c := by
  obtain ⟨p, l, c, e1, hs⟩ := Rdt.slice u h
  exact ⟨p, l, c, okw_one (by rw [u]) ho e1, hs⟩
theorem int_of {t : TypeId} {v : Value} {base : Nat} (u : Try.prog.underlying t = some (.int .i64)) (h : Rdt enc PP W t v.cells.toList) (ho : Value.okWide PP W .any base t v) : ∃ n : Int, v = .int .i64 n ∧ -(2 ^ 63) ≤ n ∧ n < 2 ^ 63 := by
  obtain ⟨fuel, x, h, _⟩ := h
  obtain ⟨n, e1, _, hn⟩ := DataW.trod_int u h
  exact ⟨n, okw_one (by rw [u]) ho e1, has_i64 (wf_has hn)⟩
theorem ok_cfg (c : Cfg) : (DV.agg (c.vals.map .c)).ok := by
  intro y hy; simp only [Cfg.vals, List.map_cons, List.map_nil, List.mem_cons, List.not_mem_nil, or_false] at hy
  rcases hy with rfl | rfl | rfl | rfl | rfl | rfl | rfl <;> rfl
theorem ok_chip (a b c : Sl) : (DV.agg [.c a.v, .c b.v, .c c.v]).ok := by
  intro y hy; simp only [List.mem_cons, List.not_mem_nil, or_false] at hy
  rcases hy with rfl | rfl | rfl <;> rfl
end
end Go.Proofs.Ytamfkofcpoglnaa
end

/- Contract of chip.Lay. Own work. -/
section
set_option linter.unusedVariables false
namespace Go.Proofs.Ytamfkofcpoglnaa
open Go Go.Vc

structure St.lays (c : Cfg) (s : St) : Prop where
  fits : s.fits c
  pos : ∀ n, n ∈ s.erases → 0 ≤ n
def layC (c : Cfg) (s : St) : Cm := ⟨c, s, 0, false, -1, []⟩
theorem layC_ok {c : Cfg} {s : St} (m : c.may) (f : s.lays c) (t : s.typed) : (layC c s).ok :=
  ⟨m, f.fits, t, by simp [layC], by simp [layC], by intro n hn; simp [layC] at hn, by simp [layC], by simp [layC]⟩

section
variable {h0 h : H} {A : List Ent} {i p : Nat} {C : Cm}
theorem contains_neg {p : Option Addr} {l c : Nat} {ns : List Int} {Q : Bool → H → Prop} (hs : Sat h0 A h) (rd : hsv h p 1 l (ints .i64 ns)) (hl : l < 2 ^ 62) (k : Q (ns.any fun n => decide (n < 0)) h) :
    F_slices_ContainsFunc_int_int p l c (.func (.func id_chip_Lay_2) #[] #[]) Q h := by
  unfold F_slices_ContainsFunc_int_int G_slices_ContainsFunc_int_int F_slices_IndexFunc_int_int G_slices_IndexFunc_int_int
  intro J hJ
  have hlen : ns.length = l := by have := rd.1; simpa using this
  refine loop_up l (fun i h' => h' = h ∧ ∀ j (hj : j < ns.length), j < i → 0 ≤ ns[j]) ?_ ?_ 0 _ (by omega) ⟨rfl, fun j _ hj => by omega⟩
  · rintro i h' hi ⟨rfl, hb⟩ hk
    apply hJ
    rw [ltI_eq, if_pos (by simp; omega)]
    have hin : i < ns.length := by omega
    obtain ⟨q, hq, g⟩ := hsv_get rd (i := i) (v := .int .i64 ns[i]) (by rw [ints_get, List.getElem?_eq_getElem hin]; rfl)
    refine ⟨q, hq, by omega, by omega, _, by simpa using g, ?_⟩
    refine callFn_of R_chip_Lay_2 (by simp) (by simp) (by simp [DV.ok]) ?_
    show F_chip_Lay_2 ns[i] _ h'
    unfold F_chip_Lay_2 G_chip_Lay_2
    refine ⟨_, _, rfl, _, rfl, rfl, ?_⟩
    rw [ltI_eq]
    by_cases hn : ns[i] < 0
    · rw [if_pos (by simpa using hn)]
      have : (ns.any fun n => decide (n < 0)) = true := by rw [List.any_eq_true]; exact ⟨_, List.getElem_mem hin, by simpa using hn⟩
      rw [this] at k
      simpa using k
    · rw [if_neg (by simpa using hn), wrap_succ (by omega)]
      refine hk _ ⟨rfl, fun j hj hji => ?_⟩
      by_cases e : j = i
      · subst e; omega
      · exact hb j hj (by omega)
  · rintro h' ⟨rfl, hb⟩
    apply hJ
    rw [ltI_eq, if_neg (by simp)]
    have : (ns.any fun n => decide (n < 0)) = false := by
      rw [List.any_eq_false]
      intro n hn
      obtain ⟨j, hj, rfl⟩ := List.mem_iff_getElem.1 hn
      have := hb j hj (by omega)
      simp; omega
    rw [this] at k
    simpa using k
theorem contains_len {a : Sl} {rows : List (List Int)} {Q : Bool → H → Prop} {b : Nat} {c : Cfg} (hs : Sat h0 A h) (m : At A i (blk b [.int .i64 c.cells, .int .i64 c.slots, .int .i64 c.fuses, .int .i64 c.step, .int .i64 c.keys, .int .i64 c.erases, .int .i64 c.area])) (rd : RdM h 32 a rows) (hl : a.2.1 < 2 ^ 62)
    (k : Q (rows.any fun r => decide ((r.length : Int) ≠ 32 * c.cells)) h) :
    F_slices_ContainsFunc_api_Cell_api_Cell a.1 a.2.1 a.2.2 (.func (.func id_chip_Lay_1) #[] #[.pointer (some ⟨b, 0, none⟩)]) Q h := by
  unfold F_slices_ContainsFunc_api_Cell_api_Cell G_slices_ContainsFunc_api_Cell_api_Cell F_slices_IndexFunc_api_Cell_api_Cell G_slices_IndexFunc_api_Cell_api_Cell
  intro J hJ
  have hlen := rd.len
  refine loop_up a.2.1 (fun i h' => h' = h ∧ ∀ j (hj : j < rows.length), j < i → (rows[j].length : Int) = 32 * c.cells) ?_ ?_ 0 _ (by omega) ⟨rfl, fun j _ hj => by omega⟩
  · rintro i h' hi ⟨rfl, hb⟩ hk
    apply hJ
    rw [ltI_eq, if_pos (by simp; omega)]
    have hin : i < rows.length := by omega
    obtain ⟨q, x, hq, g, e⟩ := rd.at hin
    have hx : rows[i].length = x.2.1 * 32 := by have := e.1; simpa using this
    refine ⟨q, hq, by omega, by omega, _, _, _, by simpa using g, ?_⟩
    refine callFn_of R_chip_Lay_1 (by simp) (by simp) (by simp [DV.ok]) ?_
    show F_chip_Lay_1 x.1 x.2.1 x.2.2 ⟨b, 0, none⟩ _ h'
    unfold F_chip_Lay_1 G_chip_Lay_1
    refine ⟨_, hs.ld m rfl, ?_⟩
    refine ⟨_, _, rfl, _, rfl, rfl, ?_⟩
    by_cases hn : (rows[i].length : Int) = 32 * c.cells
    · rw [if_neg (by simp; omega), wrap_succ (by omega)]
      refine hk _ ⟨rfl, fun j hj hji => ?_⟩
      by_cases e : j = i
      · subst e; omega
      · exact hb j hj (by omega)
    · rw [if_pos (by simp; omega)]
      have : (rows.any fun r => decide ((r.length : Int) ≠ 32 * c.cells)) = true := by rw [List.any_eq_true]; exact ⟨_, List.getElem_mem hin, by simpa using hn⟩
      rw [this] at k
      simpa using k
  · rintro h' ⟨rfl, hb⟩
    apply hJ
    rw [ltI_eq, if_neg (by simp)]
    have : (rows.any fun r => decide ((r.length : Int) ≠ 32 * c.cells)) = false := by
      rw [List.any_eq_false]
      intro n hn
      obtain ⟨j, hj, rfl⟩ := List.mem_iff_getElem.1 hn
      have := hb j hj (by omega)
      simp; omega
    rw [this] at k
    simpa using k
theorem Lay_sp {a b c' : Sl} {s : St} (c : Cfg) {Q : Option Addr → Int → H → Prop} (hs : Sat h0 A h) (rd : ∀ h', Sat h0 A h' → RdS h' a b c' s) (ty : s.typed)
    (k1 : ¬ c.may → ∀ h', Sat h0 A h' → Q none 1 h') (k2 : c.may → ¬ s.lays c → ∀ h', Sat h0 A h' → Q none 5 h')
    (k3 : c.may → s.lays c → ∀ p h', Sat h0 (chipE p (layC c s) :: A) h' → Q (some ⟨p, 0, none⟩) 0 h') :
    F_chip_Lay c.cells c.slots c.fuses c.step c.keys c.erases c.area a.1 a.2.1 a.2.2 b.1 b.2.1 b.2.2 c'.1 c'.2.1 c'.2.2 Q h := by
  unfold F_chip_Lay G_chip_Lay
  simp only [add_mk, Nat.zero_add]
  intro n1 _ hn; replace hs := Sat.new hs hn; clear hn
  intro n2 _ hn; replace hs := Sat.new hs hn; clear hn
  (repeat first | refine ⟨_, Sat.ld hs (by (repeat (first | exact At.z | apply At.s))) (by rfl), ?_⟩ | refine ⟨_, _, _, Sat.ld hs (by (repeat (first | exact At.z | apply At.s))) (by rfl), ?_⟩ | (intro _ _ hn; replace hs := Sat.new hs hn; clear hn) | refine ⟨Sat.cs hs (by (repeat (first | exact At.z | apply At.s))) (by rfl), ?_⟩ | (refine ⟨Sat.can hs (by (repeat (first | exact At.z | apply At.s))) (by simp), ?_⟩; intro _ e; replace hs := Sat.wr hs (by (repeat (first | exact At.z | apply At.s))) e; clear e; simp only [put, splice, List.set] at hs))
  refine May_sp c hs ?_
  intro h1 hs
  unfold Cfg.may?
  by_cases hm : c.may
  case neg =>
    rw [if_neg hm, if_pos (by decide)]
    exact k1 hm _ hs.drop.drop
  rw [if_pos hm, if_neg (by decide)]
  have hnp := hm.np
  have hnf := hm.nf
  intro J hJ
  have rd0 := rd _ hs.drop.drop
  have l1 := rd0.pg.len
  have l2 : s.erases.length = b.2.1 := by have := rd0.er.1; simpa using this
  have l3 : s.blown.length = c'.2.1 := by have := rd0.bl.1; simpa using this
  have bad : ¬ s.lays c → ∀ h', Sat h0 (blk n2 [a.v, b.v, c'.v] :: blk n1 [.int .i64 c.cells, .int .i64 c.slots, .int .i64 c.fuses, .int .i64 c.step, .int .i64 c.keys, .int .i64 c.erases, .int .i64 c.area] :: A) h' → J [SV.dv (DV.one (.bool true))] h' := by
    intro nf h' hs
    apply hJ
    rw [if_pos rfl]
    exact k2 hm nf _ hs.drop.drop
  (repeat first | refine ⟨_, Sat.ld hs (by (repeat (first | exact At.z | apply At.s))) (by rfl), ?_⟩ | refine ⟨_, _, _, Sat.ld hs (by (repeat (first | exact At.z | apply At.s))) (by rfl), ?_⟩ | (intro _ _ hn; replace hs := Sat.new hs hn; clear hn) | refine ⟨Sat.cs hs (by (repeat (first | exact At.z | apply At.s))) (by rfl), ?_⟩ | (refine ⟨Sat.can hs (by (repeat (first | exact At.z | apply At.s))) (by simp), ?_⟩; intro _ e; replace hs := Sat.wr hs (by (repeat (first | exact At.z | apply At.s))) e; clear e; simp only [put, splice, List.set] at hs))
  refine pages_sp c hm hs ?_
  intro h2 hs
  refine ⟨Sat.cs hs (by (repeat (first | exact At.z | apply At.s))) (by rfl), ?_⟩
  by_cases e1 : (s.pages.length : Int) = c.np
  case neg =>
    rw [if_pos (by simp; omega)]
    exact bad (fun f => e1 f.fits.pages) _ hs
  rw [if_neg (by simp; omega)]
  (repeat first | refine ⟨_, Sat.ld hs (by (repeat (first | exact At.z | apply At.s))) (by rfl), ?_⟩ | refine ⟨_, _, _, Sat.ld hs (by (repeat (first | exact At.z | apply At.s))) (by rfl), ?_⟩ | (intro _ _ hn; replace hs := Sat.new hs hn; clear hn) | refine ⟨Sat.cs hs (by (repeat (first | exact At.z | apply At.s))) (by rfl), ?_⟩ | (refine ⟨Sat.can hs (by (repeat (first | exact At.z | apply At.s))) (by simp), ?_⟩; intro _ e; replace hs := Sat.wr hs (by (repeat (first | exact At.z | apply At.s))) e; clear e; simp only [put, splice, List.set] at hs))
  refine pages_sp c hm hs ?_
  intro h3 hs
  refine ⟨Sat.cs hs (by (repeat (first | exact At.z | apply At.s))) (by rfl), ?_⟩
  by_cases e2 : (s.erases.length : Int) = c.np
  case neg =>
    rw [if_pos (by simp; omega)]
    exact bad (fun f => e2 f.fits.erases) _ hs
  rw [if_neg (by simp; omega)]
  (repeat first | refine ⟨_, Sat.ld hs (by (repeat (first | exact At.z | apply At.s))) (by rfl), ?_⟩ | refine ⟨_, _, _, Sat.ld hs (by (repeat (first | exact At.z | apply At.s))) (by rfl), ?_⟩ | (intro _ _ hn; replace hs := Sat.new hs hn; clear hn) | refine ⟨Sat.cs hs (by (repeat (first | exact At.z | apply At.s))) (by rfl), ?_⟩ | (refine ⟨Sat.can hs (by (repeat (first | exact At.z | apply At.s))) (by simp), ?_⟩; intro _ e; replace hs := Sat.wr hs (by (repeat (first | exact At.z | apply At.s))) e; clear e; simp only [put, splice, List.set] at hs))
  refine fuses_sp c hm hs ?_
  intro h4 hs
  refine ⟨Sat.cs hs (by (repeat (first | exact At.z | apply At.s))) (by rfl), ?_⟩
  by_cases e3 : (s.blown.length : Int) = c.nf
  case neg =>
    rw [if_pos (by simp; omega)]
    exact bad (fun f => e3 f.fits.blown) _ hs
  rw [if_neg (by simp; omega)]
  refine ⟨_, _, _, Sat.ld hs (by (repeat (first | exact At.z | apply At.s))) (by rfl), ?_⟩
  refine contains_len (i := 1) (c := c) hs (.s .z) (rd _ hs.drop.drop).pg (by omega) ?_
  by_cases e4 : ∀ l, l ∈ s.pages → (l.length : Int) = 32 * c.cells
  case neg =>
    rw [if_pos (by
      rw [List.any_eq_true]
      have ⟨l, h5⟩ := Classical.not_forall.1 e4
      have ⟨h6, h7⟩ := Classical.not_imp.1 h5
      exact ⟨l, h6, by simpa using h7⟩)]
    exact bad (fun f => e4 f.fits.cells) _ hs
  rw [if_neg (by
    intro h5
    obtain ⟨l, h6, h7⟩ := List.any_eq_true.1 h5
    have := e4 l h6
    simp at h7; omega)]
  refine ⟨_, _, _, Sat.ld hs (by (repeat (first | exact At.z | apply At.s))) (by rfl), ?_⟩
  refine contains_neg hs (rd _ hs.drop.drop).er (by omega) ?_
  by_cases e5 : ∀ n, n ∈ s.erases → 0 ≤ n
  case neg =>
    have : (s.erases.any fun n => decide (n < 0)) = true := by
      rw [List.any_eq_true]
      have ⟨l, h5⟩ := Classical.not_forall.1 e5
      have ⟨h6, h7⟩ := Classical.not_imp.1 h5
      exact ⟨l, h6, by simp; omega⟩
    rw [this]
    exact bad (fun f => e5 f.pos) _ hs
  have : (s.erases.any fun n => decide (n < 0)) = false := by
    rw [List.any_eq_false]
    intro n hn
    have := e5 n hn
    simp; omega
  rw [this]
  have ly : s.lays c := ⟨⟨e1, e4, e2, e3⟩, e5⟩
  have ok := layC_ok hm ly ty
  apply hJ
  rw [if_neg (by simp)]
  (repeat first | refine ⟨_, Sat.ld hs (by (repeat (first | exact At.z | apply At.s))) (by rfl), ?_⟩ | refine ⟨_, _, _, Sat.ld hs (by (repeat (first | exact At.z | apply At.s))) (by rfl), ?_⟩ | (intro _ _ hn; replace hs := Sat.new hs hn; clear hn) | refine ⟨Sat.cs hs (by (repeat (first | exact At.z | apply At.s))) (by rfl), ?_⟩ | (refine ⟨Sat.can hs (by (repeat (first | exact At.z | apply At.s))) (by simp), ?_⟩; intro _ e; replace hs := Sat.wr hs (by (repeat (first | exact At.z | apply At.s))) e; clear e; simp only [put, splice, List.set] at hs))
  refine copied_sp (a := a) (b := b) (c := c') (s := s) hs (fun h' hs' => rd _ hs'.drop.drop) ok.small ?_
  intro a2 b2 c2 h5 hs
  replace hs : Sat h0 (matE 32 a2 s.pages :: sE b2 1 (ints .i64 s.erases) :: sE c2 1 (bools s.blown) :: blk n2 [a.v, b.v, c'.v] :: blk n1 [.int .i64 c.cells, .int .i64 c.slots, .int .i64 c.fuses, .int .i64 c.step, .int .i64 c.keys, .int .i64 c.erases, .int .i64 c.area] :: A) h5 := hs
  (repeat first | refine ⟨_, Sat.ld hs (by (repeat (first | exact At.z | apply At.s))) (by rfl), ?_⟩ | refine ⟨_, _, _, Sat.ld hs (by (repeat (first | exact At.z | apply At.s))) (by rfl), ?_⟩ | (intro _ _ hn; replace hs := Sat.new hs hn; clear hn) | refine ⟨Sat.cs hs (by (repeat (first | exact At.z | apply At.s))) (by rfl), ?_⟩ | (refine ⟨Sat.can hs (by (repeat (first | exact At.z | apply At.s))) (by simp), ?_⟩; intro _ e; replace hs := Sat.wr hs (by (repeat (first | exact At.z | apply At.s))) e; clear e; simp only [put, splice, List.set] at hs))
  refine k3 hm ly _ _ ?_
  replace hs := hs.sl_nil 1 none
  replace hs := Sat.front hs (e := slE _ _ _ 1 (bools _)) (by (repeat (first | exact At.z | apply At.s)))
  replace hs := Sat.front hs (e := slE _ _ _ 1 (ints .i64 _)) (by (repeat (first | exact At.z | apply At.s)))
  replace hs := Sat.front hs (e := matE 32 _ _) (by (repeat (first | exact At.z | apply At.s)))
  replace hs := Sat.front hs (e := blk _ [_, _, _, _, _, _, _, _, _, _, _, _, _, _]) (by (repeat (first | exact At.z | apply At.s)))
  simp only [del] at hs
  exact (chip_make (C := layC c s) (a := a2) (b := b2) (c := c2) (m := (none, 0, 0)) ok hs).sub (by (repeat (first | exact List.Sublist.refl _ | apply List.Sublist.cons_cons | apply List.Sublist.cons)))
end
end Go.Proofs.Ytamfkofcpoglnaa
end

/- Bits of bytes. Own work; generic over any program. -/
section
namespace Go.Vc
abbrev b8 (x : Int) : BitVec 8 := BitVec.ofInt 8 x
theorem b8_nat (v : BitVec 8) : b8 (v.toNat : Int) = v := by simp [b8]
theorem w8_nat (v : BitVec 8) : IntKind.u8.wrap (v.toNat : Int) = (v.toNat : Int) := by
  have := v.isLt
  rw [IntKind.wrap_u8]; omega
theorem bits_or8 (x y : Int) : bits .or .u8 x y = ((b8 x ||| b8 y).toNat : Int) := w8_nat (b8 x ||| b8 y)
theorem bits_andNot8 (x y : Int) : bits .andNot .u8 x y = ((b8 x &&& ~~~ b8 y).toNat : Int) := w8_nat (b8 x &&& ~~~ b8 y)
theorem full_or (b : Int) : bits .or .u8 b 255 = 255 := by
  rw [bits_or8]
  have : b8 255 = BitVec.allOnes 8 := by decide
  rw [this, BitVec.or_allOnes]
  decide
end Go.Vc
end

/- Contracts of the document's chip: configs, copies, new ones. Own work. -/
section
set_option linter.unusedVariables false
namespace Go.Proofs.Ytamfkofcpoglnaa
open Go Go.Vc

section
variable {h0 h : H} {A : List Ent} {i p : Nat} {C : Cm}
end
end Go.Proofs.Ytamfkofcpoglnaa

/- Contracts of the document's chip: new ones, laid ones, copies. Own work. -/
set_option linter.unusedVariables false
namespace Go.Proofs.Ytamfkofcpoglnaa
open Go Go.Vc

section
variable {h0 h : H} {A : List Ent} {i p : Nat} {C : Cm}
end
end Go.Proofs.Ytamfkofcpoglnaa

/- Contracts of the document's chip: its methods. Own work. -/
set_option linter.unusedVariables false
namespace Go.Proofs.Ytamfkofcpoglnaa
open Go Go.Vc

/-- The document's chip: as the program's, but that a mask which is used up may stay. -/
structure RefW (C : Cm) (w : Pl × List Int) : Prop where
  ok : C.ok
  b : bytesOk w.2
  l : w.2.length ≤ 2 ^ 47
  m : 0 ≤ C.left → w.2 = C.mask
section
variable {h0 h : H} {A : List Ent} {i p : Nat} {C : Cm}
end
end Go.Proofs.Ytamfkofcpoglnaa
end

/- Contracts of the chip's statements: a state is written over. Own work. -/
section
set_option linter.unusedVariables false
namespace Go.Proofs.Ytamfkofcpoglnaa
open Go Go.Vc

section
variable {h0 h : H} {A : List Ent} {i p : Nat} {C : Cm}
end
end Go.Proofs.Ytamfkofcpoglnaa

/- Contracts of the chip's statements: pairs of chips. Own work. -/
set_option maxRecDepth 100000
set_option linter.unusedVariables false
namespace Go.Proofs.Ytamfkofcpoglnaa
open Go Go.Vc

section
variable {h0 h : H} {A : List Ent} {i j p r : Nat} {C : Cm}
theorem chip_ok (hs : Sat h0 A h) (ci : At A i (chipE p C)) : C.ok := by
  obtain ⟨w, ok, _⟩ := (hs.front ci).open_
  exact ok
end
end Go.Proofs.Ytamfkofcpoglnaa
end

/- Contracts of the chip's statements: a step. Own work. -/
section
set_option maxRecDepth 100000
set_option linter.unusedVariables false
namespace Go.Proofs.Ytamfkofcpoglnaa
open Go Go.Vc

/-- A step of a script over a chip. -/
structure Stp where
  kind : Int
  a : Int
  b : Int
  x : List Int
  mask : List Int
structure Stp.ok (s : Stp) : Prop where
  a : -(2 ^ 63) ≤ s.a ∧ s.a < 2 ^ 63
  x : s.x.length = 32
  mb : bytesOk s.mask
  ml : s.mask.length + 4096 ≤ 2 ^ 47
section
variable {h0 h : H} {A : List Ent} {i j p r : Nat} {C : Cm}
end
end Go.Proofs.Ytamfkofcpoglnaa

/- Contracts of the chip's statements: games; calls whose answers are fixed. Own work. -/
set_option maxRecDepth 100000
set_option linter.unusedVariables false
namespace Go.Proofs.Ytamfkofcpoglnaa
open Go Go.Vc

section
variable {h0 h : H} {A : List Ent} {i j p r : Nat} {C : Cm}
/-- How a script lies in memory. -/
structure ScriptRd (h : H) (p : Option Addr) (l : Nat) (sc : List Stp) : Prop where
  len : sc.length = l
  small : l < 2 ^ 62
  el : ∀ i (hi : i < sc.length), ∃ (q : Addr) (mp : Option Addr) (ml mc : Nat), p = some q ∧ hc h (q.add (i * 36)) = some (.int .i64 sc[i].kind) ∧ hc h ((q.add (i * 36)).add 1) = some (.int .i64 sc[i].a) ∧
    hc h ((q.add (i * 36)).add 2) = some (.int .i64 sc[i].b) ∧ hrow h ((q.add (i * 36)).add 3) .u8 sc[i].x ∧ hc h ((q.add (i * 36)).add 35) = some (.slice mp ml mc) ∧ hsv h mp 1 ml (ints .u8 sc[i].mask) ∧ sc[i].ok
end
end Go.Proofs.Ytamfkofcpoglnaa

/- Contracts of the chip's statements: ChipLays. Own work. -/
set_option maxRecDepth 100000
set_option linter.unusedVariables false
namespace Go.Proofs.Ytamfkofcpoglnaa
open Go Go.Vc

section
variable {h0 h : H} {A : List Ent} {i j p r : Nat} {C : Cm}
end
end Go.Proofs.Ytamfkofcpoglnaa
end

/- The fuses' model: counts of a row, raising, revoking; laws about numbers alone. Own work. -/
section
set_option maxRecDepth 100000
set_option linter.unusedVariables false
namespace Go.Proofs.Ytamfkofcpoglnaa
open Go Go.Vc

/-- A loop whose slots tell of a state. -/
theorem loop_st {J : List SV → H → Prop} {σ : Type} (N : Nat) (S : Nat → σ → List SV) (Inv : Nat → σ → H → Prop) (step : ∀ i s h, i < N → Inv i s h → (∀ s' h', Inv (i + 1) s' h' → J (S (i + 1) s') h') → J (S i s) h)
    (exit : ∀ s h, Inv N s h → J (S N s) h) (i : Nat) (s : σ) (h : H) (hi : i ≤ N) (inv : Inv i s h) : J (S i s) h := by
  generalize e : N - i = n
  induction n generalizing i s h with
  | zero =>
    have : i = N := by omega
    subst this; exact exit s h inv
  | succ n ih => exact step i s h (by omega) inv fun s' h' inv' => ih (i + 1) s' h' (by omega) inv' (by omega)

def cnt (bl : List Bool) (a : Nat) : Nat → Nat
  | 0 => 0
  | n + 1 => cnt bl a n + (if bl.getD (a + n) false = true then 1 else 0)
theorem askedM_in {C : Cm} {i n : Int} (ho : C.out = false) (h1 : 0 ≤ i) (h2 : i < n) : askedM C i n = 0 := by
  unfold askedM; rw [if_neg (by simp [ho]), if_neg (by omega), if_neg (by omega)]
theorem act_out {C : Cm} (ho : C.out = false) (hl : C.left ≠ 0) : C.act.out = false := by
  unfold Cm.act; rw [if_pos hl]; exact ho
/-- What a Raise does to a row. -/
structure Raised (a f : Nat) (n : Int) (C D : Cm) (e : Int) : Prop where
  cfg : D.cfg = C.cfg
  len : D.s.blown.length = C.s.blown.length
  same : ∀ k, k < a ∨ a + f ≤ k → D.s.blown.getD k false = C.s.blown.getD k false
  up : ∀ k, C.s.blown.getD k false = true → D.s.blown.getD k false = true
  ge : cnt C.s.blown a f ≤ cnt D.s.blown a f
  le : (cnt D.s.blown a f : Int) ≤ max n (cnt C.s.blown a f)
  good : e = 0 → (cnt D.s.blown a f : Int) = max n (cnt C.s.blown a f)
  on : e = 0 → D.out = false
  bad : e ≠ 0 → e = 8 ∧ 0 ≤ C.left ∧ C.left < n - cnt C.s.blown a f
end Go.Proofs.Ytamfkofcpoglnaa

/- Contracts of the fuses' package. Own work. -/
set_option maxRecDepth 100000
set_option linter.unusedVariables false
namespace Go.Proofs.Ytamfkofcpoglnaa
open Go Go.Vc

section
variable {h0 h : H} {A : List Ent} {i j p r : Nat} {C : Cm}
end
end Go.Proofs.Ytamfkofcpoglnaa

/- Contracts of the document's fuses. Own work. -/
set_option maxRecDepth 100000
set_option linter.unusedVariables false
namespace Go.Proofs.Ytamfkofcpoglnaa
open Go Go.Vc

section
variable {h0 h : H} {A : List Ent} {i j p r : Nat} {C : Cm}
end
end Go.Proofs.Ytamfkofcpoglnaa
end

/- Contracts of the fuses' statements: FuseDoes. Own work. -/
section
set_option maxRecDepth 100000
set_option linter.unusedVariables false
namespace Go.Proofs.Ytamfkofcpoglnaa
open Go Go.Vc

section
variable {h0 h : H} {A : List Ent} {i j p r : Nat} {C : Cm}
structure Stp7 where
  kind : Int
  a : Int
  n : Int
structure Stp7.ok (s : Stp7) : Prop where
  n : s.n < 2 ^ 63
/-- How a script lies in memory. -/
structure Script7 (h : H) (p : Option Addr) (l : Nat) (sc : List Stp7) : Prop where
  len : sc.length = l
  small : l < 2 ^ 62
  el : ∀ i (hi : i < sc.length), ∃ (q : Addr), p = some q ∧ hc h (q.add (i * 3)) = some (.int .i64 sc[i].kind) ∧ hc h ((q.add (i * 3)).add 1) = some (.int .i64 sc[i].a) ∧
    hc h ((q.add (i * 3)).add 2) = some (.int .i64 sc[i].n) ∧ sc[i].ok
end
end Go.Proofs.Ytamfkofcpoglnaa
end

/- Cells' bytes: tables, bytes of numbers, the sum of bytes; laws about numbers alone. Own work. -/
section
set_option maxRecDepth 100000
set_option linter.unusedVariables false
namespace Go.Proofs.Ytamfkofcpoglnaa
open Go Go.Vc

/-- A table of numbers. -/
def tab (n : Nat) (f : Nat → Int) : List Int := (List.range n).map f
@[simp] theorem tab_length (n : Nat) (f : Nat → Int) : (tab n f).length = n := by simp [tab]
theorem tab_get (n : Nat) (f : Nat → Int) (i : Nat) : (tab n f)[i]? = if i < n then some (f i) else none := by
  unfold tab
  rw [List.getElem?_map]
  by_cases h : i < n
  · rw [List.getElem?_range h, if_pos h]; rfl
  · rw [if_neg h, List.getElem?_eq_none (by simpa using h)]; rfl
theorem tab_set (n : Nat) (f : Nat → Int) (k : Nat) (v : Int) : (tab n f).set k v = tab n (fun i => if i = k then v else f i) := by
  apply List.ext_getElem?
  intro i
  rw [List.getElem?_set, tab_get, tab_get]
  by_cases h : k = i
  · subst h; simp
  · rw [if_neg h]; simp only [show (i = k) = False by simp; omega, if_false]
theorem tab_ext {n : Nat} {f g : Nat → Int} (h : ∀ i, i < n → f i = g i) : tab n f = tab n g := by
  apply List.ext_getElem?
  intro i
  rw [tab_get, tab_get]
  split
  · rw [h i (by assumption)]
  · rfl
theorem zeros_tab (n : Nat) : zeros n = tab n fun _ => 0 := by
  apply List.ext_getElem?
  intro i
  rw [tab_get]
  unfold zeros
  by_cases h : i < n
  · rw [List.getElem?_replicate, if_pos h]
    try rw [if_pos h]
  · rw [List.getElem?_replicate, if_neg h]
    try rw [if_neg h]
theorem ints_tab_set (k : IntKind) (n : Nat) (f : Nat → Int) (j : Nat) (v : Int) : splice (ints k (tab n f)) j [.int k v] = ints k (tab n (fun i => if i = j then v else f i)) := by
  rw [splice_cons, splice_nil, ints_set, tab_set]
/-! ### The sum -/
abbrev b32 (x : Int) : BitVec 32 := BitVec.ofInt 32 x
/-! ### Numbers of eight bytes -/
end Go.Proofs.Ytamfkofcpoglnaa

/- Contracts of sums, rails and cells. Own work. -/
set_option maxRecDepth 100000
set_option linter.unusedVariables false
namespace Go.Proofs.Ytamfkofcpoglnaa
open Go Go.Vc

section
variable {h0 h : H} {A : List Ent} {i j p r b : Nat} {C : Cm}
theorem Sat.tab_to {N : Nat} {f g : Nat → Int} {k : IntKind} (hs : Sat h0 (blk b (ints k (tab N f)) :: A) h) (e : ∀ i, i < N → f i = g i) : Sat h0 (blk b (ints k (tab N g)) :: A) h := by
  rw [← tab_ext e]; exact hs
theorem Sat.part (hs : Sat h0 A h) {ms xs : List Int} {k : IntKind} (m : At A i (blk b (ints k ms))) (o : Nat) (e : (ms.drop o).take xs.length = xs) : hsv h (some ⟨b, o, none⟩) 1 xs.length (ints k xs) := by
  refine ⟨by simp, ints_one _ _, Or.inr ⟨_, rfl, hs.cs m ?_⟩⟩
  rw [ints_length]
  unfold ints
  rw [← List.map_drop, ← List.map_take, e]
theorem hsv_int {p : Option Addr} {l : Nat} {k : IntKind} {ns : List Int} {x : Nat} (rd : hsv h p 1 l (ints k ns)) (hx : x < l) : ∃ q, p = some q ∧ hc h (q.add x) = some (.int k (ns.getD x 0)) := by
  have hl : ns.length = l := by have := rd.1; simpa using this
  obtain ⟨q, hq, g⟩ := hsv_get rd (i := x) (v := .int k (ns.getD x 0)) (by rw [ints_get, List.getElem?_eq_getElem (by omega)]; simp [List.getD, List.getElem?_eq_getElem (show x < ns.length by omega)])
  exact ⟨q, hq, g⟩
theorem tab_bytes {n : Nat} {f : Nat → Int} (h : ∀ k, isByte (f k)) : bytesOk (tab n f) := by
  intro x hx
  simp only [tab, List.mem_map] at hx
  obtain ⟨k, _, rfl⟩ := hx
  exact h k
end
end Go.Proofs.Ytamfkofcpoglnaa

/- Contracts of cells: Head, Value, Blank, Read. Own work. -/
set_option maxRecDepth 100000
set_option linter.unusedVariables false
namespace Go.Proofs.Ytamfkofcpoglnaa
open Go Go.Vc

section
variable {h0 h : H} {A : List Ent} {i j p r b : Nat} {C : Cm}
theorem Sat.whole (hs : Sat h0 A h) {vs : List Value} (m : At A i (blk b vs)) : hcs h ⟨b, 0, none⟩ vs := hs.cs m (by rw [List.drop_zero, List.take_length])
def ffs : List Int := tab 32 fun _ => 255
end
end Go.Proofs.Ytamfkofcpoglnaa

/- Contracts of the document's cells. Own work. -/
set_option maxRecDepth 100000
set_option linter.unusedVariables false
namespace Go.Proofs.Ytamfkofcpoglnaa
open Go Go.Vc

section
variable {h0 h : H} {A : List Ent} {i j p r b : Nat} {C : Cm}
end
end Go.Proofs.Ytamfkofcpoglnaa
end

/- Contracts of pages: what a page tells, in the program and in the document. Own work. -/
section
set_option maxRecDepth 100000
set_option linter.unusedVariables false
namespace Go.Proofs.Ytamfkofcpoglnaa
open Go Go.Vc

/-- What a page tells. -/
structure Inf where
  head : Int
  nums : List Int
  next : Int
  blank : Bool
  torn : Int
section
variable {h0 h : H} {A : List Ent} {i j p r b : Nat} {C : Cm}
end
end Go.Proofs.Ytamfkofcpoglnaa

/- Contracts of the document's pages; PageLooks. Own work. -/
set_option maxRecDepth 100000
set_option linter.unusedVariables false
namespace Go.Proofs.Ytamfkofcpoglnaa
open Go Go.Vc

section
variable {h0 h : H} {A : List Ent} {i j p r b : Nat} {C : Cm}
end
end Go.Proofs.Ytamfkofcpoglnaa
end

/- PageHalf: what a cut act leaves of a sound page; laws about numbers alone. Own work. -/
section
set_option maxRecDepth 100000
set_option linter.unusedVariables false
namespace Go.Proofs.Ytamfkofcpoglnaa
open Go Go.Vc

theorem byte_eq {x y : Int} (hx : isByte x) (hy : isByte y) (e : b8 x = b8 y) : x = y := by
  have h2 := congrArg BitVec.toNat e
  simp only [BitVec.toNat_ofInt] at h2
  obtain ⟨a1, a2⟩ := hx
  obtain ⟨a3, a4⟩ := hy
  omega
theorem b8_andNot (x y : Int) : b8 (bits .andNot .u8 x y) = b8 x &&& ~~~ b8 y := by rw [bits_andNot8, b8_nat]
theorem b8_255 : b8 255 = BitVec.allOnes 8 := by decide
theorem prog_full (x : Int) (hx : isByte x) : bits .andNot .u8 255 (bits .andNot .u8 255 x) = x := by
  refine byte_eq (byte_bits _ _ _) hx ?_
  rw [b8_andNot, b8_andNot, b8_255]
  ext i hi
  simp only [BitVec.getElem_and, BitVec.getElem_not, BitVec.getElem_allOnes]
  cases (b8 x)[i] <;> rfl

theorem tab_getD {n : Nat} (f : Nat → Int) {k : Nat} (h : k < n) : (tab n f).getD k 0 = f k := by rw [List.getD_eq_getElem?_getD, tab_get, if_pos h]; rfl
theorem getD_byte {x : List Int} (hb : bytesOk x) (k : Nat) : isByte (x.getD k 0) := by
  rw [List.getD_eq_getElem?_getD]
  cases e : x[k]? with
  | none => exact ⟨by decide, by decide⟩
  | some v => exact hb v (List.mem_iff_getElem?.2 ⟨k, e⟩)
def soundM (row : List Int) (l : Nat) : Prop := ∀ i, i < l → ∀ k, k < 16 → bits .or .u8 (row.getD (i * 32 + k) 0) (row.getD (i * 32 + (16 + k)) 0) = 255
instance (row : List Int) (l : Nat) : Decidable (soundM row l) := by unfold soundM; infer_instance
end Go.Proofs.Ytamfkofcpoglnaa
end

/- PageHalf: rows after a cut act; soundness of rows. Own work. -/
section
set_option maxRecDepth 100000
set_option linter.unusedVariables false
namespace Go.Proofs.Ytamfkofcpoglnaa
open Go Go.Vc

theorem ext_getD {x y : List Int} (h : x.length = y.length) (e : ∀ i, i < x.length → x.getD i 0 = y.getD i 0) : x = y := by
  apply List.ext_getElem h
  intro i h1 h2
  have := e i h1
  rw [List.getD_eq_getElem?_getD, List.getD_eq_getElem?_getD, List.getElem?_eq_getElem h1, List.getElem?_eq_getElem h2] at this
  exact this
theorem cellAt_getD (row : List Int) (k i : Nat) (hi : i < 32) : (cellAt row k).getD i 0 = row.getD (k * 32 + i) 0 := by
  rw [List.getD_eq_getElem?_getD, cellAt_get row k i hi, List.getD_eq_getElem?_getD]
theorem mapTo_getD (g : Nat → Int → Int) (n : Nat) (ns : List Int) (j : Nat) (hj : j < ns.length) (hn : j < n) : (mapTo g n ns).getD j 0 = g j (ns.getD j 0) := by
  rw [List.getD_eq_getElem?_getD, mapTo_get, List.getElem?_eq_getElem hj]
  simp [hn, List.getD, List.getElem?_eq_getElem hj]
theorem rowSet_same {row c : List Int} {k : Nat} (hk : (k + 1) * 32 ≤ row.length) (hc : c.length = 32) : cellAt (rowSet row k c) k = c := by
  unfold cellAt rowSet
  rw [List.append_assoc, List.drop_append_of_le_length (by simp; omega), List.drop_eq_nil_of_le (by simp; omega), List.nil_append, List.take_append_of_le_length (by omega), List.take_of_length_le (by omega)]
theorem rowSet_getD {row c : List Int} {k q : Nat} (hk : (k + 1) * 32 ≤ row.length) (hc : c.length = 32) (hq : q < k * 32 ∨ k * 32 + 32 ≤ q) : (rowSet row k c).getD q 0 = row.getD q 0 := by
  unfold rowSet
  rw [List.getD_eq_getElem?_getD, List.getD_eq_getElem?_getD]
  congr 1
  rcases hq with hq | hq
  · rw [List.append_assoc, List.getElem?_append_left (by simp; omega), List.getElem?_take, if_pos hq]
  · rw [List.getElem?_append_right (by simp; omega), List.getElem?_drop]
    congr 1
    simp; omega
theorem rowSet_other {row c : List Int} {k j : Nat} (hk : (k + 1) * 32 ≤ row.length) (hj : (j + 1) * 32 ≤ row.length) (hc : c.length = 32) (h : j ≠ k) : cellAt (rowSet row k c) j = cellAt row j := by
  have l1 : (cellAt (rowSet row k c) j).length = 32 := cellAt_length (by rw [rowSet_length hk hc]; exact hj)
  have l2 : (cellAt row j).length = 32 := cellAt_length hj
  refine ext_getD (l1.trans l2.symm) fun i hi => ?_
  rw [l1] at hi
  rw [cellAt_getD _ _ _ hi, cellAt_getD _ _ _ hi, rowSet_getD hk hc (by omega)]
theorem prog_getD (x : List Int) (f : Nat → Int) (i : Nat) (hi : i < 32) : (progCell blankCell x f).getD i 0 = bits .andNot .u8 255 (bits .andNot .u8 (f i) (x.getD i 0)) := by
  unfold progCell
  rw [mapTo_getD _ _ _ _ (by simpa [blankCell] using hi) hi]
  have : blankCell.getD i 0 = 255 := by
    unfold blankCell
    rw [List.getD_eq_getElem?_getD, List.getElem?_replicate, if_pos hi]; rfl
  rw [this]
theorem progCell_length (old x : List Int) (f : Nat → Int) (h : old.length = 32) : (progCell old x f).length = 32 := by
  unfold progCell mapTo; simpa using h
section
variable {h0 h : H} {A : List Ent} {i j p r b : Nat} {C : Cm}
end
end Go.Proofs.Ytamfkofcpoglnaa
end

/- Contracts of areas: sizes, places, what is used, Worn. Own work. -/
section
set_option maxRecDepth 100000
set_option linter.unusedVariables false
namespace Go.Proofs.Ytamfkofcpoglnaa
open Go Go.Vc

def sizeM (c : Cfg) : Int := if c.may then c.area * c.cells * 32 else 0
theorem size_le {c : Cfg} (m : c.may) : 0 ≤ c.area * c.cells ∧ c.area * c.cells ≤ 16384 := by
  have h1 := m.area; have h2 := m.cells; have h3 := m.slots
  refine ⟨Int.mul_nonneg (by omega) (by omega), ?_⟩
  calc c.area * c.cells ≤ 64 * c.cells := Int.mul_le_mul_of_nonneg_right (by omega) (by omega)
    _ ≤ 16384 := by omega
section
variable {h0 h : H} {A : List Ent} {i j p r b : Nat} {C : Cm}
theorem aSize_sp (c : Cfg) {Q : Int → H → Prop} (hs : Sat h0 A h) (k : ∀ h', Sat h0 A h' → Q (sizeM c) h') : F_area_Size c.cells c.slots c.fuses c.step c.keys c.erases c.area Q h := by
  unfold F_area_Size G_area_Size
  simp only [add_mk, Nat.zero_add]
  intro n1 _ hn; replace hs := Sat.new hs hn; clear hn
  refine ⟨_, Sat.ld hs (by (repeat (first | exact At.z | apply At.s))) (by rfl), ?_⟩
  refine ⟨_, Sat.ld hs (by (repeat (first | exact At.z | apply At.s))) (by rfl), ?_⟩
  refine ⟨_, Sat.ld hs (by (repeat (first | exact At.z | apply At.s))) (by rfl), ?_⟩
  refine ⟨_, Sat.ld hs (by (repeat (first | exact At.z | apply At.s))) (by rfl), ?_⟩
  refine ⟨_, Sat.ld hs (by (repeat (first | exact At.z | apply At.s))) (by rfl), ?_⟩
  refine ⟨_, Sat.ld hs (by (repeat (first | exact At.z | apply At.s))) (by rfl), ?_⟩
  refine ⟨_, Sat.ld hs (by (repeat (first | exact At.z | apply At.s))) (by rfl), ?_⟩
  refine May_sp c hs ?_
  intro h1 hs
  unfold sizeM at k
  unfold Cfg.may?
  by_cases m : c.may
  · rw [if_pos m] at k ⊢
    rw [if_neg (by simp)]
    refine ⟨_, Sat.ld hs (by (repeat (first | exact At.z | apply At.s))) (by rfl), ?_⟩
    refine ⟨_, Sat.ld hs (by (repeat (first | exact At.z | apply At.s))) (by rfl), ?_⟩
    obtain ⟨z1, z2⟩ := size_le m
    rw [wrap_id (n := c.area * c.cells) (by omega), wrap_id (by omega)]
    exact k _ hs.drop
  · rw [if_neg m] at k ⊢
    rw [if_pos (by simp)]
    exact k _ hs.drop
theorem aasked_sp {Q : Int → H → Prop} (hs : Sat h0 A h) (ci : At A i (chipE p C)) (j : Int) (k : Q (askedM C j 2) h) : F_area_asked ⟨p, 0, none⟩ j Q h := by
  unfold F_area_asked G_area_asked
  refine Out_sp hs ci ?_
  unfold askedM at k
  rw [ltI_eq, ltI_eq]
  by_cases c1 : C.out = true
  · rw [if_pos c1] at k ⊢; exact k
  rw [if_neg c1] at k ⊢
  by_cases c2 : j < 0
  · rw [if_pos c2] at k; rw [if_pos (by simpa using c2)]; exact k
  rw [if_neg c2] at k
  rw [if_neg (by simpa using c2)]
  by_cases c3 : 2 ≤ j
  · rw [if_pos c3] at k; rw [if_pos (by simp; omega)]; exact k
  · rw [if_neg c3] at k; rw [if_neg (by simp; omega)]; exact k
theorem apages_sp {Q : Int → Int → H → Prop} (hs : Sat h0 A h) (ci : At A i (chipE p C)) (ar : Int) (a1 : 0 ≤ ar) (a2 : ar < 2) (k : ∀ h', Sat h0 A h' → Q (2 + ar * C.cfg.area) (2 + ar * C.cfg.area + C.cfg.area) h') : F_area_pages ⟨p, 0, none⟩ ar Q h := by
  unfold F_area_pages G_area_pages
  refine Config_sp hs ci ?_
  intro h1 hs
  have hm := (chip_ok hs ci).may.area
  have e : (ar + 1) * C.cfg.area = ar * C.cfg.area + C.cfg.area := by rw [Int.add_mul, Int.one_mul]
  have z : 0 ≤ ar * C.cfg.area ∧ ar * C.cfg.area ≤ 64 := by
    have : ar = 0 ∨ ar = 1 := by omega
    rcases this with rfl | rfl <;> omega
  rw [wrap_id (n := ar + 1) (by omega), e, wrap_id (n := ar * C.cfg.area) (by omega), wrap_id (n := ar * C.cfg.area + C.cfg.area) (by omega), wrap_id (by omega), wrap_id (by omega), ← Int.add_assoc]
  exact k _ hs
theorem aplace_sp {Q : Int → Int → H → Prop} (hs : Sat h0 A h) (ci : At A i (chipE p C)) (ar : Int) (a1 : 0 ≤ ar) (a2 : ar < 2) (n : Nat) (hn : n < 2 ^ 40) (k : ∀ h', Sat h0 A h' → Q (2 + ar * C.cfg.area + ((n / C.cfg.cells.toNat : Nat) : Int)) ((n % C.cfg.cells.toNat : Nat) : Int) h') : F_area_place ⟨p, 0, none⟩ ar n Q h := by
  unfold F_area_place G_area_place
  refine apages_sp hs ci ar a1 a2 ?_
  intro h1 hs
  refine Config_sp hs ci ?_
  intro h2 hs
  have hm := (chip_ok hs ci).may.area
  have hc := (chip_ok hs ci).may.cells
  have hsl := (chip_ok hs ci).may.slots
  have z : 0 ≤ ar * C.cfg.area ∧ ar * C.cfg.area ≤ 64 := by
    have : ar = 0 ∨ ar = 1 := by omega
    rcases this with rfl | rfl <;> omega
  have ec : (C.cfg.cells.toNat : Int) = C.cfg.cells := by omega
  have e1 : (n : Int).tdiv C.cfg.cells = ((n / C.cfg.cells.toNat : Nat) : Int) := by
    rw [Int.tdiv_eq_ediv_of_nonneg (by omega), ← ec]; rfl
  have e2 : (n : Int).tmod C.cfg.cells = ((n % C.cfg.cells.toNat : Nat) : Int) := by
    rw [Int.tmod_eq_emod_of_nonneg (by omega), ← ec]; rfl
  have hd : n / C.cfg.cells.toNat ≤ n := Nat.div_le_self _ _
  rw [e1, e2]
  clear e1 e2
  generalize n / C.cfg.cells.toNat = dd at *
  generalize n % C.cfg.cells.toNat = mm at *
  rw [wrap_id (n := (dd : Int)) (by omega), wrap_id (by omega)]
  exact ⟨by omega, by omega, k _ hs⟩
theorem ablank_sp {Q : List Int → H → Prop} (hs : Sat h0 A h) (k : ∀ h', Sat h0 A h' → Q ffs h') : F_area_blank Q h := by
  unfold F_area_blank G_area_blank
  simp only [add_mk, Nat.zero_add, List.append_nil]
  intro n1 _ hn; replace hs := Sat.new hs hn; clear hn
  intro n2 _ hn; replace hs := Sat.new hs hn; clear hn
  rw [zeros_tab] at hs
  intro J hJ
  replace hs := Sat.tab_to (g := fun i => if i < 0 then 255 else 0) hs fun i hi => (if_neg (by omega)).symm
  refine loop_up 32 (fun n h => Sat h0 (blk n2 (ints .u8 (tab 32 fun i => if i < n then 255 else 0)) :: blk n1 (ints .u8 (tab 32 fun _ => 0)) :: A) h) ?_ ?_ 0 _ (by omega) hs
  · intro n h1 hn hs hk
    apply hJ
    rw [ltI_eq, if_pos (by simp; omega)]
    refine ⟨by omega, by omega, ?_⟩
    rw [Int.toNat_natCast, Nat.mul_one]
    refine ⟨hs.can .z (by simp; omega), ?_⟩
    intro h2 e
    replace hs := hs.wr .z e
    rw [put_zero, ints_tab_set] at hs
    rw [wrap_succ (by omega)]
    refine hk _ (Sat.tab_to hs fun i hi => ?_)
    by_cases e : i = n
    · rw [if_pos e, if_pos (by omega)]
    · rw [if_neg e]
      by_cases e2 : i < n
      · rw [if_pos e2, if_pos (by omega)]
      · rw [if_neg e2, if_neg (by omega)]
  · intro h1 hs
    apply hJ
    rw [ltI_eq, if_neg (by simp)]
    replace hs := Sat.tab_to (g := fun _ => 255) hs fun i hi => if_pos hi
    refine ⟨ffs, rfl, hs.row0 .z, ?_⟩
    have hll : ffs.length = 32 := rfl
    (refine ⟨Sat.can hs (by (repeat (first | exact At.z | apply At.s))) (by simp), ?_⟩; intro _ e; replace hs := Sat.wra hs (by (repeat (first | exact At.z | apply At.s))) e (by simp [*]); clear e; simp only [put] at hs)
    refine ⟨_, hll, hs.row0 (by (repeat (first | exact At.z | apply At.s))), ?_⟩
    exact k _ hs.drop.drop
/-- Is there a cell that is not blank? -/
def usedP (C : Cm) (page : Int) (l : Nat) : Prop := ∃ n, n < l ∧ (readM C page n).2 = 0 ∧ (readM C page n).1 ≠ ffs
instance (C : Cm) (page : Int) (l : Nat) : Decidable (usedP C page l) := by unfold usedP; infer_instance
def usedM (C : Cm) (page : Int) : Bool := decide (usedP C page C.cfg.cells.toNat)
theorem readM_len (ok : C.ok) (page cell : Int) : (readM C page cell).1.length = 32 := by
  unfold readM
  split
  · rfl
  · rename_i e
    obtain ⟨_, _, _, _, _, hj, _, hk⟩ := asksCellM_zero ok (by simpa using e)
    have : C.s.pages.getD page.toNat [] = C.s.pages[page.toNat] := by simp [List.getD, List.getElem?_eq_getElem hj]
    rw [this]
    exact cellAt_length hk
theorem used_sp {Q : Bool → H → Prop} (hs : Sat h0 A h) (ci : At A i (chipE p C)) (page : Int) (k : ∀ h', Sat h0 A h' → Q (usedM C page) h') : F_area_used ⟨p, 0, none⟩ page Q h := by
  unfold F_area_used G_area_used
  simp only [add_mk, Nat.zero_add, List.append_nil]
  refine Config_sp hs ci ?_
  intro h1 hs
  have ok := chip_ok hs ci
  have hc := ok.may.cells
  have hsl := ok.may.slots
  intro J hJ
  refine loop_up C.cfg.cells.toNat (fun n h => Sat h0 A h ∧ ¬ usedP C page n) ?_ ?_ 0 _ (by omega) ⟨hs, fun ⟨n, hn, _⟩ => by omega⟩
  · rintro n h2 hn ⟨hs, hu⟩ hk
    apply hJ
    rw [ltI_eq, if_pos (by simp; omega)]
    have hl := readM_len ok page n
    refine Read_sp hs ci page n ?_
    intro h3 hs
    intro n2 _ hn2; replace hs := Sat.new hs hn2; clear hn2
    refine ⟨Sat.can hs (by (repeat (first | exact At.z | apply At.s))) (by simp [hl]), ?_⟩
    intro _ e; replace hs := Sat.wra hs (by (repeat (first | exact At.z | apply At.s))) e (by rw [ints_length, ints_length, hl]; rfl); clear e; simp only [put] at hs
    have next : ¬ ((readM C page n).2 = 0 ∧ (readM C page n).1 ≠ ffs) → ¬ usedP C page (n + 1) := by
      rintro hnn ⟨m, hm, e1, e2⟩
      by_cases e : m = n
      · subst e; exact hnn ⟨e1, e2⟩
      · exact hu ⟨m, by omega, e1, e2⟩
    by_cases c1 : (readM C page n).2 = 0
    case neg =>
      rw [if_neg (by rw [beq_iff_eq]; exact c1), wrap_succ (by omega)]
      exact hk _ ⟨hs.drop, next fun y => c1 y.1⟩
    rw [if_pos (by rw [beq_iff_eq]; exact c1)]
    refine ⟨_, hl, hs.row0 .z, ?_⟩
    refine ablank_sp hs ?_
    intro h4 hs
    refine ⟨Sat.whole hs .z, ?_⟩
    by_cases c2 : (readM C page n).1 = ffs
    · rw [if_neg (by rw [c2]; simp), wrap_succ (by omega)]
      exact hk _ ⟨hs.drop, next fun y => y.2 c2⟩
    · rw [if_pos (by simpa using c2)]
      have := k _ hs.drop
      unfold usedM at this
      rw [decide_eq_true ⟨n, hn, c1, c2⟩] at this
      exact this
  · rintro h2 ⟨hs, hu⟩
    apply hJ
    rw [ltI_eq, if_neg (by simp; omega)]
    have := k _ hs
    unfold usedM at this
    rw [decide_eq_false hu] at this
    exact this
/-- Is a used page of the area worn out? -/
def wornP (C : Cm) (ar : Int) (l : Nat) : Prop := ∃ n : Nat, n < l ∧ (erasesM C (2 + ar * C.cfg.area + n)).2 = 0 ∧ C.cfg.erases ≤ (erasesM C (2 + ar * C.cfg.area + n)).1 ∧ usedM C (2 + ar * C.cfg.area + n) = true
instance (C : Cm) (ar : Int) (l : Nat) : Decidable (wornP C ar l) := by unfold wornP; infer_instance
def wornM (C : Cm) (ar : Int) : Bool × Int := if askedM C ar 2 ≠ 0 then (false, askedM C ar 2) else (decide (wornP C ar C.cfg.area.toNat), 0)
theorem Worn_sp {Q : Bool → Int → H → Prop} (hs : Sat h0 A h) (ci : At A i (chipE p C)) (ar : Int) (k : ∀ h', Sat h0 A h' → Q (wornM C ar).1 (wornM C ar).2 h') : F_area_Worn ⟨p, 0, none⟩ ar Q h := by
  unfold F_area_Worn G_area_Worn
  refine aasked_sp hs ci ar ?_
  unfold wornM at k
  by_cases e : askedM C ar 2 = 0
  case neg =>
    rw [if_pos (by simpa using e)] at k ⊢
    exact k _ hs
  rw [if_neg (by simpa using e)] at k ⊢
  obtain ⟨ho, a1, a2⟩ := askedM_zero e
  refine apages_sp hs ci ar a1 a2 ?_
  intro h1 hs
  have ok := chip_ok hs ci
  have hm := ok.may.area
  have z : 0 ≤ ar * C.cfg.area ∧ ar * C.cfg.area ≤ 64 := by
    have : ar = 0 ∨ ar = 1 := by omega
    rcases this with rfl | rfl <;> omega
  intro J hJ
  have key := loop_st (J := J) C.cfg.area.toNat (fun n (_ : Unit) => [.dv (.one (.int .i64 (2 + ar * C.cfg.area + (n : Int))))]) (fun n _ h => Sat h0 A h ∧ ¬ wornP C ar n) ?_ ?_ 0 () _ (by omega) ⟨hs, fun ⟨n, hn, _⟩ => by omega⟩
  · simpa using key
  · rintro n _ h2 hn ⟨hs, hu⟩ hk
    apply hJ
    rw [ltI_eq, if_pos (by simp; omega)]
    have ew : IntKind.i64.wrap (2 + ar * C.cfg.area + (n : Int) + 1) = 2 + ar * C.cfg.area + ((n + 1 : Nat) : Int) := by rw [wrap_id (by omega)]; omega
    rw [ew]
    have next : ¬ ((erasesM C (2 + ar * C.cfg.area + n)).2 = 0 ∧ C.cfg.erases ≤ (erasesM C (2 + ar * C.cfg.area + n)).1 ∧ usedM C (2 + ar * C.cfg.area + n) = true) → ¬ wornP C ar (n + 1) := by
      rintro hnn ⟨m, hm, e1, e2⟩
      by_cases e : m = n
      · subst e; exact hnn ⟨e1, e2⟩
      · exact hu ⟨m, by omega, e1, e2⟩
    refine Erases_sp hs ci _ ?_
    by_cases c1 : (erasesM C (2 + ar * C.cfg.area + n)).2 = 0
    case neg =>
      rw [if_neg (by rw [beq_iff_eq]; exact c1)]
      exact hk () _ ⟨hs, next fun y => c1 y.1⟩
    rw [if_pos (by rw [beq_iff_eq]; exact c1)]
    refine Config_sp hs ci ?_
    intro h3 hs
    by_cases c2 : C.cfg.erases ≤ (erasesM C (2 + ar * C.cfg.area + n)).1
    case neg =>
      rw [leI_eq, if_neg (by rw [decide_eq_true_eq]; exact c2)]
      exact hk () _ ⟨hs, next fun y => c2 y.2.1⟩
    rw [leI_eq, if_pos (by rw [decide_eq_true_eq]; exact c2)]
    refine used_sp hs ci _ ?_
    intro h4 hs
    by_cases c3 : usedM C (2 + ar * C.cfg.area + n) = true
    · rw [if_pos c3]
      have := k _ hs
      rw [decide_eq_true ⟨n, hn, c1, c2, c3⟩] at this
      exact this
    · rw [if_neg c3]
      exact hk () _ ⟨hs, next fun y => c3 y.2.2⟩
  · rintro _ h2 ⟨hs, hu⟩
    apply hJ
    rw [ltI_eq, if_neg (by simp; omega)]
    have := k _ hs
    rw [decide_eq_false hu] at this
    exact this
end
end Go.Proofs.Ytamfkofcpoglnaa
end

/- Contracts of the document's areas: blank, Worn; what is filled. Own work. -/
section
set_option maxRecDepth 100000
set_option linter.unusedVariables false
namespace Go.Proofs.Ytamfkofcpoglnaa
open Go Go.Vc

def blankP (row : List Int) (l : Nat) : Prop := ∀ n, n < l → cellAt row n = ffs
instance (row : List Int) (l : Nat) : Decidable (blankP row l) := by unfold blankP; infer_instance
theorem blankCell_ffs : blankCell = ffs := by decide
section
variable {h0 h : H} {A : List Ent} {i j p r b : Nat} {C : Cm}
theorem used_row (ok : C.ok) (ho : C.out = false) {page : Int} (p1 : 0 ≤ page) (p2 : page < C.s.pages.length) : usedM C page = !decide (blankP (C.s.pages.getD page.toNat []) C.cfg.cells.toNat) := by
  have hc := ok.may.cells
  have hsl := ok.may.slots
  have er : ∀ n : Nat, n < C.cfg.cells.toNat → readM C page n = (cellAt (C.s.pages.getD page.toNat []) n, 0) := by
    intro n hn
    have ec : asksCellM C page n = 0 := by
      unfold asksCellM
      rw [askedM_in ho p1 p2, if_neg (by simp), askedM_in ho (by omega) (by omega)]
    unfold readM
    rw [ec, if_neg (by simp), Int.toNat_natCast]
  unfold usedM
  by_cases e : blankP (C.s.pages.getD page.toNat []) C.cfg.cells.toNat
  · rw [decide_eq_true e, decide_eq_false]
    · rfl
    · rintro ⟨n, hn, _, e2⟩
      rw [er n hn] at e2
      exact e2 (e n hn)
  · rw [decide_eq_false e]
    have : usedP C page C.cfg.cells.toNat := by
      apply Classical.byContradiction
      intro hn
      refine e fun n hn2 => ?_
      apply Classical.byContradiction
      intro hn3
      exact hn ⟨n, hn2, by rw [er n hn2], by rw [er n hn2]; exact hn3⟩
    rw [decide_eq_true this]; rfl
end
end Go.Proofs.Ytamfkofcpoglnaa
end

/- Contracts of areas: Write. Own work. -/
section
set_option maxRecDepth 100000
set_option linter.unusedVariables false
namespace Go.Proofs.Ytamfkofcpoglnaa
open Go Go.Vc

/-- The bytes of a cell of an area. -/
def cellM (bs : List Int) (n : Nat) : List Int := tab 32 fun k => if n * 32 + k < bs.length then bs.getD (n * 32 + k) 0 else 255
theorem cellM_length (bs : List Int) (n : Nat) : (cellM bs n).length = 32 := rfl
section
variable {h0 h : H} {A : List Ent} {i j p r b : Nat} {C : Cm}
theorem add_add (q : Addr) (a b : Nat) : (q.add a).add b = q.add (a + b) := by
  cases q with | mk b' o s => unfold Addr.add; by_cases h1 : a = 0 <;> by_cases h2 : b = 0 <;> simp [h1, h2, Nat.add_assoc]
theorem filled_sp {Q : List Int → H → Prop} {q : Option Addr} {l c : Nat} {bs : List Int} (n : Nat) (hs : Sat h0 A h) (rd : ∀ h', Sat h0 A h' → hsv h' q 1 l (ints .u8 bs)) (hl : l < 2 ^ 60) (hlc : l ≤ c) (hn : n * 32 < l)
    (k : ∀ h', Sat h0 A h' → Q (cellM bs n) h') : F_area_filled q l c n Q h := by
  unfold F_area_filled G_area_filled
  simp only [List.append_nil]
  intro n1 _ hn1; replace hs := Sat.new hs hn1; clear hn1
  have ew : IntKind.i64.wrap ((n : Int) * 32) = ((n * 32 : Nat) : Int) := by rw [wrap_id (by omega)]; omega
  rw [ew]
  simp only [Int.toNat_natCast]
  have hbl : bs.length = l := by have := (rd _ hs.drop).1; simpa using this
  obtain ⟨q', hq, _⟩ := hsv_int (rd _ hs.drop) (x := 0) (by omega)
  subst hq
  have e1 : subAddr (some q') (n * 32) c 1 = some (q'.add (n * 32)) := by
    unfold subAddr
    rw [if_neg (by omega), Nat.mul_one]; rfl
  have hcs : ∀ h', Sat h0 A h' → ∀ x, x < l → hc h' (q'.add x) = some (.int .u8 (bs.getD x 0)) := by
    intro h' hs' x hx
    obtain ⟨q2, hq2, g⟩ := hsv_int (rd _ hs') hx
    injection hq2 with hq2
    subst hq2
    exact g
  refine ⟨by omega, by omega, ?_⟩
  rw [e1]
  have hll := cellM_length bs n
  by_cases c1 : 32 ≤ l - n * 32
  · rw [leI_eq, if_pos (by simp; omega)]
    have e2 : subAddr (some (q'.add (n * 32))) 0 (c - n * 32) 1 = some (q'.add (n * 32)) := by
      unfold subAddr
      rw [if_neg (by omega)]
      simp only [Option.map_some, add_add, Nat.zero_mul, Nat.add_zero]
    rw [e2]
    refine ⟨by decide, by omega, _, rfl, Nat.le_refl _, cellM bs n, hll, ?_, ?_⟩
    · intro x v hv
      have hx : x < 32 := by
        have := (List.getElem?_eq_some_iff.1 hv).1
        rw [ints_length, hll] at this; exact this
      rw [ints_get] at hv
      unfold cellM at hv
      rw [tab_get, if_pos hx] at hv
      rw [if_pos (by omega)] at hv
      simp only [Option.map_some, Option.some.injEq] at hv
      rw [← hv, add_add]
      exact hcs _ hs.drop _ (by omega)
    · (refine ⟨Sat.can hs (by (repeat (first | exact At.z | apply At.s))) (by simp), ?_⟩; intro _ e; replace hs := Sat.wra hs (by (repeat (first | exact At.z | apply At.s))) e (by simp [*]); clear e; simp only [put] at hs)
      refine ⟨_, hll, hs.row0 (by (repeat (first | exact At.z | apply At.s))), ?_⟩
      exact k _ hs.drop
  · rw [leI_eq, if_neg (by simp; omega)]
    refine ablank_sp hs ?_
    intro h2 hs
    intro n2 _ hn2; replace hs := Sat.new hs hn2; clear hn2
    have hf : ffs.length = 32 := rfl
    (refine ⟨Sat.can hs (by (repeat (first | exact At.z | apply At.s))) (by simp), ?_⟩; intro _ e; replace hs := Sat.wra hs (by (repeat (first | exact At.z | apply At.s))) e (by simp [*]); clear e; simp only [put] at hs)
    have em : (l - n * 32).min 32 = l - n * 32 := Nat.min_eq_left (by omega)
    rw [em]
    have e3 : subAddr (some ⟨n2, 0, none⟩) 0 32 1 = some ⟨n2, 0, none⟩ := rfl
    rw [e3]
    refine ⟨ints .u8 ((bs.drop (n * 32)).take (l - n * 32)), ⟨by simp; omega, ints_one _ _, Or.inr ⟨_, rfl, ?_⟩⟩, Or.inr ⟨_, rfl, hs.can .z (by simp [hf]; omega)⟩, ?_⟩
    · intro x v hv
      have hx : x < l - n * 32 := by
        have := (List.getElem?_eq_some_iff.1 hv).1
        simp at this; omega
      rw [ints_get, List.getElem?_take, if_pos hx, List.getElem?_drop, List.getElem?_eq_getElem (by omega)] at hv
      simp only [Option.map_some, Option.some.injEq] at hv
      rw [← hv, add_add, hcs _ hs.drop.drop _ (by omega)]
      simp [List.getD, List.getElem?_eq_getElem (show n * 32 + x < bs.length by omega)]
    · intro h3 e
      replace hs := hs.wr .z e
      have es : splice (ints .u8 ffs) 0 (ints .u8 ((bs.drop (n * 32)).take (l - n * 32))) = ints .u8 (cellM bs n) := by
        apply List.ext_getElem?
        intro x
        rw [splice_get, ints_get, ints_get, ints_get]
        unfold cellM ffs
        rw [tab_get, tab_get]
        simp only [ints_length, tab_length, Nat.zero_add, Nat.zero_le, true_and, Nat.sub_zero]
        have el : ((bs.drop (n * 32)).take (l - n * 32)).length = l - n * 32 := by simp; omega
        rw [el]
        by_cases c2 : x < l - n * 32
        · rw [if_pos ⟨c2, by omega⟩, if_pos (show x < 32 by omega), if_pos (show n * 32 + x < bs.length by omega), List.getElem?_take, if_pos c2, List.getElem?_drop, List.getElem?_eq_getElem (by omega)]
          simp [List.getD, List.getElem?_eq_getElem (show n * 32 + x < bs.length by omega)]
        · rw [if_neg (fun y => c2 y.1)]
          by_cases c3 : x < 32
          · rw [if_pos c3, if_pos c3, if_neg (by omega)]
          · rw [if_neg c3, if_neg c3]
      rw [es, put_zero] at hs
      refine ⟨_, hll, hs.row0 .z, ?_⟩
      (refine ⟨Sat.can hs (by (repeat (first | exact At.z | apply At.s))) (by simp), ?_⟩; intro _ e; replace hs := Sat.wra hs (by (repeat (first | exact At.z | apply At.s))) e (by simp [*]); clear e; simp only [put] at hs)
      refine ⟨_, hll, hs.row0 (by (repeat (first | exact At.z | apply At.s))), ?_⟩
      exact k _ hs.drop.drop
def eraseL (base : Int) : Nat → Nat → Cm → Cm × Int
  | 0, _, C => (C, 0)
  | m + 1, j, C => if usedM C (base + j) = true then (if (eraseM C (base + j)).2 ≠ 0 then eraseM C (base + j) else eraseL base m (j + 1) (eraseM C (base + j)).1) else eraseL base m (j + 1) C
def progL (base : Int) (cells : Nat) (bs : List Int) (n : Nat) : Nat → Nat → Cm → Cm × Int
  | 0, _, C => (C, 0)
  | m + 1, k, C =>
    if (programM C (base + (((k + 1) % n / cells : Nat) : Int)) (((k + 1) % n % cells : Nat) : Int) (cellM bs ((k + 1) % n))).2 ≠ 0 then programM C (base + (((k + 1) % n / cells : Nat) : Int)) (((k + 1) % n % cells : Nat) : Int) (cellM bs ((k + 1) % n))
    else progL base cells bs n m (k + 1) (programM C (base + (((k + 1) % n / cells : Nat) : Int)) (((k + 1) % n % cells : Nat) : Int) (cellM bs ((k + 1) % n))).1
def writeM (C : Cm) (ar : Int) (bs : List Int) : Cm × Int :=
  if (wornM C ar).2 ≠ 0 then (C, (wornM C ar).2) else if bs.length = 0 then (C, 1) else if sizeM C.cfg < bs.length then (C, 4) else if (wornM C ar).1 = true then (C, 9)
  else if (eraseL (2 + ar * C.cfg.area) C.cfg.area.toNat 0 C).2 ≠ 0 then eraseL (2 + ar * C.cfg.area) C.cfg.area.toNat 0 C
  else progL (2 + ar * C.cfg.area) C.cfg.cells.toNat bs ((bs.length + 31) / 32) ((bs.length + 31) / 32) 0 (eraseL (2 + ar * C.cfg.area) C.cfg.area.toNat 0 C).1
theorem erase_cfg (C : Cm) (page : Int) : (eraseM C page).1.cfg = C.cfg := by
  unfold eraseM
  split
  · rfl
  · split
    · rfl
    · exact act_cfg C
theorem program_cfg (C : Cm) (page cell : Int) (x : List Int) : (programM C page cell x).1.cfg = C.cfg := by
  unfold programM
  split
  · rfl
  · exact act_cfg C
theorem sizeM_le (c : Cfg) : sizeM c ≤ 524288 := by
  unfold sizeM
  split
  · rename_i m
    have h1 := m.area
    have h2 := m.cells
    have h3 := m.slots
    have h4 : c.area * c.cells ≤ 64 * c.cells := Int.mul_le_mul_of_nonneg_right h1.2 (by omega)
    omega
  · decide
theorem aWrite_sp {Q : Int → H → Prop} {q : Option Addr} {l c : Nat} {bs : List Int} (hs : Sat h0 A h) (ci : At A i (chipE p C)) (ar : Int) (rd : ∀ D h', Sat h0 (put A i (chipE p D)) h' → hsv h' q 1 l (ints .u8 bs)) (hl : l < 2 ^ 50) (hlc : l ≤ c)
    (k : ∀ h', Sat h0 (put A i (chipE p (writeM C ar bs).1)) h' → Q (writeM C ar bs).2 h') : F_area_Write ⟨p, 0, none⟩ ar q l c Q h := by
  unfold F_area_Write G_area_Write
  have hbl : bs.length = l := by have := (rd C h (by rw [ci.put_self]; exact hs)).1; simpa using this
  refine Worn_sp hs ci ar ?_
  intro h1 hs
  unfold writeM at k
  by_cases c1 : (wornM C ar).2 = 0
  case neg =>
    rw [if_pos (by simpa using c1)] at k ⊢
    exact k _ (by rw [ci.put_self]; exact hs)
  rw [if_neg (by simpa using c1)] at k ⊢
  by_cases c2 : bs.length = 0
  · rw [if_pos c2] at k
    rw [if_pos (by rw [beq_iff_eq]; omega)]
    exact k _ (by rw [ci.put_self]; exact hs)
  rw [if_neg c2] at k
  rw [if_neg (by rw [beq_iff_eq]; omega)]
  refine Config_sp hs ci ?_
  intro h2 hs
  refine aSize_sp C.cfg hs ?_
  intro h3 hs
  by_cases c3 : sizeM C.cfg < bs.length
  · rw [if_pos c3] at k
    rw [ltI_eq, if_pos (by simp; omega)]
    exact k _ (by rw [ci.put_self]; exact hs)
  rw [if_neg c3] at k
  rw [ltI_eq, if_neg (by simp; omega)]
  have hsle := sizeM_le C.cfg
  by_cases c4 : (wornM C ar).1 = true
  · rw [if_pos c4] at k ⊢
    exact k _ (by rw [ci.put_self]; exact hs)
  rw [if_neg c4] at k ⊢
  have hask : askedM C ar 2 = 0 := by
    unfold wornM at c1
    by_cases y : askedM C ar 2 = 0
    · exact y
    · rw [if_pos (by simpa using y)] at c1; exact absurd c1 y
  obtain ⟨ho, a1, a2⟩ := askedM_zero hask
  have ok := chip_ok hs ci
  have hm := ok.may.area
  have hcl := ok.may.cells
  have hsl := ok.may.slots
  have z : 0 ≤ ar * C.cfg.area ∧ ar * C.cfg.area ≤ 64 := by
    have : ar = 0 ∨ ar = 1 := by omega
    rcases this with rfl | rfl <;> omega
  refine apages_sp hs ci ar a1 a2 ?_
  intro h4 hs
  intro J hJ
  generalize hE : eraseL (2 + ar * C.cfg.area) C.cfg.area.toNat 0 C = E at k
  have hs0 : ∃ D : Cm, Sat h0 (put A i (chipE p D)) h4 ∧ D.cfg = C.cfg ∧ eraseL (2 + ar * C.cfg.area) (C.cfg.area.toNat - 0) 0 D = E := ⟨C, by rw [ci.put_self]; exact hs, rfl, hE⟩
  have key := loop_st (J := J) C.cfg.area.toNat (fun n (_ : Unit) => [.dv (.one (.int .i64 (2 + ar * C.cfg.area + (n : Int))))]) (fun n _ h => ∃ D : Cm, Sat h0 (put A i (chipE p D)) h ∧ D.cfg = C.cfg ∧ eraseL (2 + ar * C.cfg.area) (C.cfg.area.toNat - n) n D = E) ?_ ?_ 0 () _ (by omega) hs0
  · simpa using key
  · rintro n _ h5 hn ⟨D, hs, hcf, hL⟩ hk
    apply hJ
    rw [ltI_eq, if_pos (by simp; omega)]
    have ew : IntKind.i64.wrap (2 + ar * C.cfg.area + (n : Int) + 1) = 2 + ar * C.cfg.area + ((n + 1 : Nat) : Int) := by rw [wrap_id (by omega)]; omega
    rw [ew]
    obtain ⟨m, hm2⟩ : ∃ m, C.cfg.area.toNat - n = m + 1 := ⟨C.cfg.area.toNat - n - 1, by omega⟩
    rw [hm2] at hL
    unfold eraseL at hL
    refine used_sp hs (ci.put _) _ ?_
    intro h6 hs
    by_cases u : usedM D (2 + ar * C.cfg.area + (n : Int)) = true
    case neg =>
      rw [if_neg u] at hL
      rw [if_pos (by simpa using u)]
      exact hk () _ ⟨D, hs, hcf, by rw [show C.cfg.area.toNat - (n + 1) = m by omega]; exact hL⟩
    rw [if_pos u] at hL
    rw [if_neg (by rw [u]; simp)]
    refine Erase_sp hs (ci.put _) _ ?_
    intro h7 hs
    rw [put_put] at hs
    by_cases e : (eraseM D (2 + ar * C.cfg.area + (n : Int))).2 = 0
    · rw [if_neg (by simpa using e)] at hL ⊢
      exact hk () _ ⟨_, hs, (erase_cfg D _).trans hcf, by rw [show C.cfg.area.toNat - (n + 1) = m by omega]; exact hL⟩
    · rw [if_pos (by simpa using e)] at hL ⊢
      rw [← hL, if_pos (by simpa using e)] at k
      exact k _ hs
  · rintro _ h5 ⟨D, hs, hcf, hL⟩
    apply hJ
    rw [ltI_eq, if_neg (by simp; omega)]
    refine ⟨by decide, ?_⟩
    clear hJ J
    intro J hJ
    rw [Nat.sub_self] at hL
    unfold eraseL at hL
    rw [← hL, if_neg (by simp)] at k
    dsimp only at k
    obtain ⟨n, hn⟩ : ∃ n, n = (bs.length + 31) / 32 := ⟨_, rfl⟩
    rw [← hn] at k
    have en : IntKind.i64.wrap ((IntKind.i64.wrap (IntKind.i64.wrap ((l : Int) + 32) - 1)).tdiv 32) = (n : Int) := by
      rw [wrap_id (n := (l : Int) + 32) (by omega), wrap_id (n := (l : Int) + 32 - 1) (by omega), Int.tdiv_eq_ediv_of_nonneg (by omega), wrap_id (by omega)]; omega
    generalize hP : progL (2 + ar * C.cfg.area) C.cfg.cells.toNat bs n n 0 D = P at k
    have hs1 : ∃ D : Cm, Sat h0 (put A i (chipE p D)) h5 ∧ D.cfg = C.cfg ∧ progL (2 + ar * C.cfg.area) C.cfg.cells.toNat bs n (n - 0) 0 D = P := ⟨D, hs, hcf, hP⟩
    refine loop_up n (fun t h => ∃ D : Cm, Sat h0 (put A i (chipE p D)) h ∧ D.cfg = C.cfg ∧ progL (2 + ar * C.cfg.area) C.cfg.cells.toNat bs n (n - t) t D = P) ?_ ?_ 0 _ (by omega) hs1
    · rintro t h6 ht ⟨D, hs, hcf, hL⟩ hk
      apply hJ
      rw [en, ltI_eq, if_pos (by simp; omega)]
      have ei : (IntKind.i64.wrap ((t : Int) + 1)).tmod (n : Int) = (((t + 1) % n : Nat) : Int) := by
        rw [wrap_succ (by omega), Int.tmod_eq_emod_of_nonneg (by omega)]; rfl
      rw [ei]
      have hin : (t + 1) % n < n := Nat.mod_lt _ (by omega)
      obtain ⟨m, hm2⟩ : ∃ m, n - t = m + 1 := ⟨n - t - 1, by omega⟩
      rw [hm2] at hL
      unfold progL at hL
      refine ⟨by omega, ?_⟩
      refine aplace_sp hs (ci.put _) ar a1 a2 ((t + 1) % n) (by omega) ?_
      intro h7 hs
      rw [hcf]
      refine filled_sp (bs := bs) ((t + 1) % n) hs (fun h' hs' => rd _ h' hs') (by omega) hlc (by omega) ?_
      intro h8 hs
      refine Program_sp hs (ci.put _) _ _ _ (cellM_length _ _) ?_
      intro h9 hs
      rw [put_put] at hs
      generalize hX : programM D (2 + ar * C.cfg.area + (((t + 1) % n / C.cfg.cells.toNat : Nat) : Int)) (((t + 1) % n % C.cfg.cells.toNat : Nat) : Int) (cellM bs ((t + 1) % n)) = X at *
      have hXc : X.1.cfg = D.cfg := by rw [← hX]; exact program_cfg _ _ _ _
      by_cases e : X.2 = 0
      · rw [if_neg (by simpa using e)] at hL ⊢
        rw [wrap_succ (by omega)]
        exact hk _ ⟨_, hs, hXc.trans hcf, by rw [show n - (t + 1) = m by omega]; exact hL⟩
      · rw [if_pos (by simpa using e)] at hL ⊢
        rw [← hL] at k
        exact k _ hs
    · rintro h6 ⟨D, hs, hcf, hL⟩
      apply hJ
      rw [en, ltI_eq, if_neg (by simp)]
      rw [Nat.sub_self] at hL
      unfold progL at hL
      rw [← hL] at k
      exact k _ hs
end
end Go.Proofs.Ytamfkofcpoglnaa
end

/- Contracts of areas: bytes that are read. Own work. -/
section
set_option maxRecDepth 100000
set_option linter.unusedVariables false
namespace Go.Proofs.Ytamfkofcpoglnaa
open Go Go.Vc

/-- The bytes of an area's first cells. -/
def areaB (C : Cm) (ar : Int) : Nat → List Int
  | 0 => []
  | n + 1 => areaB C ar n ++ (readM C (2 + ar * C.cfg.area + ((n / C.cfg.cells.toNat : Nat) : Int)) ((n % C.cfg.cells.toNat : Nat) : Int)).1
section
variable {h0 h : H} {A : List Ent} {i j p r b : Nat} {C : Cm}
theorem read_in (ok : C.ok) (ho : C.out = false) {ar : Int} (a1 : 0 ≤ ar) (a2 : ar < 2) {n : Nat} (hn : n < C.cfg.area.toNat * C.cfg.cells.toNat) : (readM C (2 + ar * C.cfg.area + ((n / C.cfg.cells.toNat : Nat) : Int)) ((n % C.cfg.cells.toNat : Nat) : Int)).2 = 0 := by
  have hm := ok.may.area
  have hcl := ok.may.cells
  have hsl := ok.may.slots
  have hpg := ok.fits.pages
  have hnp : C.cfg.np = 2 + 2 * C.cfg.area := rfl
  have z : 0 ≤ ar * C.cfg.area ∧ ar * C.cfg.area ≤ C.cfg.area ∧ C.cfg.area ≤ 64 := by
    have : ar = 0 ∨ ar = 1 := by omega
    rcases this with rfl | rfl <;> omega
  have h1 : n / C.cfg.cells.toNat < C.cfg.area.toNat := (Nat.div_lt_iff_lt_mul (by omega)).2 hn
  have h2 : n % C.cfg.cells.toNat < C.cfg.cells.toNat := Nat.mod_lt _ (by omega)
  generalize n / C.cfg.cells.toNat = dd at *
  generalize n % C.cfg.cells.toNat = mm at *
  have ec : asksCellM C (2 + ar * C.cfg.area + (dd : Int)) (mm : Int) = 0 := by
    unfold asksCellM
    rw [askedM_in ho (by omega) (by omega), if_neg (by simp), askedM_in ho (by omega) (by omega)]
  unfold readM
  rw [ec, if_neg (by simp)]
theorem sl_cap (hs : Sat h0 A h) {q : Option Addr} {l c sz : Nat} {vs : List Value} (m : At A i (slE q l c sz vs)) : l ≤ c := by
  obtain ⟨f, hp, _⟩ := hs.take m
  obtain ⟨bs, ⟨_, h2, _⟩, _⟩ := slE_P.1 hp
  exact h2
theorem abytes_sp {Q : Option Addr → Nat → Nat → Int → H → Prop} (hs : Sat h0 A h) (ci : At A i (chipE p C)) (ho : C.out = false) (ar : Int) (a1 : 0 ≤ ar) (a2 : ar < 2) (n : Nat) (hn : n ≤ 32 * (C.cfg.area.toNat * C.cfg.cells.toNat)) (hn0 : 0 < n)
    (k : ∀ (o : Option Addr) (c m : Nat) (h' : H), m = (n + 31) / 32 → Sat h0 (slE o (32 * m) c 1 (ints .u8 (areaB C ar m)) :: A) h' → n ≤ 32 * m → Q (subAddr o 0 n 1) n n 0 h') : F_area_bytes ⟨p, 0, none⟩ ar n Q h := by
  unfold F_area_bytes G_area_bytes
  simp only [add_mk, Nat.zero_add, List.append_nil]
  have ok := chip_ok hs ci
  have hm := ok.may.area
  have hcl := ok.may.cells
  have hsl := ok.may.slots
  have hsz : C.cfg.area.toNat * C.cfg.cells.toNat ≤ 16384 := by
    calc C.cfg.area.toNat * C.cfg.cells.toNat ≤ 64 * C.cfg.cells.toNat := Nat.mul_le_mul_right _ (by omega)
      _ ≤ 16384 := by omega
  intro J hJ
  obtain ⟨M, hM⟩ : ∃ M, M = (n + 31) / 32 := ⟨_, rfl⟩
  replace hs := hs.sl_nil 1 none
  refine loop_st M (fun m (s : Option Addr × Nat) => [.dv (.one (.slice s.1 (32 * m) s.2)), .dv (.one (.int .i64 (m : Int)))]) (fun m s h => Sat h0 (slE s.1 (32 * m) s.2 1 (ints .u8 (areaB C ar m)) :: A) h) ?_ ?_ 0 (none, 0) _ (by omega) hs
  · rintro m ⟨o, c⟩ h1 hm2 hs hk
    apply hJ
    rw [ltI_eq, if_pos (by simp; omega)]
    refine aplace_sp hs ci.s ar a1 a2 m (by omega) ?_
    intro h2 hs
    have hri := read_in ok ho a1 a2 (n := m) (by omega)
    have hrl := readM_len ok (2 + ar * C.cfg.area + ((m / C.cfg.cells.toNat : Nat) : Int)) ((m % C.cfg.cells.toNat : Nat) : Int)
    refine Read_sp hs ci.s _ _ ?_
    intro h3 hs
    have hB : areaB C ar (m + 1) = areaB C ar m ++ (readM C (2 + ar * C.cfg.area + ((m / C.cfg.cells.toNat : Nat) : Int)) ((m % C.cfg.cells.toNat : Nat) : Int)).1 := rfl
    generalize readM C (2 + ar * C.cfg.area + ((m / C.cfg.cells.toNat : Nat) : Int)) ((m % C.cfg.cells.toNat : Nat) : Int) = X at *
    intro n2 _ hn2; replace hs := Sat.new hs hn2; clear hn2
    refine ⟨Sat.can hs (by (repeat (first | exact At.z | apply At.s))) (by simp [hrl]), ?_⟩
    intro _ e; replace hs := Sat.wra hs (by (repeat (first | exact At.z | apply At.s))) e (by rw [ints_length, ints_length, hrl]; rfl); clear e; simp only [put] at hs
    rw [if_neg (by rw [hri]; simp)]
    rw [show subAddr (some ⟨n2, 0, none⟩) 0 32 1 = some ⟨n2, 0, none⟩ from rfl]
    refine ⟨_, hs.bv .z (by rw [ints_length, hrl]) (ints_one _ _), ?_⟩
    refine Sat.app hs (.s .z) (by rw [ints_length, hrl]) rfl (ints_one _ _) (by omega) ?_
    intro p' c' h4 hs
    rw [put_succ, put_zero] at hs
    rw [wrap_succ (by omega)]
    have hs' := hs.drop
    have el : 32 * m + 32 = 32 * (m + 1) := by omega
    rw [el] at hs' ⊢
    have ea : ints .u8 (areaB C ar m) ++ ints .u8 X.1 = ints .u8 (areaB C ar (m + 1)) := by rw [hB]; simp [ints]
    rw [ea] at hs'
    exact hk (p', c') _ hs'
  · rintro ⟨o, c⟩ h1 hs
    have hc0 := sl_cap hs .z
    apply hJ
    rw [ltI_eq, if_neg (by simp; omega)]
    dsimp only at hs hc0 ⊢
    refine ⟨by omega, by omega, by omega, ?_⟩
    have := k o c M h1 (by omega) hs (by omega)
    simpa using this
end
end Go.Proofs.Ytamfkofcpoglnaa
end
