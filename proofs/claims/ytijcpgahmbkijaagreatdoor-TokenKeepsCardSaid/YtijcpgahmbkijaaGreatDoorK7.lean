/- TokenKeeps: what is proved and its parts, laid together by a program of ours: F Hp Hs Lp Sl Mt Rd Re Cd By Mp Sh1 Sh2 -/
import Derived.ChangeSame
import Derived.ChangeVars
import Derived.JoinedOf
import Derived.LaidHandle
import Derived.LaidLaws
import Derived.Laws.Closers25b
import Derived.ProofKit
import Derived.SevenTiedAt
import Derived.SizedLaws
import Derived.Stop.Joined
import Derived.Test.YtijcpgahmbkijaaGreatDoorCards
import Derived.Test.YtijcpgahmbkijaaGreatDoorTie
import Derived.Test.YtijcpgahmbkijaaGreatDoorK6
set_option autoImplicit false
set_option linter.all false
/- Denotations of functions of the program, printed by a program of ours, and that they are the model's. -/
section
set_option linter.unusedVariables false
set_option maxRecDepth 100000
namespace Go.Proofs.YtijcpgahmbkijaaGreatDoor
open Go Go.Vc
def G_token_versions_may (a0_0 : Int) (a0_1 : Int) (Q : Bool → H → Prop) (h : H) : Prop := ∀ (n4 : Nat) (h5 : H), hnew h n4 [Value.int IntKind.i64 a0_0, Value.int IntKind.i64 a0_1] h5 → ∃ (i7 : Int), hc h5 (Addr.mk n4 0 none) = some (Value.int IntKind.i64 i7) ∧ if leI 0 i7 = true then ∃ (i8 : Int), hc h5 (Addr.mk n4 0 none) = some (Value.int IntKind.i64 i8) ∧ ∃ (i9 : Int), hc h5 ((Addr.mk n4 0 none).add 1) = some (Value.int IntKind.i64 i9) ∧ if leI i8 i9 = true then ∃ (i10 : Int), hc h5 ((Addr.mk n4 0 none).add 1) = some (Value.int IntKind.i64 i10) ∧ ∀ (i11 : Int), i11 = 4294967296 → Q (ltI i10 i11) h5 else Q false h5 else Q false h5
theorem E_token_versions_may  : ∀ (a0_0 : Int) (a0_1 : Int) (Q : Bool → H → Prop) (h : H), G_token_versions_may a0_0 a0_1 Q h = Dbody PP [] [] Tryz.f112 [.agg [.c (.int .i64 a0_0), .c (.int .i64 a0_1)]] (decR [.bool] Q) h := by intros; kernel_rfl
def F_token_versions_may := G_token_versions_may
theorem R_token_versions_may : RunOk PP 112 (W [.ag [.int .i64, .int .i64]] [.bool] F_token_versions_may) := runOk_of (T := []) (ann := []) (TblOk.nil) Tryz.func112 (by kernel_rfl) (by kernel_rfl) (E_token_versions_may)
attribute [irreducible] F_token_versions_may
def G_token_ofKinds_may (a0_0 : Int) (Q : Bool → H → Prop) (h : H) : Prop := ∀ (n3 : Nat) (h4 : H), hnew h n3 [Value.int IntKind.u64 a0_0] h4 → ∃ (i6 : Int), hc h4 (Addr.mk n3 0 none) = some (Value.int IntKind.u64 i6) ∧ if (i6 != 0) = true then ∃ (i7 : Int), hc h4 (Addr.mk n3 0 none) = some (Value.int IntKind.u64 i7) ∧ Q (bits BinOp.andNot IntKind.u64 i7 16382 == 0) h4 else Q false h4
theorem E_token_ofKinds_may  : ∀ (a0_0 : Int) (Q : Bool → H → Prop) (h : H), G_token_ofKinds_may a0_0 Q h = Dbody PP [] [] Tryz.f114 [.agg [.c (.int .u64 a0_0)]] (decR [.bool] Q) h := by intros; kernel_rfl
def F_token_ofKinds_may := G_token_ofKinds_may
theorem R_token_ofKinds_may : RunOk PP 114 (W [.ag [.int .u64]] [.bool] F_token_ofKinds_may) := runOk_of (T := []) (ann := []) (TblOk.nil) Tryz.func114 (by kernel_rfl) (by kernel_rfl) (E_token_ofKinds_may)
attribute [irreducible] F_token_ofKinds_may
def G_token_value (a0 : Int) (Q : Bool → H → Prop) (h : H) : Prop := if leI 0 a0 = true then ∀ (i3 : Int), i3 = 4611686018427387904 → Q (leI a0 i3) h else Q false h
theorem E_token_value  : ∀ (a0 : Int) (Q : Bool → H → Prop) (h : H), G_token_value a0 Q h = Dbody PP [] [] Tryz.f118 [.one (.int .i64 a0)] (decR [.bool] Q) h := by intros; kernel_rfl
def F_token_value := G_token_value
theorem R_token_value : RunOk PP 118 (W [.int .i64] [.bool] F_token_value) := runOk_of (T := []) (ann := []) (TblOk.nil) Tryz.func118 (by kernel_rfl) (by kernel_rfl) (E_token_value)
attribute [irreducible] F_token_value
def G_token_atLeast_may (c_token_slot : Int → (Bool → H → Prop) → H → Prop) (c_token_value : Int → (Bool → H → Prop) → H → Prop) (a0_0 : Int) (a0_1 : Int) (Q : Bool → H → Prop) (h : H) : Prop := ∀ (n6 : Nat) (h7 : H), hnew h n6 [Value.int IntKind.i64 a0_0, Value.int IntKind.i64 a0_1] h7 → ∃ (i9 : Int), hc h7 (Addr.mk n6 0 none) = some (Value.int IntKind.i64 i9) ∧ c_token_slot i9 (fun (b10 : Bool) (h11 : H) => if b10 = true then ∃ (i12 : Int), hc h11 ((Addr.mk n6 0 none).add 1) = some (Value.int IntKind.i64 i12) ∧ c_token_value i12 (fun (b13 : Bool) (h14 : H) => Q b13 h14) h11 else Q false h11) h7
theorem E_token_atLeast_may (c_token_slot : Int → (Bool → H → Prop) → H → Prop) (c_token_value : Int → (Bool → H → Prop) → H → Prop) : ∀ (a0_0 : Int) (a0_1 : Int) (Q : Bool → H → Prop) (h : H), G_token_atLeast_may c_token_slot c_token_value a0_0 a0_1 Q h = Dbody PP [(111, W [.int .i64] [.bool] c_token_slot), (118, W [.int .i64] [.bool] c_token_value)] [] Tryz.f116 [.agg [.c (.int .i64 a0_0), .c (.int .i64 a0_1)]] (decR [.bool] Q) h := by intros; kernel_rfl
def F_token_atLeast_may := G_token_atLeast_may F_token_slot F_token_value
theorem R_token_atLeast_may : RunOk PP 116 (W [.ag [.int .i64, .int .i64]] [.bool] F_token_atLeast_may) := runOk_of (T := [(111, W [.int .i64] [.bool] F_token_slot), (118, W [.int .i64] [.bool] F_token_value)]) (ann := []) (TblOk.cons R_token_slot (TblOk.cons R_token_value (TblOk.nil))) Tryz.func116 (by kernel_rfl) (by kernel_rfl) (E_token_atLeast_may F_token_slot F_token_value)
attribute [irreducible] F_token_atLeast_may
def G_token_atMost_may (c_token_slot : Int → (Bool → H → Prop) → H → Prop) (c_token_value : Int → (Bool → H → Prop) → H → Prop) (a0_0 : Int) (a0_1 : Int) (Q : Bool → H → Prop) (h : H) : Prop := ∀ (n6 : Nat) (h7 : H), hnew h n6 [Value.int IntKind.i64 a0_0, Value.int IntKind.i64 a0_1] h7 → ∃ (i9 : Int), hc h7 (Addr.mk n6 0 none) = some (Value.int IntKind.i64 i9) ∧ c_token_slot i9 (fun (b10 : Bool) (h11 : H) => if b10 = true then ∃ (i12 : Int), hc h11 ((Addr.mk n6 0 none).add 1) = some (Value.int IntKind.i64 i12) ∧ c_token_value i12 (fun (b13 : Bool) (h14 : H) => Q b13 h14) h11 else Q false h11) h7
theorem E_token_atMost_may (c_token_slot : Int → (Bool → H → Prop) → H → Prop) (c_token_value : Int → (Bool → H → Prop) → H → Prop) : ∀ (a0_0 : Int) (a0_1 : Int) (Q : Bool → H → Prop) (h : H), G_token_atMost_may c_token_slot c_token_value a0_0 a0_1 Q h = Dbody PP [(111, W [.int .i64] [.bool] c_token_slot), (118, W [.int .i64] [.bool] c_token_value)] [] Tryz.f119 [.agg [.c (.int .i64 a0_0), .c (.int .i64 a0_1)]] (decR [.bool] Q) h := by intros; kernel_rfl
def F_token_atMost_may := G_token_atMost_may F_token_slot F_token_value
theorem R_token_atMost_may : RunOk PP 119 (W [.ag [.int .i64, .int .i64]] [.bool] F_token_atMost_may) := runOk_of (T := [(111, W [.int .i64] [.bool] F_token_slot), (118, W [.int .i64] [.bool] F_token_value)]) (ann := []) (TblOk.cons R_token_slot (TblOk.cons R_token_value (TblOk.nil))) Tryz.func119 (by kernel_rfl) (by kernel_rfl) (E_token_atMost_may F_token_slot F_token_value)
attribute [irreducible] F_token_atMost_may
end Go.Proofs.YtijcpgahmbkijaaGreatDoor
end

/- Blocks of memory as lists of cells, and what loads, stores and allocations do to them. Own work; generic over any program. -/
section
set_option linter.unusedVariables false
namespace Go.Vc

/-- Block b holds just these cells, and none of them is frozen. -/
def Blk (h : H) (b : Nat) (vs : List Value) : Prop :=
  ∃ t lo n, h[b]? = some (.cells vs.toArray t (lo, lo + n)) ∧ ∀ i, i < vs.length → ¬ (lo ≤ i ∧ i < lo + n)

abbrev at_ (b o : Nat) : Addr := ⟨b, o, none⟩

@[simp] theorem add_mk (b o n : Nat) : (Addr.mk b o none).add n = Addr.mk b (o + n) none := by
  unfold Addr.add; split
  · rename_i h; subst h; rfl
  · rfl

theorem Blk.lt {h : H} {b : Nat} {vs : List Value} (k : Blk h b vs) : b < h.size := by
  obtain ⟨t, lo, hi, hb, _⟩ := k
  exact (Array.getElem?_eq_some_iff.1 hb).1
theorem Blk.of_eq {h h' : H} {b : Nat} {vs : List Value} (k : Blk h b vs) (e : h'[b]? = h[b]?) : Blk h' b vs := by
  obtain ⟨t, lo, hi, hb, hf⟩ := k
  exact ⟨t, lo, hi, by rw [e]; exact hb, hf⟩

theorem Blk.hc {h : H} {b : Nat} {vs : List Value} (k : Blk h b vs) (o : Nat) : hc h ⟨b, o, none⟩ = vs[o]? := by
  obtain ⟨t, lo, hi, hb, _⟩ := k
  simp [Vc.hc, hb]
theorem Blk.hf {h : H} {b : Nat} {vs : List Value} (k : Blk h b vs) {o : Nat} (ho : o < vs.length) : hf h ⟨b, o, none⟩ = false := by
  obtain ⟨t, lo, hi, hb, hfz⟩ := k
  have := hfz o ho
  simp only [Vc.hf, hb]
  simp only [Bool.and_eq_false_imp, decide_eq_true_eq, decide_eq_false_iff_not]
  intro h1 h2; exact this ⟨h1, h2⟩
theorem Blk.can {h : H} {b : Nat} {vs : List Value} (k : Blk h b vs) {o n : Nat} (ho : o + n ≤ vs.length) : hcan h ⟨b, o, none⟩ n := by
  intro i hi
  have hl : o + i < vs.length := by omega
  rw [add_mk, k.hc, k.hf hl]
  simp [List.getElem?_eq_getElem hl]
theorem Blk.hcs {h : H} {b : Nat} {vs : List Value} (k : Blk h b vs) {o : Nat} {xs : List Value} (e : ∀ i, i < xs.length → vs[o + i]? = xs[i]?) : hcs h ⟨b, o, none⟩ xs := by
  intro i v hv
  rw [add_mk, k.hc, e i (List.getElem?_eq_some_iff.1 hv).1, hv]

/-! ### Writing -/
/-- Cells put in the place of others. -/
def splice (vs : List Value) : Nat → List Value → List Value
  | _, [] => vs
  | o, x :: r => splice (vs.set o x) (o + 1) r
@[simp] theorem splice_nil (vs : List Value) (o : Nat) : splice vs o [] = vs := rfl
@[simp] theorem splice_cons (vs : List Value) (o : Nat) (x : Value) (r : List Value) : splice vs o (x :: r) = splice (vs.set o x) (o + 1) r := rfl
@[simp] theorem splice_length (vs : List Value) (o : Nat) (xs : List Value) : (splice vs o xs).length = vs.length := by
  induction xs generalizing vs o with
  | nil => rfl
  | cons x r ih => simp [ih]
theorem splice_get (vs : List Value) (o : Nat) (xs : List Value) (i : Nat) : (splice vs o xs)[i]? = if o ≤ i ∧ i < o + xs.length ∧ i < vs.length then xs[i - o]? else vs[i]? := by
  induction xs generalizing vs o with
  | nil =>
    have : ¬ (o ≤ i ∧ i < o + ([] : List Value).length ∧ i < vs.length) := by simp; omega
    rw [if_neg this]; rfl
  | cons x r ih =>
    rw [splice_cons, ih]
    simp only [List.length_cons, List.length_set]
    by_cases h1 : o = i
    · subst h1
      rw [if_neg (by omega)]
      by_cases h2 : o < vs.length
      · rw [if_pos (by omega)]; simp [h2]
      · rw [if_neg (by omega)]
        have : (vs.set o x) = vs := List.set_eq_of_length_le (by omega)
        rw [this]
    · rw [List.getElem?_set_ne h1]
      by_cases h2 : o + 1 ≤ i ∧ i < o + 1 + r.length ∧ i < vs.length
      · rw [if_pos h2, if_pos (by omega)]
        have : i - o = (i - (o + 1)) + 1 := by omega
        rw [this]; simp
      · rw [if_neg h2, if_neg (by omega)]
theorem splice_all (vs xs : List Value) (h : xs.length = vs.length) : splice vs 0 xs = xs := by
  apply List.ext_getElem?
  intro i
  rw [splice_get]
  split
  · simp
  · rename_i hn
    rw [List.getElem?_eq_none (by omega), List.getElem?_eq_none (by omega)]
theorem splice_append (a b c xs : List Value) (h : xs.length = b.length) : splice (a ++ b ++ c) a.length xs = a ++ xs ++ c := by
  apply List.ext_getElem?
  intro i
  rw [splice_get]
  simp only [List.length_append]
  split
  · rename_i hh
    rw [List.append_assoc, List.getElem?_append_right hh.1, List.getElem?_append_left (by omega)]
  · rename_i hh
    rw [List.append_assoc, List.append_assoc]
    by_cases h1 : i < a.length
    · rw [List.getElem?_append_left h1, List.getElem?_append_left h1]
    · rw [List.getElem?_append_right (by omega), List.getElem?_append_right (by omega)]
      by_cases h2 : i - a.length < b.length
      · omega
      · rw [List.getElem?_append_right (by omega), List.getElem?_append_right (by omega), h]

theorem hs_eq {h : H} {b : Nat} {vs : List Value} (k : Blk h b vs) (o : Nat) (v : Value) : Blk (hs h ⟨b, o, none⟩ v) b (vs.set o v) := by
  obtain ⟨t, lo, hi, hb, hfz⟩ := k
  refine ⟨t, lo, hi, ?_, by simpa using hfz⟩
  simp only [hs, Array.getElem?_modify, hb]
  simp
theorem hs_ne (h : H) (a : Addr) (v : Value) {x : Nat} (hx : x ≠ a.block) : (hs h a v)[x]? = h[x]? := by
  simp only [hs, Array.getElem?_modify]
  rw [if_neg (by omega)]
theorem hs_size (h : H) (a : Addr) (v : Value) : (hs h a v).size = h.size := by simp [hs]
theorem hwrFrom_blk {h : H} {b : Nat} {vs : List Value} (k : Blk h b vs) (o : Nat) (xs : List Value) (j : Nat) : Blk (hwrFrom h ⟨b, o, none⟩ j xs) b (splice vs (o + j) xs) := by
  induction xs generalizing h vs j with
  | nil => exact k
  | cons x r ih =>
    simp only [hwrFrom, splice_cons, add_mk]
    exact ih (hs_eq k (o + j) x) (j + 1)
theorem add_block (a : Addr) (n : Nat) : (a.add n).block = a.block := by unfold Addr.add; split <;> rfl
theorem hwrFrom_ne (h : H) (a : Addr) (j : Nat) (xs : List Value) {x : Nat} (hx : x ≠ a.block) : (hwrFrom h a j xs)[x]? = h[x]? := by
  induction xs generalizing h j with
  | nil => rfl
  | cons y r ih => simp only [hwrFrom]; rw [ih, hs_ne]; rw [add_block]; exact hx
theorem hwrFrom_size (h : H) (a : Addr) (j : Nat) (xs : List Value) : (hwrFrom h a j xs).size = h.size := by
  induction xs generalizing h j with
  | nil => rfl
  | cons y r ih => simp only [hwrFrom]; rw [ih, hs_size]
theorem Blk.wr {h : H} {b : Nat} {vs : List Value} (k : Blk h b vs) (o : Nat) (xs : List Value) : Blk (hwr h ⟨b, o, none⟩ xs) b (splice vs o xs) := hwrFrom_blk k o xs 0
theorem hwr_ne (h : H) (a : Addr) (xs : List Value) {x : Nat} (hx : x ≠ a.block) : (hwr h a xs)[x]? = h[x]? := hwrFrom_ne h a 0 xs hx
theorem hwr_size (h : H) (a : Addr) (xs : List Value) : (hwr h a xs).size = h.size := hwrFrom_size h a 0 xs
/-! ### What is left alone -/
/-- From h to h' only these blocks, and new ones, may differ. -/
structure Ext (S : Nat → Prop) (h h' : H) : Prop where
  size : h.size ≤ h'.size
  eq : ∀ b, b < h.size → ¬ S b → h'[b]? = h[b]?
abbrev none_ : Nat → Prop := fun _ => False
theorem Ext.refl (S : Nat → Prop) (h : H) : Ext S h h := ⟨Nat.le_refl _, fun _ _ _ => rfl⟩
theorem Ext.trans {S : Nat → Prop} {h h' h'' : H} (a : Ext S h h') (b : Ext S h' h'') : Ext S h h'' :=
  ⟨Nat.le_trans a.size b.size, fun x hx hs => by rw [b.eq x (Nat.lt_of_lt_of_le hx a.size) hs, a.eq x hx hs]⟩
theorem Ext.mono {S T : Nat → Prop} {h h' : H} (a : Ext S h h') (st : ∀ b, b < h.size → S b → T b) : Ext T h h' :=
  ⟨a.size, fun x hx hs => a.eq x hx fun h => hs (st x hx h)⟩
/-- A change of blocks that are new, or allowed, is no change of old ones. -/
theorem Ext.comp {S T : Nat → Prop} {h h' h'' : H} (a : Ext S h h') (b : Ext T h' h'') (st : ∀ x, x < h.size → T x → S x) : Ext S h h'' :=
  ⟨Nat.le_trans a.size b.size, fun x hx hs => by rw [b.eq x (Nat.lt_of_lt_of_le hx a.size) (fun t => hs (st x hx t)), a.eq x hx hs]⟩
theorem Ext.blk {S : Nat → Prop} {h h' : H} (a : Ext S h h') {b : Nat} {vs : List Value} (k : Blk h b vs) (hb : ¬ S b) : Blk h' b vs := k.of_eq (a.eq b k.lt hb)
theorem Ext.wr (h : H) (b o : Nat) (xs : List Value) : Ext (fun x => x = b) h (hwr h ⟨b, o, none⟩ xs) :=
  ⟨by rw [hwr_size]; exact Nat.le_refl _, fun x _ hx => hwr_ne h _ xs hx⟩
theorem hnew.size {h h' : H} {b : Nat} {c : List Value} (n : hnew h b c h') : h'.size = h.size + 1 := by
  obtain ⟨_, t, lo, hi, _, rfl⟩ := n; simp
theorem hnew.b {h h' : H} {b : Nat} {c : List Value} (n : hnew h b c h') : b = h.size := n.1
theorem hnew.ext {h h' : H} {b : Nat} {c : List Value} (n : hnew h b c h') : Ext none_ h h' := by
  refine ⟨by rw [n.size]; omega, ?_⟩
  obtain ⟨_, t, lo, hi, _, rfl⟩ := n
  intro x hx _
  rw [Array.getElem?_push]; rw [if_neg (by omega)]
theorem hnew.blk {h h' : H} {b : Nat} {c : List Value} (n : hnew h b c h') : Blk h' b c := by
  obtain ⟨rfl, t, lo, hi, hf, rfl⟩ := n
  exact ⟨t, lo, hi, by simp, hf⟩
/-! ### Rows of integers -/
@[simp] theorem ints_nil (k : IntKind) : ints k [] = [] := rfl
@[simp] theorem ints_cons (k : IntKind) (n : Int) (r : List Int) : ints k (n :: r) = .int k n :: ints k r := rfl
@[simp] theorem ints_length (k : IntKind) (ns : List Int) : (ints k ns).length = ns.length := by simp [ints]
@[simp] theorem ints_append (k : IntKind) (a b : List Int) : ints k (a ++ b) = ints k a ++ ints k b := by simp [ints]
theorem ints_get (k : IntKind) (ns : List Int) (i : Nat) : (ints k ns)[i]? = ns[i]?.map (Value.int k) := by simp [ints]
@[simp] theorem zeros_length (n : Nat) : (zeros n).length = n := by simp [zeros]
theorem Blk.hrow {h : H} {b : Nat} {vs : List Value} (k : Blk h b vs) {o : Nat} {kd : IntKind} {ns : List Int} (e : ∀ i, i < ns.length → vs[o + i]? = ns[i]?.map (Value.int kd)) : hrow h ⟨b, o, none⟩ kd ns := by
  apply k.hcs
  intro i hi
  rw [e i (by simpa using hi), ints_get]
@[simp] theorem oneCell_int (k : IntKind) (n : Int) : (Value.int k n).oneCell' = true := rfl
end Go.Vc
end

/- Slices: what they hold, who owns it, and appending. Own work; generic over any program. -/
section
set_option linter.unusedVariables false
namespace Go.Vc

theorem hc_congr {h h' : H} {a : Addr} (e : h'[a.block]? = h[a.block]?) : hc h' a = hc h a := by simp only [hc, e]
theorem hc_lt {h : H} {a : Addr} {v : Value} (e : hc h a = some v) : a.block < h.size := by
  rcases Nat.lt_or_ge a.block h.size with k | k
  · exact k
  · simp [hc, Array.getElem?_eq_none k] at e
theorem hc_ext {S : Nat → Prop} {h h' : H} (x : Ext S h h') {a : Addr} {v : Value} (e : hc h a = some v) (hs : ¬ S a.block) : hc h' a = some v := by
  rw [hc_congr (x.eq _ (hc_lt e) hs), e]
theorem hcs_ext {S : Nat → Prop} {h h' : H} (x : Ext S h h') {a : Addr} {vs : List Value} (e : hcs h a vs) (hs : ¬ S a.block) : hcs h' a vs := by
  intro i v hv
  exact hc_ext x (e i v hv) (by rw [add_block]; exact hs)
theorem hsv_ext {S : Nat → Prop} {h h' : H} (x : Ext S h h') {p : Option Addr} {sz l : Nat} {vs : List Value} (e : hsv h p sz l vs) (hs : ∀ q, p = some q → ¬ S q.block) : hsv h' p sz l vs := by
  obtain ⟨h1, h2, h3⟩ := e
  refine ⟨h1, h2, ?_⟩
  rcases h3 with h3 | ⟨q, hq, h3⟩
  · exact Or.inl h3
  · exact Or.inr ⟨q, hq, hcs_ext x h3 (hs q hq)⟩
theorem hsv_none {h : H} {sz l : Nat} {vs : List Value} (e : hsv h none sz l vs) : vs = [] := by
  obtain ⟨_, _, h3⟩ := e
  rcases h3 with h3 | ⟨q, hq, _⟩
  · exact h3
  · cases hq
theorem hsv_get {h : H} {p : Option Addr} {sz l : Nat} {vs : List Value} (e : hsv h p sz l vs) {i : Nat} {v : Value} (hi : vs[i]? = some v) : ∃ q, p = some q ∧ hc h (q.add i) = some v := by
  obtain ⟨_, _, h3⟩ := e
  rcases h3 with h3 | ⟨q, hq, h3⟩
  · subst h3; simp at hi
  · exact ⟨q, hq, h3 i v hi⟩
/-- A slice whose cells lie at the head of a block of their own (bs: that block, if there is one). -/
def OwnS (h : H) (p : Option Addr) (l c sz : Nat) (vs : List Value) (bs : List Nat) : Prop :=
  vs.length = l * sz ∧ l ≤ c ∧ (∀ v, v ∈ vs → v.oneCell' = true) ∧
    ((l = 0 ∧ c = 0 ∧ bs = []) ∨ ∃ b rest, p = some ⟨b, 0, none⟩ ∧ bs = [b] ∧ Blk h b (vs ++ rest) ∧ (c - l) * sz ≤ rest.length)
theorem OwnS.hsv {h : H} {p : Option Addr} {l c sz : Nat} {vs : List Value} {bs : List Nat} (o : OwnS h p l c sz vs bs) : hsv h p sz l vs := by
  obtain ⟨h1, h2, h3, h4⟩ := o
  refine ⟨h1, h3, ?_⟩
  rcases h4 with ⟨rfl, _, _⟩ | ⟨b, rest, rfl, _, k, _⟩
  · left; apply List.eq_nil_of_length_eq_zero; simp [h1]
  · right
    exact ⟨_, rfl, k.hcs fun i hi => by rw [Nat.zero_add, List.getElem?_append_left hi]⟩
theorem OwnS.lt {h : H} {p : Option Addr} {l c sz : Nat} {vs : List Value} {bs : List Nat} (o : OwnS h p l c sz vs bs) : ∀ b, b ∈ bs → b < h.size := by
  obtain ⟨_, _, _, h4⟩ := o
  rcases h4 with ⟨_, _, rfl⟩ | ⟨b, rest, _, rfl, k, _⟩
  · intro b hb; simp at hb
  · intro b' hb; simp at hb; subst hb; exact k.lt
theorem OwnS.ext {S : Nat → Prop} {h h' : H} (x : Ext S h h') {p : Option Addr} {l c sz : Nat} {vs : List Value} {bs : List Nat} (o : OwnS h p l c sz vs bs) (hs : ∀ b, b ∈ bs → ¬ S b) : OwnS h' p l c sz vs bs := by
  obtain ⟨h1, h2, h3, h4⟩ := o
  refine ⟨h1, h2, h3, ?_⟩
  rcases h4 with h4 | ⟨b, rest, hp, rfl, k, hr⟩
  · exact Or.inl h4
  · exact Or.inr ⟨b, rest, hp, rfl, x.blk k (hs b (by simp)), hr⟩
theorem OwnS.nil (h : H) (p : Option Addr) (sz : Nat) : OwnS h p 0 0 sz [] [] := ⟨by simp, Nat.le_refl _, by simp, Or.inl ⟨rfl, rfl, rfl⟩⟩

theorem flatten_replicate_length {α : Type} (n : Nat) (z : List α) : (List.replicate n z).flatten.length = n * z.length := by
  induction n with
  | zero => simp
  | succ n ih => simp [List.replicate_succ, Nat.succ_mul, ih]; omega

/-- Blocks that are new. -/
def newB (h : H) (bs : List Nat) : Prop := ∀ b, b ∈ bs → h.size ≤ b
theorem newB.ext {S : Nat → Prop} {h h' : H} (x : Ext S h h') {bs : List Nat} (n : newB h' bs) : newB h bs := fun b hb => Nat.le_trans x.size (n b hb)

/-- Cells are appended to an empty slice without room. -/
theorem pApp_empty {h : H} {sz : Nat} {z : List Value} {B : Nat} {p : Option Addr} {n : Nat} {vs : List Value} {K : Option Addr → Nat → Nat → H → Prop}
    (hl : vs.length = n * sz) (hz : z.length = sz) (hv : ∀ v, v ∈ vs → v.oneCell' = true) (hb : n * B ≤ 2 ^ 47)
    (hk : ∀ p' c' h' bs, Ext none_ h h' → OwnS h' p' n c' sz vs bs → newB h bs → K p' n c' h') : pApp h sz z B p 0 0 n vs K := by
  unfold pApp
  by_cases hn : n = 0
  · subst hn
    have hv0 : vs = [] := List.eq_nil_of_length_eq_zero (by simp [hl])
    subst hv0
    rw [if_pos (by simp)]
    refine ⟨Or.inl rfl, fun h' e => ?_⟩
    have e' : h' = h := by rw [e]; cases p <;> rfl
    subst e'
    exact hk _ _ _ [] (Ext.refl _ _) (OwnS.nil _ _ _) (by intro b hb; simp at hb)
  · rw [if_neg (by omega)]
    refine ⟨by simpa using hb, [], ⟨by simp, by simp, Or.inl rfl⟩, fun c' b h' hc hw => ?_⟩
    have : (0 + n) = n := by omega
    rw [this] at hc ⊢
    refine hk _ _ _ [b] hw.ext ⟨hl, hc, hv, Or.inr ⟨b, (List.replicate (c' - (0 + n)) z).flatten, rfl, rfl, ?_, ?_⟩⟩ ?_
    · simpa using hw.blk
    · rw [flatten_replicate_length, hz, this]; exact Nat.le_refl _
    · intro x hx; simp at hx; subst hx; rw [hw.b]; exact Nat.le_refl _

/-- Cells are appended to a slice that is owned. -/
theorem pApp_own {h : H} {sz : Nat} {z : List Value} {B : Nat} {p : Option Addr} {l c n : Nat} {old vs : List Value} {bs : List Nat} {K : Option Addr → Nat → Nat → H → Prop}
    (o : OwnS h p l c sz old bs) (hl : vs.length = n * sz) (hz : z.length = sz) (hv : ∀ v, v ∈ vs → v.oneCell' = true) (hb : (l + n) * B ≤ 2 ^ 47)
    (hk : ∀ p' c' h' bs', Ext (fun b => b ∈ bs) h h' → OwnS h' p' (l + n) c' sz (old ++ vs) bs' → (∀ b, b ∈ bs' → b ∈ bs ∨ h.size ≤ b) → K p' (l + n) c' h') : pApp h sz z B p l c n vs K := by
  have ohs := o.hsv
  have olt := o.lt
  obtain ⟨h1, h2, h3, h4⟩ := o
  have hov : ∀ v, v ∈ old ++ vs → v.oneCell' = true := by
    intro v hm; rcases List.mem_append.1 hm with hm | hm
    · exact h3 v hm
    · exact hv v hm
  have hlen : (old ++ vs).length = (l + n) * sz := by simp [h1, hl, Nat.add_mul]
  unfold pApp
  split
  · rename_i hroom
    rcases h4 with ⟨rfl, rfl, rfl⟩ | ⟨b, rest, rfl, rfl, k, hr⟩
    · have hn : n = 0 := by omega
      subst hn
      have hv0 : vs = [] := List.eq_nil_of_length_eq_zero (by simp [hl])
      have ho0 : old = [] := List.eq_nil_of_length_eq_zero (by simp [h1])
      subst hv0; subst ho0
      refine ⟨Or.inl rfl, fun h' e => ?_⟩
      have e' : h' = h := by rw [e]; cases p <;> rfl
      subst e'
      exact hk _ _ _ [] (Ext.refl _ _) (OwnS.nil _ _ _) (by intro b hb; simp at hb)
    · have hnr : n * sz ≤ rest.length := by
        have : n * sz ≤ (c - l) * sz := Nat.mul_le_mul_right _ (by omega)
        omega
      refine ⟨Or.inr ⟨_, rfl, ?_⟩, fun h' e => ?_⟩
      · rw [add_mk]; apply k.can; simp [h1]; omega
      · simp only [Option.map_some, hwrO, add_mk, Nat.zero_add] at e
        have hs : splice (old ++ rest) (l * sz) vs = (old ++ vs) ++ rest.drop (n * sz) := by
          have : old ++ rest = old ++ rest.take (n * sz) ++ rest.drop (n * sz) := by simp
          rw [this, ← h1, splice_append]
          simp [hl, Nat.min_eq_left hnr]
        have kb := k.wr (l * sz) vs
        rw [hs] at kb
        subst e
        refine hk _ _ _ [b] ⟨by rw [hwr_size]; exact Nat.le_refl _, fun x _ hx => hwr_ne _ _ _ (by simpa using hx)⟩ ⟨hlen, hroom, hov, Or.inr ⟨b, rest.drop (n * sz), rfl, rfl, kb, ?_⟩⟩ (fun x hx => Or.inl hx)
        simp
        have : c - (l + n) = (c - l) - n := by omega
        rw [this, Nat.sub_mul]; omega
  · rename_i hroom
    refine ⟨hb, old, ohs, fun c' b h' hc hw => ?_⟩
    refine hk _ _ _ [b] (hw.ext.mono fun _ _ hf => hf.elim) ⟨hlen, hc, hov, Or.inr ⟨b, (List.replicate (c' - (l + n)) z).flatten, rfl, rfl, ?_, ?_⟩⟩ ?_
    · exact hw.blk
    · rw [flatten_replicate_length, hz]; exact Nat.le_refl _
    · intro x hx; simp at hx; subst hx; right; rw [hw.b]; exact Nat.le_refl _
end Go.Vc
end

/- Loops that count up. Own work; generic over any program. -/
section
set_option linter.unusedVariables false
namespace Go.Vc
abbrev si (i : Nat) : SV := .dv (.one (.int .i64 (i : Int)))
theorem loop_up {J : List SV → H → Prop} (N : Nat) (Inv : Nat → H → Prop) (step : ∀ i h, i < N → Inv i h → (∀ h', Inv (i + 1) h' → J [si (i + 1)] h') → J [si i] h)
    (exit : ∀ h, Inv N h → J [si N] h) (i : Nat) (h : H) (hi : i ≤ N) (inv : Inv i h) : J [si i] h := by
  generalize e : N - i = n
  induction n generalizing i h with
  | zero =>
    have : i = N := by omega
    subst this; exact exit h inv
  | succ n ih => exact step i h (by omega) inv fun h' inv' => ih (i + 1) h' (by omega) inv' (by omega)
theorem wrap_succ {i : Nat} (h : i < 2 ^ 62) : IntKind.i64.wrap ((i : Int) + 1) = ((i + 1 : Nat) : Int) := by
  rw [IntKind.wrap_i64]; omega
theorem wrap_id {n : Int} (h : -(2 ^ 62) ≤ n ∧ n ≤ 2 ^ 62) : IntKind.i64.wrap n = n := by
  rw [IntKind.wrap_i64]; omega
theorem wrap_u8_id {n : Int} (h : 0 ≤ n ∧ n < 256) : IntKind.u8.wrap n = n := by
  rw [IntKind.wrap_u8]; omega

/-- The first i entries are mapped. -/
def mapTo (g : Nat → Int → Int) (i : Nat) (ns : List Int) : List Int := ns.mapIdx fun j v => if j < i then g j v else v
@[simp] theorem mapTo_length (g : Nat → Int → Int) (i : Nat) (ns : List Int) : (mapTo g i ns).length = ns.length := by simp [mapTo]
theorem mapTo_get (g : Nat → Int → Int) (i : Nat) (ns : List Int) (j : Nat) : (mapTo g i ns)[j]? = ns[j]?.map fun v => if j < i then g j v else v := by simp [mapTo]
@[simp] theorem mapTo_zero (g : Nat → Int → Int) (ns : List Int) : mapTo g 0 ns = ns := by
  apply List.ext_getElem?; intro j; rw [mapTo_get]; simp
theorem ints_set (k : IntKind) (ns : List Int) (i : Nat) (n : Int) : (ints k ns).set i (.int k n) = ints k (ns.set i n) := by simp [ints, List.map_set]
end Go.Vc
end

/- Assertions: a list of things that own blocks, none twice; all else is as it was in a base heap. Own work; generic over any program. -/
section
set_option linter.unusedVariables false
namespace Go.Vc

@[simp] theorem oneCell_slice (p : Option Addr) (l c : Nat) : (Value.slice p l c).oneCell' = true := rfl
@[simp] theorem oneCell_bool (b : Bool) : (Value.bool b).oneCell' = true := rfl
@[simp] theorem oneCell_ptr (p : Option Addr) : (Value.pointer p).oneCell' = true := rfl
@[simp] theorem oneCell_str (s : ByteArray) : (Value.string s).oneCell' = true := rfl

inductive Tag where
  | blk (b : Nat) (vs : List Value)
  | sl (p : Option Addr) (l c sz : Nat) (vs : List Value)
  | of (n : Nat)

/-- Something that lies in memory: what it says of a heap and of the blocks that it owns. -/
structure Ent where
  tag : Tag
  P : H → (Nat → Prop) → Prop
  st : ∀ {h h' : H} {f : Nat → Prop}, P h f → (∀ b, f b → h'[b]? = h[b]?) → P h' f
  lt : ∀ {h : H} {f : Nat → Prop} {b : Nat}, P h f → f b → b < h.size

def SatX : List Ent → H → (Nat → Prop) → Prop
  | [], _, O => ∀ b, ¬ O b
  | e :: A, h, O => ∃ f g, e.P h f ∧ SatX A h g ∧ (∀ b, f b → ¬ g b) ∧ (∀ b, O b ↔ f b ∨ g b)

theorem SatX.st {A : List Ent} {h h' : H} {O : Nat → Prop} (s : SatX A h O) (e : ∀ b, O b → h'[b]? = h[b]?) : SatX A h' O := by
  induction A generalizing O with
  | nil => exact s
  | cons x A ih =>
    obtain ⟨f, g, hp, hg, hd, ho⟩ := s
    exact ⟨f, g, x.st hp fun b hb => e b ((ho b).2 (Or.inl hb)), ih hg fun b hb => e b ((ho b).2 (Or.inr hb)), hd, ho⟩
theorem SatX.lt {A : List Ent} {h : H} {O : Nat → Prop} (s : SatX A h O) {b : Nat} (hb : O b) : b < h.size := by
  induction A generalizing O with
  | nil => exact absurd hb (s b)
  | cons x A ih =>
    obtain ⟨f, g, hp, hg, hd, ho⟩ := s
    rcases (ho b).1 hb with k | k
    · exact x.lt hp k
    · exact ih hg k
theorem SatX.iff {A : List Ent} {h : H} {O O' : Nat → Prop} (s : SatX A h O) (e : ∀ b, O b ↔ O' b) : SatX A h O' := by
  have : O = O' := funext fun b => propext (e b)
  exact this ▸ s
theorem SatX.append {A B : List Ent} {h : H} {O : Nat → Prop} : SatX (A ++ B) h O ↔ ∃ f g, SatX A h f ∧ SatX B h g ∧ (∀ b, f b → ¬ g b) ∧ (∀ b, O b ↔ f b ∨ g b) := by
  induction A generalizing O with
  | nil =>
    constructor
    · intro s; exact ⟨fun _ => False, O, fun _ x => x, s, fun _ x => x.elim, fun b => by simp⟩
    · rintro ⟨f, g, hf, hg, _, ho⟩
      refine hg.iff fun b => ?_
      rw [ho]; constructor
      · exact Or.inr
      · rintro (k | k)
        · exact absurd k (hf b)
        · exact k
  | cons x A ih =>
    constructor
    · rintro ⟨f, g, hp, hg, hd, ho⟩
      obtain ⟨f', g', h1, h2, h3, h4⟩ := ih.1 hg
      refine ⟨fun b => f b ∨ f' b, g', ⟨f, f', hp, h1, fun b k k' => hd b k ((h4 b).2 (Or.inl k')), fun b => Iff.rfl⟩, h2, ?_, ?_⟩
      · rintro b (k | k) k'
        · exact hd b k ((h4 b).2 (Or.inr k'))
        · exact h3 b k k'
      · intro b; rw [ho, h4, or_assoc]
    · rintro ⟨f, g, ⟨f1, f2, hp, h1, h2, h3⟩, hg, hd, ho⟩
      refine ⟨f1, fun b => f2 b ∨ g b, hp, ih.2 ⟨f2, g, h1, hg, fun b k k' => hd b ((h3 b).2 (Or.inr k)) k', fun b => Iff.rfl⟩, ?_, ?_⟩
      · rintro b k (k' | k')
        · exact h2 b k k'
        · exact hd b ((h3 b).2 (Or.inl k)) k'
      · intro b; rw [ho, h3, or_assoc]

/-- The thing at a place of the list. -/
inductive At : List Ent → Nat → Ent → Prop where
  | z {A : List Ent} {e : Ent} : At (e :: A) 0 e
  | s {A : List Ent} {e x : Ent} {i : Nat} : At A i e → At (x :: A) (i + 1) e
def put : List Ent → Nat → Ent → List Ent
  | [], _, _ => []
  | _ :: A, 0, e => e :: A
  | x :: A, i + 1, e => x :: put A i e
@[simp] theorem put_zero (x e : Ent) (A : List Ent) : put (x :: A) 0 e = e :: A := rfl
@[simp] theorem put_succ (x e : Ent) (A : List Ent) (i : Nat) : put (x :: A) (i + 1) e = x :: put A i e := rfl
theorem At.put {A : List Ent} {i : Nat} {e : Ent} (a : At A i e) (x : Ent) : At (Vc.put A i x) i x := by
  induction a with
  | z => exact .z
  | s _ ih => exact .s ih
@[simp] theorem put_put (A : List Ent) (i : Nat) (x y : Ent) : put (put A i x) i y = put A i y := by
  induction A generalizing i with
  | nil => rfl
  | cons a A ih => cases i with
    | zero => rfl
    | succ i => simp [ih]
theorem At.put_self {A : List Ent} {i : Nat} {e : Ent} (a : At A i e) : Vc.put A i e = A := by
  induction a with
  | z => rfl
  | s _ ih => simp [ih]

/-- A thing taken out of the list, and another one put in its place. -/
theorem SatX.take {A : List Ent} {i : Nat} {e : Ent} (a : At A i e) {h : H} {O : Nat → Prop} (s : SatX A h O) :
    ∃ f g : Nat → Prop, e.P h f ∧ (∀ b, f b → ¬ g b) ∧ (∀ b, O b ↔ f b ∨ g b) ∧
      ∀ (e' : Ent) (h' : H) (f' : Nat → Prop), e'.P h' f' → (∀ b, g b → h'[b]? = h[b]?) → (∀ b, f' b → ¬ g b) → SatX (Vc.put A i e') h' (fun b => f' b ∨ g b) := by
  induction a generalizing O with
  | z =>
    obtain ⟨f, g, hp, hg, hd, ho⟩ := s
    exact ⟨f, g, hp, hd, ho, fun e' h' f' hp' hsame hd' => ⟨f', g, hp', hg.st hsame, hd', fun b => Iff.rfl⟩⟩
  | s a ih =>
    obtain ⟨f, g, hp, hg, hd, ho⟩ := s
    obtain ⟨f1, g1, h1, h2, h3, h4⟩ := ih hg
    refine ⟨f1, fun b => f b ∨ g1 b, h1, ?_, ?_, ?_⟩
    · rintro b k (k' | k')
      · exact hd b k' ((h3 b).2 (Or.inl k))
      · exact h2 b k k'
    · intro b; rw [ho, h3]; constructor
      · rintro (k | k | k) <;> simp [k]
      · rintro (k | k | k) <;> simp [k]
    · intro e' h' f' hp' hsame hd'
      refine ⟨f, fun b => f' b ∨ g1 b, Ent.st _ hp fun b k => hsame b (Or.inl k), h4 e' h' f' hp' (fun b k => hsame b (Or.inr k)) (fun b k k' => hd' b k (Or.inr k')), ?_, ?_⟩
      · rintro b k (k' | k')
        · exact hd' b k' (Or.inl k)
        · exact hd b k ((h3 b).2 (Or.inr k'))
      · intro b; constructor
        · rintro (k | k | k) <;> simp [k]
        · rintro (k | k | k) <;> simp [k]

/-! ### With a base -/
/-- The things lie in new blocks; all blocks of the base heap are as they were. -/
def Sat (h0 : H) (A : List Ent) (h : H) : Prop := Ext none_ h0 h ∧ ∃ O, SatX A h O ∧ ∀ b, O b → h0.size ≤ b

theorem Sat.init (h : H) : Sat h [] h := ⟨Ext.refl _ _, fun _ => False, fun _ x => x, fun _ x => x.elim⟩
theorem Sat.ex {h0 h : H} {A : List Ent} (s : Sat h0 A h) : Ext none_ h0 h := s.1
theorem Sat.ext {h0 h h' : H} {A : List Ent} (s : Sat h0 A h) (x : Ext none_ h h') : Sat h0 A h' := by
  obtain ⟨s1, O, s2, s3⟩ := s
  exact ⟨s1.trans x, O, s2.st fun b hb => x.eq b (s2.lt hb) (fun y => y), s3⟩
theorem Sat.add {h0 h h' : H} {A : List Ent} (s : Sat h0 A h) (x : Ext none_ h h') {e : Ent} {f : Nat → Prop} (p : e.P h' f) (n : ∀ b, f b → h.size ≤ b) : Sat h0 (e :: A) h' := by
  obtain ⟨s1, O, s2, s3⟩ := s
  refine ⟨s1.trans x, fun b => f b ∨ O b, ⟨f, O, p, s2.st fun b hb => x.eq b (s2.lt hb) (fun y => y), ?_, fun b => Iff.rfl⟩, ?_⟩
  · intro b k k'; have := n b k; have := s2.lt k'; omega
  · rintro b (k | k)
    · have := n b k; have := s1.size; omega
    · exact s3 b k
theorem Sat.drop {h0 h : H} {A : List Ent} {e : Ent} (s : Sat h0 (e :: A) h) : Sat h0 A h := by
  obtain ⟨s1, O, ⟨f, g, _, hg, _, ho⟩, s3⟩ := s
  exact ⟨s1, g, hg, fun b hb => s3 b ((ho b).2 (Or.inr hb))⟩
theorem Sat.sub {h0 h : H} {A B : List Ent} (s : Sat h0 A h) (p : B.Sublist A) : Sat h0 B h := by
  obtain ⟨s1, O, s2, s3⟩ := s
  have : ∃ O', SatX B h O' ∧ ∀ b, O' b → O b := by
    clear s3
    induction p generalizing O with
    | slnil => exact ⟨O, s2, fun _ x => x⟩
    | cons a _ ih =>
      obtain ⟨f, g, hp, hg, hd, ho⟩ := s2
      obtain ⟨O', h1, h2⟩ := ih g hg
      exact ⟨O', h1, fun b hb => (ho b).2 (Or.inr (h2 b hb))⟩
    | cons_cons a _ ih =>
      obtain ⟨f, g, hp, hg, hd, ho⟩ := s2
      obtain ⟨O', h1, h2⟩ := ih g hg
      exact ⟨fun b => f b ∨ O' b, ⟨f, O', hp, h1, fun b k k' => hd b k (h2 b k'), fun b => Iff.rfl⟩, fun b hb => (ho b).2 (hb.imp id (h2 b))⟩
  obtain ⟨O', h1, h2⟩ := this
  exact ⟨s1, O', h1, fun b hb => s3 b (h2 b hb)⟩
theorem Sat.nil {h0 h : H} {A : List Ent} (s : Sat h0 A h) : Sat h0 [] h := ⟨s.1, fun _ => False, fun _ x => x, fun _ x => x.elim⟩
theorem Sat.perm {h0 h : H} {A B : List Ent} (s : Sat h0 A h) (p : A.Perm B) : Sat h0 B h := by
  obtain ⟨s1, O, s2, s3⟩ := s
  refine ⟨s1, O, ?_, s3⟩
  clear s3
  induction p generalizing O with
  | nil => exact s2
  | cons x _ ih =>
    obtain ⟨f, g, hp, hg, hd, ho⟩ := s2
    exact ⟨f, g, hp, ih g hg, hd, ho⟩
  | swap x y l =>
    obtain ⟨f, g, hp, ⟨f1, g1, hp1, hg1, hd1, ho1⟩, hd, ho⟩ := s2
    refine ⟨f1, fun b => f b ∨ g1 b, hp1, ⟨f, g1, hp, hg1, fun b k k' => hd b k ((ho1 b).2 (Or.inr k')), fun b => Iff.rfl⟩, ?_, ?_⟩
    · rintro b k (k' | k')
      · exact hd b k' ((ho1 b).2 (Or.inl k))
      · exact hd1 b k k'
    · intro b; rw [ho, ho1]; constructor
      · rintro (k | k | k) <;> simp [k]
      · rintro (k | k | k) <;> simp [k]
  | trans _ _ ih1 ih2 => exact ih2 O (ih1 O s2)
theorem Sat.takeK {h0 h : H} {A : List Ent} (s : Sat h0 A h) {i : Nat} {e : Ent} (a : At A i e) : ∃ f : Nat → Prop, e.P h f ∧ (∀ b, f b → h0.size ≤ b) ∧
    ∀ (h' : H) (e' : Ent) (f' : Nat → Prop), e'.P h' f' → (∀ b, f' b → f b ∨ h.size ≤ b) → Ext f h h' → Sat h0 (Vc.put A i e') h' := by
  obtain ⟨s1, O, s2, s3⟩ := s
  obtain ⟨f, g, hp, hd, ho, hk⟩ := s2.take a
  refine ⟨f, hp, fun b hb => s3 b ((ho b).2 (Or.inl hb)), fun h' e' f' hp' hn hx => ?_⟩
  have hg : ∀ b, g b → b < h.size := fun b hb => s2.lt ((ho b).2 (Or.inr hb))
  refine ⟨s1.comp hx (fun b hb hf => ?_), _, hk e' h' f' hp' (fun b hb => hx.eq b (hg b hb) (fun hf => hd b hf hb)) ?_, ?_⟩
  · have := s3 b ((ho b).2 (Or.inl hf)); omega
  · intro b k1 k2
    rcases hn b k1 with k | k
    · exact hd b k k2
    · have := hg b k2; omega
  · rintro b (k1 | k1)
    · rcases hn b k1 with k | k
      · exact s3 b ((ho b).2 (Or.inl k))
      · have := s1.size; omega
    · exact s3 b ((ho b).2 (Or.inr k1))
theorem Sat.take {h0 h : H} {A : List Ent} (s : Sat h0 A h) {i : Nat} {e : Ent} (a : At A i e) : ∃ f, e.P h f ∧ ∀ b, f b → h0.size ≤ b := by
  obtain ⟨f, h1, h2, _⟩ := s.takeK a
  exact ⟨f, h1, h2⟩
/-- One thing becomes another one: only its own blocks, and new ones, change. -/
theorem Sat.upd {h0 h h' : H} {A : List Ent} (s : Sat h0 A h) {i : Nat} {e e' : Ent} (a : At A i e)
    (k : ∀ f, e.P h f → ∃ f', e'.P h' f' ∧ (∀ b, f' b → f b ∨ h.size ≤ b) ∧ Ext f h h') : Sat h0 (Vc.put A i e') h' := by
  obtain ⟨f, hp, _, hk⟩ := s.takeK a
  obtain ⟨f', h1, h2, h3⟩ := k f hp
  exact hk h' e' f' h1 h2 h3
/-- The same heap, read otherwise. -/
theorem Sat.as {h0 h : H} {A : List Ent} (s : Sat h0 A h) {i : Nat} {e e' : Ent} (a : At A i e) (k : ∀ f, e.P h f → e'.P h f) : Sat h0 (Vc.put A i e') h :=
  s.upd a fun f hp => ⟨f, k f hp, fun _ => Or.inl, Ext.refl _ _⟩

/-! ### A block; a slice -/
@[irreducible] def blkP (b : Nat) (vs : List Value) (h : H) (f : Nat → Prop) : Prop := Blk h b vs ∧ ∀ x, f x ↔ x = b
def blk (b : Nat) (vs : List Value) : Ent where
  tag := .blk b vs
  P := blkP b vs
  st := by unfold blkP; rintro h h' f ⟨k, e⟩ hs; exact ⟨k.of_eq (hs b ((e b).2 rfl)), e⟩
  lt := by unfold blkP; rintro h f x ⟨k, e⟩ hx; rw [(e x).1 hx]; exact k.lt
theorem blk_P {b : Nat} {vs : List Value} {h : H} {f : Nat → Prop} : (blk b vs).P h f ↔ Blk h b vs ∧ ∀ x, f x ↔ x = b := by
  show blkP b vs h f ↔ _; unfold blkP; rfl
@[irreducible] def slP (p : Option Addr) (l c sz : Nat) (vs : List Value) (h : H) (f : Nat → Prop) : Prop := ∃ bs, OwnS h p l c sz vs bs ∧ ∀ x, f x ↔ x ∈ bs
def slE (p : Option Addr) (l c sz : Nat) (vs : List Value) : Ent where
  tag := .sl p l c sz vs
  P := slP p l c sz vs
  st := by
    unfold slP; rintro h h' f ⟨bs, ⟨h1, h2, h3, h4⟩, e⟩ hs
    refine ⟨bs, ⟨h1, h2, h3, ?_⟩, e⟩
    rcases h4 with h4 | ⟨b, rest, e1, rfl, k, e2⟩
    · exact Or.inl h4
    · exact Or.inr ⟨b, rest, e1, rfl, k.of_eq (hs b ((e b).2 (by simp))), e2⟩
  lt := by unfold slP; rintro h f x ⟨bs, o, e⟩ hx; exact o.lt x ((e x).1 hx)
theorem slE_P {p : Option Addr} {l c sz : Nat} {vs : List Value} {h : H} {f : Nat → Prop} : (slE p l c sz vs).P h f ↔ ∃ bs, OwnS h p l c sz vs bs ∧ ∀ x, f x ↔ x ∈ bs := by
  show slP p l c sz vs h f ↔ _; unfold slP; rfl
/-- Moved to the front. -/
def del : List Ent → Nat → List Ent
  | [], _ => []
  | _ :: A, 0 => A
  | x :: A, i + 1 => x :: del A i
theorem At.perm {A : List Ent} {i : Nat} {e : Ent} (a : At A i e) : A.Perm (e :: del A i) := by
  induction a with
  | z => exact .refl _
  | s _ ih => exact (ih.cons _).trans (.swap _ _ _)
theorem At.perm_put {A : List Ent} {i : Nat} {e : Ent} (a : At A i e) (x : Ent) : (x :: del A i).Perm (Vc.put A i x) := by
  induction a with
  | z => exact .refl _
  | s _ ih => exact (List.Perm.swap _ _ _).trans (ih.cons _)
theorem Sat.front {h0 h : H} {A : List Ent} (s : Sat h0 A h) {i : Nat} {e : Ent} (a : At A i e) : Sat h0 (e :: del A i) h := s.perm a.perm
theorem Sat.back {h0 h : H} {A : List Ent} {i : Nat} {e x : Ent} (a : At A i e) (s : Sat h0 (x :: del A i) h) : Sat h0 (Vc.put A i x) h := s.perm (a.perm_put x)

/-! ### Steps -/
theorem Sat.new {h0 h h' : H} {A : List Ent} (s : Sat h0 A h) {b : Nat} {vs : List Value} (n : hnew h b vs h') : Sat h0 (blk b vs :: A) h' :=
  s.add n.ext (blk_P.2 ⟨n.blk, fun _ => Iff.rfl⟩) fun x hx => by rw [hx, n.b]; exact Nat.le_refl _
theorem Blk.mark {h : H} {b o : Nat} {vs : List Value} (k : Blk h b vs) : Blk (hmark h ⟨b, o, none⟩) b vs ∧ ∀ x, x ≠ b → (hmark h ⟨b, o, none⟩)[x]? = h[x]? := by
  obtain ⟨t, lo, n, hb, hf⟩ := k
  have hlt := (Array.getElem?_eq_some_iff.1 hb).1
  unfold hmark
  simp only [hb]
  refine ⟨?_, fun x hx => by rw [Array.getElem?_setIfInBounds, if_neg (fun y => hx y.symm)]⟩
  by_cases c : n = 0
  · subst c
    refine ⟨t, vs.length, 1, ?_, fun i hi' => by omega⟩
    simp [hlt]
  · have h0 := hf lo
    refine ⟨t, vs.length, (max (lo + n) (vs.length + 1)) - vs.length, ?_, fun i hi' => by omega⟩
    have e1 : (lo == lo + n) = false := by rw [beq_eq_false_iff_ne]; omega
    have e2 : min lo vs.length = vs.length := by
      rcases Nat.lt_or_ge lo vs.length with z | z
      · exact absurd ⟨Nat.le_refl _, by omega⟩ (h0 z)
      · omega
    rw [e1]
    simp [hlt]
    omega
theorem Sat.blkOf {h0 h : H} {A : List Ent} (s : Sat h0 A h) {i b : Nat} {vs : List Value} (a : At A i (blk b vs)) : Blk h b vs := by
  obtain ⟨f, hp, _⟩ := s.take a
  exact (blk_P.1 hp).1
theorem Sat.mark {h0 h h' : H} {A : List Ent} (s : Sat h0 A h) {i b o : Nat} {vs : List Value} (a : At A i (blk b vs)) (e : h' = hmark h ⟨b, o, none⟩) : Sat h0 A h' := by
  subst e
  obtain ⟨s1, O, s2, s3⟩ := s
  obtain ⟨f, g, hp, hd, ho, hk⟩ := s2.take a
  obtain ⟨k1, k2⟩ := blk_P.1 hp
  obtain ⟨m1, m2⟩ := k1.mark (o := o)
  have hb : O b := (ho b).2 (Or.inl ((k2 b).2 rfl))
  have hgb : ∀ x, g x → x ≠ b := fun x hx e => hd b ((k2 b).2 rfl) (e ▸ hx)
  have := hk (blk b vs) (hmark h ⟨b, o, none⟩) f (blk_P.2 ⟨m1, k2⟩) (fun x hx => m2 x (hgb x hx)) hd
  rw [a.put_self] at this
  refine ⟨?_, _, this, fun x hx => s3 x ((ho x).2 hx)⟩
  have hbl := s3 b hb
  refine ⟨?_, fun x hx hn => ?_⟩
  · have h1 := s1.size
    have : (hmark h ⟨b, o, none⟩).size = h.size := by unfold hmark; split <;> simp
    omega
  · rw [m2 x (by omega)]
    exact s1.eq x hx hn
theorem Sat.old {h0 h : H} {A : List Ent} (s : Sat h0 A h) {i b : Nat} {vs : List Value} (a : At A i (blk b vs)) : h0.size ≤ b := by
  obtain ⟨f, hp, hl⟩ := s.take a
  exact hl b (((blk_P.1 hp).2 b).2 rfl)
theorem Sat.ld {h0 h : H} {A : List Ent} (s : Sat h0 A h) {i b : Nat} {vs : List Value} (a : At A i (blk b vs)) {o : Nat} {v : Value} (e : vs[o]? = some v) : hc h ⟨b, o, none⟩ = some v := by
  rw [(s.blkOf a).hc, e]
theorem Sat.cs1 {h0 h : H} {A : List Ent} (s : Sat h0 A h) {i b : Nat} {vs : List Value} (a : At A i (blk b vs)) {o : Nat} {xs : List Value} (e : ∀ i, i < xs.length → vs[o + i]? = xs[i]?) : hcs h ⟨b, o, none⟩ xs := (s.blkOf a).hcs e
theorem Sat.cs {h0 h : H} {A : List Ent} (s : Sat h0 A h) {i b : Nat} {vs : List Value} (a : At A i (blk b vs)) {o : Nat} {xs : List Value} (e : (vs.drop o).take xs.length = xs) : hcs h ⟨b, o, none⟩ xs := by
  refine s.cs1 a fun i hi => ?_
  have : ((vs.drop o).take xs.length)[i]? = xs[i]? := by rw [e]
  rw [List.getElem?_take_of_lt hi, List.getElem?_drop] at this
  exact this
theorem Sat.row {h0 h : H} {A : List Ent} (s : Sat h0 A h) {i b : Nat} {vs : List Value} (a : At A i (blk b vs)) {o : Nat} {k : IntKind} {ns : List Int} (e : ∀ i, i < ns.length → vs[o + i]? = ns[i]?.map (Value.int k)) : hrow h ⟨b, o, none⟩ k ns := (s.blkOf a).hrow e
theorem Sat.can {h0 h : H} {A : List Ent} (s : Sat h0 A h) {i b : Nat} {vs : List Value} (a : At A i (blk b vs)) {o n : Nat} (e : o + n ≤ vs.length) : hcan h ⟨b, o, none⟩ n := (s.blkOf a).can e
theorem Sat.wr {h0 h h' : H} {A : List Ent} (s : Sat h0 A h) {i b : Nat} {vs : List Value} (a : At A i (blk b vs)) {o : Nat} {xs : List Value} (e : h' = hwr h ⟨b, o, none⟩ xs) : Sat h0 (Vc.put A i (blk b (splice vs o xs))) h' := by
  subst e
  refine s.upd a fun f hp => ?_
  obtain ⟨k, hf⟩ := blk_P.1 hp
  refine ⟨f, blk_P.2 ⟨k.wr o xs, hf⟩, fun _ => Or.inl, (Ext.wr h b o xs).mono fun x _ hx => (hf x).2 hx⟩
theorem Sat.sv {h0 h : H} {A : List Ent} (s : Sat h0 A h) {i : Nat} {p : Option Addr} {l c sz : Nat} {vs : List Value} (a : At A i (slE p l c sz vs)) : hsv h p sz l vs := by
  obtain ⟨f, hp, _⟩ := s.take a
  obtain ⟨bs, o, _⟩ := slE_P.1 hp
  exact o.hsv
theorem Sat.base {h0 h : H} {A : List Ent} (s : Sat h0 A h) {p : Option Addr} {sz l : Nat} {vs : List Value} (e : hsv h0 p sz l vs) : hsv h p sz l vs := hsv_ext s.1 e fun _ _ x => x
theorem Sat.own {h0 h h' : H} {A : List Ent} (s : Sat h0 A h) (x : Ext none_ h h') {p : Option Addr} {l c sz : Nat} {vs : List Value} {bs : List Nat} (o : OwnS h' p l c sz vs bs) (n : newB h bs) : Sat h0 (slE p l c sz vs :: A) h' :=
  s.add x (f := fun x => x ∈ bs) (slE_P.2 ⟨bs, o, fun _ => Iff.rfl⟩) n
/-- Cells are appended to a slice that is owned. -/
theorem Sat.app {h0 h : H} {A : List Ent} (s : Sat h0 A h) {i : Nat} {p : Option Addr} {l c n sz : Nat} {old vs z : List Value} {B : Nat} (a : At A i (slE p l c sz old)) {K : Option Addr → Nat → Nat → H → Prop}
    (hl : vs.length = n * sz) (hz : z.length = sz) (hv : ∀ v, v ∈ vs → v.oneCell' = true) (hb : (l + n) * B ≤ 2 ^ 47)
    (k : ∀ p' c' h', Sat h0 (Vc.put A i (slE p' (l + n) c' sz (old ++ vs))) h' → K p' (l + n) c' h') : pApp h sz z B p l c n vs K := by
  obtain ⟨f, hp, _, hk⟩ := s.takeK a
  obtain ⟨bs, o, hf⟩ := slE_P.1 hp
  refine pApp_own o hl hz hv hb fun p' c' h' bs' hx ho hn => k _ _ _ ?_
  refine hk h' _ (fun x => x ∈ bs') (slE_P.2 ⟨bs', ho, fun _ => Iff.rfl⟩) (fun b hb => ?_) (hx.mono fun x _ hx => (hf x).2 hx)
  rcases hn b hb with h1 | h1
  · exact Or.inl ((hf b).2 h1)
  · exact Or.inr h1
/-- Cells appended to an empty slice without room. -/
theorem Sat.app_new {h0 h : H} {A : List Ent} (s : Sat h0 A h) {p : Option Addr} {n sz : Nat} {vs z : List Value} {B : Nat} {K : Option Addr → Nat → Nat → H → Prop}
    (hl : vs.length = n * sz) (hz : z.length = sz) (hv : ∀ v, v ∈ vs → v.oneCell' = true) (hb : n * B ≤ 2 ^ 47)
    (k : ∀ p' c' h', Sat h0 (slE p' n c' sz vs :: A) h' → K p' n c' h') : pApp h sz z B p 0 0 n vs K :=
  pApp_empty hl hz hv hb fun p' c' h' bs x o nb => k p' c' h' (s.own x o nb)
theorem At.app {A B : List Ent} {i : Nat} {e : Ent} (a : At A i e) : At (A ++ B) i e := by
  induction a with
  | z => exact .z
  | s _ ih => exact .s ih
theorem At.get {A : List Ent} {i : Nat} {e : Ent} (h : A[i]? = some e) : At A i e := by
  induction A generalizing i with
  | nil => simp at h
  | cons x A ih => cases i with
    | zero => simp at h; subst h; exact .z
    | succ i => exact .s (ih (by simpa using h))
theorem At.mem {A : List Ent} {e : Ent} (h : e ∈ A) : ∃ i, At A i e := by
  obtain ⟨i, hi⟩ := List.mem_iff_getElem?.1 h
  exact ⟨i, At.get hi⟩

end Go.Vc
end

/- Slices of slices of bytes. Own work; generic over any program. -/
section
set_option linter.unusedVariables false
namespace Go.Vc

def bools (bs : List Bool) : List Value := bs.map Value.bool
@[simp] theorem bools_length (bs : List Bool) : (bools bs).length = bs.length := by simp [bools]
@[simp] theorem bools_get (bs : List Bool) (i : Nat) : (bools bs)[i]? = bs[i]?.map Value.bool := by simp [bools]
abbrev Sl := Option Addr × Nat × Nat
abbrev Sl.v (s : Sl) : Value := .slice s.1 s.2.1 s.2.2
abbrev sE (s : Sl) (sz : Nat) (vs : List Value) : Ent := slE s.1 s.2.1 s.2.2 sz vs

/-- A row's slice, and its bytes. -/
structure Pg where
  sl : Sl
  bytes : List Int
def Pg.rd (h : H) (sz : Nat) (x : Pg) : Prop := hsv h x.sl.1 sz x.sl.2.1 (ints .u8 x.bytes)
def pgSl (l : List Pg) : List Value := l.map fun x => x.sl.v
def pgBytes (l : List Pg) : List (List Int) := l.map Pg.bytes
@[simp] theorem pgSl_length (l : List Pg) : (pgSl l).length = l.length := by simp [pgSl]
@[simp] theorem pgBytes_length (l : List Pg) : (pgBytes l).length = l.length := by simp [pgBytes]

/-- A slice of slices of bytes (sz a element of the inner ones), read only. -/
def RdM (h : H) (sz : Nat) (a : Sl) (rows : List (List Int)) : Prop := ∃ pgs, rows = pgBytes pgs ∧ hsv h a.1 1 a.2.1 (pgSl pgs) ∧ ∀ x, x ∈ pgs → x.rd h sz
theorem RdM.ext {h h' : H} (x : Ext none_ h h') {sz : Nat} {a : Sl} {rows : List (List Int)} (r : RdM h sz a rows) : RdM h' sz a rows := by
  obtain ⟨pgs, h1, h2, h3⟩ := r
  exact ⟨pgs, h1, hsv_ext x h2 (fun _ _ y => y), fun y hy => hsv_ext x (h3 y hy) (fun _ _ y => y)⟩
theorem RdM.len {h : H} {sz : Nat} {a : Sl} {rows : List (List Int)} (r : RdM h sz a rows) : rows.length = a.2.1 := by
  obtain ⟨pgs, rfl, h2, _⟩ := r
  have := h2.1; simpa using this
/-- The slice of a row, and what it holds. -/
theorem RdM.at {h : H} {sz : Nat} {a : Sl} {rows : List (List Int)} (r : RdM h sz a rows) {j : Nat} (hj : j < rows.length) :
    ∃ q x, a.1 = some q ∧ hc h (q.add (j * 1)) = some (Sl.v x) ∧ hsv h x.1 sz x.2.1 (ints .u8 rows[j]) := by
  obtain ⟨pgs, rfl, h2, h3⟩ := r
  have hj' : j < pgs.length := by simpa using hj
  have e : (pgSl pgs)[j]? = some (pgs[j].sl.v) := by simp [pgSl, hj']
  obtain ⟨q, hq, g⟩ := hsv_get h2 e
  refine ⟨q, pgs[j].sl, hq, by simpa using g, ?_⟩
  have := h3 pgs[j] (List.getElem_mem hj')
  simpa [Pg.rd, pgBytes] using this
theorem Sat.sl_nil {h0 h : H} {A : List Ent} (hs : Sat h0 A h) (sz : Nat) (p : Option Addr) : Sat h0 (sE (p, 0, 0) sz [] :: A) h :=
  hs.own (Ext.refl _ _) (bs := []) (OwnS.nil _ _ _) (by intro b hb; simp at hb)
/-- A block, held for a slice. -/
theorem Sat.as_sl {h0 h : H} {A : List Ent} (hs : Sat h0 A h) {i b l sz : Nat} {vs : List Value} (m : At A i (blk b vs)) (hl : vs.length = l * sz) (hv : ∀ v, v ∈ vs → v.oneCell' = true) :
    Sat h0 (Vc.put A i (slE (some ⟨b, 0, none⟩) l l sz vs)) h := by
  refine hs.as m fun f hp => ?_
  obtain ⟨k, hf⟩ := blk_P.1 hp
  refine slE_P.2 ⟨[b], ⟨hl, Nat.le_refl _, hv, Or.inr ⟨b, [], rfl, rfl, by simpa using k, by simp⟩⟩, fun x => ?_⟩
  rw [hf]; simp
theorem Sat.bv {h0 h : H} {A : List Ent} (hs : Sat h0 A h) {i b l sz : Nat} {vs : List Value} (m : At A i (blk b vs)) (hl : vs.length = l * sz) (hv : ∀ v, v ∈ vs → v.oneCell' = true) :
    hsv h (some ⟨b, 0, none⟩) sz l vs := (hs.as_sl m hl hv).sv (m.put _)
theorem ints_one (k : IntKind) (ns : List Int) : ∀ v, v ∈ ints k ns → v.oneCell' = true := by
  intro v hv
  simp only [ints, List.mem_map] at hv
  obtain ⟨n, _, rfl⟩ := hv; rfl
/-! ### Slices whose first cell is known -/
theorem Sat.sl_some {h0 h : H} {A : List Ent} (hs : Sat h0 A h) {i : Nat} {p : Option Addr} {l c sz : Nat} {vs : List Value} (m : At A i (slE p l c sz vs)) (hl : 0 < l) : ∃ b, p = some ⟨b, 0, none⟩ := by
  obtain ⟨f, hp, _⟩ := hs.take m
  obtain ⟨bs, ⟨_, _, _, h4⟩, _⟩ := slE_P.1 hp
  rcases h4 with ⟨h1, _, _⟩ | ⟨b, _, h1, _⟩
  · omega
  · exact ⟨b, h1⟩
theorem OwnS.blk' {h : H} {b l c sz : Nat} {vs : List Value} {bs : List Nat} (o : OwnS h (some ⟨b, 0, none⟩) l c sz vs bs) (hv : 0 < l) : bs = [b] ∧ ∃ rest, Blk h b (vs ++ rest) ∧ (c - l) * sz ≤ rest.length := by
  obtain ⟨h1, _, _, h4⟩ := o
  rcases h4 with ⟨r, _, _⟩ | ⟨b', rest, e, h5, k, h6⟩
  · omega
  · injection e with e; injection e with e; subst e
    exact ⟨h5, rest, k, h6⟩
theorem Sat.scan {h0 h : H} {A : List Ent} (hs : Sat h0 A h) {i b l c sz : Nat} {vs : List Value} (m : At A i (slE (some ⟨b, 0, none⟩) l c sz vs)) {o n : Nat} (hl : 0 < l) (e : o + n ≤ vs.length) : hcan h ⟨b, o, none⟩ n := by
  obtain ⟨f, hp, _⟩ := hs.take m
  obtain ⟨bs, o', _⟩ := slE_P.1 hp
  obtain ⟨_, rest, k, _⟩ := o'.blk' hl
  exact k.can (by simp; omega)
theorem splice_left (vs rest : List Value) (o : Nat) (xs : List Value) (h : o + xs.length ≤ vs.length) : splice (vs ++ rest) o xs = splice vs o xs ++ rest := by
  induction xs generalizing vs o with
  | nil => rfl
  | cons x r ih =>
    simp only [List.length_cons] at h
    rw [splice_cons, splice_cons, List.set_append_left _ _ (by omega), ih _ _ (by simp; omega)]
theorem splice_mem {vs xs : List Value} {o : Nat} {v : Value} (h : v ∈ splice vs o xs) : v ∈ vs ∨ v ∈ xs := by
  induction xs generalizing vs o with
  | nil => exact Or.inl h
  | cons x r ih =>
    rw [splice_cons] at h
    rcases ih h with h | h
    · rcases List.mem_or_eq_of_mem_set h with h | h
      · exact Or.inl h
      · exact Or.inr (by simp [h])
    · exact Or.inr (by simp [h])
theorem Sat.swr {h0 h h' : H} {A : List Ent} (hs : Sat h0 A h) {i b l c sz : Nat} {vs : List Value} (m : At A i (slE (some ⟨b, 0, none⟩) l c sz vs)) {o : Nat} {xs : List Value} (e : h' = hwr h ⟨b, o, none⟩ xs) (hl : 0 < l) (hx : o + xs.length ≤ vs.length)
    (h1 : ∀ v, v ∈ xs → v.oneCell' = true) : Sat h0 (Vc.put A i (slE (some ⟨b, 0, none⟩) l c sz (splice vs o xs))) h' := by
  subst e
  refine hs.upd m fun f hp => ?_
  obtain ⟨bs, o', hf⟩ := slE_P.1 hp
  obtain ⟨e, rest, k, hr⟩ := o'.blk' hl
  subst e
  refine ⟨f, slE_P.2 ⟨[b], ⟨by rw [splice_length]; exact o'.1, o'.2.1, ?_, Or.inr ⟨b, rest, rfl, rfl, ?_, hr⟩⟩, hf⟩, fun _ => Or.inl, (Ext.wr h b o xs).mono fun x _ hx => (hf x).2 (by simp [hx])⟩
  · intro v hv
    rcases splice_mem hv with hv | hv
    · exact o'.2.2.1 v hv
    · exact h1 v hv
  · rw [← splice_left _ _ _ _ hx]; exact k.wr o xs

/-! ### Whole blocks -/
theorem Sat.wra {h0 h h' : H} {A : List Ent} (s : Sat h0 A h) {i b : Nat} {vs xs : List Value} (a : At A i (blk b vs)) (e : h' = hwr h ⟨b, 0, none⟩ xs) (hl : xs.length = vs.length) : Sat h0 (Vc.put A i (blk b xs)) h' := by
  have := s.wr a e
  rwa [splice_all _ _ hl] at this
theorem Sat.row0 {h0 h : H} {A : List Ent} (s : Sat h0 A h) {i b : Nat} {k : IntKind} {ns : List Int} (a : At A i (blk b (ints k ns))) : hrow h ⟨b, 0, none⟩ k ns :=
  s.row a fun i _ => by rw [Nat.zero_add, ints_get]

/-! ### Cells of a slice of slices -/
def cellAt (row : List Int) (k : Nat) : List Int := (row.drop (k * 32)).take 32
theorem cellAt_length {row : List Int} {k : Nat} (h : (k + 1) * 32 ≤ row.length) : (cellAt row k).length = 32 := by simp [cellAt]; omega
theorem cellAt_get (row : List Int) (k i : Nat) (hi : i < 32) : (cellAt row k)[i]? = row[k * 32 + i]? := by
  simp only [cellAt]
  rw [List.getElem?_take_of_lt hi, List.getElem?_drop]
/-- A cell is read. -/
theorem RdM.cell {h : H} {a : Sl} {rows : List (List Int)} (r : RdM h 32 a rows) {j k : Nat} (hj : j < rows.length) (hk : (k + 1) * 32 ≤ rows[j].length) :
    ∃ q x q', a.1 = some q ∧ hc h (q.add (j * 1)) = some (Sl.v x) ∧ x.2.1 * 32 = rows[j].length ∧ x.1 = some q' ∧ hrow h (q'.add (k * 32)) .u8 (cellAt rows[j] k) := by
  obtain ⟨q, x, h1, h2, h3⟩ := r.at hj
  have hl : x.2.1 * 32 = rows[j].length := by have := h3.1; simp at this; omega
  obtain ⟨e1, e2, e3⟩ := h3
  rcases e3 with e3 | ⟨q', hq, g⟩
  · have : rows[j].length = 0 := by have := congrArg List.length e3; simpa using this
    omega
  · refine ⟨q, x, q', h1, h2, hl, hq, ?_⟩
    intro i v hv
    have hi : i < 32 := by
      have := (List.getElem?_eq_some_iff.1 hv).1
      rw [ints_length, cellAt_length hk] at this; exact this
    rw [ints_get, cellAt_get _ _ _ hi] at hv
    have : (q'.add (k * 32)).add i = q'.add (k * 32 + i) := by
      cases q' with | mk b o s => unfold Addr.add; by_cases h1 : k * 32 = 0 <;> by_cases h2 : i = 0 <;> simp [h1, h2, Nat.add_assoc]
    rw [this]
    exact g _ _ (by rw [ints_get]; exact hv)

/-! ### A row taken out of a slice of slices -/
end Go.Vc
end

/- Arguments that are read as data: what their cells are. Own work; generic over any program. -/
section
set_option maxRecDepth 100000
set_option linter.unusedVariables false
namespace Go.Vc

/-- The cells read as a datum of a type, no piece of which is too great. -/
def Rdt {D : Type} (enc : TypeId × Value → D) (P : Program) (W : World) (t : TypeId) (cs : List Value) : Prop :=
  ∃ fuel x, DataW.trod enc P W 0 (fun _ => true) true fuel t cs = some x ∧ ∀ n, n ∈ DataW.weights P t x.1 → n ≤ reachBytes

inductive XSh where
  | int (k : IntKind) | bool | str | slc (e : TypeId) | row (k : IntKind) (n : Nat)
def XSh.size : XSh → Nat
  | .row _ n => n
  | _ => 1
def xSize : List XSh → Nat
  | [] => 0
  | s :: r => s.size + xSize r

/-- The fields of a struct, one behind the other. -/
def xFields (sh : TypeId → Option (List XSh)) : Nat → List Field → Option (List XSh)
  | _, [] => some []
  | off, f :: fs => match Nat.beq f.offset off, sh f.type with
    | true, some s => (xFields sh (off + xSize s) fs).map (s ++ ·)
    | _, _ => none
def xsh (P : Program) : Nat → TypeId → Option (List XSh)
  | 0, _ => none
  | d + 1, t => match P.underlying t with
    | some (.int k) => some [.int k]
    | some .bool => some [.bool]
    | some .string => some [.str]
    | some (.slice e) => some [.slc e]
    | some (.array n e) => match P.underlying e, Nat.beq (P.cellsOf e) 1, Nat.beq (P.cellsOf t) n with
      | some (.int k), true, true => some [.row k n]
      | _, _, _ => none
    | some (.struct fs) => match xFields (fun u => match xsh P d u with | some s => (match Nat.beq (P.cellsOf u) (xSize s) with | true => some s | false => none) | none => none) 0 fs.toList with
      | some s => match Nat.beq (P.cellsOf t) (xSize s) with | true => some s | false => none
      | none => none
    | _ => none

/-- A slice of so many elements of a type. -/
def Sli {D : Type} (enc : TypeId × Value → D) (P : Program) (W : World) (e : TypeId) (p : Option Addr) (l c : Nat) : Prop :=
  l ≤ c ∧ c * P.bytesOf e ≤ reachBytes ∧ (p = none → l = 0 ∧ c = 0) ∧
    ∀ i, i < l → ∃ a es, p = some a ∧ es.length = P.cellsOf e ∧ hcs W.heap (a.add (i * P.cellsOf e)) es ∧ Rdt enc P W e es
def has (k : IntKind) (n : Int) : Prop := k.min ≤ n ∧ n ≤ k.max
theorem has_u8 {n : Int} (h : has .u8 n) : 0 ≤ n ∧ n < 256 := by
  have h1 : IntKind.u8.min = 0 := rfl
  have h2 : IntKind.u8.max = 255 := by decide
  unfold has at h; omega
def XM {D : Type} (enc : TypeId × Value → D) (P : Program) (W : World) : List XSh → List Value → Prop
  | [], cs => cs = []
  | .int k :: r, cs => ∃ n rest, cs = .int k n :: rest ∧ has k n ∧ XM enc P W r rest
  | .bool :: r, cs => ∃ b rest, cs = .bool b :: rest ∧ XM enc P W r rest
  | .str :: r, cs => ∃ s rest, cs = .string s :: rest ∧ s.size ≤ reachBytes ∧ XM enc P W r rest
  | .slc e :: r, cs => ∃ p l c rest, cs = .slice p l c :: rest ∧ Sli enc P W e p l c ∧ XM enc P W r rest
  | .row k n :: r, cs => ∃ ns rest, cs = ints k ns ++ rest ∧ ns.length = n ∧ (∀ x, x ∈ ns → has k x) ∧ XM enc P W r rest

section
variable {D : Type} {enc : TypeId × Value → D} {P : Program} {W : World}
theorem XM.append : ∀ {s1 s2 : List XSh} {c1 c2 : List Value}, XM enc P W s1 c1 → XM enc P W s2 c2 → XM enc P W (s1 ++ s2) (c1 ++ c2)
  | [], s2, c1, c2, h1, h2 => by simp only [XM] at h1; subst h1; exact h2
  | .int k :: r, s2, c1, c2, h1, h2 => by obtain ⟨n, rest, rfl, hn, h⟩ := h1; exact ⟨n, rest ++ c2, rfl, hn, XM.append h h2⟩
  | .bool :: r, s2, c1, c2, h1, h2 => by obtain ⟨n, rest, rfl, h⟩ := h1; exact ⟨n, rest ++ c2, rfl, XM.append h h2⟩
  | .str :: r, s2, c1, c2, h1, h2 => by obtain ⟨n, rest, rfl, hn, h⟩ := h1; exact ⟨n, rest ++ c2, rfl, hn, XM.append h h2⟩
  | .slc e :: r, s2, c1, c2, h1, h2 => by obtain ⟨p, l, c, rest, rfl, hn, h⟩ := h1; exact ⟨p, l, c, rest ++ c2, rfl, hn, XM.append h h2⟩
  | .row k n :: r, s2, c1, c2, h1, h2 => by obtain ⟨ns, rest, rfl, hn, hh, h⟩ := h1; exact ⟨ns, rest ++ c2, by simp, hn, hh, XM.append h h2⟩
theorem XM.len : ∀ {s : List XSh} {c : List Value}, XM enc P W s c → c.length = xSize s
  | [], c, h => by simp only [XM] at h; subst h; rfl
  | .int k :: r, c, h => by obtain ⟨n, rest, rfl, _, h⟩ := h; simp [xSize, XSh.size, XM.len h]; omega
  | .bool :: r, c, h => by obtain ⟨n, rest, rfl, h⟩ := h; simp [xSize, XSh.size, XM.len h]; omega
  | .str :: r, c, h => by obtain ⟨n, rest, rfl, _, h⟩ := h; simp [xSize, XSh.size, XM.len h]; omega
  | .slc e :: r, c, h => by obtain ⟨p, l, c, rest, rfl, _, h⟩ := h; simp [xSize, XSh.size, XM.len h]; omega
  | .row k n :: r, c, h => by obtain ⟨ns, rest, rfl, hn, _, h⟩ := h; simp [xSize, XSh.size, XM.len h, hn]

theorem wf_has {k : IntKind} {n : Int} (h : (Lit.int k n).wf = true) : has k n := by
  simp only [Lit.wf, Bool.and_eq_true, decide_eq_true_eq] at h
  exact h
theorem cells_hcs {a : Addr} {n : Nat} {es : List Value} (h : W.cells? 0 a n = some es) : es.length = n ∧ hcs W.heap a es := by
  simp only [World.cells?, Nat.zero_le, if_true] at h
  have hl : es.length = n := by simpa using mapM_some_length h
  refine ⟨hl, fun i v hv => ?_⟩
  have hi : i < n := by have := (List.getElem?_eq_some_iff.1 hv).1; omega
  have := mapM_some_get h i i (by simp [hi])
  rw [hv, cell_hc] at this
  exact this
theorem weights_mem_all {e : TypeId} : ∀ {ds : List (DataW D)} {d : DataW D}, d ∈ ds → ∀ n, n ∈ DataW.weights P e d → n ∈ DataW.weightsAll P e ds
  | d0 :: ds, d, hd, n, hn => by
    simp only [DataW.weightsAll, List.mem_append]
    rcases List.mem_cons.1 hd with rfl | hd
    · exact Or.inl hn
    · exact Or.inr (weights_mem_all hd n hn)

theorem Rdt.slice {t e : TypeId} {cs : List Value} (u : P.underlying t = some (.slice e)) (h : Rdt enc P W t cs) : ∃ p l c, cs = [.slice p l c] ∧ Sli enc P W e p l c := by
  obtain ⟨fuel, x, h, hw⟩ := h
  rcases DataW.trod_slice u h with ⟨rfl, rfl⟩ | ⟨a, len, cap, elems, rest, n, rfl, rfl, rfl, _, hl, hc, he, h1, h2, _⟩
  · exact ⟨none, 0, 0, rfl, Nat.le_refl _, by simp, fun _ => ⟨rfl, rfl⟩, fun i hi => by omega⟩
  · refine ⟨some a, len, cap, rfl, hl, ?_, by simp, ?_⟩
    · obtain ⟨h3, _⟩ := h2 rfl
      have := hw ((elems.length + rest.length) * P.bytesOf e) (by simp [DataW.weights, u])
      rw [he, h3] at this
      rwa [show len + (cap - len) = cap by omega] at this
    · intro i hi
      have h4 := h1 i hi
      have hei : i < elems.length := by omega
      rw [List.getElem?_eq_getElem hei] at h4
      obtain ⟨es, h5, h6⟩ := Option.bind_eq_some_iff.1 h4
      obtain ⟨h7, h8⟩ := cells_hcs h5
      refine ⟨a, es, rfl, h7, h8, n, elems[i], h6, fun m hm => hw m ?_⟩
      simp only [DataW.weights, u, List.mem_cons, List.mem_append]
      exact Or.inr (Or.inl (weights_mem_all (List.mem_map_of_mem (List.getElem_mem hei)) m hm))
theorem array_ints {t e : TypeId} {n : Nat} {k : IntKind} {cs : List Value} (u : P.underlying t = some (.array n e)) (ue : P.underlying e = some (.int k)) (h1 : P.cellsOf e = 1) (h2 : P.cellsOf t = n) (h : Rdt enc P W t cs) :
    ∃ ns : List Int, cs = ints k ns ∧ ns.length = n ∧ ∀ x, x ∈ ns → has k x := by
  obtain ⟨fuel, x, h, _⟩ := h
  cases fuel with
  | zero => simp [DataW.trod] at h
  | succ f =>
    have key : cs.length = n ∧ ∀ i, i < n → ∃ m, cs[i]? = some (.int k m) ∧ has k m := by
      unfold DataW.trod at h
      rw [u] at h
      have h : (if cs.length = P.cellsOf t then ((List.range n).mapM fun i => DataW.trod enc P W 0 (fun _ => true) true f e ((cs.drop (i * P.cellsOf e)).take (P.cellsOf e))).map fun xs => (DataW.agg (xs.map (·.1)), xs.flatMap (·.2)) else none) = some x := by
        split at h <;> simp_all
      split at h
      · rename_i hl
        obtain ⟨xs, hm, _⟩ := Option.map_eq_some_iff.1 h
        refine ⟨by omega, fun i hi => ?_⟩
        have hg := mapM_some_get hm i i (by simp [hi])
        have hxl : xs.length = n := by simpa using mapM_some_length hm
        rw [List.getElem?_eq_getElem (show i < xs.length by omega)] at hg
        obtain ⟨m, hm1, _, hm2⟩ := DataW.trod_int ue hg
        rw [h1, Nat.mul_one] at hm1
        refine ⟨m, ?_, wf_has hm2⟩
        have : ((cs.drop i).take 1)[0]? = some (.int k m) := by rw [hm1]; rfl
        rw [List.getElem?_take_of_lt (by omega), List.getElem?_drop] at this
        simpa using this
      · cases h
    obtain ⟨hl, hc⟩ := key
    refine ⟨cs.map fun v => match v with | .int _ m => m | _ => 0, ?_, by simpa using hl, ?_⟩
    · apply List.ext_getElem?
      intro i
      rw [ints_get, List.getElem?_map, Option.map_map]
      by_cases hi : i < n
      · obtain ⟨m, e, _⟩ := hc i hi
        rw [e]; rfl
      · rw [List.getElem?_eq_none (by omega)]; rfl
    · intro x hx
      obtain ⟨v, hv, rfl⟩ := List.mem_map.1 hx
      obtain ⟨i, hi, rfl⟩ := List.mem_iff_getElem.1 hv
      obtain ⟨m, e, hm⟩ := hc i (by omega)
      rw [List.getElem?_eq_getElem hi] at e
      injection e with e
      rw [e]; exact hm
theorem xFields_XM {sh : TypeId → Option (List XSh)} {cs : List Value} (ih : ∀ u s c, sh u = some s → Rdt enc P W u c → XM enc P W s c) (hz : ∀ u s, sh u = some s → P.cellsOf u = xSize s) :
    ∀ (fs : List Field) (off : Nat) (s : List XSh), xFields sh off fs = some s → off + xSize s ≤ cs.length → (∀ f, f ∈ fs → Rdt enc P W f.type ((cs.drop f.offset).take (P.cellsOf f.type))) → XM enc P W s ((cs.drop off).take (xSize s))
  | [], off, s, h, _, _ => by simp only [xFields, Option.some.injEq] at h; subst h; simp [XM, xSize]
  | f :: fs, off, s, h, hl, hf => by
    unfold xFields at h
    split at h
    · rename_i s1 ho hs1
      obtain ⟨s2, h2, rfl⟩ := Option.map_eq_some_iff.1 h
      have ho : f.offset = off := Nat.eq_of_beq_eq_true ho
      have hx : xSize (s1 ++ s2) = xSize s1 + xSize s2 := by
        clear h h2 hs1 hl
        induction s1 with
        | nil => simp [xSize]
        | cons a r ihr => simp [xSize, ihr]; omega
      rw [hx] at hl ⊢
      have r1 := ih _ _ _ hs1 (hf f (by simp))
      rw [ho, hz _ _ hs1] at r1
      have r2 := xFields_XM ih hz fs (off + xSize s1) s2 h2 (by omega) (fun g hg => hf g (by simp [hg]))
      have e : (cs.drop off).take (xSize s1 + xSize s2) = (cs.drop off).take (xSize s1) ++ (cs.drop (off + xSize s1)).take (xSize s2) := by
        rw [List.take_add, List.drop_drop]
      rw [e]
      exact r1.append r2
    · cases h
theorem Rdt.xm : ∀ (d : Nat) (t : TypeId) (s : List XSh) (cs : List Value), xsh P d t = some s → Rdt enc P W t cs → XM enc P W s cs
  | 0, t, s, cs, h, _ => by cases h
  | d + 1, t, s, cs, h, r => by
    unfold xsh at h
    split at h
    · rename_i k u
      injection h with h; subst h
      obtain ⟨fuel, x, r, _⟩ := r
      obtain ⟨n, rfl, _, hn⟩ := DataW.trod_int u r
      exact ⟨n, [], rfl, wf_has hn, rfl⟩
    · rename_i u
      injection h with h; subst h
      obtain ⟨fuel, x, r, _⟩ := r
      obtain ⟨n, rfl, _⟩ := DataW.trod_bool u r
      exact ⟨n, [], rfl, rfl⟩
    · rename_i u
      injection h with h; subst h
      obtain ⟨fuel, x, r, hw⟩ := r
      obtain ⟨n, rfl, rfl, _⟩ := DataW.trod_string u r
      refine ⟨n, [], rfl, ?_, rfl⟩
      have := hw n.data.toList.length (by simp [DataW.weights])
      simpa using this
    · rename_i e u
      injection h with h; subst h
      obtain ⟨p, l, c, rfl, hs⟩ := Rdt.slice u r
      exact ⟨p, l, c, [], rfl, hs, rfl⟩
    · rename_i n e u
      split at h
      · rename_i k ue h1 h2
        injection h with h; subst h
        obtain ⟨ns, rfl, hn, hh⟩ := array_ints u ue (Nat.eq_of_beq_eq_true h1) (Nat.eq_of_beq_eq_true h2) r
        exact ⟨ns, [], by simp, hn, hh, rfl⟩
      · cases h
    · rename_i fs u
      split at h
      · rename_i s' hx
        split at h
        · rename_i hz
          injection h with h; subst h
          have hz := Nat.eq_of_beq_eq_true hz
          obtain ⟨fuel, x, r, hw⟩ := r
          obtain ⟨xs, n, rfl, rfl, hl, hxl, hf⟩ := DataW.trod_struct u r
          have := xFields_XM (enc := enc) (W := W) (cs := cs) (fun u s c hu hr => by
              split at hu
              · rename_i s1 hs1
                split at hu
                · injection hu with hu; subst hu; exact Rdt.xm d u _ c hs1 hr
                · cases hu
              · cases hu) (fun u s hu => by
              split at hu
              · split at hu
                · rename_i hb; injection hu with hu; subst hu; exact Nat.eq_of_beq_eq_true hb
                · cases hu
              · cases hu) fs.toList 0 s' hx (by omega) (fun f hfm => by
              obtain ⟨i, hi, rfl⟩ := List.mem_iff_getElem.1 hfm
              have hi2 : i < fs.size := by simpa using hi
              have h1 := hf i fs[i] (by simp [hi2])
              rw [List.getElem?_eq_getElem (show i < xs.length by omega)] at h1
              have e : fs.toList[i] = fs[i] := by simp
              rw [e]
              refine ⟨n, _, h1, fun m hm => hw m ?_⟩
              simp only [DataW.weights, u]
              exact DataW.weights_mem_each (j := i) (by simp [hi2]) (by simp [show i < xs.length by omega]) m hm)
          rw [List.drop_zero, List.take_of_length_le (by omega)] at this
          exact this
        · cases h
      · cases h
    · cases h
end
end Go.Vc
end

/- The frame of a law's row; slices that came in. Own work; generic over any program. -/
section
set_option maxRecDepth 100000
set_option linter.unusedVariables false
namespace Go.Vc
open Go.ChangeShapes Go.WideShapes Go.ChangeAt Go.RowKit
section
variable {D : Type} {enc : TypeId × Value → D} {P : Program} {W : World}

theorem below_of {W W' : World} (r : Rest W W') (x : Ext none_ W.heap W'.heap) (ho : True) : Below W.heap.size W W' :=
  ⟨r.2.1, r.1, r.2.2, x.size, fun k hk => x.eq k hk (fun y => y)⟩

theorem law_post {f : Func} {s : ChangeSpec} {W' : World} {args : Array Value} {ds gs : List (DataW D)} {before : List MemPlace} {tb : TypeId} (hl : laidOutB P = true) (hvars : s.vars = [])
    (hty : ∀ t, t ∈ f.params.toList → P.readableRec t = true ∧ t < P.types.size) (hres : f.resultTypes = #[tb]) (ub : P.underlying tb = some .bool) (hfn : s.fn D (ds ++ gs) = { results := [.lit (.bool true)], args := ds })
    (hW : DataW.Whole enc P f.params.toList s.vars false W args.toList ds gs before) (hb : Below W.heap.size W W') : s.post enc P f false true false false W args (.bool true) W' := by
  have hW0 := hW
  have hlt := hW.lt
  obtain ⟨p, q, h1, h2, rfl, h3, h4⟩ := hW
  rw [hvars] at h2
  obtain ⟨rfl, rfl⟩ := trodVars_none h2
  rw [List.append_nil] at hlt
  refine ⟨ds, [], p ++ [], [], p, [], hW0, ?_, ?_, ?_, hb.frame _, fun h => by cases h⟩
  · rw [hfn, hres]
    exact trodAll_mk1 (shut_bool ub true)
  · rw [hfn]
    have key : ∀ (ts : List TypeId) (vs : List Value) (ds : List (DataW D)) (p : List MemPlace), (∀ t, t ∈ ts → P.readableRec t = true ∧ t < P.types.size) → (∀ x ∈ p, x.block < W.heap.size) →
        DataW.TrodAll enc P W 0 (fun _ => true) true ts vs ds p → DataW.TrodAll enc P W' 0 (fun b => decide (b < W.heap.size)) true ts vs ds p := by
      intro ts
      induction ts with
      | nil => intro vs ds p _ _ h; cases vs <;> cases ds <;> exact h
      | cons t ts ih =>
        intro vs ds p ht hp h
        cases vs with
        | nil => cases h
        | cons v vs => cases ds with
          | nil => cases h
          | cons d ds =>
            obtain ⟨a, b, ha, hb', rfl⟩ := h
            exact ⟨a, b, Below.trod hl (ht t (by simp)).1 (ht t (by simp)).2 ha hb (fun x hx => hp x (by simp [hx])), ih vs ds b (fun t' h' => ht t' (by simp [h'])) (fun x hx => hp x (by simp [hx])) hb', rfl⟩
    exact key _ _ _ _ hty hlt h1
  · rw [hfn, hvars]; rfl

theorem whole_rdt {ts : List TypeId} {vs : List Value} {ds gs : List (DataW D)} {vars : List TypeId}
    (h : ∃ p, DataW.TrodAll enc P W 0 (fun _ => true) true ts vs ds p) (hz : (DataW.weightsEach P (ts ++ vars) (ds ++ gs)).all (· ≤ reachBytes) = true) :
    ∀ (j : Nat) (t : TypeId) (v : Value), ts[j]? = some t → vs[j]? = some v → Rdt enc P W t v.cells.toList := by
  obtain ⟨p, h⟩ := h
  induction ts generalizing vs ds p with
  | nil => intro j t v ht; simp at ht
  | cons t0 ts ih =>
    cases vs with
    | nil => cases h
    | cons v0 vs => cases ds with
      | nil => cases h
      | cons d ds =>
        obtain ⟨a, b, ha, hb', rfl⟩ := h
        simp only [List.cons_append, DataW.weightsEach, List.all_append, Bool.and_eq_true] at hz
        intro j t v ht hv
        cases j with
        | zero =>
          simp only [List.getElem?_cons_zero, Option.some.injEq] at ht hv
          subst ht; subst hv
          obtain ⟨fuel, hf⟩ := ha
          exact ⟨fuel, _, hf, fun n hn => by simpa using List.all_eq_true.1 hz.1 n hn⟩
        | succ j => exact ih hz.2 b hb' j t v (by simpa using ht) (by simpa using hv)

theorem okw_agg {t : TypeId} {v : Value} {base : Nat} {r : Reach} (u : (match P.underlying t with | some (.struct _) => true | some (.array _ _) => true | _ => false) = true) (h : Value.okWide P W r base t v) : v = .agg v.cells := by
  unfold Value.okWide at h
  split at h
  · obtain ⟨cs, rfl, _⟩ := h; rfl
  · obtain ⟨cs, rfl, _⟩ := h; rfl
  · rename_i h1 h2
    split at u
    · rename_i h3; exact absurd h3 (h1 _)
    · rename_i h3; exact absurd h3 (h2 _ _)
    · cases u
theorem okw_one {t : TypeId} {v : Value} {base : Nat} {r : Reach} (u : (match P.underlying t with | some (.struct _) => false | some (.array _ _) => false | some _ => true | none => false) = true) (h : Value.okWide P W r base t v) {x : Value} (hx : v.cells.toList = [x]) : v = x := by
  cases v with
  | agg cs =>
    exfalso
    unfold Value.okWide at h
    split at h
    · rename_i h1; rw [h1] at u; cases u
    · rename_i h1; rw [h1] at u; cases u
    · unfold Cell.okWide at h
      split at h <;> first | (simp_all; done) | skip
      unfold Cell.ok at h
      split at h <;> simp_all
  | _ => simpa [Value.cells] using hx

theorem XM.one : ∀ {s : List XSh} {c : List Value}, XM enc P W s c → ∀ v, v ∈ c → v.oneCell' = true
  | [], c, h => by simp only [XM] at h; subst h; simp
  | .int k :: r, c, h => by
    obtain ⟨n, rest, rfl, _, h⟩ := h; intro v hv
    rcases List.mem_cons.1 hv with rfl | hv
    · rfl
    · exact XM.one h v hv
  | .bool :: r, c, h => by
    obtain ⟨n, rest, rfl, h⟩ := h; intro v hv
    rcases List.mem_cons.1 hv with rfl | hv
    · rfl
    · exact XM.one h v hv
  | .str :: r, c, h => by
    obtain ⟨n, rest, rfl, _, h⟩ := h; intro v hv
    rcases List.mem_cons.1 hv with rfl | hv
    · rfl
    · exact XM.one h v hv
  | .slc e :: r, c, h => by
    obtain ⟨p, l, c, rest, rfl, _, h⟩ := h; intro v hv
    rcases List.mem_cons.1 hv with rfl | hv
    · rfl
    · exact XM.one h v hv
  | .row k n :: r, c, h => by
    obtain ⟨ns, rest, rfl, _, _, h⟩ := h; intro v hv
    rcases List.mem_append.1 hv with hv | hv
    · exact ints_one _ _ v hv
    · exact XM.one h v hv

/-- The elements of a slice that came in, one behind the other. -/
theorem Sli.els {e : TypeId} {p : Option Addr} {l c d : Nat} {s : List XSh} (hs : Sli enc P W e p l c) (hx : xsh P d e = some s) :
    ∃ ess : List (List Value), ess.length = l ∧ (∀ es, es ∈ ess → es.length = P.cellsOf e ∧ XM enc P W s es) ∧ hsv W.heap p (P.cellsOf e) l ess.flatten ∧
      ∀ i (hi : i < ess.length), ∃ a, p = some a ∧ hcs W.heap (a.add (i * P.cellsOf e)) ess[i] := by
  obtain ⟨_, _, hn, hi⟩ := hs
  have key : ∀ m, m ≤ l → ∃ ess : List (List Value), ess.length = m ∧ (∀ es, es ∈ ess → es.length = P.cellsOf e ∧ XM enc P W s es) ∧ ∀ i (hi : i < ess.length), ∃ a, p = some a ∧ hcs W.heap (a.add (i * P.cellsOf e)) ess[i] := by
    intro m
    induction m with
    | zero => intro _; exact ⟨[], rfl, by simp, fun i hi => by simp at hi⟩
    | succ m ih =>
      intro hm
      obtain ⟨ess, h1, h2, h3⟩ := ih (by omega)
      obtain ⟨a, es, ha, hl, hc, hr⟩ := hi m (by omega)
      refine ⟨ess ++ [es], by simp [h1], ?_, ?_⟩
      · intro x hxm
        rcases List.mem_append.1 hxm with hxm | hxm
        · exact h2 x hxm
        · simp at hxm; subst hxm; exact ⟨hl, Rdt.xm d e s x hx hr⟩
      · intro i hi
        by_cases hie : i < ess.length
        · rw [List.getElem_append_left hie]; exact h3 i hie
        · have : i = m := by simp at hi; omega
          subst this
          refine ⟨a, ha, ?_⟩
          rw [List.getElem_append_right (by omega)]
          simpa [h1] using hc
  obtain ⟨ess, h1, h2, h3⟩ := key l (Nat.le_refl _)
  refine ⟨ess, h1, h2, ⟨?_, ?_, ?_⟩, h3⟩
  · have : ∀ (ess : List (List Value)), (∀ es, es ∈ ess → es.length = P.cellsOf e) → ess.flatten.length = ess.length * P.cellsOf e := by
      intro ess
      induction ess with
      | nil => intro _; simp
      | cons x r ih => intro h; simp [ih (fun y hy => h y (by simp [hy])), h x (by simp), Nat.succ_mul]; omega
    rw [this ess (fun es he => (h2 es he).1), h1]
  · intro v hv
    obtain ⟨es, he, hv⟩ := List.mem_flatten.1 hv
    exact (h2 es he).2.one v hv
  · cases p with
    | none =>
      left
      have := (hn rfl).1
      rw [this] at h1
      rw [List.eq_nil_of_length_eq_zero h1]; rfl
    | some a =>
      right
      refine ⟨a, rfl, ?_⟩
      have key : ∀ (k : Nat) (fs : List (List Value)), ess.drop k = fs → ∀ i v, fs.flatten[i]? = some v → hc W.heap (a.add (k * P.cellsOf e + i)) = some v := by
        intro k fs
        induction fs generalizing k with
        | nil => intro _ i v hv; simp at hv
        | cons x r ih =>
          intro hd i v hv
          have hk : k < ess.length := by
            rcases Nat.lt_or_ge k ess.length with h | h
            · exact h
            · rw [List.drop_eq_nil_of_le h] at hd; cases hd
          rw [List.drop_eq_getElem_cons hk] at hd
          injection hd with hx1 hx2
          have hxl : x.length = P.cellsOf e := by rw [← hx1]; exact (h2 _ (List.getElem_mem hk)).1
          obtain ⟨a', ha', hcx⟩ := h3 k hk
          injection ha' with ha'; subst ha'
          rw [hx1] at hcx
          simp only [List.flatten_cons] at hv
          by_cases hi : i < x.length
          · rw [List.getElem?_append_left hi] at hv
            have := hcx i v hv
            have e2 : (a.add (k * P.cellsOf e)).add i = a.add (k * P.cellsOf e + i) := by
              cases a with | mk b o sp => unfold Addr.add; by_cases h1 : k * P.cellsOf e = 0 <;> by_cases h2 : i = 0 <;> simp [h1, h2, Nat.add_assoc]
            rw [e2] at this; exact this
          · rw [List.getElem?_append_right (by omega)] at hv
            have := ih (k + 1) hx2 _ _ hv
            rw [Nat.succ_mul] at this
            rw [show k * P.cellsOf e + i = k * P.cellsOf e + P.cellsOf e + (i - x.length) by omega]
            exact this
      intro i v hv
      have := key 0 ess (by simp) i v hv
      simpa using this

theorem trodAll_len : ∀ {ts : List TypeId} {vs : List Value} {ds : List (DataW D)} {p : List MemPlace} {W : World} {base : Nat} {sp : Nat → Bool} {hd : Bool}, DataW.TrodAll enc P W base sp hd ts vs ds p → vs.length = ts.length ∧ ds.length = ts.length
  | [], vs, ds, p, W, base, sp, hd, h => by obtain ⟨rfl, rfl, rfl⟩ := trodAll_nil h; exact ⟨rfl, rfl⟩
  | t :: ts, vs, ds, p, W, base, sp, hd, h => by
    obtain ⟨v, vs', d, ds', p', q', rfl, rfl, rfl, _, hr⟩ := trodAll_cons h
    have := trodAll_len hr
    simp [this.1, this.2]

/-- What is known of the arguments. -/
def ArgsOk (enc : TypeId × Value → D) (P : Program) (W : World) (base : Nat) (ts : List TypeId) (vs : List Value) : Prop :=
  vs.length = ts.length ∧ ∀ (j : Nat) (t : TypeId) (v : Value), ts[j]? = some t → vs[j]? = some v → Rdt enc P W t v.cells.toList ∧ Value.okWide P W .any base t v
/-- The law's code answers true, and leaves all old memory as it was. -/
abbrev CallsTrue (P : Program) (f : FuncId) (vs : List Value) (W : World) : Prop := callsV P f vs (fun rs h' => rs = [DV.one (.bool true)] ∧ Ext none_ W.heap h') W.heap
theorem law_go {f : FuncId} {fn : Func} {s : ChangeSpec} {args : Array Value} {ds gs : List (DataW D)} {before : List MemPlace} {tb : TypeId} {base : Nat} (ts : List TypeId) (hts : fn.params = ts.toArray) (hl : laidOutB P = true) (hvars : s.vars = [])
    (hty : (ts.all fun t => P.readableRec t && decide (t < P.types.size)) = true) (hres : fn.resultTypes = #[tb]) (ub : P.underlying tb = some .bool)
    (hfn : ∀ ds : List (DataW D), ds.length = ts.length → s.fn D ds = { results := [.lit (.bool true)], args := ds })
    (hval : ∀ (j : Nat) t v, fn.params[j]? = some t → args[j]? = some v → Value.okWide P W .any base t v)
    (hW : DataW.Whole enc P fn.params.toList s.vars false W args.toList ds gs before) (hsz : (DataW.weightsEach P (fn.params.toList ++ s.plain.varTypes P) (ds ++ gs)).all (· ≤ reachBytes) = true)
    (main : ∀ vs, ArgsOk enc P W base ts vs → CallsTrue P f vs W) :
    Calls P f args W fun e W' => ∃ v, e = .returned v ∧ s.post enc P fn false true false false W args v W' := by
  have hW0 := hW
  obtain ⟨p, q, h1, h2, rfl, h3, h4⟩ := hW
  have h2' := h2
  rw [hvars] at h2'
  obtain ⟨rfl, rfl⟩ := trodVars_none h2'
  have hlen := trodAll_len h1
  have hpl : fn.params.toList = ts := by rw [hts]
  have hrd := whole_rdt ⟨p, h1⟩ hsz
  rw [hpl] at hrd hlen
  have hm := main args.toList ⟨hlen.1, fun j t v ht hv => ⟨hrd j t v ht hv, hval j t v (by rw [hts]; simpa using ht) (by simpa using hv)⟩⟩
  have hc := hm.2 W rfl
  rw [show args.toList.toArray = args by simp] at hc
  refine hc.mono fun e W' he => ?_
  obtain ⟨xs, _, rfl, hr, rfl, hx⟩ := he
  refine ⟨.bool true, rfl, ?_⟩
  refine law_post hl hvars ?_ hres ub (by rw [List.append_nil]; exact hfn ds hlen.2) hW0 (below_of hr hx trivial)
  intro t ht
  rw [hpl] at ht
  have := List.all_eq_true.1 hty t ht
  simp only [Bool.and_eq_true, decide_eq_true_eq] at this
  exact this
end
end Go.Vc
end

/- What the one listed variable gives; a world that meets it; the frame of a tied card. Own work, after the guide's worked example (ToyasProofs). -/
section
set_option maxRecDepth 100000
namespace Go.Proofs.YtijcpgahmbkijaaGreatDoor
open Go Go.Vc Go.ChangeShapes Go.WideShapes Go.ChangeAt Go.RowKit

theorem Tryz.own : ownKnob Tryz.prog.godebug = none := by kernel_rfl
theorem Tryz.laidOut : laidOutB Tryz.prog = true := by kernel_rfl
theorem Tryz.ubool : Tryz.prog.underlying 4 = some .bool := by kernel_rfl
theorem Tryz.et : Tryz.prog.globalNamed "errors.errorType" = some 0 := by kernel_rfl
theorem Tryz.rt : (Tryz.prog.cutTypes.find? (·.1 == "internal/reflectlite.rtype")).map (·.2) = some 151 := by kernel_rfl
theorem Tryz.oneRow : ((List.range 223).filter fun t => Tryz.prog.rowNamed t [101, 114, 114, 111, 114]) = [69] := by kernel_rfl
theorem Tryz.size : Tryz.prog.types.size = 223 := by kernel_rfl
abbrev laidL {D : Type} : List (String × DataW D) := [("errors.errorType", Rows.laid_errors_errorType)]
theorem handle_of_laid {W : World} (h : laidMetH Tryz.prog laidL W) : hc W.heap ⟨0, 0, none⟩ = some errTypeV := by
  have h' : laidMet Tryz.prog [] W ∧ handlesMet Tryz.prog laidL W := h
  obtain ⟨name, u, ty, e1, e2, e3, e4, e5⟩ := h'.2 _ (List.mem_singleton.2 rfl)
  have en : name = [101, 114, 114, 111, 114] := (Option.some.inj e1).symm
  subst en
  obtain rfl := Option.some.inj (Tryz.rt.symm.trans e2)
  have hm : ty ∈ (List.range 223).filter fun t => Tryz.prog.rowNamed t [101, 114, 114, 111, 114] := List.mem_filter.2 ⟨List.mem_range.2 (by rw [← Tryz.size]; exact e3), e4⟩
  rw [Tryz.oneRow] at hm
  obtain rfl := List.mem_singleton.1 hm
  have hh : typeHandle Tryz.prog 69 = .pointer (some ⟨1, 69, none⟩) := by kernel_rfl
  rw [hh] at e5
  have : W.cell? ⟨0, 0, none⟩ = some (.iface 151 (.agg #[.pointer (some ⟨1, 69, none⟩)])) := by simpa using World.var?_cell Tryz.et e5 0
  exact this
noncomputable def laidWorld (os : Os) : World :=
  let w0 := World.holding Tryz.prog os ⟨#[], #[], []⟩
  { w0 with heap := w0.heap.modify 0 fun
      | .cells _ t frozen => .cells #[.iface 151 (.agg #[.pointer (some ⟨1, 69, none⟩)])] t frozen
      | o => o }
theorem laidWorld_met (os : Os) (args : Array Value) : laidMetH Tryz.prog laidL ((laidWorld os).forCall (fun _ _ => 0) ⟨#[], args, []⟩).memory :=
  laidMetH_of_parts (laidMet_nil _ _) (by kernel_rfl)
end Go.Proofs.YtijcpgahmbkijaaGreatDoor
end

/- Bits of bytes. Own work; generic over any program. -/
section
namespace Go.Vc
abbrev b8 (x : Int) : BitVec 8 := BitVec.ofInt 8 x
end Go.Vc
end

/- Maps as owned things. Own work; generic over any program. -/
section
set_option linter.unusedVariables false
namespace Go.Vc

@[irreducible] def mapP (r : Nat) (es : List (Value × DV)) (h : H) (f : Nat → Prop) : Prop := hmap h r es ∧ ∀ x, f x ↔ x = r
theorem hmap_lt {h : H} {r : Nat} {es : List (Value × DV)} (m : hmap h r es) : r < h.size := by
  obtain ⟨a, cl, e, _⟩ := m
  exact (Array.getElem?_eq_some_iff.1 e).1
def mapE (r : Nat) (es : List (Value × DV)) : Ent where
  tag := .of r
  P := mapP r es
  st := by unfold mapP; rintro h h' f ⟨⟨a, cl, k, ke⟩, e⟩ hs; exact ⟨⟨a, cl, by rw [hs r ((e r).2 rfl)]; exact k, ke⟩, e⟩
  lt := by unfold mapP; rintro h f x ⟨k, e⟩ hx; rw [(e x).1 hx]; exact hmap_lt k
theorem mapE_P {r : Nat} {es : List (Value × DV)} {h : H} {f : Nat → Prop} : (mapE r es).P h f ↔ hmap h r es ∧ ∀ x, f x ↔ x = r := by
  show mapP r es h f ↔ _; unfold mapP; rfl
theorem Sat.mapNew {h0 h h' : H} {A : List Ent} (s : Sat h0 A h) {b : Nat} (n : hmnew h b h') : Sat h0 (mapE b [] :: A) h' := by
  obtain ⟨rfl, rfl⟩ := n
  refine s.add ⟨by simp, fun x hx _ => by rw [Array.getElem?_push, if_neg (by omega)]⟩ (f := fun x => x = h.size) (mapE_P.2 ⟨⟨#[], 0, by simp, rfl, fun e he => by cases he⟩, fun _ => Iff.rfl⟩) fun x hx => by rw [hx]; exact Nat.le_refl _
theorem Sat.mapAt {h0 h : H} {A : List Ent} (s : Sat h0 A h) {i r : Nat} {es : List (Value × DV)} (a : At A i (mapE r es)) : hmap h r es := by
  obtain ⟨f, hp, _⟩ := s.take a
  exact (mapE_P.1 hp).1
theorem Sat.mapSet {h0 h h' : H} {A : List Ent} (s : Sat h0 A h) {i r : Nat} {es es' : List (Value × DV)} (a : At A i (mapE r es)) (e : hmset h r es' h') : Sat h0 (Vc.put A i (mapE r es')) h' := by
  refine s.upd a fun f hp => ?_
  obtain ⟨k, hf⟩ := mapE_P.1 hp
  have hlt := hmap_lt k
  obtain ⟨m, cl, rfl, hent⟩ := e
  refine ⟨f, mapE_P.2 ⟨⟨m, cl, by rw [Array.getElem?_setIfInBounds_self_of_lt hlt], hent⟩, hf⟩, fun _ => Or.inl, ⟨by simp, fun x _ hx => ?_⟩⟩
  rw [Array.getElem?_setIfInBounds_ne]
  intro y; exact hx ((hf x).2 y.symm)
theorem hsv_nil {h : H} {sz : Nat} {p : Option Addr} {k : IntKind} : hsv h p sz 0 (ints k []) := ⟨by simp, fun v hv => by simp [ints] at hv, Or.inl rfl⟩
theorem take_snoc (l : List Int) (n : Nat) (h : n < l.length) : l.take n ++ [l.getD n 0] = l.take (n + 1) := by
  rw [List.take_succ]; simp [List.getD, List.getElem?_eq_getElem h]
/-- One element of an owned slice is written. -/
theorem Sat.slPut {h0 h : H} {A : List Ent} (hs : Sat h0 A h) {i l c n : Nat} {p : Option Addr} {vs : List Value} {v : Value} (m : At A i (slE p l c 1 vs)) (hn : n < l) (h1 : v.oneCell' = true) :
    ∃ q, p = some q ∧ hcan h (q.add n) 1 ∧ ∀ h', h' = hwr h (q.add n) [v] → Sat h0 (Vc.put A i (slE p l c 1 (vs.set n v))) h' := by
  obtain ⟨b, rfl⟩ := hs.sl_some m (by omega)
  have hl : vs.length = l := by have := (hs.sv m).1; simpa using this
  refine ⟨_, rfl, ?_, ?_⟩
  · rw [add_mk, Nat.zero_add]; exact hs.scan m (by omega) (by omega)
  · intro h' e
    rw [add_mk, Nat.zero_add] at e
    exact hs.swr m e (by omega) (by simp; omega) (by intro y hy; simp at hy; rw [hy]; exact h1)
/-- Appended to a slice without room: the slice itself stays as it is. -/
theorem Sat.app_keep {h0 h : H} {A : List Ent} (hs : Sat h0 A h) {p : Option Addr} {l c n sz : Nat} {old vs z : List Value} {B : Nat} {K : Option Addr → Nat → Nat → H → Prop}
    (rd : hsv h p sz l old) (hc : c < l + n) (hl : vs.length = n * sz) (hz : z.length = sz) (hv : ∀ v, v ∈ vs → v.oneCell' = true) (hb : (l + n) * B ≤ 2 ^ 47)
    (k : ∀ p' c' h', Sat h0 (slE p' (l + n) c' sz (old ++ vs) :: A) h' → K p' (l + n) c' h') : pApp h sz z B p l c n vs K := by
  unfold pApp
  rw [if_neg (by omega)]
  refine ⟨hb, old, rd, fun c' b h' hc' hn => k _ _ _ ?_⟩
  have ho : OwnS h' (some ⟨b, 0, none⟩) (l + n) c' sz (old ++ vs) [b] := by
    refine ⟨by rw [List.length_append, rd.1, hl, Nat.add_mul], hc', ?_, Or.inr ⟨b, _, rfl, rfl, hn.blk, ?_⟩⟩
    · intro v hm
      rcases List.mem_append.1 hm with y | y
      · exact rd.2.1 v y
      · exact hv v y
    · rw [List.length_flatten]
      simp [hz]
  exact hs.own hn.ext ho (fun x hx => by simp at hx; rw [hx, hn.b]; exact Nat.le_refl _)
/-- A function value, of whatever is bound, is called. -/
theorem callFn_dv {P : Program} {f : FuncId} {run : Run} (hr : RunOk P f run) {xs ys args : List DV} {Q : List DV → H → Prop} {h : H} (hx : ∀ x, x ∈ xs ++ args ++ ys → x.ok) (hrun : run (xs ++ args ++ ys) Q h) :
    callFn P (.func (.func f) (xs.map DV.flat).toArray (ys.map DV.flat).toArray) args Q h := by
  refine ⟨f, _, _, rfl, ?_⟩
  have := hr _ _ _ hx hrun
  simpa using this
end Go.Vc
end

/- SHA-256 in the program: a model on rows of integers, and taking a piece in. Own work. -/
section
set_option maxRecDepth 100000
set_option linter.unusedVariables false
namespace Go.Proofs.YtijcpgahmbkijaaGreatDoor
open Go Go.Vc

theorem wrapU64 (n : Int) : IntKind.u64.wrap n = n % 18446744073709551616 := by simp [IntKind.wrap, IntKind.signed, IntKind.bits]
theorem hsvI {h : H} {p : Option Addr} {l : Nat} {k : IntKind} {ns : List Int} {x : Nat} (rd : hsv h p 1 l (ints k ns)) (hx : x < l) : ∃ q, p = some q ∧ hc h (q.add x) = some (.int k (ns.getD x 0)) := by
  have hl : ns.length = l := by have := rd.1; simpa using this
  obtain ⟨q, hq, g⟩ := hsv_get rd (i := x) (v := .int k (ns.getD x 0)) (by rw [ints_get, List.getElem?_eq_getElem (by omega)]; simp [List.getD, List.getElem?_eq_getElem (show x < ns.length by omega)])
  exact ⟨q, hq, g⟩

/-! ### The model -/
def kM : List Int := [1116352408, 1899447441, 3049323471, 3921009573, 961987163, 1508970993, 2453635748, 2870763221, 3624381080, 310598401, 607225278, 1426881987, 1925078388, 2162078206, 2614888103, 3248222580, 3835390401, 4022224774, 264347078, 604807628, 770255983, 1249150122, 1555081692, 1996064986, 2554220882, 2821834349, 2952996808, 3210313671, 3336571891, 3584528711, 113926993, 338241895, 666307205, 773529912, 1294757372, 1396182291, 1695183700, 1986661051, 2177026350, 2456956037, 2730485921, 2820302411, 3259730800, 3345764771, 3516065817, 3600352804, 4094571909, 275423344, 430227734, 506948616, 659060556, 883997877, 958139571, 1322822218, 1537002063, 1747873779, 1955562222, 2024104815, 2227730452, 2361852424, 2428436474, 2756734187, 3204031479, 3329325298]
def sM : List Int := [1779033703, 3144134277, 1013904242, 2773480762, 1359893119, 2600822924, 528734635, 1541459225]
def rotM (x : Int) (n : Nat) : Int := bits .or .u32 (IntKind.u32.wrap (x * 2 ^ (32 - n))) (x.fdiv (2 ^ n))
def x3 (a b c : Int) : Int := bits .xor .u32 (bits .xor .u32 a b) c
def sig0 (x : Int) : Int := x3 (rotM x 7) (rotM x 18) (x.fdiv (2 ^ 3))
def sig1 (x : Int) : Int := x3 (rotM x 17) (rotM x 19) (x.fdiv (2 ^ 10))
def accM (bs : List Int) : Nat → Int
  | 0 => 0
  | j + 1 => bits .or .u32 (IntKind.u32.wrap (accM bs j * 2 ^ 8)) (IntKind.u32.wrap (bs.getD j 0))
def nxtM (w : List Int) (t : Nat) : Int :=
  IntKind.u32.wrap (IntKind.u32.wrap (IntKind.u32.wrap (w.getD (t - 16) 0 + sig0 (w.getD (t - 15) 0)) + w.getD (t - 7) 0) + sig1 (w.getD (t - 2) 0))
/-- The words of a piece, the first t of them. -/
def wM (bs : List Int) : Nat → List Int
  | 0 => zeros 64
  | t + 1 => (wM bs t).set t (if t < 16 then accM ((bs.drop (4 * t)).take 4) 4 else nxtM (wM bs t) t)
def nots (x : Int) : Int := bits .xor .u32 (if IntKind.u32.signed = true then -1 else IntKind.u32.max) x
def uM (a b c d e f g h k w : Int) : Int :=
  IntKind.u32.wrap (IntKind.u32.wrap (IntKind.u32.wrap (IntKind.u32.wrap (h + x3 (rotM e 6) (rotM e 11) (rotM e 25)) + bits .xor .u32 (bits .and .u32 e f) (bits .and .u32 (nots e) g)) + k) + w)
def vM (a b c : Int) : Int := IntKind.u32.wrap (x3 (rotM a 2) (rotM a 13) (rotM a 22) + x3 (bits .and .u32 a b) (bits .and .u32 a c) (bits .and .u32 b c))
def stepM (s : List Int) (k w : Int) : List Int :=
  match s with
  | [a, b, c, d, e, f, g, h] => [IntKind.u32.wrap (uM a b c d e f g h k w + vM a b c), a, b, c, IntKind.u32.wrap (d + uM a b c d e f g h k w), e, f, g]
  | s => s
def rM (w s : List Int) : Nat → List Int
  | 0 => s
  | t + 1 => stepM (rM w s t) (kM.getD t 0) (w.getD t 0)
def aM (s r : List Int) : Nat → List Int
  | 0 => s
  | i + 1 => (aM s r i).set i (IntKind.u32.wrap ((aM s r i).getD i 0 + r.getD i 0))
def pieceM (s bs : List Int) : List Int := aM s (rM (wM bs 64) s 64) 8

theorem wM_len (bs : List Int) (t : Nat) : (wM bs t).length = 64 := by
  induction t with
  | zero => simp [wM, zeros]
  | succ t ih => simp [wM, ih]
theorem len8 {s : List Int} (h : s.length = 8) : ∃ a b c d e f g i, s = [a, b, c, d, e, f, g, i] := by
  match s, h with
  | [a, b, c, d, e, f, g, i], _ => exact ⟨a, b, c, d, e, f, g, i, rfl⟩
theorem rM_len (w s : List Int) (h : s.length = 8) (t : Nat) : (rM w s t).length = 8 := by
  induction t with
  | zero => exact h
  | succ t ih =>
    obtain ⟨a, b, c, d, e, f, g, i, hx⟩ := len8 ih
    show (stepM (rM w s t) _ _).length = 8
    rw [hx]; rfl
theorem aM_len (s r : List Int) (h : s.length = 8) (i : Nat) : (aM s r i).length = 8 := by
  induction i with
  | zero => exact h
  | succ i ih => simp [aM, ih]
theorem pieceM_len {s bs : List Int} (h : s.length = 8) : (pieceM s bs).length = 8 := aM_len _ _ h _
theorem kM_len : kM.length = 64 := by decide
theorem intsG {k : IntKind} {l : List Int} {i : Nat} (h : i < l.length) : (ints k l)[i]? = some (.int k (l.getD i 0)) := by
  rw [ints_get, List.getElem?_eq_getElem h]; simp [List.getD, List.getElem?_eq_getElem h]
theorem intsP (k : IntKind) (l : List Int) (i : Nat) (v : Int) : splice (ints k l) i [.int k v] = ints k (l.set i v) := by
  show (ints k l).set i (.int k v) = _
  rw [ints_set]

/-! ### The digest in memory -/
abbrev dgL (s sm : List Int) (n : Int) : List Value := ints .u32 s ++ (ints .u8 sm ++ .int .u64 n :: (ints .u32 kM ++ []))
section
variable {s sm : List Int} {n : Int}
theorem dg_len (h1 : s.length = 8) (h2 : sm.length = 64) : (dgL s sm n).length = 137 := by simp [h1, h2, kM_len]
theorem dg_s (h1 : s.length = 8) {i : Nat} (hi : i < 8) : (dgL s sm n)[i]? = some (.int .u32 (s.getD i 0)) := by
  rw [List.getElem?_append_left (by simp [h1, hi]), intsG (by omega)]
theorem dg_m (h1 : s.length = 8) (h2 : sm.length = 64) {i : Nat} (hi : i < 64) : (dgL s sm n)[8 + i]? = some (.int .u8 (sm.getD i 0)) := by
  rw [List.getElem?_append_right (by simp [h1]), List.getElem?_append_left (by simp [h1, h2, hi])]
  rw [show 8 + i - (ints .u32 s).length = i by simp [h1], intsG (by omega)]
theorem dg_n (h1 : s.length = 8) (h2 : sm.length = 64) : (dgL s sm n)[72]? = some (.int .u64 n) := by
  rw [List.getElem?_append_right (by simp [h1]), List.getElem?_append_right (by simp [h1, h2])]
  simp [h1, h2]
theorem dg_k (h1 : s.length = 8) (h2 : sm.length = 64) {i : Nat} (hi : i < 64) : (dgL s sm n)[73 + i]? = some (.int .u32 (kM.getD i 0)) := by
  rw [List.getElem?_append_right (by simp [h1]; omega), List.getElem?_append_right (by simp [h1, h2]; omega)]
  rw [show 73 + i - (ints .u32 s).length - (ints .u8 sm).length = i + 1 by simp [h1, h2]; omega, List.getElem?_cons_succ, List.append_nil, intsG (by rw [kM_len]; omega)]
theorem dg_ps (h1 : s.length = 8) {i : Nat} (hi : i < 8) (v : Int) : splice (dgL s sm n) i [.int .u32 v] = dgL (s.set i v) sm n := by
  show (dgL s sm n).set i _ = _
  rw [List.set_append_left _ _ (by simp [h1, hi]), ints_set]
theorem dg_pn (h1 : s.length = 8) (h2 : sm.length = 64) (v : Int) : splice (dgL s sm n) 72 [.int .u64 v] = dgL s sm v := by
  show (dgL s sm n).set 72 _ = _
  rw [List.set_append_right _ _ (by simp [h1]), List.set_append_right _ _ (by simp [h1, h2])]
  simp [h1, h2]
end
section
variable {h0 h : H} {A : List Ent} {i d : Nat}
theorem rot_sp {Q : Int → H → Prop} (x : Int) (k : Int) (m : Nat) (hm : bits .and .u64 (IntKind.u64.wrap k) 31 = ((32 - m : Nat) : Int)) (h1 : 1 ≤ m) (h2 : m < 32) (q : Q (rotM x m) h) : F_math_bits_RotateLeft32 x k Q h := by
  unfold F_math_bits_RotateLeft32 G_math_bits_RotateLeft32
  rw [hm]
  have e : IntKind.u64.wrap (32 - ((32 - m : Nat) : Int)) = (m : Int) := by rw [wrapU64]; omega
  rw [e]
  refine ⟨by omega, by omega, ?_⟩
  rw [Int.toNat_natCast, Int.toNat_natCast, Nat.min_eq_left (by omega), Nat.min_eq_left (by omega)]
  exact q
theorem turn_sp {Q : Int → H → Prop} (x : Int) (m : Nat) (hm : bits .and .u64 (IntKind.u64.wrap (IntKind.i64.wrap (0 - (m : Int)))) 31 = ((32 - m : Nat) : Int)) (h1 : 1 ≤ m) (h2 : m < 32) (q : Q (rotM x m) h) : F_sha_turn x (m : Int) Q h := by
  unfold F_sha_turn G_sha_turn
  exact rot_sp x _ m hm h1 h2 q
end
end Go.Proofs.YtijcpgahmbkijaaGreatDoor
end

/- SHA-256 in the program: a piece is taken in. Own work. -/
section
set_option maxRecDepth 100000
set_option linter.unusedVariables false
namespace Go.Proofs.YtijcpgahmbkijaaGreatDoor
open Go Go.Vc

theorem addAdd (a : Addr) (i j : Nat) : (a.add i).add j = a.add (i + j) := by
  unfold Addr.add
  by_cases h : i = 0
  · subst h; simp
  · by_cases h2 : j = 0
    · subst h2; simp
    · have : ¬ i + j = 0 := by omega
      simp [h, h2]; omega
theorem subRd {h : H} {q : Option Addr} {l o n m : Nat} {k : IntKind} {bs : List Int} (rd : hsv h q 1 l (ints k bs)) (ho : o + n ≤ l) (hm : m = o → n = 0) : hsv h (subAddr q o m 1) 1 n (ints k ((bs.drop o).take n)) := by
  have hl : bs.length = l := by have := rd.1; simpa using this
  refine ⟨by rw [ints_length, List.length_take, List.length_drop]; omega, ints_one _ _, ?_⟩
  by_cases c : n = 0
  · subst c; exact Or.inl rfl
  unfold subAddr
  rw [if_neg (fun y => c (hm y))]
  obtain ⟨_, _, rd⟩ := rd
  rcases rd with rd | ⟨q', rfl, g⟩
  · have := congrArg List.length rd
    rw [ints_length, List.length_nil] at this; omega
  · refine Or.inr ⟨_, rfl, ?_⟩
    intro i v hv
    have hi : i < n := by
      have h1 : i < (ints k ((bs.drop o).take n)).length := (List.getElem?_eq_some_iff.1 hv).1
      rw [ints_length, List.length_take] at h1
      exact Nat.lt_of_lt_of_le h1 (Nat.min_le_left _ _)
    have e := g (o + i) v (by
      rw [ints_get] at hv ⊢
      rw [List.getElem?_take_of_lt hi, List.getElem?_drop] at hv
      exact hv)
    rw [Nat.mul_one, addAdd]
    exact e
theorem setD (l : List Int) (j k : Nat) (v : Int) : (l.set j v).getD k 0 = if j = k ∧ k < l.length then v else l.getD k 0 := by
  rw [List.getD_eq_getElem?_getD, List.getElem?_set]
  by_cases c : j = k
  · subst c
    by_cases d : j < l.length
    · simp [d]
    · simp [d]
  · simp [c]
theorem setSame (l : List Int) (k : Nat) : l.set k (l.getD k 0) = l := by
  apply List.ext_getElem?
  intro j
  rw [List.getElem?_set]
  by_cases c : k = j
  · subst c
    by_cases d : k < l.length
    · simp [d, List.getD, List.getElem?_eq_getElem d]
    · simp [d]
  · simp [c]
theorem wM_hi (bs : List Int) : ∀ t k, t ≤ k → (wM bs t).getD k 0 = 0
  | 0, k, _ => by
    show (zeros 64).getD k 0 = 0
    rw [List.getD_eq_getElem?_getD]
    unfold zeros
    rw [List.getElem?_replicate]; split <;> rfl
  | t + 1, k, h => by
    show ((wM bs t).set t _).getD k 0 = 0
    rw [setD, if_neg (by omega)]
    exact wM_hi bs t k (by omega)
theorem turn2_sp {h : H} {Q : Int → H → Prop} (x : Int) (m : Nat) {mi : Int} (e : mi = (m : Int)) (hm : bits .and .u64 (IntKind.u64.wrap (IntKind.i64.wrap (0 - (m : Int)))) 31 = ((32 - m : Nat) : Int)) (h1 : 1 ≤ m) (h2 : m < 32) (q : Q (rotM x m) h) : F_sha_turn x mi Q h := by
  subst e
  exact turn_sp x m hm h1 h2 q
section
variable {h0 h : H} {A : List Ent} {i d : Nat}
theorem take_sp {Q : H → Prop} {s sm bs : List Int} {n : Int} {bp : Option Addr} {bc : Nat} (hs : Sat h0 A h) (cd : At A i (blk d (dgL s sm n))) (l1 : s.length = 8) (l2 : sm.length = 64) (hbc : 64 ≤ bc) (rd : ∀ h', Sat h0 A h' → hsv h' bp 1 64 (ints .u8 bs))
    (k : ∀ h', Sat h0 (put A i (blk d (dgL (pieceM s bs) sm n))) h' → Q h') : F_sha_Digest_take ⟨d, 0, none⟩ bp 64 bc Q h := by
  unfold F_sha_Digest_take G_sha_Digest_take
  simp only [add_mk, Nat.zero_add, List.append_nil]
  intro wn _ hn; replace hs := Sat.new hs hn; clear hn
  intro J10 hJ10
  refine loop_up 16 (fun t h => Sat h0 (blk wn (ints .u32 (wM bs t)) :: A) h) ?_ ?_ 0 _ (by omega) hs
  · intro t h1 ht hs hk
    apply hJ10
    rw [ltI_eq, if_pos (by simp; omega)]
    have e4 : IntKind.i64.wrap (4 * (t : Int)) = ((4 * t : Nat) : Int) := by rw [wrap_id (by omega)]; push_cast; rfl
    have e8 : IntKind.i64.wrap (((4 * t : Nat) : Int) + 4) = ((4 * t + 4 : Nat) : Int) := by rw [wrap_id (by omega)]; push_cast; rfl
    rw [e4, e8]
    simp only [Int.toNat_natCast, Nat.mul_one]
    refine ⟨by omega, by omega, by omega, ?_⟩
    rw [show 4 * t + 4 - 4 * t = 4 by omega]
    obtain ⟨pc, hpc⟩ : ∃ pc, pc = (bs.drop (4 * t)).take 4 := ⟨_, rfl⟩
    have hlen := wM_len bs t
    intro J13 hJ13
    refine loop_up 4 (fun j h => Sat h0 (blk wn (ints .u32 ((wM bs t).set t (accM pc j))) :: A) h) ?_ ?_ 0 _ (by omega) (by
      have : (wM bs t).set t (accM pc 0) = wM bs t := by
        have := setSame (wM bs t) t
        rw [wM_hi bs t t (Nat.le_refl _)] at this
        exact this
      rw [this]; exact hs)
    · intro j h2 hj hs hk2
      apply hJ13
      rw [ltI_eq, if_pos (by simp; omega)]
      obtain ⟨q, hq, g⟩ := hsvI (subRd (o := 4 * t) (n := 4) (m := bc) (rd _ hs.drop) (by omega) (by omega)) (x := j) (by omega)
      rw [← hpc] at g
      refine ⟨q, hq, by omega, by omega, _, g, by omega, by omega, ?_⟩
      have gw := hs.ld (i := 0) (b := wn) .z (intsG (k := .u32) (l := (wM bs t).set t (accM pc j)) (i := t) (by simp [hlen]; omega))
      rw [setD, if_pos ⟨rfl, by omega⟩] at gw
      refine ⟨_, gw, by decide, by omega, by omega, ?_⟩
      refine ⟨Sat.can hs (i := 0) .z (by simp [hlen]; omega), ?_⟩
      intro h3 e
      replace hs := Sat.wr hs (i := 0) .z e
      clear e
      rw [intsP, List.set_set] at hs
      rw [wrap_succ (by omega)]
      exact hk2 _ hs
    · intro h2 hs
      apply hJ13
      rw [ltI_eq, if_neg (by decide), wrap_succ (by omega)]
      refine hk _ ?_
      show Sat h0 (blk wn (ints .u32 ((wM bs t).set t _)) :: A) h2
      rw [if_pos ht, ← hpc]
      exact hs
  · intro h1 hs
    apply hJ10
    rw [ltI_eq, if_neg (by decide)]
    clear hJ10 J10
    intro J23 hJ23
    refine loop_up 64 (fun t h => 16 ≤ t ∧ Sat h0 (blk wn (ints .u32 (wM bs t)) :: A) h) ?_ ?_ 16 _ (by omega) ⟨by omega, hs⟩
    · rintro t h2 ht ⟨ht2, hs⟩ hk
      apply hJ23
      rw [ltI_eq, if_pos (by simp; omega)]
      have hlen := wM_len bs t
      have e15 : IntKind.i64.wrap ((t : Int) - 15) = ((t - 15 : Nat) : Int) := by rw [wrap_id (by omega)]; omega
      have e2 : IntKind.i64.wrap ((t : Int) - 2) = ((t - 2 : Nat) : Int) := by rw [wrap_id (by omega)]; omega
      have e16 : IntKind.i64.wrap ((t : Int) - 16) = ((t - 16 : Nat) : Int) := by rw [wrap_id (by omega)]; omega
      have e7 : IntKind.i64.wrap ((t : Int) - 7) = ((t - 7 : Nat) : Int) := by rw [wrap_id (by omega)]; omega
      rw [e15, e2, e16, e7]
      simp only [Int.toNat_natCast, Nat.mul_one]
      have g := fun (x : Nat) (hx : x < 64) => hs.ld (i := 0) (b := wn) .z (intsG (k := .u32) (l := wM bs t) (i := x) (by omega))
      refine ⟨by omega, by omega, _, g _ (by omega), by omega, by omega, _, g _ (by omega), by omega, by omega, _, g _ (by omega), by decide, by omega, by omega, _, g _ (by omega), by decide, ?_⟩
      refine turn2_sp _ 7 rfl (by decide +kernel) (by decide) (by decide) ?_
      refine ⟨hcs_one (g _ (by omega)), hcs_one (g _ (by omega)), ?_⟩
      refine turn2_sp _ 18 rfl (by decide +kernel) (by decide) (by decide) ?_
      refine ⟨hcs_one (g _ (by omega)), hcs_one (g _ (by omega)), ?_⟩
      refine turn2_sp _ 17 rfl (by decide +kernel) (by decide) (by decide) ?_
      refine ⟨hcs_one (g _ (by omega)), hcs_one (g _ (by omega)), ?_⟩
      refine turn2_sp _ 19 rfl (by decide +kernel) (by decide) (by decide) ?_
      refine ⟨hcs_one (g _ (by omega)), hcs_one (g _ (by omega)), by omega, by omega, ?_⟩
      refine ⟨Sat.can hs (i := 0) .z (by simp [hlen]; omega), ?_⟩
      intro h3 e
      replace hs := Sat.wr hs (i := 0) .z e
      clear e
      rw [intsP] at hs
      rw [wrap_succ (by omega)]
      refine hk _ ⟨by omega, ?_⟩
      show Sat h0 (blk wn (ints .u32 ((wM bs t).set t _)) :: A) h3
      rw [if_neg (by omega)]
      exact hs
    · rintro h2 ⟨_, hs⟩
      apply hJ23
      rw [ltI_eq, if_neg (by decide)]
      clear hJ23 J23
      refine ⟨s, l1, hs.row (i := i + 1) (.s cd) (fun x hx => by rw [Nat.zero_add, dg_s l1 (by omega), List.getElem?_eq_getElem hx]; simp [List.getD, List.getElem?_eq_getElem hx]), ?_⟩
      intro sn _ hn; replace hs := Sat.new hs hn; clear hn
      refine ⟨Sat.can hs (i := 0) .z (by simp [l1, zeros]), ?_⟩
      intro h3 e
      replace hs := Sat.wra hs (i := 0) .z e (by simp [l1, zeros])
      clear e
      simp only [put_zero] at hs
      obtain ⟨w, hw⟩ : ∃ w, w = wM bs 64 := ⟨_, rfl⟩
      have hwl : w.length = 64 := by rw [hw]; exact wM_len _ _
      rw [← hw] at hs
      intro J46 hJ46
      refine loop_up 64 (fun t h => Sat h0 (blk sn (ints .u32 (rM w s t)) :: blk wn (ints .u32 w) :: A) h) ?_ ?_ 0 _ (by omega) hs
      · intro t h4 ht hs hk
        apply hJ46
        rw [ltI_eq, if_pos (by simp; omega)]
        obtain ⟨a, b, c, dd, e, f, g, hh, hr⟩ := len8 (rM_len w s l1 t)
        rw [hr] at hs
        simp only [Int.toNat_natCast, Nat.mul_one]
        have gk : hc h4 ⟨d, 73 + t, none⟩ = some (.int .u32 (kM.getD t 0)) := hs.ld (i := i + 2) (.s (.s cd)) (dg_k l1 l2 ht)
        have gw : hc h4 ⟨wn, t, none⟩ = some (.int .u32 (w.getD t 0)) := hs.ld (i := 1) (.s .z) (intsG (by omega))
        have g0 : hc h4 ⟨sn, 0, none⟩ = some (.int .u32 a) := hs.ld (i := 0) .z rfl
        have g1 : hc h4 ⟨sn, 1, none⟩ = some (.int .u32 b) := hs.ld (i := 0) .z rfl
        have g2 : hc h4 ⟨sn, 2, none⟩ = some (.int .u32 c) := hs.ld (i := 0) .z rfl
        have g3 : hc h4 ⟨sn, 3, none⟩ = some (.int .u32 dd) := hs.ld (i := 0) .z rfl
        have g4 : hc h4 ⟨sn, 4, none⟩ = some (.int .u32 e) := hs.ld (i := 0) .z rfl
        have g5 : hc h4 ⟨sn, 5, none⟩ = some (.int .u32 f) := hs.ld (i := 0) .z rfl
        have g6 : hc h4 ⟨sn, 6, none⟩ = some (.int .u32 g) := hs.ld (i := 0) .z rfl
        have g7 : hc h4 ⟨sn, 7, none⟩ = some (.int .u32 hh) := hs.ld (i := 0) .z rfl
        refine ⟨by decide, by decide, _, g7, by decide, by decide, _, g4, by decide, by decide, _, g4, by decide, by decide, _, g4, by decide, by decide, _, g4, by decide, by decide, _, g5, by decide, by decide, _, g4, by decide, by decide, _, g6, by omega, by omega, _, gk, by omega, by omega, _, gw, ?_⟩
        refine turn2_sp _ 6 rfl (by decide +kernel) (by decide) (by decide) ?_
        refine ⟨hcs_one gw, hcs_one gk, hcs_one g6, hcs_one g4, hcs_one g5, hcs_one g4, hcs_one g4, hcs_one g4, hcs_one g7, ?_⟩
        refine turn2_sp _ 11 rfl (by decide +kernel) (by decide) (by decide) ?_
        refine ⟨hcs_one gw, hcs_one gk, hcs_one g6, hcs_one g4, hcs_one g5, hcs_one g4, hcs_one g4, hcs_one g7, ?_⟩
        refine turn2_sp _ 25 rfl (by decide +kernel) (by decide) (by decide) ?_
        refine ⟨hcs_one gw, hcs_one gk, hcs_one g6, hcs_one g4, hcs_one g5, hcs_one g4, hcs_one g7, ?_⟩
        refine ⟨by decide, by decide, _, g0, by decide, by decide, _, g0, by decide, by decide, _, g0, by decide, by decide, _, g0, by decide, by decide, _, g1, by decide, by decide, _, g0, by decide, by decide, _, g2, by decide, by decide, _, g1, by decide, by decide, _, g2, ?_⟩
        refine turn2_sp _ 2 rfl (by decide +kernel) (by decide) (by decide) ?_
        refine ⟨hcs_one g2, hcs_one g1, hcs_one g2, hcs_one g0, hcs_one g1, hcs_one g0, hcs_one g0, hcs_one g0, ?_⟩
        refine turn2_sp _ 13 rfl (by decide +kernel) (by decide) (by decide) ?_
        refine ⟨hcs_one g2, hcs_one g1, hcs_one g2, hcs_one g0, hcs_one g1, hcs_one g0, hcs_one g0, ?_⟩
        refine turn2_sp _ 22 rfl (by decide +kernel) (by decide) (by decide) ?_
        refine ⟨hcs_one g2, hcs_one g1, hcs_one g2, hcs_one g0, hcs_one g1, hcs_one g0, ?_⟩
        refine ⟨by decide, by decide, _, g0, by decide, by decide, _, g1, by decide, by decide, _, g2, by decide, by decide, _, g3, by decide, by decide, _, g4, by decide, by decide, _, g5, by decide, by decide, _, g6, ?_⟩
        refine ⟨Sat.can hs (i := 0) .z (by simp), ?_⟩
        intro h5 e5
        replace hs := Sat.wra hs (i := 0) .z e5 rfl
        clear e5
        simp only [put_zero] at hs
        rw [wrap_succ (by omega)]
        refine hk _ ?_
        show Sat h0 (blk sn (ints .u32 (stepM (rM w s t) _ _)) :: blk wn (ints .u32 w) :: A) h5
        rw [hr]
        exact hs
      · intro h4 hs
        apply hJ46
        rw [ltI_eq, if_neg (by decide)]
        clear hJ46 J46
        obtain ⟨r, hr⟩ : ∃ r, r = rM w s 64 := ⟨_, rfl⟩
        have hrl : r.length = 8 := by rw [hr]; exact rM_len _ _ l1 _
        rw [← hr] at hs
        intro J89 hJ89
        refine loop_up 8 (fun x h => Sat h0 (blk sn (ints .u32 r) :: blk wn (ints .u32 w) :: put A i (blk d (dgL (aM s r x) sm n))) h) ?_ ?_ 0 _ (by omega) (by
          have : put A i (blk d (dgL (aM s r 0) sm n)) = A := cd.put_self
          rw [this]; exact hs)
        · intro x h5 hx hs hk
          apply hJ89
          rw [ltI_eq, if_pos (by simp; omega)]
          have cd2 := cd.put (blk d (dgL (aM s r x) sm n))
          have hal := aM_len s r l1 x
          simp only [Int.toNat_natCast, Nat.mul_one]
          refine ⟨by omega, by omega, _, hs.ld (i := i + 2) (.s (.s cd2)) (dg_s hal hx), by omega, by omega, _, hs.ld (i := 0) .z (intsG (by omega)), by omega, by omega, ?_⟩
          refine ⟨Sat.can hs (i := i + 2) (.s (.s cd2)) (by rw [dg_len hal l2]; omega), ?_⟩
          intro h6 e
          replace hs := Sat.wr hs (i := i + 2) (.s (.s cd2)) e
          clear e
          rw [dg_ps hal hx] at hs
          simp only [put_succ, put_put] at hs
          rw [wrap_succ (by omega)]
          exact hk _ hs
        · intro h5 hs
          apply hJ89
          rw [ltI_eq, if_neg (by decide)]
          refine k _ ?_
          unfold pieceM
          rw [← hw, ← hr]
          exact hs.drop.drop
end
end Go.Proofs.YtijcpgahmbkijaaGreatDoor
end
