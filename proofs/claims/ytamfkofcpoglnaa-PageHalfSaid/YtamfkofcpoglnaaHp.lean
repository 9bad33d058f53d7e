/- Blocks of memory as lists of cells, and what loads, stores and allocations do to them. Own work; generic over any program. -/
import Derived.Test.YtamfkofcpoglnaaVcf
set_option autoImplicit false
set_option linter.all false
set_option linter.unusedVariables false
namespace Go.Vc

/-- Block b holds just these cells, and none of them is frozen. -/
def Blk (h : H) (b : Nat) (vs : List Value) : Prop :=
  ∃ t lo hi, h[b]? = some (.cells vs.toArray t (lo, hi)) ∧ ∀ i, i < vs.length → ¬ (lo ≤ i ∧ i < hi)

abbrev at_ (b o : Nat) : Addr := ⟨b, o, none⟩

@[simp] theorem add_mk (b o n : Nat) : (Addr.mk b o none).add n = Addr.mk b (o + n) none := by
  unfold Addr.add; split
  · rename_i h; subst h; rfl
  · rfl

theorem Blk.lt {h : H} {b : Nat} {vs : List Value} (k : Blk h b vs) : b < h.size := by
  obtain ⟨t, lo, hi, hb, _⟩ := k
  exact (Array.getElem?_eq_some_iff.1 hb).1
theorem Blk.det {h : H} {b : Nat} {vs vs' : List Value} (k : Blk h b vs) (k' : Blk h b vs') : vs = vs' := by
  obtain ⟨t, lo, hi, hb, _⟩ := k
  obtain ⟨t', lo', hi', hb', _⟩ := k'
  rw [hb] at hb'
  injection hb' with e
  injection e with e _ _
  simpa using e
theorem Blk.of_eq {h h' : H} {b : Nat} {vs : List Value} (k : Blk h b vs) (e : h'[b]? = h[b]?) : Blk h' b vs := by
  obtain ⟨t, lo, hi, hb, hf⟩ := k
  exact ⟨t, lo, hi, by rw [e]; exact hb, hf⟩

theorem Blk.hc {h : H} {b : Nat} {vs : List Value} (k : Blk h b vs) (o : Nat) : hc h ⟨b, o, none⟩ = vs[o]? := by
  obtain ⟨t, lo, hi, hb, _⟩ := k
  simp [Vc.hc, hb]
theorem Blk.hf {h : H} {b : Nat} {vs : List Value} (k : Blk h b vs) {o : Nat} (ho : o < vs.length) : hf h ⟨b, o, none⟩ = false := by
  obtain ⟨t, lo, hi, hb, hfz⟩ := k
  have := hfz o ho
  simp only [Vc.hf, hb]
  simp only [Bool.and_eq_false_imp, decide_eq_true_eq, decide_eq_false_iff_not]
  intro h1 h2; exact this ⟨h1, h2⟩
theorem Blk.can {h : H} {b : Nat} {vs : List Value} (k : Blk h b vs) {o n : Nat} (ho : o + n ≤ vs.length) : hcan h ⟨b, o, none⟩ n := by
  intro i hi
  have hl : o + i < vs.length := by omega
  rw [add_mk, k.hc, k.hf hl]
  simp [List.getElem?_eq_getElem hl]
theorem Blk.hcs {h : H} {b : Nat} {vs : List Value} (k : Blk h b vs) {o : Nat} {xs : List Value} (e : ∀ i, i < xs.length → vs[o + i]? = xs[i]?) : hcs h ⟨b, o, none⟩ xs := by
  intro i v hv
  rw [add_mk, k.hc, e i (List.getElem?_eq_some_iff.1 hv).1, hv]

/-! ### Writing -/
/-- Cells put in the place of others. -/
def splice (vs : List Value) : Nat → List Value → List Value
  | _, [] => vs
  | o, x :: r => splice (vs.set o x) (o + 1) r
@[simp] theorem splice_nil (vs : List Value) (o : Nat) : splice vs o [] = vs := rfl
@[simp] theorem splice_cons (vs : List Value) (o : Nat) (x : Value) (r : List Value) : splice vs o (x :: r) = splice (vs.set o x) (o + 1) r := rfl
@[simp] theorem splice_length (vs : List Value) (o : Nat) (xs : List Value) : (splice vs o xs).length = vs.length := by
  induction xs generalizing vs o with
  | nil => rfl
  | cons x r ih => simp [ih]
theorem splice_get (vs : List Value) (o : Nat) (xs : List Value) (i : Nat) : (splice vs o xs)[i]? = if o ≤ i ∧ i < o + xs.length ∧ i < vs.length then xs[i - o]? else vs[i]? := by
  induction xs generalizing vs o with
  | nil =>
    have : ¬ (o ≤ i ∧ i < o + ([] : List Value).length ∧ i < vs.length) := by simp; omega
    rw [if_neg this]; rfl
  | cons x r ih =>
    rw [splice_cons, ih]
    simp only [List.length_cons, List.length_set]
    by_cases h1 : o = i
    · subst h1
      rw [if_neg (by omega)]
      by_cases h2 : o < vs.length
      · rw [if_pos (by omega)]; simp [h2]
      · rw [if_neg (by omega)]
        have : (vs.set o x) = vs := List.set_eq_of_length_le (by omega)
        rw [this]
    · rw [List.getElem?_set_ne h1]
      by_cases h2 : o + 1 ≤ i ∧ i < o + 1 + r.length ∧ i < vs.length
      · rw [if_pos h2, if_pos (by omega)]
        have : i - o = (i - (o + 1)) + 1 := by omega
        rw [this]; simp
      · rw [if_neg h2, if_neg (by omega)]
theorem splice_all (vs xs : List Value) (h : xs.length = vs.length) : splice vs 0 xs = xs := by
  apply List.ext_getElem?
  intro i
  rw [splice_get]
  split
  · simp
  · rename_i hn
    rw [List.getElem?_eq_none (by omega), List.getElem?_eq_none (by omega)]
theorem splice_append (a b c xs : List Value) (h : xs.length = b.length) : splice (a ++ b ++ c) a.length xs = a ++ xs ++ c := by
  apply List.ext_getElem?
  intro i
  rw [splice_get]
  simp only [List.length_append]
  split
  · rename_i hh
    rw [List.append_assoc, List.getElem?_append_right hh.1, List.getElem?_append_left (by omega)]
  · rename_i hh
    rw [List.append_assoc, List.append_assoc]
    by_cases h1 : i < a.length
    · rw [List.getElem?_append_left h1, List.getElem?_append_left h1]
    · rw [List.getElem?_append_right (by omega), List.getElem?_append_right (by omega)]
      by_cases h2 : i - a.length < b.length
      · omega
      · rw [List.getElem?_append_right (by omega), List.getElem?_append_right (by omega), h]

theorem hs_eq {h : H} {b : Nat} {vs : List Value} (k : Blk h b vs) (o : Nat) (v : Value) : Blk (hs h ⟨b, o, none⟩ v) b (vs.set o v) := by
  obtain ⟨t, lo, hi, hb, hfz⟩ := k
  refine ⟨t, lo, hi, ?_, by simpa using hfz⟩
  simp only [hs, Array.getElem?_modify, hb]
  simp
theorem hs_ne (h : H) (a : Addr) (v : Value) {x : Nat} (hx : x ≠ a.block) : (hs h a v)[x]? = h[x]? := by
  simp only [hs, Array.getElem?_modify]
  rw [if_neg (by omega)]
theorem hs_size (h : H) (a : Addr) (v : Value) : (hs h a v).size = h.size := by simp [hs]
theorem hwrFrom_blk {h : H} {b : Nat} {vs : List Value} (k : Blk h b vs) (o : Nat) (xs : List Value) (j : Nat) : Blk (hwrFrom h ⟨b, o, none⟩ j xs) b (splice vs (o + j) xs) := by
  induction xs generalizing h vs j with
  | nil => exact k
  | cons x r ih =>
    simp only [hwrFrom, splice_cons, add_mk]
    exact ih (hs_eq k (o + j) x) (j + 1)
theorem add_block (a : Addr) (n : Nat) : (a.add n).block = a.block := by unfold Addr.add; split <;> rfl
theorem hwrFrom_ne (h : H) (a : Addr) (j : Nat) (xs : List Value) {x : Nat} (hx : x ≠ a.block) : (hwrFrom h a j xs)[x]? = h[x]? := by
  induction xs generalizing h j with
  | nil => rfl
  | cons y r ih => simp only [hwrFrom]; rw [ih, hs_ne]; rw [add_block]; exact hx
theorem hwrFrom_size (h : H) (a : Addr) (j : Nat) (xs : List Value) : (hwrFrom h a j xs).size = h.size := by
  induction xs generalizing h j with
  | nil => rfl
  | cons y r ih => simp only [hwrFrom]; rw [ih, hs_size]
theorem Blk.wr {h : H} {b : Nat} {vs : List Value} (k : Blk h b vs) (o : Nat) (xs : List Value) : Blk (hwr h ⟨b, o, none⟩ xs) b (splice vs o xs) := hwrFrom_blk k o xs 0
theorem hwr_ne (h : H) (a : Addr) (xs : List Value) {x : Nat} (hx : x ≠ a.block) : (hwr h a xs)[x]? = h[x]? := hwrFrom_ne h a 0 xs hx
theorem hwr_size (h : H) (a : Addr) (xs : List Value) : (hwr h a xs).size = h.size := hwrFrom_size h a 0 xs
theorem Blk.wr_ne {h : H} {b : Nat} {vs : List Value} (k : Blk h b vs) {a : Addr} {xs : List Value} (hx : b ≠ a.block) : Blk (hwr h a xs) b vs := k.of_eq (hwr_ne h a xs hx)

/-! ### What is left alone -/
/-- From h to h' only these blocks, and new ones, may differ. -/
structure Ext (S : Nat → Prop) (h h' : H) : Prop where
  size : h.size ≤ h'.size
  eq : ∀ b, b < h.size → ¬ S b → h'[b]? = h[b]?
abbrev none_ : Nat → Prop := fun _ => False
theorem Ext.refl (S : Nat → Prop) (h : H) : Ext S h h := ⟨Nat.le_refl _, fun _ _ _ => rfl⟩
theorem Ext.trans {S : Nat → Prop} {h h' h'' : H} (a : Ext S h h') (b : Ext S h' h'') : Ext S h h'' :=
  ⟨Nat.le_trans a.size b.size, fun x hx hs => by rw [b.eq x (Nat.lt_of_lt_of_le hx a.size) hs, a.eq x hx hs]⟩
theorem Ext.mono {S T : Nat → Prop} {h h' : H} (a : Ext S h h') (st : ∀ b, b < h.size → S b → T b) : Ext T h h' :=
  ⟨a.size, fun x hx hs => a.eq x hx fun h => hs (st x hx h)⟩
/-- A change of blocks that are new, or allowed, is no change of old ones. -/
theorem Ext.comp {S T : Nat → Prop} {h h' h'' : H} (a : Ext S h h') (b : Ext T h' h'') (st : ∀ x, x < h.size → T x → S x) : Ext S h h'' :=
  ⟨Nat.le_trans a.size b.size, fun x hx hs => by rw [b.eq x (Nat.lt_of_lt_of_le hx a.size) (fun t => hs (st x hx t)), a.eq x hx hs]⟩
theorem Ext.blk {S : Nat → Prop} {h h' : H} (a : Ext S h h') {b : Nat} {vs : List Value} (k : Blk h b vs) (hb : ¬ S b) : Blk h' b vs := k.of_eq (a.eq b k.lt hb)
theorem Ext.wr (h : H) (b o : Nat) (xs : List Value) : Ext (fun x => x = b) h (hwr h ⟨b, o, none⟩ xs) :=
  ⟨by rw [hwr_size]; exact Nat.le_refl _, fun x _ hx => hwr_ne h _ xs hx⟩
theorem hnew.size {h h' : H} {b : Nat} {c : List Value} (n : hnew h b c h') : h'.size = h.size + 1 := by
  obtain ⟨_, t, lo, hi, _, rfl⟩ := n; simp
theorem hnew.b {h h' : H} {b : Nat} {c : List Value} (n : hnew h b c h') : b = h.size := n.1
theorem hnew.ext {h h' : H} {b : Nat} {c : List Value} (n : hnew h b c h') : Ext none_ h h' := by
  refine ⟨by rw [n.size]; omega, ?_⟩
  obtain ⟨_, t, lo, hi, _, rfl⟩ := n
  intro x hx _
  rw [Array.getElem?_push]; rw [if_neg (by omega)]
theorem hnew.blk {h h' : H} {b : Nat} {c : List Value} (n : hnew h b c h') : Blk h' b c := by
  obtain ⟨rfl, t, lo, hi, hf, rfl⟩ := n
  exact ⟨t, lo, hi, by simp, hf⟩
theorem Blk.ne {h : H} {b b' : Nat} {vs vs' : List Value} (k : Blk h b vs) (k' : ¬ b' < h.size) : b ≠ b' := fun e => k' (e ▸ k.lt)

/-! ### Rows of integers -/
@[simp] theorem ints_nil (k : IntKind) : ints k [] = [] := rfl
@[simp] theorem ints_cons (k : IntKind) (n : Int) (r : List Int) : ints k (n :: r) = .int k n :: ints k r := rfl
@[simp] theorem ints_length (k : IntKind) (ns : List Int) : (ints k ns).length = ns.length := by simp [ints]
@[simp] theorem ints_append (k : IntKind) (a b : List Int) : ints k (a ++ b) = ints k a ++ ints k b := by simp [ints]
theorem ints_get (k : IntKind) (ns : List Int) (i : Nat) : (ints k ns)[i]? = ns[i]?.map (Value.int k) := by simp [ints]
theorem ints_inj {k : IntKind} {a b : List Int} (h : ints k a = ints k b) : a = b := by
  induction a generalizing b with
  | nil => cases b with | nil => rfl | cons _ _ => simp at h
  | cons x r ih => cases b with
    | nil => simp at h
    | cons y s => simp only [ints_cons, List.cons.injEq, Value.int.injEq, true_and] at h; rw [h.1, ih h.2]
@[simp] theorem zeros_length (n : Nat) : (zeros n).length = n := by simp [zeros]
theorem Blk.hrow {h : H} {b : Nat} {vs : List Value} (k : Blk h b vs) {o : Nat} {kd : IntKind} {ns : List Int} (e : ∀ i, i < ns.length → vs[o + i]? = ns[i]?.map (Value.int kd)) : hrow h ⟨b, o, none⟩ kd ns := by
  apply k.hcs
  intro i hi
  rw [e i (by simpa using hi), ints_get]
theorem hrow_get {h : H} {a : Addr} {kd : IntKind} {ns : List Int} (hr : hrow h a kd ns) {i : Nat} (hi : i < ns.length) : hc h (a.add i) = some (.int kd ns[i]) := by
  apply hr; rw [ints_get]; simp [hi]
theorem hrow_det {h : H} {a : Addr} {kd : IntKind} {ns ms : List Int} (hr : hrow h a kd ns) (hs : hrow h a kd ms) (hl : ns.length = ms.length) : ns = ms := by
  apply List.ext_getElem hl
  intro i h1 h2
  have e1 := hrow_get hr h1
  have e2 := hrow_get hs h2
  rw [e1] at e2
  injection e2 with e2
  injection e2
@[simp] theorem oneCell_int (k : IntKind) (n : Int) : (Value.int k n).oneCell' = true := rfl
end Go.Vc
