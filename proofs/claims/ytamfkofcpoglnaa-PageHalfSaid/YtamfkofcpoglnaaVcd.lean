/- The denotation is sound, fifth part: regions, in order and out of it. Own work; generic over any program. -/
import Derived.Test.YtamfkofcpoglnaaVcm
set_option autoImplicit false
set_option linter.all false
namespace Go.Vc
variable {P : Program}

def Agree (s : List Nat) (fr fr' : Fr) : Prop := ∀ i, i ∉ s → get fr' i = get fr i
theorem Agree.refl (s : List Nat) (fr : Fr) : Agree s fr fr := fun _ _ => rfl
theorem Agree.trans {s : List Nat} {a b c : Fr} (h : Agree s a b) (k : Agree s b c) : Agree s a c := fun i hi => (k i hi).trans (h i hi)
theorem Agree.mono {s s' : List Nat} {a b : Fr} (h : Agree s a b) (hs : ∀ i, i ∈ s → i ∈ s') : Agree s' a b := fun i hi => h i fun h => hi (hs i h)
theorem Agree.putO {s : List Nat} {a b : Fr} (h : Agree s a b) {d : Option Nat} (hd : ∀ i, d = some i → i ∈ s) (v : SV) : Agree s a (putO d v b) := fun i hi => by
  rw [get_putO, if_neg]
  · exact h i hi
  · intro e; exact hi (hd i e)

theorem mem_asgR {ops : List Oper} {o : Oper} (h : o ∈ ops) {d : Nat} (hd : o.dst = some d) : d ∈ asgR ops := by
  induction ops with
  | nil => cases h
  | cons x r ih =>
    rcases List.mem_cons.1 h with rfl | h
    · simp [asgR, hd]
    · have := ih h
      unfold asgR
      split <;> simp [this]
theorem dstOf_get (ops : List Oper) : ∀ j, dstOf ops j = (ops[j]?).bind (·.dst) := by
  induction ops with
  | nil => intro j; simp [dstOf]
  | cons o r ih => intro j; cases j with
    | zero => simp [dstOf]
    | succ j => simp [dstOf, ih]

theorem wp_of_next {o : Oper} {a : Act} {w : World} {K : SV → H → Prop} {next : Act → World → Prop} {Q : Exit → Act → World → Prop} (h : NextOk P K w ((execOp a.eval o).run P w))
    (hn : ∀ x v w', Rest w w' → SV.rel x v → K x w'.heap → next (a.put o.dst v) w') : o.wp P a w next Q := by
  unfold Oper.wp
  generalize (execOp a.eval o).run P w = r at h
  cases r with
  | halt x w' => exact h.elim
  | ok n w' =>
    cases n <;> try exact h.elim
    · obtain ⟨h1, x, h2, h3⟩ := h; exact hn x _ _ h1 h2 h3
    · obtain ⟨h1, h3⟩ := h; exact hn .nd _ _ h1 rfl h3
    · obtain ⟨rfl, h⟩ := h
      exact h.mono fun e w'' he => by
        obtain ⟨v, x, rfl, h1, h2, h3⟩ := he
        exact hn x _ _ h1 h2 h3

theorem guard_sound {ops : Array Oper} {o : Oper} {fr : Fr} {tmps : Array Value} {yes no : Fr → Prop} {X : Prop} (hFR : FR fr tmps) (h : guardD ops.toList o.guard fr yes no)
    (hy : ∀ fr', FR fr' tmps → Agree (asgR ops.toList) fr fr' → Region.wanted o (yielded ops tmps) = true → yes fr' → X)
    (hn : ∀ fr', FR fr' tmps → Agree (asgR ops.toList) fr fr' → Region.wanted o (yielded ops tmps) = false → no fr' → X) : X := by
  unfold guardD at h
  cases hg : o.guard with
  | none =>
    rw [hg] at h
    exact hy fr hFR (Agree.refl _ _) (by simp [Region.wanted, hg]) h
  | some g =>
    obtain ⟨j, want⟩ := g
    rw [hg] at h
    simp only at h
    split at h
    · exact h.elim
    · rename_i d hd
      rw [dstOf_get] at hd
      have hd' : (ops[j]?).bind (·.dst) = some d := by simpa using hd
      have hmem : d ∈ asgR ops.toList := by
        cases ho : ops.toList[j]? with
        | none => simp [ho] at hd
        | some o' => simp [ho] at hd; exact mem_asgR (List.mem_of_getElem? ho) hd
      have hr := hFR d
      have hyv : ∀ b, tmps.getD d undef = .bool b → yielded ops tmps j = some b := by
        intro b hb
        unfold yielded
        rw [hd']
        simp only [Option.bind_some]
        by_cases hlt : d < tmps.size
        · have : tmps[d]? = some (.bool b) := by rw [← hb]; simp [hlt]
          rw [this]
        · simp only [Array.getD_eq_getD_getElem?, Array.getElem?_eq_none (Nat.le_of_not_lt hlt), Option.getD_none] at hb
          simp [undef] at hb
      have refine' : ∀ b, get fr d = .dv (.one (.bool b)) → FR ((d, .dv (.one (.bool b))) :: fr) tmps ∧ Agree (asgR ops.toList) fr ((d, .dv (.one (.bool b))) :: fr) := by
        intro b hb
        constructor
        · intro i
          have := get_putO fr (some d) (.dv (.one (.bool b))) i
          simp only [putO, Option.some.injEq] at this
          rw [this]
          split
          · rename_i e; subst e; rw [← hb]; exact hFR d
          · exact hFR i
        · have := (Agree.refl (asgR ops.toList) fr).putO (d := some d) (fun i hi => by injection hi with hi; subst hi; exact hmem) (.dv (.one (.bool b)))
          exact this
      split at h
      · rename_i hnd
        rw [hnd] at hr
        refine hn fr hFR (Agree.refl _ _) ?_ h
        have hu : tmps.getD d undef = undef := hr
        have : yielded ops tmps j = none := by
          unfold yielded
          rw [hd']
          simp only [Option.bind_some]
          by_cases hlt : d < tmps.size
          · have : tmps[d]? = some undef := by rw [← hu]; simp [hlt]
            rw [this]; rfl
          · rw [Array.getElem?_eq_none (Nat.le_of_not_lt hlt)]
        simp [Region.wanted, hg, this]
      · rename_i b hb
        rw [hb] at hr
        have hv : tmps.getD d undef = .bool b := hr.2
        have hyb := hyv b hv
        cases b with
        | true =>
          obtain ⟨r1, r2⟩ := refine' true hb
          simp only [if_true] at h
          cases want with
          | true => exact hy _ r1 r2 (by simp [Region.wanted, hg, hyb]) h
          | false => exact hn _ r1 r2 (by simp [Region.wanted, hg, hyb]) h
        | false =>
          obtain ⟨r1, r2⟩ := refine' false hb
          simp only [Bool.false_eq_true, if_false] at h
          cases want with
          | true => exact hn _ r1 r2 (by simp [Region.wanted, hg, hyb]) h
          | false => exact hy _ r1 r2 (by simp [Region.wanted, hg, hyb]) h
      · exact h.elim

/-- What holds of a frame on the way through a region. -/
structure On (s : List Nat) (fr0 : Fr) (n : Nat) (df : List Deferred) (w0 : World) (fr : Fr) (a : Act) (w : World) : Prop where
  hfr : FR fr a.tmps
  ag : Agree s fr0 fr
  sz : a.tmps.size = n
  df : a.defers = df
  rest : Rest w0 w

theorem On.put {s : List Nat} {fr0 : Fr} {n : Nat} {df : List Deferred} {w0 : World} {fr : Fr} {a : Act} {w w' : World} (h : On s fr0 n df w0 fr a w) (hs : ∀ d, d ∈ s → d < n) {d : Option Nat} (hd : ∀ i, d = some i → i ∈ s)
    {x : SV} {v : Value} (hx : x.rel v) (hr : Rest w w') : On s fr0 n df w0 (putO d x fr) (a.put d v) w' :=
  ⟨h.hfr.put d (fun i hi => by rw [h.sz]; exact hs i (hd i hi)) hx, h.ag.putO hd x, by rw [size_put, h.sz], by rw [defers_put, h.df], h.rest.trans hr⟩

theorem Dops_sound {T : Tbl} (hT : TblOk P T) {ops : Array Oper} {Q : Exit → Act → World → Prop} {K : Fr → H → Prop} {fr0 : Fr} {n : Nat} {df : List Deferred} {w0 : World} (hs : ∀ d, d ∈ asgR ops.toList → d < n)
    (hQ : ∀ fr a w, On (asgR ops.toList) fr0 n df w0 fr a w → K fr w.heap → Q .normal a w) :
    ∀ (l : List Oper) (fr : Fr) (a : Act) (w : World), (∀ o, o ∈ l → o ∈ ops.toList) → On (asgR ops.toList) fr0 n df w0 fr a w → Dops P T ops.toList l K fr w.heap → wpList P ops Q l a w := by
  intro l
  induction l with
  | nil => intro fr a w _ hon h; exact hQ fr a w hon h
  | cons o r ih =>
    intro fr a w hmem hon h
    have hd : ∀ i, o.dst = some i → i ∈ asgR ops.toList := fun i hi => mem_asgR (hmem o (by simp)) hi
    have hmem' : ∀ o, o ∈ r → o ∈ ops.toList := fun o ho => hmem o (by simp [ho])
    simp only [Dops] at h
    refine guard_sound hon.hfr h (fun fr' hF hA hw hy => ?_) (fun fr' hF hA hw hn => ?_)
    · have hon' : On (asgR ops.toList) fr0 n df w0 fr' a w := ⟨hF, hon.ag.trans hA, hon.sz, hon.df, hon.rest⟩
      unfold wpList
      rw [if_pos hw]
      refine .inl (wp_of_next (Dop_sound hT hF hy) fun x v w' h1 h2 h3 => ?_)
      exact ih _ _ _ hmem' (hon'.put hs hd h2 h1) h3
    · have hon' : On (asgR ops.toList) fr0 n df w0 fr' a w := ⟨hF, hon.ag.trans hA, hon.sz, hon.df, hon.rest⟩
      unfold wpList
      rw [if_neg (by rw [hw]; simp)]
      exact ih _ _ _ hmem' (hon'.put hs hd (x := .nd) rfl (Rest.refl w)) hn

/-! ### A region that draws its order -/
def wpAnyG (P : Program) (ops : Array Oper) (Q : Exit → Act → World → Prop) (G : Array Bool → Nat → World → Prop) : Nat → Array Bool → Act → World → Prop
  | 0, listed, a, w => Region.ready .any ops listed = [] ∧ Q .normal a w
  | fuel + 1, listed, a, w =>
    (Region.ready .any ops listed = [] → Q .normal a w) ∧
    ∀ i, i ∈ Region.ready .any ops listed → wpOp P ops Q i (fun a' w' => G listed i w' ∧ wpAnyG P ops Q G fuel (listed.setIfInBounds i true) a' w') a w

section
variable {ops : Array Oper} {Q : Exit → Act → World → Prop}
theorem wpAny_of_G {G : Array Bool → Nat → World → Prop} : ∀ (fuel : Nat) (listed : Array Bool) (a : Act) (w : World), wpAnyG P ops Q G fuel listed a w → wpAny P .any ops Q fuel listed a w
  | 0, _, _, _, h => h
  | fuel + 1, _, _, _, h => ⟨h.1, fun i hi => wpOp_mono (fun a' w' h' => wpAny_of_G fuel _ a' w' h'.2) (h.2 i hi)⟩

theorem wpAnyG_mono {G G' : Array Bool → Nat → World → Prop} (L : Array Bool → Prop) (hL : ∀ l i, L l → L (l.setIfInBounds i true)) (hG : ∀ l i w, L l → i ∈ Region.ready .any ops l → G l i w → G' l i w) :
    ∀ (fuel : Nat) (listed : Array Bool) (a : Act) (w : World), L listed → wpAnyG P ops Q G fuel listed a w → wpAnyG P ops Q G' fuel listed a w
  | 0, _, _, _, _, h => h
  | fuel + 1, _, _, _, hl, h => ⟨h.1, fun i hi => wpOp_mono (fun a' w' h' => ⟨hG _ _ _ hl hi h'.1, wpAnyG_mono L hL hG fuel _ a' w' (hL _ _ hl) h'.2⟩) (h.2 i hi)⟩

/-- All that an operation waits for has come up. -/
def Closed (ops : Array Oper) (listed : Array Bool) : Prop :=
  ∀ k o, ops[k]? = some o → listed.getD k false = true → ∀ e, e ∈ o.after → Region.binds .any e = true → listed.getD e.on false = true
theorem Closed.step {listed : Array Bool} (h : Closed ops listed) {i : Nat} (hi : i ∈ Region.ready .any ops listed) : Closed ops (listed.setIfInBounds i true) := by
  intro k o hk hl e he hb
  obtain ⟨hun, oi, hoi, hall⟩ := mem_ready.1 hi
  by_cases hki : i = k
  · subst hki
    rw [hk] at hoi
    injection hoi with hoi
    subst hoi
    exact getD_set_true (hall e he hb)
  · rw [getD_set_ne false hki] at hl
    exact getD_set_true (h k o hk hl e he hb)

theorem anc_listed {clo : Array Nat} (hc : cloOk ops clo = true) {i : Nat} : ∀ (j : Nat), j < ops.size → i < ops.size → ancB clo i j = true →
    ∃ o e, ops[j]? = some o ∧ e ∈ o.after ∧ Region.binds .any e = true ∧ e.on < j ∧ (e.on = i ∨ ancB clo i e.on = true) := by
  intro j hj hi ha
  unfold cloOk at hc
  rw [List.all_eq_true] at hc
  have h1 := hc j (by simpa using hj)
  rw [List.all_eq_true] at h1
  have h2 := h1 i (by simpa using hi)
  rw [ha] at h2
  simp only at h2
  cases ho : ops[j]? with
  | none => simp [ho] at h2
  | some o =>
    simp only [ho] at h2
    obtain ⟨k, hk, he⟩ := Array.any_eq_true.1 h2
    simp only [Bool.and_eq_true, Bool.or_eq_true] at he
    exact ⟨o, _, rfl, Array.getElem_mem hk, he.1.1, Nat.le_of_ble_eq_true he.1.2, he.2.imp (fun h => Nat.eq_of_beq_eq_true h) id⟩

/-- What has come up, and what may come up next, waits for nothing that hasn't come up. -/
theorem no_anc {clo : Array Nat} (hc : cloOk ops clo = true) {i : Nat} (hi : i < ops.size) {listed : Array Bool} (hcl : Closed ops listed) (hil : listed.getD i false = false) :
    ∀ (j : Nat), j < ops.size → (listed.getD j false = true ∨ j ∈ Region.ready .any ops listed) → ancB clo i j = false := by
  intro j
  induction j using Nat.strongRecOn with
  | ind j ih =>
    intro hj hl
    cases ha : ancB clo i j with
    | false => rfl
    | true =>
      obtain ⟨o, e, ho, he, hb, hlt, hor⟩ := anc_listed hc j hj hi ha
      have hel : listed.getD e.on false = true := by
        rcases hl with hl | hl
        · exact hcl j o ho hl e he hb
        · obtain ⟨_, o', ho', hall⟩ := mem_ready.1 hl
          rw [ho] at ho'
          injection ho' with ho'
          subst ho'
          exact hall e he hb
      rcases hor with h | h
      · rw [h, hil] at hel; cases hel
      · rw [ih e.on hlt (by omega) (.inl hel)] at h; cases h
end

section
variable {ops : Array Oper} {Q : Exit → Act → World → Prop}
/-- A load that was taken first may still be to come. -/
def Pend (P : Program) (ops : Array Oper) (clo : Array Nat) (j : Nat) (listed : Array Bool) : Prop :=
  ∀ k, k < ops.size → listed.getD k false = true → floatAt P ops.toList k = false → ancB clo j k = false
def Gh (P : Program) (ops : Array Oper) (clo : Array Nat) (held : List (Nat × Fact)) (listed : Array Bool) (i : Nat) (w : World) : Prop :=
  ∀ x, x ∈ held → Pend P ops clo x.1 listed → (floatAt P ops.toList i = true ∨ ancB clo x.1 i = false) → x.2 w.heap
def Now (P : Program) (ops : Array Oper) (clo : Array Nat) (held : List (Nat × Fact)) (listed : Array Bool) (h : H) : Prop := ∀ x, x ∈ held → Pend P ops clo x.1 listed → x.2 h

theorem Pend.less {clo : Array Nat} {j i : Nat} {listed : Array Bool} (h : Pend P ops clo j (listed.setIfInBounds i true)) : Pend P ops clo j listed :=
  fun k hk hl hf => h k hk (getD_set_true hl) hf
theorem Pend.float {clo : Array Nat} {j i : Nat} {listed : Array Bool} (h : Pend P ops clo j listed) (hi : floatAt P ops.toList i = true) : Pend P ops clo j (listed.setIfInBounds i true) := by
  intro k hk hl hf
  by_cases hki : i = k
  · subst hki; rw [hi] at hf; cases hf
  · rw [getD_set_ne false hki] at hl; exact h k hk hl hf
theorem Pend.at {clo : Array Nat} {j i : Nat} {listed : Array Bool} (h : Pend P ops clo j (listed.setIfInBounds i true)) (hi : i < ops.size) (hs : listed.size = ops.size) : floatAt P ops.toList i = true ∨ ancB clo j i = false := by
  cases hf : floatAt P ops.toList i with
  | true => exact .inl rfl
  | false => exact .inr (h i hi (by simp [hs, hi]) hf)
theorem Now.step {clo : Array Nat} {held : List (Nat × Fact)} {i : Nat} {listed : Array Bool} {w : World} (h : Gh P ops clo held listed i w) (hi : i < ops.size) (hs : listed.size = ops.size) : Now P ops clo held (listed.setIfInBounds i true) w.heap :=
  fun x hx hp => h x hx hp.less (hp.at hi hs)

theorem ready_lt {listed : Array Bool} {i : Nat} (h : i ∈ Region.ready .any ops listed) : i < ops.size := by
  obtain ⟨_, o, ho, _⟩ := mem_ready.1 h
  rcases Nat.lt_or_ge i ops.size with h | h
  · exact h
  · rw [Array.getElem?_eq_none h] at ho; cases ho
theorem ready_not {listed : Array Bool} {i : Nat} (h : i ∈ Region.ready .any ops listed) : listed.getD i false = false := by
  have h1 := (mem_ready.1 h).1
  by_cases hlt : i < listed.size
  · simp [hlt] at h1 ⊢; exact h1
  · simp [Array.getElem?_eq_none (Nat.le_of_not_lt hlt)]

/-- A float may be taken first. -/
theorem wpAnyG_first {clo : Array Nat} (hc : cloOk ops clo = true) {held : List (Nat × Fact)} {i : Nat} {oi : Oper} {v : Value} {φ : Fact} (hi : ops[i]? = some oi)
    (hsel : ∀ (j : Nat) (o : Oper) cs b, ops[j]? = some o → o.op ≠ .select cs b) (hQ : ∀ c a w, Q (.panic c) (a.put oi.dst v) w → Q (.panic c) a w)
    (hfl : floatAt P ops.toList i = true) (hφ : (i, φ) ∈ held ∨ ∀ h, φ h) :
    ∀ (fuel : Nat) (listed : Array Bool) (a : Act) (w : World), listed.size = ops.size →
      (∀ j oj, ops[j]? = some oj → j ≠ i → listed.getD j true = false → (∀ e ∈ oj.after, Region.binds .any e = true → e.on ≠ i) → oi.apart ops oj = true) →
      i ∈ Region.ready .any ops listed → YieldsIf P ops (fun w => φ w.heap) oi v a → Closed ops listed → Now P ops clo held listed w.heap →
      wpAnyG P ops Q (Gh P ops clo held) fuel (listed.setIfInBounds i true) (a.put oi.dst v) w → wpAnyG P ops Q (Gh P ops clo held) (fuel + 1) listed a w := by
  have here : ∀ (listed : Array Bool) (w : World), i ∈ Region.ready .any ops listed → Closed ops listed → Now P ops clo held listed w.heap → φ w.heap := by
    intro listed w hr hcl hnow
    rcases hφ with h | h
    · refine hnow _ h fun k hk hl _ => ?_
      exact no_anc hc (ready_lt hr) hcl (ready_not hr) k hk (.inl hl)
    · exact h _
  intro fuel
  induction fuel with
  | zero =>
    intro listed a w hsz _ hr hy hcl hnow HH
    refine ⟨fun h => (by rw [h] at hr; cases hr), fun j hj => ?_⟩
    by_cases hji : j = i
    · subst hji
      exact hy.wpOp hi (here listed w hr hcl hnow) ⟨fun x hx hp _ => hnow x hx hp, HH⟩
    · have := ready_mono hj hji
      rw [HH.1] at this
      cases this
  | succ fuel ih =>
    intro listed a w hsz hfree hr hy hcl hnow HH
    refine ⟨fun h => (by rw [h] at hr; cases hr), fun j hj => ?_⟩
    by_cases hji : j = i
    · subst hji
      exact hy.wpOp hi (here listed w hr hcl hnow) ⟨fun x hx hp _ => hnow x hx hp, HH⟩
    · have h1 := HH.2 j (ready_mono hj hji)
      obtain ⟨hjun, oj, hoj, hall⟩ := mem_ready.1 hj
      have hnot : ∀ e ∈ oj.after, Region.binds .any e = true → e.on ≠ i := fun e he hb heq => by
        have h1 := hall e he hb
        rw [heq, ready_not hr] at h1
        cases h1
      have h2 := wpOp_putIf hoj (hfree j oj hoj hji hjun hnot) (fun cs b => hsel i oi cs b hi) (fun cs b => hsel j oj cs b hoj) hQ hy h1
      have hfree' : ∀ k ok, ops[k]? = some ok → k ≠ i → (listed.setIfInBounds j true).getD k true = false →
          (∀ e ∈ ok.after, Region.binds .any e = true → e.on ≠ i) → oi.apart ops ok = true := fun k ok hk hki hun hno => by
        refine hfree k ok hk hki ?_ hno
        by_cases hjk : j = k
        · subst hjk; exact hjun
        · rw [getD_set_ne true hjk] at hun; exact hun
      refine wpOp_mono (fun a' w' h3 => ?_) h2
      obtain ⟨hy', hg, hrest⟩ := h3
      have hg' : Gh P ops clo held listed j w' := fun x hx hp ho => hg x hx (hp.float hfl) ho
      refine ⟨hg', ih (listed.setIfInBounds j true) a' w' (by simp [hsz]) hfree' (ready_mono hr (Ne.symm hji)) hy' (hcl.step hj) (Now.step hg' (ready_lt hj) hsz) ?_⟩
      rw [Array.setIfInBounds_comm _ _ hji]
      exact hrest

theorem pickF_spec {listed : Array Bool} : ∀ {l : List Nat} {i : Nat}, pickF P ops listed l = some i → i ∈ l ∧ floatAt P ops.toList i = true ∧ Region.free .any ops listed i = true := by
  intro l
  induction l with
  | nil => intro i h; simp [pickF] at h
  | cons x r ih =>
    intro i h
    simp only [pickF] at h
    split at h
    · rename_i hf
      split at h
      · rename_i hfr
        simp at h; subst h
        exact ⟨List.mem_cons_self, hf, hfr⟩
      · obtain ⟨a, b, c⟩ := ih h; exact ⟨List.mem_cons_of_mem _ a, b, c⟩
    · obtain ⟨a, b, c⟩ := ih h; exact ⟨List.mem_cons_of_mem _ a, b, c⟩

theorem allL_mem {α : Type} {p : α → Prop} : ∀ {l : List α}, allL p l → ∀ x, x ∈ l → p x
  | [], _, x, hx => by cases hx
  | [a], h, x, hx => by simp at hx; subst hx; exact h
  | a :: b :: r, h, x, hx => by
    rcases List.mem_cons.1 hx with rfl | hx
    · exact h.1
    · exact allL_mem h.2 x hx

theorem heldAll_spec : ∀ {l : List (Nat × Fact)} {h : H} {p : Prop}, heldAll l h p → (∀ x, x ∈ l → x.2 h) ∧ p
  | [], _, _, hp => ⟨fun _ h => (by cases h), hp⟩
  | (i, φ) :: r, h, p, hp => by
    obtain ⟨h1, h2⟩ := hp
    obtain ⟨h3, h4⟩ := heldAll_spec h2
    exact ⟨fun x hx => by rcases List.mem_cons.1 hx with rfl | hx; exact h1; exact h3 x hx, h4⟩

theorem DH_sound {T : Tbl} (hT : TblOk P T) {clo : Array Nat} (hc : cloOk ops clo = true) (hsel : Region.noSelect ops = true) {K : Fr → H → Prop} {fr0 : Fr} {n : Nat} {df : List Deferred} {w0 : World}
    (hs : ∀ d, d ∈ asgR ops.toList → d < n) (hQ : ∀ fr a w, On (asgR ops.toList) fr0 n df w0 fr a w → K fr w.heap → Q .normal a w) (hQp : ∀ c a w, ¬ Q (.panic c) a w) :
    ∀ (fuel : Nat) (listed : Array Bool) (held : List (Nat × Fact)) (fr : Fr) (a : Act) (w : World), listed.size = ops.size → On (asgR ops.toList) fr0 n df w0 fr a w → Closed ops listed → Now P ops clo held listed w.heap →
      DH P T ops clo K fuel listed held fr w.heap → wpAnyG P ops Q (Gh P ops clo held) fuel listed a w := by
  intro fuel
  induction fuel with
  | zero =>
    intro listed held fr a w _ hon _ _ h
    simp only [DH] at h
    split at h
    · rename_i hr; exact ⟨hr, hQ fr a w hon h⟩
    · exact h.elim
  | succ fuel ih =>
    intro listed held fr a w hsz hon hcl hnow h
    simp only [DH] at h
    split at h
    · rename_i hr
      exact ⟨fun _ => hQ fr a w hon h, fun i hi => by rw [hr] at hi; cases hi⟩
    · rename_i i0 rs hr
      split at h
      · rename_i i hp
        obtain ⟨hmem, hfl, hfree⟩ := pickF_spec hp
        rw [← hr] at hmem
        split at h
        · rename_i o ho
          have hd : ∀ j, o.dst = some j → j ∈ asgR ops.toList := fun j hj => mem_asgR (by simpa using Array.mem_of_getElem? ho) hj
          have hsz' : (listed.setIfInBounds i true).size = ops.size := by simp [hsz]
          have take : ∀ (held' : List (Nat × Fact)) (φ : Fact) (v : Value) (x : SV) (fr' : Fr), On (asgR ops.toList) fr0 n df w0 fr' a w → SV.rel x v → (∀ y, y ∈ held → y ∈ held') → ((i, φ) ∈ held' ∨ ∀ h, φ h) →
              YieldsIf P ops (fun w => φ w.heap) o v a → Now P ops clo held' listed w.heap → DH P T ops clo K fuel (listed.setIfInBounds i true) held' (putO o.dst x fr') w.heap →
              wpAnyG P ops Q (Gh P ops clo held) (fuel + 1) listed a w := by
            intro held' φ v x fr' hon' hx hsub hφ hy hnow' hD
            have h1 := ih (listed.setIfInBounds i true) held' (putO o.dst x fr') (a.put o.dst v) w hsz' (hon'.put hs hd hx (Rest.refl w)) (hcl.step hmem)
              (fun y hy hp => hnow' y hy hp.less) hD
            have h2 := wpAnyG_first (P := P) hc ho (Region.noSelect_spec hsel) (fun c a w h => absurd h (hQp _ _ _)) hfl hφ fuel listed a w hsz (Region.free_spec ho hfree) hmem hy hcl hnow' h1
            exact wpAnyG_mono (fun _ => True) (fun _ _ _ => trivial) (fun l j w' _ _ hg y hy hp hor => hg y (hsub y hy) hp hor) _ _ _ _ trivial h2
          refine guard_sound hon.hfr h (fun fr' hF hA hw hy => ?_) (fun fr' hF hA hw hn => ?_)
          · have hon' : On (asgR ops.toList) fr0 n df w0 fr' a w := ⟨hF, hon.ag.trans hA, hon.sz, hon.df, hon.rest⟩
            split at hy
            · obtain ⟨x, v, h1, h2, h3⟩ := Dpure_sound (P := P) hF hy
              exact take held (fun _ => True) v x fr' hon' h1 (fun _ h => h) (.inr fun _ => trivial) (.inl ⟨hw, fun w _ => h3 w⟩) hnow h2
            · unfold Dload at hy
              split at hy
              · rename_i t x hop
                split at hy
                · rename_i p hx
                  obtain ⟨_, hv⟩ := ev_dv hF hx
                  obtain ⟨d, hok, hcell, hK, hrun⟩ := ldT_sound hy
                  refine take ((i, fun h' => hcs h' p (flats d.chs)) :: held) _ d.flat (.dv d) fr' hon' ⟨hok, rfl⟩ (fun _ h => List.mem_cons_of_mem _ h) (.inl List.mem_cons_self) (.inl ⟨hw, fun w' hw' => ?_⟩) ?_ hK
                  · have := hrun w' hw'
                    unfold execOp
                    rw [hop]
                    simp [hv, DV.flat, Instr.loadAt, Instr.sureAddr]
                    rw [this]
                    rfl
                  · intro y hy hp
                    rcases List.mem_cons.1 hy with rfl | hy
                    · exact hcell
                    · exact hnow y hy hp
                · exact hy.elim
              · exact hy.elim
          · have hon' : On (asgR ops.toList) fr0 n df w0 fr' a w := ⟨hF, hon.ag.trans hA, hon.sz, hon.df, hon.rest⟩
            exact take held (fun _ => True) undef .nd fr' hon' rfl (fun _ h => h) (.inr fun _ => trivial) (.inr ⟨hw, rfl⟩) hnow hn
        · exact h.elim
      · refine ⟨fun h0 => (by rw [h0] at hr; cases hr), fun i hi => ?_⟩
        have h := allL_mem h i (by rw [← hr]; exact hi)
        split at h
        · rename_i o ho
          have hd : ∀ j, o.dst = some j → j ∈ asgR ops.toList := fun j hj => mem_asgR (by simpa using Array.mem_of_getElem? ho) hj
          have hsz' : (listed.setIfInBounds i true).size = ops.size := by simp [hsz]
          have past : ∀ x, x ∈ held → (floatAt P ops.toList i = true ∨ ancB clo x.1 i = false) → x ∈ heldPast P ops clo i held := by
            intro x hx hor
            unfold heldPast
            split
            · exact hx
            · rename_i hf
              rcases hor with h | h
              · rw [h] at hf; cases hf
              · exact List.mem_filter.2 ⟨hx, by simp [h]⟩
          have pastsub : ∀ x, x ∈ heldPast P ops clo i held → x ∈ held := by
            intro x hx
            unfold heldPast at hx
            split at hx
            · exact hx
            · exact (List.mem_filter.1 hx).1
          have cont : ∀ (a' : Act) (w' : World), wpAnyG P ops Q (Gh P ops clo (heldPast P ops clo i held)) fuel (listed.setIfInBounds i true) a' w' → wpAnyG P ops Q (Gh P ops clo held) fuel (listed.setIfInBounds i true) a' w' := by
            intro a' w' hg
            refine wpAnyG_mono (fun l => l.getD i false = true) (fun l j hl => getD_set_true hl) ?_ _ _ _ _ (by simp [hsz, ready_lt hi]) hg
            intro l j w'' hl _ hg x hx hp hor
            refine hg x (past x hx ?_) hp hor
            cases hf : floatAt P ops.toList i with
            | true => exact .inl rfl
            | false => exact .inr (hp i (ready_lt hi) hl hf)
          refine guard_sound hon.hfr h (fun fr' hF hA hw hy => ?_) (fun fr' hF hA hw hn => ?_)
          · have hon' : On (asgR ops.toList) fr0 n df w0 fr' a w := ⟨hF, hon.ag.trans hA, hon.sz, hon.df, hon.rest⟩
            unfold wpOp
            simp only [ho]
            rw [if_pos hw]
            refine .inl (wp_of_next (Dop_sound hT hF hy) fun x v w' h1 h2 h3 => ?_)
            obtain ⟨h4, h5⟩ := heldAll_spec h3
            have hg : Gh P ops clo held listed i w' := fun y hy _ hor => h4 y (past y hy hor)
            refine ⟨hg, cont _ _ (ih _ _ _ _ _ hsz' (hon'.put hs hd h2 h1) (hcl.step hi) ?_ h5)⟩
            exact fun y hy hp => h4 y hy
          · have hon' : On (asgR ops.toList) fr0 n df w0 fr' a w := ⟨hF, hon.ag.trans hA, hon.sz, hon.df, hon.rest⟩
            unfold wpOp
            simp only [ho]
            rw [if_neg (by rw [hw]; simp)]
            refine ⟨fun y hy hp _ => hnow y hy hp, cont _ _ (ih _ _ _ _ _ hsz' (hon'.put hs hd (x := .nd) rfl (Rest.refl w)) (hcl.step hi) ?_ hn)⟩
            exact fun y hy hp => hnow y (pastsub y hy) hp.less
        · exact h.elim
end
end Go.Vc
