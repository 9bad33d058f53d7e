/- The frame of a law's row; slices that came in. Own work; generic over any program. -/
import Derived.Test.YtamfkofcpoglnaaRd
set_option autoImplicit false
set_option linter.all false
set_option maxRecDepth 100000
set_option linter.unusedVariables false
namespace Go.Vc
open Go.ChangeShapes Go.WideShapes Go.ChangeAt Go.RowKit
section
variable {D : Type} {enc : TypeId × Value → D} {P : Program} {W : World}

theorem below_of {W W' : World} (r : Rest W W') (x : Ext none_ W.heap W'.heap) (ho : True) : Below W.heap.size W W' :=
  ⟨r.2.1, r.1, r.2.2, x.size, fun k hk => x.eq k hk (fun y => y)⟩

theorem law_post {f : Func} {s : ChangeSpec} {W' : World} {args : Array Value} {ds gs : List (DataW D)} {before : List MemPlace} {tb : TypeId} (hl : laidOutB P = true) (hvars : s.vars = [])
    (hty : ∀ t, t ∈ f.params.toList → P.readableRec t = true ∧ t < P.types.size) (hres : f.resultTypes = #[tb]) (ub : P.underlying tb = some .bool) (hfn : s.fn D (ds ++ gs) = { results := [.lit (.bool true)], args := ds })
    (hW : DataW.Whole enc P f.params.toList s.vars false W args.toList ds gs before) (hb : Below W.heap.size W W') : s.post enc P f false true false false W args (.bool true) W' := by
  have hW0 := hW
  have hlt := hW.lt
  obtain ⟨p, q, h1, h2, rfl, h3, h4⟩ := hW
  rw [hvars] at h2
  obtain ⟨rfl, rfl⟩ := trodVars_none h2
  rw [List.append_nil] at hlt
  refine ⟨ds, [], p ++ [], [], p, [], hW0, ?_, ?_, ?_, hb.frame _, fun h => by cases h⟩
  · rw [hfn, hres]
    exact trodAll_mk1 (shut_bool ub true)
  · rw [hfn]
    have key : ∀ (ts : List TypeId) (vs : List Value) (ds : List (DataW D)) (p : List MemPlace), (∀ t, t ∈ ts → P.readableRec t = true ∧ t < P.types.size) → (∀ x ∈ p, x.block < W.heap.size) →
        DataW.TrodAll enc P W 0 (fun _ => true) true ts vs ds p → DataW.TrodAll enc P W' 0 (fun b => decide (b < W.heap.size)) true ts vs ds p := by
      intro ts
      induction ts with
      | nil => intro vs ds p _ _ h; cases vs <;> cases ds <;> exact h
      | cons t ts ih =>
        intro vs ds p ht hp h
        cases vs with
        | nil => cases h
        | cons v vs => cases ds with
          | nil => cases h
          | cons d ds =>
            obtain ⟨a, b, ha, hb', rfl⟩ := h
            exact ⟨a, b, Below.trod hl (ht t (by simp)).1 (ht t (by simp)).2 ha hb (fun x hx => hp x (by simp [hx])), ih vs ds b (fun t' h' => ht t' (by simp [h'])) (fun x hx => hp x (by simp [hx])) hb', rfl⟩
    exact key _ _ _ _ hty hlt h1
  · rw [hfn, hvars]; rfl

theorem whole_rdt {ts : List TypeId} {vs : List Value} {ds gs : List (DataW D)} {vars : List TypeId}
    (h : ∃ p, DataW.TrodAll enc P W 0 (fun _ => true) true ts vs ds p) (hz : (DataW.weightsEach P (ts ++ vars) (ds ++ gs)).all (· ≤ reachBytes) = true) :
    ∀ (j : Nat) (t : TypeId) (v : Value), ts[j]? = some t → vs[j]? = some v → Rdt enc P W t v.cells.toList := by
  obtain ⟨p, h⟩ := h
  induction ts generalizing vs ds p with
  | nil => intro j t v ht; simp at ht
  | cons t0 ts ih =>
    cases vs with
    | nil => cases h
    | cons v0 vs => cases ds with
      | nil => cases h
      | cons d ds =>
        obtain ⟨a, b, ha, hb', rfl⟩ := h
        simp only [List.cons_append, DataW.weightsEach, List.all_append, Bool.and_eq_true] at hz
        intro j t v ht hv
        cases j with
        | zero =>
          simp only [List.getElem?_cons_zero, Option.some.injEq] at ht hv
          subst ht; subst hv
          obtain ⟨fuel, hf⟩ := ha
          exact ⟨fuel, _, hf, fun n hn => by simpa using List.all_eq_true.1 hz.1 n hn⟩
        | succ j => exact ih hz.2 b hb' j t v (by simpa using ht) (by simpa using hv)

theorem okw_agg {t : TypeId} {v : Value} {base : Nat} {r : Reach} (u : (match P.underlying t with | some (.struct _) => true | some (.array _ _) => true | _ => false) = true) (h : Value.okWide P W r base t v) : v = .agg v.cells := by
  unfold Value.okWide at h
  split at h
  · obtain ⟨cs, rfl, _⟩ := h; rfl
  · obtain ⟨cs, rfl, _⟩ := h; rfl
  · rename_i h1 h2
    split at u
    · rename_i h3; exact absurd h3 (h1 _)
    · rename_i h3; exact absurd h3 (h2 _ _)
    · cases u
theorem okw_one {t : TypeId} {v : Value} {base : Nat} {r : Reach} (u : (match P.underlying t with | some (.struct _) => false | some (.array _ _) => false | some _ => true | none => false) = true) (h : Value.okWide P W r base t v) {x : Value} (hx : v.cells.toList = [x]) : v = x := by
  cases v with
  | agg cs =>
    exfalso
    unfold Value.okWide at h
    split at h
    · rename_i h1; rw [h1] at u; cases u
    · rename_i h1; rw [h1] at u; cases u
    · unfold Cell.okWide at h
      split at h <;> first | (simp_all; done) | skip
      unfold Cell.ok at h
      split at h <;> simp_all
  | _ => simpa [Value.cells] using hx

theorem XM.one : ∀ {s : List XSh} {c : List Value}, XM enc P W s c → ∀ v, v ∈ c → v.oneCell' = true
  | [], c, h => by simp only [XM] at h; subst h; simp
  | .int k :: r, c, h => by
    obtain ⟨n, rest, rfl, _, h⟩ := h; intro v hv
    rcases List.mem_cons.1 hv with rfl | hv
    · rfl
    · exact XM.one h v hv
  | .bool :: r, c, h => by
    obtain ⟨n, rest, rfl, h⟩ := h; intro v hv
    rcases List.mem_cons.1 hv with rfl | hv
    · rfl
    · exact XM.one h v hv
  | .str :: r, c, h => by
    obtain ⟨n, rest, rfl, _, h⟩ := h; intro v hv
    rcases List.mem_cons.1 hv with rfl | hv
    · rfl
    · exact XM.one h v hv
  | .slc e :: r, c, h => by
    obtain ⟨p, l, c, rest, rfl, _, h⟩ := h; intro v hv
    rcases List.mem_cons.1 hv with rfl | hv
    · rfl
    · exact XM.one h v hv
  | .row k n :: r, c, h => by
    obtain ⟨ns, rest, rfl, _, _, h⟩ := h; intro v hv
    rcases List.mem_append.1 hv with hv | hv
    · exact ints_one _ _ v hv
    · exact XM.one h v hv

/-- The elements of a slice that came in, one behind the other. -/
theorem Sli.els {e : TypeId} {p : Option Addr} {l c d : Nat} {s : List XSh} (hs : Sli enc P W e p l c) (hx : xsh P d e = some s) :
    ∃ ess : List (List Value), ess.length = l ∧ (∀ es, es ∈ ess → es.length = P.cellsOf e ∧ XM enc P W s es) ∧ hsv W.heap p (P.cellsOf e) l ess.flatten ∧
      ∀ i (hi : i < ess.length), ∃ a, p = some a ∧ hcs W.heap (a.add (i * P.cellsOf e)) ess[i] := by
  obtain ⟨_, _, hn, hi⟩ := hs
  have key : ∀ m, m ≤ l → ∃ ess : List (List Value), ess.length = m ∧ (∀ es, es ∈ ess → es.length = P.cellsOf e ∧ XM enc P W s es) ∧ ∀ i (hi : i < ess.length), ∃ a, p = some a ∧ hcs W.heap (a.add (i * P.cellsOf e)) ess[i] := by
    intro m
    induction m with
    | zero => intro _; exact ⟨[], rfl, by simp, fun i hi => by simp at hi⟩
    | succ m ih =>
      intro hm
      obtain ⟨ess, h1, h2, h3⟩ := ih (by omega)
      obtain ⟨a, es, ha, hl, hc, hr⟩ := hi m (by omega)
      refine ⟨ess ++ [es], by simp [h1], ?_, ?_⟩
      · intro x hxm
        rcases List.mem_append.1 hxm with hxm | hxm
        · exact h2 x hxm
        · simp at hxm; subst hxm; exact ⟨hl, Rdt.xm d e s x hx hr⟩
      · intro i hi
        by_cases hie : i < ess.length
        · rw [List.getElem_append_left hie]; exact h3 i hie
        · have : i = m := by simp at hi; omega
          subst this
          refine ⟨a, ha, ?_⟩
          rw [List.getElem_append_right (by omega)]
          simpa [h1] using hc
  obtain ⟨ess, h1, h2, h3⟩ := key l (Nat.le_refl _)
  refine ⟨ess, h1, h2, ⟨?_, ?_, ?_⟩, h3⟩
  · have : ∀ (ess : List (List Value)), (∀ es, es ∈ ess → es.length = P.cellsOf e) → ess.flatten.length = ess.length * P.cellsOf e := by
      intro ess
      induction ess with
      | nil => intro _; simp
      | cons x r ih => intro h; simp [ih (fun y hy => h y (by simp [hy])), h x (by simp), Nat.succ_mul]; omega
    rw [this ess (fun es he => (h2 es he).1), h1]
  · intro v hv
    obtain ⟨es, he, hv⟩ := List.mem_flatten.1 hv
    exact (h2 es he).2.one v hv
  · cases p with
    | none =>
      left
      have := (hn rfl).1
      rw [this] at h1
      rw [List.eq_nil_of_length_eq_zero h1]; rfl
    | some a =>
      right
      refine ⟨a, rfl, ?_⟩
      have key : ∀ (k : Nat) (fs : List (List Value)), ess.drop k = fs → ∀ i v, fs.flatten[i]? = some v → hc W.heap (a.add (k * P.cellsOf e + i)) = some v := by
        intro k fs
        induction fs generalizing k with
        | nil => intro _ i v hv; simp at hv
        | cons x r ih =>
          intro hd i v hv
          have hk : k < ess.length := by
            rcases Nat.lt_or_ge k ess.length with h | h
            · exact h
            · rw [List.drop_eq_nil_of_le h] at hd; cases hd
          rw [List.drop_eq_getElem_cons hk] at hd
          injection hd with hx1 hx2
          have hxl : x.length = P.cellsOf e := by rw [← hx1]; exact (h2 _ (List.getElem_mem hk)).1
          obtain ⟨a', ha', hcx⟩ := h3 k hk
          injection ha' with ha'; subst ha'
          rw [hx1] at hcx
          simp only [List.flatten_cons] at hv
          by_cases hi : i < x.length
          · rw [List.getElem?_append_left hi] at hv
            have := hcx i v hv
            have e2 : (a.add (k * P.cellsOf e)).add i = a.add (k * P.cellsOf e + i) := by
              cases a with | mk b o sp => unfold Addr.add; by_cases h1 : k * P.cellsOf e = 0 <;> by_cases h2 : i = 0 <;> simp [h1, h2, Nat.add_assoc]
            rw [e2] at this; exact this
          · rw [List.getElem?_append_right (by omega)] at hv
            have := ih (k + 1) hx2 _ _ hv
            rw [Nat.succ_mul] at this
            rw [show k * P.cellsOf e + i = k * P.cellsOf e + P.cellsOf e + (i - x.length) by omega]
            exact this
      intro i v hv
      have := key 0 ess (by simp) i v hv
      simpa using this

theorem trodAll_len : ∀ {ts : List TypeId} {vs : List Value} {ds : List (DataW D)} {p : List MemPlace} {W : World} {base : Nat} {sp : Nat → Bool} {hd : Bool}, DataW.TrodAll enc P W base sp hd ts vs ds p → vs.length = ts.length ∧ ds.length = ts.length
  | [], vs, ds, p, W, base, sp, hd, h => by obtain ⟨rfl, rfl, rfl⟩ := trodAll_nil h; exact ⟨rfl, rfl⟩
  | t :: ts, vs, ds, p, W, base, sp, hd, h => by
    obtain ⟨v, vs', d, ds', p', q', rfl, rfl, rfl, _, hr⟩ := trodAll_cons h
    have := trodAll_len hr
    simp [this.1, this.2]

/-- What is known of the arguments. -/
def ArgsOk (enc : TypeId × Value → D) (P : Program) (W : World) (base : Nat) (ts : List TypeId) (vs : List Value) : Prop :=
  vs.length = ts.length ∧ ∀ (j : Nat) (t : TypeId) (v : Value), ts[j]? = some t → vs[j]? = some v → Rdt enc P W t v.cells.toList ∧ Value.okWide P W .any base t v
/-- The law's code answers true, and leaves all old memory as it was. -/
abbrev CallsTrue (P : Program) (f : FuncId) (vs : List Value) (W : World) : Prop := callsV P f vs (fun rs h' => rs = [DV.one (.bool true)] ∧ Ext none_ W.heap h') W.heap
theorem law_go {f : FuncId} {fn : Func} {s : ChangeSpec} {args : Array Value} {ds gs : List (DataW D)} {before : List MemPlace} {tb : TypeId} {base : Nat} (ts : List TypeId) (hts : fn.params = ts.toArray) (hl : laidOutB P = true) (hvars : s.vars = [])
    (hty : (ts.all fun t => P.readableRec t && decide (t < P.types.size)) = true) (hres : fn.resultTypes = #[tb]) (ub : P.underlying tb = some .bool)
    (hfn : ∀ ds : List (DataW D), ds.length = ts.length → s.fn D ds = { results := [.lit (.bool true)], args := ds })
    (hval : ∀ (j : Nat) t v, fn.params[j]? = some t → args[j]? = some v → Value.okWide P W .any base t v)
    (hW : DataW.Whole enc P fn.params.toList s.vars false W args.toList ds gs before) (hsz : (DataW.weightsEach P (fn.params.toList ++ s.plain.varTypes P) (ds ++ gs)).all (· ≤ reachBytes) = true)
    (main : ∀ vs, ArgsOk enc P W base ts vs → CallsTrue P f vs W) :
    Calls P f args W fun e W' => ∃ v, e = .returned v ∧ s.post enc P fn false true false false W args v W' := by
  have hW0 := hW
  obtain ⟨p, q, h1, h2, rfl, h3, h4⟩ := hW
  have h2' := h2
  rw [hvars] at h2'
  obtain ⟨rfl, rfl⟩ := trodVars_none h2'
  have hlen := trodAll_len h1
  have hpl : fn.params.toList = ts := by rw [hts]
  have hrd := whole_rdt ⟨p, h1⟩ hsz
  rw [hpl] at hrd hlen
  have hm := main args.toList ⟨hlen.1, fun j t v ht hv => ⟨hrd j t v ht hv, hval j t v (by rw [hts]; simpa using ht) (by simpa using hv)⟩⟩
  have hc := hm.2 W rfl
  rw [show args.toList.toArray = args by simp] at hc
  refine hc.mono fun e W' he => ?_
  obtain ⟨xs, _, rfl, hr, rfl, hx⟩ := he
  refine ⟨.bool true, rfl, ?_⟩
  refine law_post hl hvars ?_ hres ub (by rw [List.append_nil]; exact hfn ds hlen.2) hW0 (below_of hr hx trivial)
  intro t ht
  rw [hpl] at ht
  have := List.all_eq_true.1 hty t ht
  simp only [Bool.and_eq_true, decide_eq_true_eq] at this
  exact this
end
end Go.Vc
