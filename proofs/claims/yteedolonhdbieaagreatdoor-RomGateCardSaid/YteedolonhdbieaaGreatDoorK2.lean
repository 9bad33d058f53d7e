/- RomGate: what is proved and its parts, laid together by a program of ours: Vce Vcf -/
import Derived.Test.YteedolonhdbieaaGreatDoorK1
set_option autoImplicit false
set_option linter.all false
/- The denotation is sound, last part: code, and functions. Own work; generic over any program. -/
section
namespace Go.Vc
variable {P : Program}

/-- What the end of a piece of code is like. -/
def Post (s : List Nat) (fr0 : Fr) (n : Nat) (df : List Deferred) (w0 : World) (Q : Cont) : Exit → Act → World → Prop
  | .panic _, _, _ => False
  | .outgrown, _, _ => False
  | e, a, w => ∃ fr, On s fr0 n df w0 fr a w ∧ Q e fr w.heap

theorem get_erase (ds : List Nat) (fr : Fr) (i : Nat) : get (erase ds fr) i = if i ∈ ds then .un else get fr i := by
  induction ds with
  | nil => simp [erase]
  | cons d r ih =>
    simp only [erase, get, List.mem_cons]
    cases h : Nat.beq i d with
    | true => have := Nat.eq_of_beq_eq_true h; simp [this]
    | false => have := Nat.ne_of_beq_eq_false h; simp [this, ih]
theorem FR_cons {fr : Fr} {tmps : Array Value} (h : FR fr tmps) {i : Nat} {v : SV} (hv : v.rel (tmps.getD i undef)) : FR ((i, v) :: fr) tmps := fun j => by
  have := get_putO fr (some i) v j
  simp only [putO, Option.some.injEq] at this
  rw [this]
  split
  · rename_i e; subst e; exact hv
  · exact h j
theorem norm_rel {k : KS} {s : SV} {v : Value} (h : s.rel v) : (normSV k s).rel v := by
  unfold normSV
  split
  · exact ⟨rfl, h.2⟩
  · exact ⟨h.1, h.2⟩
  · exact ⟨h.1, h.2⟩
  · trivial
  · exact h
theorem FR_keep {keep : Keep} {fr fr' : Fr} {tmps : Array Value} (h : FR fr tmps) (h' : FR fr' tmps) : FR (putKeep keep (keepVals keep fr) fr') tmps := by
  induction keep with
  | nil => exact h'
  | cons k r ih => exact FR_cons ih (norm_rel (h k.1))
theorem Agree_keep {s : List Nat} {keep : Keep} {vs : List SV} {fr fr' : Fr} (h : Agree s fr fr') (hk : ∀ x, x ∈ keep → x.1 ∈ s) : Agree s fr (putKeep keep vs fr') := by
  induction keep generalizing vs with
  | nil => exact h
  | cons k r ih =>
    obtain ⟨i, sh⟩ := k
    cases vs with
    | nil => exact h
    | cons v vs =>
      have := (ih (vs := vs) (fun x hx => hk x (by simp [hx]))).putO (d := some i) (fun j hj => by injection hj with hj; subst hj; exact hk (i, sh) (by simp)) v
      exact this
theorem FR_erase {s : List Nat} {fr fr' : Fr} {tmps : Array Value} (h : FR fr' tmps) (ha : Agree s fr fr') : FR (erase s fr) tmps := by
  intro i
  rw [get_erase]
  split
  · trivial
  · rename_i hi; rw [← ha i hi]; exact h i
theorem Agree_erase (s : List Nat) (fr : Fr) : Agree s fr (erase s fr) := fun i hi => by rw [get_erase, if_neg hi]

theorem all1_imp {s : Sh} {K : DV → Prop} (h : ∀ x, K x) : all1 s K := by
  cases s <;> simp only [all1] <;> intros <;> exact h _
theorem allSh_imp : ∀ {l : List Sh} {K : List Ch → Prop}, (∀ cs, K cs) → allSh l K := by
  intro l
  induction l with
  | nil => intro K h; exact h _
  | cons s r ih =>
    intro K h
    cases s <;> simp only [allSh]
    case row k n => intro ns _; exact ih fun cs => h _
    all_goals exact all1_imp fun x => ih fun cs => h _
theorem allKS_imp : ∀ {l : List KS} {K : List SV → Prop}, (∀ vs, K vs) → allKS l K := by
  intro l
  induction l with
  | nil => intro K h; exact h _
  | cons s r ih =>
    intro K h
    cases s with
    | sc s => exact all1_imp fun x => ih fun l => h _
    | addr => intro p; exact ih fun l => h _
    | ag l => exact allSh_imp fun cs => ih fun l => h _
    | un => exact ih fun l => h _

/-- All the kept slots of an annotation at a place are written there. -/
def keepOk (keep : Keep) (as : List Nat) : Bool := keep.all fun x => as.contains x.1
def annOk (ann : Ann) (p : Nat) (as : List Nat) : Bool := match annAt ann p with | none => true | some keep => keepOk keep as
/-- An annotation fits the code. -/
def annFits (ann : Ann) : Code → Nat → Bool
  | .seq a b, p => annOk ann p (asg a) && annFits ann a (2 * p) && annFits ann b (2 * p + 1)
  | .cond _ a b, p => annFits ann a (2 * p) && annFits ann b (2 * p + 1)
  | .block _ b, p => annOk ann p (asg b) && annFits ann b (2 * p)
  | .loop b, p => annOk ann p (asg b) && annFits ann b (2 * p)
  | .scope b, p => annFits ann b (2 * p)
  | _, _ => true
theorem keepOk_spec {keep : Keep} {as : List Nat} (h : keepOk keep as = true) : ∀ x, x ∈ keep → x.1 ∈ as := fun x hx => by
  unfold keepOk at h
  rw [List.all_eq_true] at h
  simpa using h x hx

theorem jn_sound {ann : Ann} {p : Nat} {as : List Nat} {fr : Fr} {K : Fr → H → Prop} {body : (Fr → H → Prop) → Prop} (hok : annOk ann p as = true) (h : jn ann p as fr K body) :
    ∃ K', body K' ∧ ∀ (fr' : Fr) (h' : H), K' fr' h' → ∃ fr'', K fr'' h' ∧ (∀ tmps, FR fr' tmps → Agree as fr fr' → FR fr'' tmps) ∧ (Agree as fr fr' → Agree as fr fr'') := by
  unfold jn at h
  unfold annOk at hok
  split at h
  · exact ⟨K, h, fun fr' h' hk => ⟨fr', hk, fun _ h _ => h, fun h => h⟩⟩
  · rename_i keep hk
    rw [hk] at hok
    have hmem := keepOk_spec hok
    refine ⟨_, h (fun vs h' => K (putKeep keep vs (erase as fr)) h') (allKS_imp fun vs h' hk => hk), fun fr' h' hk' => ⟨_, hk', fun tmps hF hA => ?_, fun hA => ?_⟩⟩
    · exact FR_keep hF (FR_erase hF hA)
    · exact Agree_keep (Agree_erase as fr) hmem

theorem On.sub {s s' : List Nat} {fr0 fr : Fr} {n : Nat} {df : List Deferred} {w0 w : World} {a : Act} (h : On s fr0 n df w0 fr a w) (hs : ∀ i, i ∈ s → i ∈ s') : On s' fr0 n df w0 fr a w :=
  ⟨h.hfr, h.ag.mono hs, h.sz, h.df, h.rest⟩
theorem On.refl {s : List Nat} {fr : Fr} {a : Act} {w : World} (h : FR fr a.tmps) : On s fr a.tmps.size a.defers w fr a w := ⟨h, Agree.refl _ _, rfl, rfl, Rest.refl w⟩
/-- From one point on, seen from an earlier one. -/
theorem On.trans {s : List Nat} {fr0 fr1 fr2 : Fr} {n : Nat} {df : List Deferred} {w0 w1 w2 : World} {a1 a2 : Act} (h : On s fr0 n df w0 fr1 a1 w1) (k : On s fr1 a1.tmps.size a1.defers w1 fr2 a2 w2) : On s fr0 n df w0 fr2 a2 w2 :=
  ⟨k.hfr, h.ag.trans k.ag, by rw [k.sz, h.sz], by rw [k.df, h.df], h.rest.trans k.rest⟩

/-- From the head of a loop's round on. -/
def LoopWp (P : Program) (c : Code) (Q : Exit → Act → World → Prop) (a : Act) (w : World) : Prop :=
  ∀ (b : Frame) (k : List Item) (cs : List Frame), ∃ e a' w', Q e a' w' ∧ Arrives P (lone (b.at a (.code c :: .inLoop c :: k)) cs w) b k cs e a' w'
theorem LoopWp.loop {c : Code} {Q : Exit → Act → World → Prop} {a : Act} {w : World} (h : LoopWp P c Q a w) : (Code.loop c).wp P Q a w := fun b k cs =>
  let ⟨e, a', w', q, r⟩ := h b k cs; ⟨e, a', w', q, .of_steps (.one step_loop) r⟩
theorem LoopWp.unroll {c : Code} {Q : Exit → Act → World → Prop} {a : Act} {w : World} (h : c.wp P (Exit.then (LoopWp P c Q) Q) a w) : LoopWp P c Q a w := by
  intro b k cs
  obtain ⟨e, a₁, w₁, hq, harr⟩ := h b (.inLoop c :: k) cs
  cases e with
  | normal =>
    obtain ⟨e2, a2, w2, q2, r2⟩ := hq b k cs
    exact ⟨e2, a2, w2, q2, .of_steps (Steps.trans harr (.one step_inLoop)) r2⟩
  | exit id => exact ⟨_, a₁, w₁, hq, .pass (x := .inLoop c) rfl (fun _ _ => .inl (by simp)) harr⟩
  | goto l => exact ⟨_, a₁, w₁, hq, .pass (x := .inLoop c) rfl (fun _ _ => .inl (by simp)) harr⟩
  | ret => exact ⟨_, a₁, w₁, hq, .pass (x := .inLoop c) rfl (fun _ _ => .inl (by simp)) harr⟩
  | panic ch => exact ⟨_, a₁, w₁, hq, .pass (x := .inLoop c) rfl (fun _ _ => .inl (by simp)) harr⟩
  | outgrown => exact ⟨_, a₁, w₁, hq, .pass (x := .inLoop c) rfl (fun _ _ => .inl (by simp)) harr⟩

theorem D_sound {T : Tbl} (hT : TblOk P T) (ann : Ann) : ∀ (c : Code) (p : Nat) (Q : Cont) (fr : Fr) (a : Act) (w : World), annFits ann c p = true → (∀ d, d ∈ asg c → d < a.tmps.size) → FR fr a.tmps → D P T ann c p Q fr w.heap →
    c.wp P (Post (asg c) fr a.tmps.size a.defers w Q) a w := by
  intro c
  induction c with
  | skip => intro p Q fr a w _ _ hF h; exact wp_skip ⟨fr, On.refl hF, h⟩
  | label l => intro p Q fr a w _ _ hF h; exact wp_label ⟨fr, On.refl hF, h⟩
  | ret => intro p Q fr a w _ _ hF h; exact wp_ret ⟨fr, On.refl hF, h⟩
  | exit id => intro p Q fr a w _ _ hF h; exact wp_exit ⟨fr, On.refl hF, h⟩
  | region id ops draw =>
    intro p Q fr a w _ hs hF h
    have hQ : ∀ fr' a' w', On (asgR ops.toList) fr a.tmps.size a.defers w fr' a' w' → Q .normal fr' w'.heap → Post (asg (.region id ops draw)) fr a.tmps.size a.defers w Q .normal a' w' := fun fr' a' w' hon hq => ⟨fr', hon, hq⟩
    cases draw with
    | false =>
      simp only [D] at h
      exact wp_region_list (Dops_sound hT hs hQ ops.toList fr a w (fun _ h => h) (On.refl hF) h)
    | true =>
      simp only [D] at h
      unfold Ddraw at h
      split at h
      · rename_i hm hsel hclo
        refine wp_region_any hm (wpAny_of_G _ _ _ _ (G := Gh P ops (Region.before ops) []) ?_)
        have hd := DH_sound (P := P) (Q := Post (asg (.region id ops true)) fr a.tmps.size a.defers w Q) hT hclo hsel hs hQ (fun c a w h => h) ops.size (Array.replicate ops.size false) [] fr a { w with drawn := w.drawn + 1 } (by simp)
          ⟨hF, Agree.refl _ _, rfl, rfl, ⟨rfl, rfl, rfl⟩⟩ (fun k o _ hl => by
            by_cases hk : k < ops.size <;> simp [hk] at hl) (fun x hx => by cases hx) h
        exact hd
      · exact h.elim
  | seq x y ihx ihy =>
    intro p Q fr a w hann hs hF h
    simp only [annFits, Bool.and_eq_true] at hann
    simp only [D] at h
    obtain ⟨K', hb, hK⟩ := jn_sound hann.1.1 h
    have hsx : ∀ d, d ∈ asg x → d < a.tmps.size := fun d hd => hs d (by simp [asg, hd])
    have hsy : ∀ d, d ∈ asg y → d < a.tmps.size := fun d hd => hs d (by simp [asg, hd])
    refine wp_seq (wp_mono (ihx (2 * p) _ fr a w hann.1.2 hsx hF hb) fun e a1 w1 hp => ?_)
    cases e with
    | normal =>
      obtain ⟨fr1, hon, hq⟩ := hp
      obtain ⟨fr2, hk, h1, h2⟩ := hK fr1 _ hq
      have hF2 := h1 _ hon.hfr hon.ag
      have hA2 := h2 hon.ag
      have hon2 : On (asg x) fr a.tmps.size a.defers w fr2 a1 w1 := ⟨hF2, hA2, hon.sz, hon.df, hon.rest⟩
      refine wp_mono (ihy (2 * p + 1) Q fr2 a1 w1 hann.2 (fun d hd => by rw [hon.sz]; exact hsy d hd) hF2 hk) fun e a2 w2 hp2 => ?_
      have sub1 : ∀ i, i ∈ asg x → i ∈ asg (.seq x y) := fun i hi => by simp [asg, hi]
      have sub2 : ∀ i, i ∈ asg y → i ∈ asg (.seq x y) := fun i hi => by simp [asg, hi]
      cases e <;> first | exact hp2.elim | (obtain ⟨fr3, hon3, hq3⟩ := hp2; exact ⟨fr3, (hon2.sub sub1).trans (hon3.sub sub2), hq3⟩)
    | panic c => exact hp.elim
    | outgrown => exact hp.elim
    | _ => obtain ⟨fr1, hon, hq⟩ := hp; exact ⟨fr1, hon.sub (fun i hi => by simp [asg, hi]), hq⟩
  | cond c x y ihx ihy =>
    intro p Q fr a w hann hs hF h
    simp only [annFits, Bool.and_eq_true] at hann
    simp only [D] at h
    split at h
    · rename_i t hc
      obtain ⟨_, hv⟩ := ev_dv hF hc
      have post : ∀ s, (∀ i, i ∈ s → i ∈ asg (.cond c x y)) → ∀ e a' w', Post s fr a.tmps.size a.defers w Q e a' w' → Post (asg (.cond c x y)) fr a.tmps.size a.defers w Q e a' w' := by
        intro s hsub e a' w' hp
        cases e <;> first | exact hp.elim | (obtain ⟨fr1, hon, hq⟩ := hp; exact ⟨fr1, hon.sub hsub, hq⟩)
      cases t with
      | true =>
        refine wp_cond (t := true) hv ?_
        exact wp_mono (ihx (2 * p) Q fr a w hann.1 (fun d hd => hs d (by simp [asg, hd])) hF h) (post _ (fun i hi => by simp [asg, hi]))
      | false =>
        simp only [Bool.false_eq_true, if_false] at h
        refine wp_cond (t := false) hv ?_
        exact wp_mono (ihy (2 * p + 1) Q fr a w hann.2 (fun d hd => hs d (by simp [asg, hd])) hF h) (post _ (fun i hi => by simp [asg, hi]))
    · exact h.elim
  | block id b ih =>
    intro p Q fr a w hann hs hF h
    simp only [annFits, Bool.and_eq_true] at hann
    simp only [D] at h
    obtain ⟨K', hb, hK⟩ := jn_sound hann.1 h
    refine wp_block (wp_mono (ih (2 * p) _ fr a w hann.2 hs hF hb) fun e a1 w1 hp => ?_)
    have norm : ∀ fr1, On (asg b) fr a.tmps.size a.defers w fr1 a1 w1 → K' fr1 w1.heap → Post (asg (.block id b)) fr a.tmps.size a.defers w Q .normal a1 w1 := by
      intro fr1 hon hq
      obtain ⟨fr2, hk, h1, h2⟩ := hK fr1 _ hq
      exact ⟨fr2, ⟨h1 _ hon.hfr hon.ag, h2 hon.ag, hon.sz, hon.df, hon.rest⟩, hk⟩
    cases e with
    | normal => obtain ⟨fr1, hon, hq⟩ := hp; exact norm fr1 hon hq
    | exit j =>
      obtain ⟨fr1, hon, hq⟩ := hp
      simp only [blockQ] at hq
      show Exit.inBlock id _ (.exit j) a1 w1
      simp only [Exit.inBlock]
      cases hb : Nat.beq j id with
      | true =>
        rw [hb] at hq
        rw [if_pos (Nat.eq_of_beq_eq_true hb)]
        exact norm fr1 hon hq
      | false =>
        rw [hb] at hq
        rw [if_neg (Nat.ne_of_beq_eq_false hb)]
        exact ⟨fr1, hon, hq⟩
    | panic c => exact hp.elim
    | outgrown => exact hp.elim
    | _ => obtain ⟨fr1, hon, hq⟩ := hp; exact ⟨fr1, hon, hq⟩
  | loop b ih =>
    intro p Q fr a w hann hs hF h
    simp only [annFits, Bool.and_eq_true] at hann
    simp only [D] at h
    split at h
    · exact h.elim
    · rename_i keep hk
      have hok := hann.1
      unfold annOk at hok
      rw [hk] at hok
      have hmem := keepOk_spec hok
      have key := h (fun vs h' => ∀ (a1 : Act) (w1 : World), w1.heap = h' → On (asg b) fr a.tmps.size a.defers w (putKeep keep vs (erase (asg b) fr)) a1 w1 →
        LoopWp P b (Post (asg b) fr a.tmps.size a.defers w Q) a1 w1) (allKS_imp fun vs h' hD a1 w1 hh hon => by
          subst hh
          refine LoopWp.unroll (wp_mono (ih (2 * p) _ _ a1 w1 hann.2 (fun d hd => by rw [hon.sz]; exact hs d hd) hon.hfr hD) fun e a2 w2 hp => ?_)
          cases e with
          | normal =>
            obtain ⟨fr2, hon2, hI⟩ := hp
            have hon3 := hon.trans hon2
            exact hI a2 w2 rfl ⟨FR_keep hon3.hfr (FR_erase hon3.hfr hon3.ag), Agree_keep (Agree_erase _ _) hmem, hon3.sz, hon3.df, hon3.rest⟩
          | panic c => exact hp.elim
          | outgrown => exact hp.elim
          | _ => obtain ⟨fr2, hon2, hq⟩ := hp; exact ⟨fr2, hon.trans hon2, hq⟩)
      exact LoopWp.loop (key a w rfl ⟨FR_keep hF (FR_erase hF (Agree.refl _ _)), Agree_keep (Agree_erase _ _) hmem, rfl, rfl, Rest.refl w⟩)
  | scope b ih =>
    intro p Q fr a w hann hs hF h
    refine wp_scope_straight (wp_mono (ih (2 * p) _ fr a w hann hs hF h) fun e a1 w1 hp => ?_)
    cases e with
    | panic c => exact hp.elim
    | outgrown => exact hp.elim
    | goto l => obtain ⟨fr1, hon, hq⟩ := hp; exact hq.elim
    | _ => obtain ⟨fr1, hon, hq⟩ := hp; exact ⟨fr1, hon, hq⟩
  | _ => intro p Q fr a w _ _ _ h; exact h.elim

/-! ### Functions -/
def resOne (tmps : Array Value) : ResultVar → Sem Value
  | .tmp t => pure (tmps.getD t undef)
  | .cell b t => do loadVar t (← asAddr (tmps.getD b undef))
theorem results_eq (fn : Func) (tmps : Array Value) : results fn tmps = (do
    let vs ← fn.results.mapM (resOne tmps)
    pure (if h : vs.size = 1 then vs[0] else .tuple vs)) := by
  unfold results
  congr 1
theorem Dres_sound : ∀ (rs : List ResultVar) (fr : Fr) (a : Act) (w : World) (K : List DV → Prop), FR fr a.tmps → Dres P rs fr w.heap K →
    ∃ xs, (∀ x, x ∈ xs → x.ok) ∧ K xs ∧ (rs.mapM (resOne a.tmps)).run P w = .ok (xs.map DV.flat) w := by
  intro rs
  induction rs with
  | nil => intro fr a w K _ h; exact ⟨[], fun _ h => (by cases h), h, by simp⟩
  | cons r rs ih =>
    intro fr a w K hF h
    cases r with
    | tmp t =>
      simp only [Dres] at h
      split at h
      · rename_i x hx
        have hr := hF t
        rw [hx] at hr
        obtain ⟨xs, h1, h2, h3⟩ := ih fr a w _ hF h
        refine ⟨x :: xs, fun y hy => ?_, h2, ?_⟩
        · rcases List.mem_cons.1 hy with rfl | hy
          · exact hr.1
          · exact h1 y hy
        · simp only [List.mapM_cons, resOne, Sem.run_bind, Sem.run_pure, Result.andThen_ok, h3, List.map_cons, hr.2]
      · exact h.elim
    | cell b t =>
      simp only [Dres] at h
      split at h
      · rename_i p hx
        have hr := hF b
        rw [hx] at hr
        obtain ⟨x, hok, hc, hK, hrun⟩ := ldT_sound h
        obtain ⟨xs, h1, h2, h3⟩ := ih fr a w _ hF hK
        refine ⟨x :: xs, fun y hy => ?_, h2, ?_⟩
        · rcases List.mem_cons.1 hy with rfl | hy
          · exact hok
          · exact h1 y hy
        · have e : a.tmps.getD b undef = .pointer (some p) := hr.2
          have e2 : ∀ w, (asAddr (a.tmps.getD b undef)).run P w = .ok p w := fun w => by rw [e]; rfl
          simp only [List.mapM_cons, resOne, Sem.run_bind, e2, Sem.run_pure, Result.andThen_ok, hrun w hc, h3, List.map_cons]
      · exact h.elim

theorem results_run {fn : Func} {fr : Fr} {a : Act} {w : World} {K : List DV → Prop} (hF : FR fr a.tmps) (h : Dres P fn.results.toList fr w.heap K) :
    ∃ xs, (∀ x, x ∈ xs → x.ok) ∧ K xs ∧ (results fn a.tmps).run P w = .ok (resVal xs) w := by
  obtain ⟨xs, h1, h2, h3⟩ := Dres_sound (P := P) _ _ _ _ _ hF h
  refine ⟨xs, h1, h2, ?_⟩
  rw [results_eq, Array.mapM_eq_mapM_toList]
  simp only [Sem.run_bind, Sem.run_map]
  rw [h3]
  simp only [Result.andThen_ok, Sem.run_pure]
  congr 1
  unfold resVal
  match xs with
  | [] => simp
  | [x] => simp
  | x :: y :: r => simp

theorem FR_init (args : List DV) (hok : ∀ x, x ∈ args → x.ok) (tail : Array Value) : FR (initFr 0 args) ((args.map DV.flat).toArray ++ tail) := by
  have gen : ∀ (args : List DV) (i : Nat) (j : Nat), (get (initFr i args) j = .un) ∨ (∃ x, args[j - i]? = some x ∧ i ≤ j ∧ get (initFr i args) j = .dv x) := by
    intro args
    induction args with
    | nil => intro i j; left; rfl
    | cons x r ih =>
      intro i j
      simp only [initFr, get]
      cases hb : Nat.beq j i with
      | true => have := Nat.eq_of_beq_eq_true hb; subst this; right; exact ⟨x, by simp, Nat.le_refl _, rfl⟩
      | false =>
        have hne := Nat.ne_of_beq_eq_false hb
        rcases ih (i + 1) j with h | ⟨y, h1, h2, h3⟩
        · exact .inl h
        · right
          refine ⟨y, ?_, by omega, h3⟩
          rw [show j - i = (j - (i + 1)) + 1 by omega]
          simpa using h1
  intro j
  rcases gen args 0 j with h | ⟨x, h1, _, h3⟩
  · rw [h]; trivial
  · rw [h3]
    simp only [Nat.sub_zero] at h1
    obtain ⟨hlt, rfl⟩ := List.getElem?_eq_some_iff.1 h1
    refine ⟨hok _ (List.getElem_mem hlt), ?_⟩
    simp [Array.getElem?_append, hlt]

/-- What the arguments of a call must be like, so that the denotation speaks of it. -/
theorem Dbody_sound {T : Tbl} (hT : TblOk P T) {ann : Ann} {f : FuncId} {fn : Func} {args : List DV} {Q : List DV → H → Prop} {h : H} (hf : P.funcs[f]? = some fn) (hc : callable P f = true)
    (hann : (fn.body.map fun c => annFits ann c 1) = some true) (hok : ∀ x, x ∈ args → x.ok) (hD : Dbody P T ann fn args Q h) : callsV P f (args.map DV.flat) Q h := by
  refine ⟨hc, fun w hw => ?_⟩
  subst hw
  unfold Dbody at hD
  split at hD
  · rename_i c hb hle hasg
    have hle := Nat.le_of_ble_eq_true hle
    rw [hb] at hann hasg
    simp only [Option.map_some, Option.some.injEq] at hann hasg
    rw [List.all_eq_true] at hasg
    have hsize : ((args.map DV.flat).toArray ++ Array.replicate (fn.ntmps - (args.map DV.flat).toArray.size) undef).size = fn.ntmps := by simp; omega
    refine calls_of_wp hf hb (wp_mono (D_sound hT ann c 1 _ (initFr 0 args) { tmps := (args.map DV.flat).toArray ++ Array.replicate (fn.ntmps - (args.map DV.flat).toArray.size) undef, defers := [] } w hann
      (fun d hd => by rw [hsize]; exact Nat.le_of_ble_eq_true (hasg d hd)) (FR_init args hok _) hD) fun e a' w' hp => ?_)
    cases e with
    | normal =>
      obtain ⟨fr, hon, hq⟩ := hp
      obtain ⟨xs, h1, h2, h3⟩ := results_run hon.hfr hq
      exact ⟨hon.df, _, h3, xs, h1, rfl, hon.rest, h2⟩
    | ret =>
      obtain ⟨fr, hon, hq⟩ := hp
      obtain ⟨xs, h1, h2, h3⟩ := results_run hon.hfr hq
      exact ⟨hon.df, _, h3, xs, h1, rfl, hon.rest, h2⟩
    | exit _ => obtain ⟨fr, hon, hq⟩ := hp; exact hq.elim
    | goto _ => obtain ⟨fr, hon, hq⟩ := hp; exact hq.elim
    | panic _ => exact hp.elim
    | outgrown => exact hp.elim
  · exact hD.elim
end Go.Vc
end

/- Functions with their arguments and results as plain Lean values. Own work; generic over any program. -/
section
namespace Go.Vc

inductive Ty where
  | int (k : IntKind) | bool | str | addr | ptr | slc | mp | fn
  | ag (l : List Sh)

abbrev CurS : List Sh → Type → Type
  | [], R => R
  | .int _ :: r, R => Int → CurS r R
  | .bool :: r, R => Bool → CurS r R
  | .str :: r, R => ByteArray → CurS r R
  | .ptr :: r, R => Option Addr → CurS r R
  | .slc :: r, R => Option Addr → Nat → Nat → CurS r R
  | .mp :: r, R => Option Nat → CurS r R
  | .fn :: r, R => Value → CurS r R
  | .ifc :: r, R => Value → CurS r R
  | .row _ _ :: r, R => List Int → CurS r R
abbrev Cur : List Ty → Type → Type
  | [], R => R
  | .int _ :: r, R => Int → Cur r R
  | .bool :: r, R => Bool → Cur r R
  | .str :: r, R => ByteArray → Cur r R
  | .addr :: r, R => Addr → Cur r R
  | .ptr :: r, R => Option Addr → Cur r R
  | .slc :: r, R => Option Addr → Nat → Nat → Cur r R
  | .mp :: r, R => Option Nat → Cur r R
  | .fn :: r, R => Value → Cur r R
  | .ag l :: r, R => CurS l (Cur r R)

/-- A function of typed values is applied to chunks. -/
def apS : (l : List Sh) → {R : Type} → CurS l R → List Ch → (R → Prop) → Prop
  | [], _, F, [], K => K F
  | .int k :: r, _, F, .c (.int k' n) :: cs, K => match k == k' with | true => apS r (F n) cs K | false => False
  | .bool :: r, _, F, .c (.bool b) :: cs, K => apS r (F b) cs K
  | .str :: r, _, F, .c (.string b) :: cs, K => apS r (F b) cs K
  | .ptr :: r, _, F, .c (.pointer b) :: cs, K => apS r (F b) cs K
  | .slc :: r, _, F, .c (.slice p l c) :: cs, K => apS r (F p l c) cs K
  | .mp :: r, _, F, .c (.map b) :: cs, K => apS r (F b) cs K
  | .fn :: r, _, F, .c v :: cs, K => apS r (F v) cs K
  | .ifc :: r, _, F, .c v :: cs, K => apS r (F v) cs K
  | .row k n :: r, _, F, .row k' n' ns :: cs, K => match k == k', Nat.beq n n' with | true, true => apS r (F ns) cs K | _, _ => False
  | _, _, _, _, _ => False
def apP : (l : List Ty) → {R : Type} → Cur l R → List DV → (R → Prop) → Prop
  | [], _, F, [], K => K F
  | .int k :: r, _, F, .one (.int k' n) :: xs, K => match k == k' with | true => apP r (F n) xs K | false => False
  | .bool :: r, _, F, .one (.bool b) :: xs, K => apP r (F b) xs K
  | .str :: r, _, F, .one (.string b) :: xs, K => apP r (F b) xs K
  | .addr :: r, _, F, .addr p :: xs, K => apP r (F p) xs K
  | .addr :: r, _, F, .one (.pointer a) :: xs, K => ∃ p, a = some p ∧ apP r (F p) xs K
  | .ptr :: r, _, F, .addr p :: xs, K => apP r (F (some p)) xs K
  | .ptr :: r, _, F, .one (.pointer a) :: xs, K => apP r (F a) xs K
  | .slc :: r, _, F, .one (.slice p l c) :: xs, K => apP r (F p l c) xs K
  | .mp :: r, _, F, .one (.map b) :: xs, K => apP r (F b) xs K
  | .fn :: r, _, F, .one v :: xs, K => apP r (F v) xs K
  | .fn :: r, _, F, .fnv v :: xs, K => apP r (F v) xs K
  | .ag l :: r, _, F, .agg cs :: xs, K => apS l F cs fun f => apP r f xs K
  | _, _, _, _, _ => False

/-- For all typed values: the value, in chunks, and the function applied to it. -/
def alS : (l : List Sh) → {R : Type} → CurS l R → (List Ch → R → Prop) → Prop
  | [], _, F, K => K [] F
  | .int k :: r, _, F, K => ∀ n : Int, alS r (F n) fun cs => K (.c (.int k n) :: cs)
  | .bool :: r, _, F, K => ∀ b : Bool, alS r (F b) fun cs => K (.c (.bool b) :: cs)
  | .str :: r, _, F, K => ∀ b : ByteArray, alS r (F b) fun cs => K (.c (.string b) :: cs)
  | .ptr :: r, _, F, K => ∀ b : Option Addr, alS r (F b) fun cs => K (.c (.pointer b) :: cs)
  | .slc :: r, _, F, K => ∀ (p : Option Addr) (l c : Nat), alS r (F p l c) fun cs => K (.c (.slice p l c) :: cs)
  | .mp :: r, _, F, K => ∀ b : Option Nat, alS r (F b) fun cs => K (.c (.map b) :: cs)
  | .fn :: r, _, F, K => ∀ v : Value, alS r (F v) fun cs => K (.c v :: cs)
  | .ifc :: r, _, F, K => ∀ v : Value, alS r (F v) fun cs => K (.c v :: cs)
  | .row k n :: r, _, F, K => ∀ ns : List Int, alS r (F ns) fun cs => K (.row k n ns :: cs)
def alP : (l : List Ty) → {R : Type} → Cur l R → (List DV → R → Prop) → Prop
  | [], _, F, K => K [] F
  | .int k :: r, _, F, K => ∀ n : Int, alP r (F n) fun xs => K (.one (.int k n) :: xs)
  | .bool :: r, _, F, K => ∀ b : Bool, alP r (F b) fun xs => K (.one (.bool b) :: xs)
  | .str :: r, _, F, K => ∀ b : ByteArray, alP r (F b) fun xs => K (.one (.string b) :: xs)
  | .addr :: r, _, F, K => ∀ p : Addr, alP r (F p) fun xs => K (.addr p :: xs)
  | .ptr :: r, _, F, K => ∀ b : Option Addr, alP r (F b) fun xs => K (.one (.pointer b) :: xs)
  | .slc :: r, _, F, K => ∀ (p : Option Addr) (l c : Nat), alP r (F p l c) fun xs => K (.one (.slice p l c) :: xs)
  | .mp :: r, _, F, K => ∀ b : Option Nat, alP r (F b) fun xs => K (.one (.map b) :: xs)
  | .fn :: r, _, F, K => ∀ v : Value, alP r (F v) fun xs => K (.fnv v :: xs)
  | .ag l :: r, _, F, K => alS l F fun cs f => alP r f fun xs => K (.agg cs :: xs)

/-- What is to be shown of results, curried. -/
def enS : (l : List Sh) → {R : Type} → (List Ch → R) → CurS l R
  | [], _, Q => Q []
  | .int k :: r, _, Q => fun n => enS r fun cs => Q (.c (.int k n) :: cs)
  | .bool :: r, _, Q => fun n => enS r fun cs => Q (.c (.bool n) :: cs)
  | .str :: r, _, Q => fun n => enS r fun cs => Q (.c (.string n) :: cs)
  | .ptr :: r, _, Q => fun n => enS r fun cs => Q (.c (.pointer n) :: cs)
  | .slc :: r, _, Q => fun p l c => enS r fun cs => Q (.c (.slice p l c) :: cs)
  | .mp :: r, _, Q => fun n => enS r fun cs => Q (.c (.map n) :: cs)
  | .fn :: r, _, Q => fun n => enS r fun cs => Q (.c n :: cs)
  | .ifc :: r, _, Q => fun n => enS r fun cs => Q (.c n :: cs)
  | .row k m :: r, _, Q => fun ns => enS r fun cs => Q (.row k m ns :: cs)
def enR : (l : List Ty) → {R : Type} → (List DV → R) → Cur l R
  | [], _, Q => Q []
  | .int k :: r, _, Q => fun n => enR r fun xs => Q (.one (.int k n) :: xs)
  | .bool :: r, _, Q => fun n => enR r fun xs => Q (.one (.bool n) :: xs)
  | .str :: r, _, Q => fun n => enR r fun xs => Q (.one (.string n) :: xs)
  | .addr :: r, _, Q => fun n => enR r fun xs => Q (.addr n :: xs)
  | .ptr :: r, _, Q => fun n => enR r fun xs => Q (.one (.pointer n) :: xs)
  | .slc :: r, _, Q => fun p l c => enR r fun xs => Q (.one (.slice p l c) :: xs)
  | .mp :: r, _, Q => fun n => enR r fun xs => Q (.one (.map n) :: xs)
  | .fn :: r, _, Q => fun n => enR r fun xs => Q (.fnv n :: xs)
  | .ag l :: r, _, Q => enS l fun cs => enR r fun xs => Q (.agg cs :: xs)
def decR (l : List Ty) (Q : Cur l (H → Prop)) (xs : List DV) (h : H) : Prop := apP l Q xs fun f => f h

/-- A function's denotation as the table has it. -/
def W (ps rs : List Ty) (F : Cur ps (Cur rs (H → Prop) → H → Prop)) : Run := fun args Q h => apP ps F args fun f => f (enR rs Q) h

theorem apS_sound : ∀ (l : List Sh) {R : Type} (F : CurS l R) (cs : List Ch) (K : R → Prop) (K' : List Ch → R → Prop), apS l F cs K → alS l F K' → oks cs → ∃ f, K f ∧ K' cs f := by
  intro l
  induction l with
  | nil =>
    intro R F cs K K' h h' hok
    cases cs with
    | nil => exact ⟨F, h, h'⟩
    | cons _ _ => simp [apS] at h
  | cons s r ih =>
    intro R F cs K K' h h' hok
    cases cs with
    | nil => cases s <;> simp [apS] at h
    | cons c cs =>
    have hok' := (oks_cons hok).2
    cases s
    case int k =>
      cases c with
      | row _ _ _ => simp [apS] at h
      | c v =>
        cases v <;> simp only [apS] at h
        rename_i k' n
        by_cases hk : k = k'
        · subst hk
          simp only [beq_self_eq_true] at h
          exact ih (F n) cs K _ h (h' n) hok'
        · have : (k == k') = false := by simpa using hk
          simp [this] at h
    case bool => cases c with | row _ _ _ => simp [apS] at h | c v => cases v <;> simp only [apS] at h; rename_i n; exact ih (F n) cs K _ h (h' n) hok'
    case str => cases c with | row _ _ _ => simp [apS] at h | c v => cases v <;> simp only [apS] at h; rename_i n; exact ih (F n) cs K _ h (h' n) hok'
    case ptr => cases c with | row _ _ _ => simp [apS] at h | c v => cases v <;> simp only [apS] at h; rename_i n; exact ih (F n) cs K _ h (h' n) hok'
    case slc => cases c with | row _ _ _ => simp [apS] at h | c v => cases v <;> simp only [apS] at h; rename_i p l c; exact ih (F p l c) cs K _ h (h' p l c) hok'
    case mp => cases c with | row _ _ _ => simp [apS] at h | c v => cases v <;> simp only [apS] at h; rename_i n; exact ih (F n) cs K _ h (h' n) hok'
    case fn => cases c with | row _ _ _ => simp [apS] at h | c v => simp only [apS] at h; exact ih (F v) cs K _ h (h' v) hok'
    case ifc => cases c with | row _ _ _ => simp [apS] at h | c v => simp only [apS] at h; exact ih (F v) cs K _ h (h' v) hok'
    case row k n =>
      cases c with
      | c v => simp [apS] at h
      | row k' n' ns =>
        simp only [apS] at h
        split at h
        · rename_i h1 h2
          have h1 : k = k' := by simpa using h1
          have h2 := Nat.eq_of_beq_eq_true h2
          subst h1; subst h2
          exact ih (F ns) cs K _ h (h' ns) hok'
        · exact h.elim

theorem apP_sound : ∀ (l : List Ty) {R : Type} (F : Cur l R) (xs : List DV) (K : R → Prop) (K' : List DV → R → Prop), apP l F xs K → alP l F K' → (∀ x, x ∈ xs → x.ok) →
    ∃ ys f, K f ∧ K' ys f ∧ (∀ y, y ∈ ys → y.ok) ∧ ys.map DV.flat = xs.map DV.flat := by
  intro l
  induction l with
  | nil =>
    intro R F xs K K' h h' hok
    cases xs with
    | nil => exact ⟨[], F, h, h', hok, rfl⟩
    | cons _ _ => simp [apP] at h
  | cons s r ih =>
    intro R F xs K K' h h' hok
    cases xs with
    | nil => cases s <;> simp [apP] at h
    | cons x xs =>
    have hx := hok x (by simp)
    have hok' : ∀ y, y ∈ xs → y.ok := fun y hy => hok y (by simp [hy])
    have fin : ∀ (y : DV), y.ok → y.flat = x.flat → (∃ ys f, K f ∧ K' (y :: ys) f ∧ (∀ y, y ∈ ys → y.ok) ∧ ys.map DV.flat = xs.map DV.flat) →
        ∃ ys f, K f ∧ K' ys f ∧ (∀ y, y ∈ ys → y.ok) ∧ ys.map DV.flat = (x :: xs).map DV.flat := by
      rintro y hy hf ⟨ys, f, h1, h2, h3, h4⟩
      exact ⟨y :: ys, f, h1, h2, fun z hz => by rcases List.mem_cons.1 hz with rfl | hz; exact hy; exact h3 z hz, by simp [hf, h4]⟩
    cases s
    case int k =>
      cases x <;> try (simp [apP] at h; done)
      rename_i v
      cases v <;> simp only [apP] at h
      rename_i k' n
      by_cases hk : k = k'
      · subst hk
        simp only [beq_self_eq_true] at h
        exact fin _ hx rfl (ih (F n) xs K _ h (h' n) hok')
      · have : (k == k') = false := by simpa using hk
        simp [this] at h
    case bool => cases x <;> try (simp [apP] at h; done)
                 rename_i v; cases v <;> simp only [apP] at h; rename_i n; exact fin _ hx rfl (ih (F n) xs K _ h (h' n) hok')
    case str => cases x <;> try (simp [apP] at h; done)
                rename_i v; cases v <;> simp only [apP] at h; rename_i n; exact fin _ hx rfl (ih (F n) xs K _ h (h' n) hok')
    case addr =>
      cases x <;> try (simp [apP] at h; done)
      · rename_i v; cases v <;> simp only [apP] at h; obtain ⟨p, rfl, h⟩ := h; exact fin (.addr p) trivial rfl (ih (F p) xs K _ h (h' p) hok')
      · rename_i p; simp only [apP] at h; exact fin _ hx rfl (ih (F p) xs K _ h (h' p) hok')
    case ptr =>
      cases x <;> try (simp [apP] at h; done)
      · rename_i v; cases v <;> simp only [apP] at h; rename_i n; exact fin _ hx rfl (ih (F n) xs K _ h (h' n) hok')
      · rename_i p; simp only [apP] at h; exact fin (.one (.pointer (some p))) rfl rfl (ih (F (some p)) xs K _ h (h' (some p)) hok')
    case slc => cases x <;> try (simp [apP] at h; done)
                rename_i v; cases v <;> simp only [apP] at h; rename_i p l c; exact fin _ hx rfl (ih (F p l c) xs K _ h (h' p l c) hok')
    case mp => cases x <;> try (simp [apP] at h; done)
               rename_i v; cases v <;> simp only [apP] at h; rename_i n; exact fin _ hx rfl (ih (F n) xs K _ h (h' n) hok')
    case fn =>
      cases x <;> try (simp [apP] at h; done)
      · rename_i v; simp only [apP] at h; exact fin (.fnv v) hx rfl (ih (F v) xs K _ h (h' v) hok')
      · rename_i v; simp only [apP] at h; exact fin _ hx rfl (ih (F v) xs K _ h (h' v) hok')
    case ag l =>
      cases x <;> try (simp [apP] at h; done)
      rename_i cs
      simp only [apP] at h
      obtain ⟨f, h1, h2⟩ := apS_sound l F cs _ _ h h' hx
      exact fin _ hx rfl (ih f xs K _ h1 h2 hok')

theorem alS_en : ∀ (l : List Sh) {R : Type} (Q : List Ch → R) (K : List Ch → R → Prop), (∀ cs, K cs (Q cs)) → alS l (enS l Q) K := by
  intro l
  induction l with
  | nil => intro R Q K h; exact h []
  | cons s r ih => intro R Q K h; cases s <;> simp only [alS, enS] <;> intros <;> exact ih _ _ fun cs => h _
theorem alP_en : ∀ (l : List Ty) {R : Type} (Q : List DV → R) (K : List DV → R → Prop), (∀ xs, K xs (Q xs)) → alP l (enR l Q) K := by
  intro l
  induction l with
  | nil => intro R Q K h; exact h []
  | cons s r ih =>
    intro R Q K h
    cases s with
    | ag l => simp only [alP, enR]; exact alS_en l _ _ fun cs => ih _ _ fun xs => h _
    | _ => simp only [alP, enR]; intros; exact ih _ _ fun xs => h _

theorem resVal_eq (xs : List DV) : resVal xs = (match xs.map DV.flat with | [v] => v | vs => .tuple vs.toArray) := by
  match xs with
  | [] => rfl
  | [x] => rfl
  | x :: y :: r => rfl
theorem resVal_congr {xs ys : List DV} (h : xs.map DV.flat = ys.map DV.flat) : resVal xs = resVal ys := by
  rw [resVal_eq, resVal_eq, h]

variable {P : Program}
theorem callsV.mono {f : FuncId} {args : List Value} {Q Q' : List DV → H → Prop} {h : H} (hc : callsV P f args Q h)
    (hq : ∀ xs h', (∀ x, x ∈ xs → x.ok) → Q xs h' → ∃ ys, (∀ y, y ∈ ys → y.ok) ∧ ys.map DV.flat = xs.map DV.flat ∧ Q' ys h') : callsV P f args Q' h := by
  refine ⟨hc.1, fun w hw => (hc.2 w hw).mono fun e w' he => ?_⟩
  obtain ⟨xs, h1, rfl, h2, h3⟩ := he
  obtain ⟨ys, h4, h5, h6⟩ := hq xs _ h1 h3
  exact ⟨ys, h4, by rw [resVal_congr h5], h2, h6⟩

/-- A function whose denotation is printed. -/
theorem runOk_of {T : Tbl} (hT : TblOk P T) {f : FuncId} {fn : Func} {ann : Ann} {ps rs : List Ty} {F : Cur ps (Cur rs (H → Prop) → H → Prop)} (hf : P.funcs[f]? = some fn) (hc : callable P f = true)
    (hann : (fn.body.map fun c => annFits ann c 1) = some true) (hE : alP ps F fun xs g => ∀ Q h, g Q h = Dbody P T ann fn xs (decR rs Q) h) : RunOk P f (W ps rs F) := by
  intro args Q h hok hrun
  obtain ⟨ys, g, h1, h2, h3, h4⟩ := apP_sound ps F args _ _ hrun hE hok
  rw [h2] at h1
  have := Dbody_sound hT hf hc hann h3 h1
  rw [h4] at this
  refine this.mono fun xs h' hxs hd => ?_
  obtain ⟨zs, g', h5, h6, h7, h8⟩ := apP_sound rs (enR rs Q) xs (fun f => f h') (fun ys f => f = Q ys) hd (alP_en rs Q _ fun _ => rfl) hxs
  exact ⟨zs, h7, h8, by rw [← h6]; exact h5⟩

theorem TblOk.nil : TblOk P [] := fun _ _ h => by cases h
theorem TblOk.cons {T : Tbl} {f : FuncId} {r : Run} (h : RunOk P f r) (hT : TblOk P T) : TblOk P ((f, r) :: T) := fun g r' hm => by
  rcases List.mem_cons.1 hm with h' | h'
  · injection h' with h1 h2; subst h1; subst h2; exact h
  · exact hT g r' h'

/-- A closure whose code's denotation is known is called. -/
theorem callFn_of {f : FuncId} {run : Run} (hr : RunOk P f run) {a c : Array Value} {args : List DV} {Q : List DV → H → Prop} {h : H} (ha : ∀ v, v ∈ a.toList → v.oneCell' = true) (hc : ∀ v, v ∈ c.toList → v.oneCell' = true)
    (hok : ∀ x, x ∈ args → x.ok) (hrun : run (a.toList.map toDV ++ args ++ c.toList.map toDV) Q h) : callFn P (.func (.func f) a c) args Q h := by
  refine ⟨f, a, c, rfl, ?_⟩
  have := hr _ _ _ (by
    intro x hx
    simp only [List.mem_append, List.mem_map] at hx
    rcases hx with (⟨v, hv, rfl⟩ | hx) | ⟨v, hv, rfl⟩
    · exact toDV_ok (ha v hv)
    · exact hok x hx
    · exact toDV_ok (hc v hv)) hrun
  have e : ∀ l : List Value, l.map (DV.flat ∘ toDV) = l := fun l => by
    have : (DV.flat ∘ toDV) = id := funext toDV_flat
    rw [this]; simp
  simpa [e] using this
end Go.Vc
end
