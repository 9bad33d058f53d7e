/- The denotation is sound, third part: any operation that touches no memory, joined. Own work; generic over any program. -/
import Derived.Test.YtamfkofcpoglnaaVcp
set_option autoImplicit false
set_option linter.all false
namespace Go.Vc
variable {P : Program}

theorem rel_list {fr : Fr} {a : Act} (hFR : FR fr a.tmps) (xs : List Operand) : ∀ (i : Nat) (s : SV) (v : Value), (xs.map (ev fr))[i]? = some s → (xs.map a.eval)[i]? = some v → s.rel v := by
  intro i s v h1 h2
  simp only [List.getElem?_map, Option.map_eq_some_iff] at h1 h2
  obtain ⟨x, hx, rfl⟩ := h1
  obtain ⟨y, hy, rfl⟩ := h2
  rw [hx] at hy
  injection hy with hy
  subst hy
  exact ev_rel hFR x

theorem asI_rel {s : SV} {v : Value} (h : s.rel v) {i : Int} (hi : asI s = some i) : ∃ k, v = .int k i := by
  unfold asI at hi
  split at hi
  · simp at hi; subst hi; exact ⟨_, h.2⟩
  · simp at hi
theorem opI_IV {fr : Fr} {a : Act} (hFR : FR fr a.tmps) {x : Option Operand} {y : Option Int} (h : opI fr x = some y) : IV y (x.map a.eval) := by
  cases x with
  | none => simp [opI] at h; subst h; trivial
  | some x =>
    simp only [opI] at h
    cases hi : asI (ev fr x) with
    | none => simp [hi] at h
    | some i => simp [hi] at h; subst h; exact asI_rel (ev_rel hFR x) hi

theorem val1_flat {x : DV} {v : Value} (h : x.val1 = some v) : x.flat = v := by
  cases x <;> simp [DV.val1] at h <;> subst h <;> rfl
theorem vals1_sound {fr : Fr} {a : Act} (hFR : FR fr a.tmps) : ∀ (xs : List Operand) (vs : List Value), vals1 (xs.map (ev fr)) = some vs → xs.map a.eval = vs := by
  intro xs
  induction xs with
  | nil => intro vs h; simp [vals1] at h; simp [h]
  | cons x xs ih =>
    intro vs h
    simp only [List.map_cons] at h
    cases hx : ev fr x with
    | dv d =>
      simp only [hx, vals1] at h
      obtain ⟨hok, hv⟩ := ev_dv hFR hx
      cases h1 : d.val1 with
      | none => simp [h1] at h
      | some v =>
        cases h2 : vals1 (xs.map (ev fr)) with
        | none => simp [h1, h2] at h
        | some r =>
          simp [h1, h2] at h
          subst h
          simp [ih r h2, hv, val1_flat h1]
    | un => simp [hx, vals1] at h
    | nd => simp [hx, vals1] at h
    | tup _ => simp [hx, vals1] at h

theorem Dconv_sound {s d : TypeId} {x : SV} {xv : Value} {K : SV → Prop} (hx : x.rel xv) (h : Dconv P s d x K) : PureOk P (convert s d xv) K := by
  unfold Dconv at h
  split at h
  · rename_i ds k j n hs hd
    obtain ⟨_, rfl⟩ := hx
    exact .one rfl h fun w => by cases ds <;> simp [DV.flat, convert, run_underlying hs, run_underlying hd, Conv.intToInt]
  · rename_i ds st hs hd
    obtain ⟨_, rfl⟩ := hx
    exact .one rfl h fun w => by cases ds <;> simp [DV.flat, convert, run_underlying hs, run_underlying hd]
  · exact h.elim

theorem map1 {α β : Type} {f : α → β} {l : List α} {x : β} (h : l.map f = [x]) : ∃ y, l = [y] ∧ f y = x := by
  cases l with
  | nil => simp at h
  | cons y r =>
    cases r with
    | nil => simp at h; exact ⟨y, rfl, h⟩
    | cons _ _ => simp at h
theorem map2 {α β : Type} {f : α → β} {l : List α} {x y : β} (h : l.map f = [x, y]) : ∃ u v, l = [u, v] ∧ f u = x ∧ f v = y := by
  cases l with
  | nil => simp at h
  | cons u r =>
    cases r with
    | nil => simp at h
    | cons v r =>
      cases r with
      | nil => simp at h; exact ⟨u, v, rfl, h⟩
      | cons _ _ => simp at h

theorem Dbi_sound {b : Builtin} {ats : Array TypeId} {args : List Operand} {fr : Fr} {a : Act} (hFR : FR fr a.tmps) {ty : TypeId} {cs : Array Bool} {K : SV → Prop}
    (h : Dbi P b ats.toList (args.map (ev fr)) K) : ∃ x v, SV.rel x v ∧ K x ∧ ∀ w, (builtin b ats ty cs (args.map a.eval).toArray).run P w = .ok (.value v) w := by
  have lift : ∀ {s : Sem Value}, PureOk P s K → (∀ w v, s.run P w = .ok v w → (builtin b ats ty cs (args.map a.eval).toArray).run P w = .ok (.value v) w) →
      ∃ x v, SV.rel x v ∧ K x ∧ ∀ w, (builtin b ats ty cs (args.map a.eval).toArray).run P w = .ok (.value v) w := by
    rintro s ⟨x, v, h1, h2, h3⟩ h4
    exact ⟨x, v, h1, h2, fun w => h4 w v (h3 w)⟩
  obtain ⟨ats⟩ := ats
  simp only at h
  unfold Dbi at h
  split at h
  · rename_i t p l c hargs
    obtain ⟨x, rfl, hx⟩ : ∃ x, args = [x] ∧ ev fr x = .dv (.one (.slice p l c)) := map1 hargs
    obtain ⟨_, hv⟩ := ev_dv hFR hx
    split at h
    · rename_i e hu
      refine lift (s := Builtin.len_ #[t] ty #[a.eval x]) (.one rfl h fun w => ?_) fun w v hr => ?_
      · simp [hv, DV.flat, Builtin.len_, run_underlying hu, goInt]
      · simp [builtin, hr]
    · exact h.elim
  · rename_i t s hargs
    obtain ⟨x, rfl, hx⟩ : ∃ x, args = [x] ∧ ev fr x = .dv (.one (.string s)) := map1 hargs
    obtain ⟨_, hv⟩ := ev_dv hFR hx
    split at h
    · rename_i hu
      refine lift (s := Builtin.len_ #[t] ty #[a.eval x]) (.one rfl h fun w => ?_) fun w v hr => ?_
      · simp [hv, DV.flat, Builtin.len_, run_underlying hu, goInt]
      · simp [builtin, hr]
    · exact h.elim
  · rename_i t q _ _ hargs
    obtain ⟨x, rfl, _⟩ := map1 hargs
    split at h
    · rename_i n e hu
      refine lift (s := Builtin.len_ #[t] ty #[a.eval x]) (.one rfl h fun w => ?_) fun w v hr => ?_
      · simp [Builtin.len_, run_underlying hu, goInt]
      · simp [builtin, hr]
    · exact h.elim
  · rename_i t p l c hargs
    obtain ⟨x, rfl, hx⟩ : ∃ x, args = [x] ∧ ev fr x = .dv (.one (.slice p l c)) := map1 hargs
    obtain ⟨_, hv⟩ := ev_dv hFR hx
    split at h
    · rename_i e hu
      refine lift (s := Builtin.cap_ #[t] ty #[a.eval x]) (.one rfl h fun w => ?_) fun w v hr => ?_
      · simp [hv, DV.flat, Builtin.cap_, run_underlying hu, goInt]
      · simp [builtin, hr]
    · exact h.elim
  · rename_i k x k' y hargs
    obtain ⟨o1, o2, rfl, h1, h2⟩ : ∃ o1 o2, args = [o1, o2] ∧ ev fr o1 = .dv (.one (.int k x)) ∧ ev fr o2 = .dv (.one (.int k' y)) := map2 hargs
    obtain ⟨_, hv1⟩ := ev_dv hFR h1
    obtain ⟨_, hv2⟩ := ev_dv hFR h2
    refine lift (s := Builtin.max_ #[] ty #[a.eval o1, a.eval o2]) (.one rfl h fun w => ?_) fun w v hr => ?_
    · simp [hv1, hv2, DV.flat, Builtin.max_, Builtin.max2]
    · show (do pure (Next.value (← Builtin.max_ #[] ty #[a.eval o1, a.eval o2])) : Sem Next).run P w = _
      simp [hr]
  · rename_i k x k' y hargs
    obtain ⟨o1, o2, rfl, h1, h2⟩ : ∃ o1 o2, args = [o1, o2] ∧ ev fr o1 = .dv (.one (.int k x)) ∧ ev fr o2 = .dv (.one (.int k' y)) := map2 hargs
    obtain ⟨_, hv1⟩ := ev_dv hFR h1
    obtain ⟨_, hv2⟩ := ev_dv hFR h2
    refine lift (s := Builtin.min_ #[] ty #[a.eval o1, a.eval o2]) (.one rfl h fun w => ?_) fun w v hr => ?_
    · simp [hv1, hv2, DV.flat, Builtin.min_, Builtin.min2]
    · show (do pure (Next.value (← Builtin.min_ #[] ty #[a.eval o1, a.eval o2])) : Sem Next).run P w = _
      simp [hr]
  · exact h.elim

theorem PureOk.next {s : Sem Value} {K : SV → Prop} (h : PureOk P s K) : ∃ x v, SV.rel x v ∧ K x ∧ ∀ w, (do pure (Next.value (← s)) : Sem Next).run P w = .ok (.value v) w := by
  obtain ⟨x, v, h1, h2, h3⟩ := h
  exact ⟨x, v, h1, h2, fun w => by simp [h3]⟩
theorem pureNext {x : SV} {v : Value} {K : SV → Prop} (h1 : x.rel v) (h2 : K x) : ∃ x v, SV.rel x v ∧ K x ∧ ∀ w, (pure (Next.value v) : Sem Next).run P w = .ok (.value v) w :=
  ⟨x, v, h1, h2, fun _ => rfl⟩

theorem Dpure_sound {o : Oper} {fr : Fr} {a : Act} {K : SV → Prop} (hFR : FR fr a.tmps) (h : Dpure P o.op fr K) :
    ∃ x v, SV.rel x v ∧ K x ∧ ∀ w, (execOp a.eval o).run P w = .ok (.value v) w := by
  unfold execOp
  cases hop : o.op with
  | move x => rw [hop] at h; exact ⟨_, _, ev_rel hFR x, h, fun w => rfl⟩
  | assign x => rw [hop] at h; exact ⟨_, _, ev_rel hFR x, h, fun w => rfl⟩
  | pick c x y =>
    rw [hop] at h
    simp only [Dpure] at h
    split at h
    · rename_i t hc
      obtain ⟨_, hv⟩ := ev_dv hFR hc
      cases t with
      | true => exact ⟨_, _, ev_rel hFR _, h, fun w => by simp [hv, DV.flat, asBool]⟩
      | false => exact ⟨_, _, ev_rel hFR _, by simpa using h, fun w => by simp [hv, DV.flat, asBool]⟩
    · exact h.elim
  | nilCheck x =>
    rw [hop] at h
    simp only [Dpure] at h
    split at h
    · rename_i p hx
      obtain ⟨_, hv⟩ := ev_dv hFR hx
      exact ⟨.dv (.addr p), _, ⟨trivial, rfl⟩, h, fun w => by simp [hv, DV.flat]⟩
    · rename_i p hx
      obtain ⟨q, rfl, hK⟩ := h
      obtain ⟨_, hv⟩ := ev_dv hFR hx
      exact ⟨.dv (.addr q), _, ⟨trivial, rfl⟩, hK, fun w => by simp [hv, DV.flat]⟩
    · rename_i f fs cs hx
      obtain ⟨_, hv⟩ := ev_dv hFR hx
      exact ⟨.dv (.one (.func (.func f) fs cs)), _, ⟨rfl, rfl⟩, h, fun w => by simp [hv, DV.flat]⟩
    · exact h.elim
  | binOp op t x y yt =>
    rw [hop] at h
    simp only [Dpure] at h
    have h := evB_ev (K := fun y' => Dbin2 P op t (ev fr x) y' (isConstO y) K) (evB_ev (K := fun x' => evB fr y fun y' => Dbin2 P op t x' y' (isConstO y) K) h)
    simp only [Dbin2] at h
    split at h
    · rename_i dx dy hx hy
      obtain ⟨h1, e1⟩ := ev_dv hFR hx
      obtain ⟨h2, e2⟩ := ev_dv hFR hy
      have := Dbin_sound (P := P) h1 h2 x y h
      simp only [e1, e2]
      exact PureOk.next this
    · exact h.elim
  | unOp op t x =>
    rw [hop] at h
    simp only [Dpure] at h
    split at h
    · rename_i dx hx
      obtain ⟨h1, e1⟩ := ev_dv hFR hx
      simp only [e1]
      exact PureOk.next (Dun_sound h)
    · exact h.elim
  | convert s d x => rw [hop] at h; exact PureOk.next (Dconv_sound (ev_rel hFR x) h)
  | fieldAddr t x f => rw [hop] at h; exact PureOk.next (DfieldAddr_sound (ev_rel hFR x) h)
  | field t x f => rw [hop] at h; exact PureOk.next (Dfield_sound (ev_rel hFR x) h)
  | indexAddr t x i => rw [hop] at h; exact PureOk.next (DindexAddr_sound (ev_rel hFR x) (fun j hj => asI_rel (ev_rel hFR i) hj) h)
  | index t x i => rw [hop] at h; exact PureOk.next (Dindex_sound (ev_rel hFR x) (fun j hj => asI_rel (ev_rel hFR i) hj) h)
  | extract x i =>
    rw [hop] at h
    simp only [Dpure] at h
    split at h
    · rename_i xs hx
      split at h
      · rename_i d hd
        have hr := ev_rel hFR x
        rw [hx] at hr
        obtain ⟨hok, hv⟩ := hr
        refine PureOk.next ⟨.dv d, d.flat, ⟨hok d (List.mem_of_getElem? hd), rfl⟩, h, fun w => ?_⟩
        rw [hv]
        simp [Instr.extract, hd]
      · exact h.elim
    · exact h.elim
  | slice t x lo hi mx =>
    rw [hop] at h
    simp only [Dpure] at h
    split at h
    · rename_i hlo hhi hmx
      exact PureOk.next (Dslice_sound (ev_rel hFR x) (opI_IV hFR hlo) (opI_IV hFR hhi) (opI_IV hFR hmx) h)
    · exact h.elim
  | build t parts =>
    rw [hop] at h
    have h : Dbuild P t (parts.toList.map fun (i, x) => (i, ev fr x)) K := h
    refine PureOk.next (Dbuild_sound (by simp) ?_ h)
    intro i p q h1 h2
    simp only [List.getElem?_map, Array.toList_map, Option.map_eq_some_iff] at h1 h2
    obtain ⟨x, hx, rfl⟩ := h1
    obtain ⟨y, hy, rfl⟩ := h2
    rw [hx] at hy
    injection hy with hy
    subst hy
    exact ⟨rfl, ev_rel hFR _⟩
  | makeFunc fn first cap =>
    rw [hop] at h
    simp only [Dpure] at h
    split at h
    · rename_i u c h1 h2
      have e1 := vals1_sound hFR _ _ h1
      have e2 := vals1_sound hFR _ _ h2
      refine PureOk.next (.one rfl h fun w => ?_)
      have e1' : first.map a.eval = u.toArray := by apply Array.toList_inj.1; simpa using e1
      have e2' : cap.map a.eval = c.toArray := by apply Array.toList_inj.1; simpa using e2
      simp [Instr.makeFunc, e1', e2']
    · exact h.elim
  | makeInterface t x =>
    rw [hop] at h
    simp only [Dpure] at h
    split at h
    · exact h.elim
    · rename_i d dv hni hd hx
      obtain ⟨h1, e1⟩ := ev_dv hFR hx
      refine PureOk.next ⟨.dv (.fnv (.iface t dv.flat)), _, ⟨rfl, rfl⟩, h, fun w => ?_⟩
      cases d <;> first | (exfalso; exact hni _ rfl) | simp [e1, Instr.makeInterface, run_underlying hd, DV.flat]
    · exact h.elim
  | call c =>
    obtain ⟨callee, args, ats⟩ := c
    rw [hop] at h
    cases callee with
    | value _ => exact h.elim
    | invoke _ _ => exact h.elim
    | builtin b =>
      have h : Dbi P b ats.toList (args.toList.map (ev fr)) K := h
      obtain ⟨x, v, h1, h2, h3⟩ := Dbi_sound (P := P) hFR (ty := o.type) (cs := args.map fun | .const _ => true | _ => false) h
      refine ⟨x, v, h1, h2, fun w => ?_⟩
      have := h3 w
      simp only [resolve, Sem.run_bind, Sem.run_pure, Result.andThen_ok, invoke]
      have e : args.map a.eval = (args.toList.map a.eval).toArray := by apply Array.toList_inj.1; simp
      rw [e]
      exact this
  | _ => rw [hop] at h; simp only [Dpure] at h
end Go.Vc
