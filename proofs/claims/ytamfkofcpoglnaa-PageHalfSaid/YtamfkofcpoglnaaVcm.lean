/- The denotation is sound, fourth part: operations on memory, and calls. Own work; generic over any program. -/
import Derived.Test.YtamfkofcpoglnaaVcq
import Derived.Laws.BytesString
import Derived.Laws.AppendOwn
set_option autoImplicit false
set_option linter.all false
namespace Go.Vc
variable {P : Program}

/-- What an operation comes to. -/
def NextOk (P : Program) (K : SV → H → Prop) (w : World) : Result Next → Prop
  | .ok (.value v) w' => Rest w w' ∧ ∃ x, SV.rel x v ∧ K x w'.heap
  | .ok .skip w' => Rest w w' ∧ K .nd w'.heap
  | .ok (.enter f args) w' => w' = w ∧ Calls P f args w fun e w'' => ∃ v x, e = .returned v ∧ Rest w w'' ∧ SV.rel x v ∧ K x w''.heap
  | _ => False

/-- A computation of a value that may turn the heap. -/
def MemOk (P : Program) (s : Sem Value) (K : SV → H → Prop) (w : World) : Prop := ∃ x v w', s.run P w = .ok v w' ∧ Rest w w' ∧ SV.rel x v ∧ K x w'.heap
theorem MemOk.next {s : Sem Value} {K : SV → H → Prop} {w : World} (h : MemOk P s K w) : NextOk P K w ((do pure (Next.value (← s)) : Sem Next).run P w) := by
  obtain ⟨x, v, w', h1, h2, h3, h4⟩ := h
  simp only [Sem.run_bind, h1, Result.andThen_ok, Sem.run_pure]
  exact ⟨h2, x, h3, h4⟩

/-! ### Rows of zeros -/
theorem range_mod (z : Array Value) : ∀ m : Nat, ((List.range (m * z.size)).map fun i => z[i % z.size]!) = (List.replicate m z.toList).flatten := by
  intro m
  induction m with
  | zero => simp
  | succ m ih =>
    rw [Nat.succ_mul, List.range_add, List.map_append, ih, List.replicate_succ', List.flatten_append]
    congr 1
    simp only [List.map_map, List.flatten_cons, List.flatten_nil, List.append_nil]
    apply List.ext_getElem
    · simp
    · intro i h1 h2
      simp at h1
      have : (m * z.size + i) % z.size = i := by rw [Nat.add_comm, Nat.add_mul_mod_self_right, Nat.mod_eq_of_lt h1]
      simp [this, h1]

/-! ### What a slice holds -/
theorem firstCells_hsv {w : World} {p : Option Addr} {sz l : Nat} {vs : List Value} (h : hsv w.heap p sz l vs) (x y : Nat) : (Builtin.firstCells sz l (.slice p x y)).run P w = .ok vs.toArray w := by
  obtain ⟨hl, _, h⟩ := h
  cases p with
  | none =>
    rcases h with rfl | ⟨q, hq, _⟩
    · rfl
    · cases hq
  | some a =>
    have hcs' : hcs w.heap a vs := by
      rcases h with rfl | ⟨q, hq, h⟩
      · exact hcs_nil _ _
      · cases hq; exact h
    have := run_loadCells (P := P) (w := w) (a := a) vs 0 #[] (by rw [add_zero]; exact hcs')
    rw [hl] at this
    simpa [Builtin.firstCells, loadCells] using this
theorem firstCells_string {w : World} (s : ByteArray) : (Builtin.firstCells 1 s.size (.string s)).run P w = .ok (s.data.toList.map fun b => Value.int .u8 b.toNat).toArray w := by
  simp only [Builtin.firstCells, Sem.run_pure]
  congr 1
  apply Array.toList_inj.1
  have : s.extract 0 s.size = s := by
    obtain ⟨⟨l⟩⟩ := s
    apply ByteArray.ext
    simp [ByteArray.size]
  rw [this]
  simp


theorem hnew_push {w : World} {c : List Value} {t : TypeId} : hnew w.heap w.heap.size c (w.heap.push (.cells c.toArray t)) :=
  ⟨rfl, t, 0, 0, fun i _ => by omega, rfl⟩
theorem run_newRow (t : TypeId) (c : List Value) (w : World) : (newRow t c.toArray).run P w = .ok ⟨w.heap.size, 0, none⟩ { w with heap := w.heap.push (.cells c.toArray t) } := by
  simp [newRow]

theorem storeO {w : World} {p : Option Addr} {vs : List Value} (h1 : ∀ v, v ∈ vs → v.oneCell' = true) (h2 : vs = [] ∨ ∃ a, p = some a ∧ hcan w.heap a vs.length) :
    ∃ w', (match p with | some a => storeCells a vs | none => pure () : Sem Unit).run P w = .ok () w' ∧ w'.heap = hwrO w.heap p vs ∧ Rest w w' := by
  cases p with
  | none => exact ⟨w, rfl, rfl, Rest.refl w⟩
  | some a =>
    have hcn : hcan w.heap a vs.length := by
      rcases h2 with rfl | ⟨q, hq, h⟩
      · intro i hi; simp at hi
      · cases hq; exact h
    obtain ⟨w', r1, r2, r3⟩ := run_storeCells0 (P := P) h1 hcn
    exact ⟨w', r1, r2, r3⟩

/-- What is appended: a source that reads as these cells. -/
theorem append_run {st xt e : TypeId} {ty : TypeId} {sz bytes : Nat} {z : List Ch} {p : Option Addr} {l c n : Nat} {xv : Value} {vs : List Value} {w : World} {K : SV → H → Prop}
    (hu : P.underlying st = some (.slice e)) (hxt : isSrcT P xt = true) (hsz : szOf P e = some sz) (hb : (P.info? e).map TypeInfo.bytes = some (bytes + 1)) (hz : zeroChs P e = some z)
    (hlen : ∀ w : World, (Builtin.lenOf xv).run P w = .ok n w) (hcells : ∀ w', w'.heap = w.heap → (Builtin.firstCells sz n xv).run P w' = .ok vs.toArray w') (hvn : vs.length = n * sz) (hv1 : ∀ v, v ∈ vs → v.oneCell' = true)
    (h : pApp w.heap sz (flats z) (bytes + 1) p l c n vs fun p' l' c' h' => K (.dv (.one (.slice p' l' c'))) h') :
    MemOk P (Builtin.append_ #[st, xt] ty #[.slice p l c, xv]) K w := by
  obtain ⟨hzok, i, zv, hi, hzv, hzc⟩ := zeroChs_sound hz
  have hib : i.bytes = bytes + 1 := by simp [hi] at hb; exact hb
  have hdx : (∃ e', P.underlying xt = some (.slice e')) ∨ P.underlying xt = some .string := by
    unfold isSrcT at hxt
    split at hxt
    · rename_i h'; exact .inl ⟨_, h'⟩
    · rename_i h'; exact .inr h'
    · simp at hxt
  unfold pApp at h
  by_cases hroom : l + n ≤ c
  · rw [if_pos hroom] at h
    obtain ⟨hcn, hK⟩ := h
    obtain ⟨w', r1, r2, r3⟩ := storeO (P := P) (w := w) (p := p.map (·.add (l * sz))) hv1 (by
      rcases hcn with rfl | ⟨a, rfl, hcn⟩
      · exact .inl rfl
      · exact .inr ⟨_, rfl, by rw [hvn]; exact hcn⟩)
    refine ⟨.dv (.one (.slice p (l + n) c)), .slice p (l + n) c, w', ?_, r3, ⟨rfl, rfl⟩, hK _ r2⟩
    rcases hdx with ⟨e', hdx⟩ | hdx
    all_goals
      simp only [Builtin.append_, List.getElem?_toArray, List.getElem?_cons_zero, List.getElem?_cons_succ, Sem.run_bind, run_underlying hu, Result.andThen_ok, run_sizeOf hsz, run_underlying hdx, Sem.run_pure,
        Bool.false_eq_true, if_false, hlen, hroom, if_true, Bool.not_false, hcells w rfl]
      cases p with
      | none => simp only [Option.map_none] at r1; simp only [Sem.run_pure]; cases r1; rfl
      | some a => simp only [Option.map_some] at r1; simp only [r1, Result.andThen_ok, Sem.run_bind, Sem.run_pure]
  · rw [if_neg hroom] at h
    obtain ⟨hfit, old, hold, hK⟩ := h
    have hneed : c < l + n := by omega
    have h48 := growslice_fits (bytes := i.bytes) hneed (by rw [hib]; exact hfit)
    let q := Question.appendCap (l + n) c e
    let cap := q.cut (w.tape w.drawn q)
    have hcap : l + n ≤ cap := by show l + n ≤ (l + n) + _; omega
    let w1 : World := { w with drawn := w.drawn + 1 }
    have hrest : Builtin.zeroCells zv.cells (cap - (l + n)) = (List.replicate (cap - (l + n)) (flats z)).flatten.toArray := by
      apply Array.toList_inj.1
      simp only [Builtin.zeroCells, Array.toList_map, Array.toList_range]
      rw [range_mod, hzc]
    refine ⟨.dv (.one (.slice (some ⟨w.heap.size, 0, none⟩) (l + n) cap)), _, { w1 with heap := w1.heap.push (.cells (old ++ vs ++ (List.replicate (cap - (l + n)) (flats z)).flatten).toArray e) },
      ?_, ⟨rfl, rfl, rfl⟩, ⟨rfl, rfl⟩, hK cap _ _ hcap hnew_push⟩
    have hold' : (Builtin.firstCells sz l (.slice p l c)).run P w1 = .ok old.toArray w1 := firstCells_hsv (w := w1) (show hsv w1.heap p sz l old from hold) l c
    have hne : ¬ (i.bytes = 0) := by omega
    have hbig : ¬ (281474976710656 < Builtin.nextslicecap (l + n) c * i.bytes) := by omega
    have hc1 := hcells w1 rfl
    have hrest' : Builtin.zeroCells zv.cells (cap - (l + n)) = _ := hrest
    simp only [cap, q] at hrest'
    simp only [w1] at hold' hc1 ⊢
    have happ : old.toArray ++ vs.toArray ++ (List.replicate (Question.cut (Question.appendCap (l + n) c e) (w.tape w.drawn (Question.appendCap (l + n) c e)) - (l + n)) (flats z)).flatten.toArray =
        (old ++ vs ++ (List.replicate (Question.cut (Question.appendCap (l + n) c e) (w.tape w.drawn (Question.appendCap (l + n) c e)) - (l + n)) (flats z)).flatten).toArray := by simp
    rcases hdx with ⟨e', hdx⟩ | hdx
    all_goals
      simp only [Builtin.append_, List.getElem?_toArray, List.getElem?_cons_zero, List.getElem?_cons_succ, Sem.run_bind, run_underlying hu, Result.andThen_ok, run_sizeOf hsz, run_underlying hdx, Sem.run_pure,
        Bool.false_eq_true, if_false, hlen, hroom, Bool.not_false, run_typeInfo hi, Nat.reducePow, gt_iff_lt, hbig, hne, or_self, and_false, run_choose, Question.forced, run_askRoom]
      rw [hold']
      simp only [Result.andThen_ok, hc1, if_true, run_zero hi hzv]
      rw [hrest', happ, run_newRow]
      rfl

theorem Dappend_sound {ats : Array TypeId} {args : List Operand} {fr : Fr} {a : Act} {ty : TypeId} {w : World} {K : SV → H → Prop} (hFR : FR fr a.tmps)
    (h : Dappend P ats.toList (args.map (ev fr)) K w.heap) : MemOk P (Builtin.append_ ats ty (args.map a.eval).toArray) K w := by
  obtain ⟨ats⟩ := ats
  simp only at h
  unfold Dappend at h
  split at h
  · rename_i st xt p l c x hargs
    obtain ⟨o1, o2, rfl, h1, h2⟩ := map2 hargs
    obtain ⟨_, hv1⟩ := ev_dv hFR h1
    split at h
    · rename_i e hu hxt
      split at h
      · rename_i sz bytes z hsz hb hz
        unfold srcOf at h
        split at h
        · rename_i q n qc
          obtain ⟨_, hv2⟩ := ev_dv hFR h2
          obtain ⟨vs, hvs, h⟩ := h
          simp only [List.map_cons, List.map_nil, hv1, hv2, DV.flat]
          exact append_run hu hxt hsz hb hz (fun w => rfl) (fun w' hw' => firstCells_hsv (by rw [hw']; exact hvs) n qc) hvs.1 hvs.2.1 h
        · rename_i s
          obtain ⟨_, hv2⟩ := ev_dv hFR h2
          split at h
          · rename_i hs1
            have hs1 := Nat.eq_of_beq_eq_true hs1
            subst hs1
            simp only [List.map_cons, List.map_nil, hv1, hv2, DV.flat]
            refine append_run hu hxt hsz hb hz (fun w => rfl) (fun w' _ => firstCells_string s) (by simp) ?_ h
            intro v hv
            simp at hv
            obtain ⟨b, _, rfl⟩ := hv
            rfl
          · exact h.elim
        · exact h.elim
      · exact h.elim
    · exact h.elim
  · exact h.elim

theorem Dcopy_sound {ats : Array TypeId} {args : List Operand} {fr : Fr} {a : Act} {ty : TypeId} {w : World} {K : SV → H → Prop} (hFR : FR fr a.tmps)
    (h : Dcopy P ats.toList (args.map (ev fr)) K w.heap) : MemOk P (Builtin.copy_ ats ty (args.map a.eval).toArray) K w := by
  obtain ⟨ats⟩ := ats
  simp only at h
  unfold Dcopy at h
  split at h
  · rename_i st r p l c q n d hargs
    obtain ⟨o1, o2, rfl, h1, h2⟩ := map2 hargs
    obtain ⟨_, hv1⟩ := ev_dv hFR h1
    obtain ⟨_, hv2⟩ := ev_dv hFR h2
    split at h
    · rename_i e hu
      split at h
      · rename_i sz hsz
        obtain ⟨vs, hvs, hcn, hK⟩ := h
        obtain ⟨w', r1, r2, r3⟩ := storeO (P := P) (w := w) (p := p) hvs.2.1 (by rw [hvs.1]; exact hcn)
        refine ⟨.dv (.one (.int .i64 (Nat.min n l : Nat))), _, w', ?_, r3, ⟨rfl, rfl⟩, hK _ r2⟩
        simp only [List.map_cons, List.map_nil, hv1, hv2, DV.flat, Builtin.copy_, List.getElem?_toArray, List.getElem?_cons_zero, List.getElem?_cons_succ, Sem.run_bind, run_underlying hu, Result.andThen_ok, Builtin.lenOf,
          Sem.run_pure, run_sizeOf hsz, firstCells_hsv hvs]
        cases p with
        | none => simp only at r1; simp only [Sem.run_pure]; cases r1; rfl
        | some a => simp only at r1; simp only [Sem.run_bind, r1, Result.andThen_ok, Sem.run_pure, goInt]
      · exact h.elim
    · exact h.elim
  · exact h.elim

theorem run_alloc_zero {t : TypeId} {cs : List Ch} (hz : zeroChs P t = some cs) (w : World) :
    (Instr.alloc t true (.tuple #[])).run P w = .ok (.pointer (some ⟨w.heap.size, 0, none⟩)) { w with heap := w.heap.push (.cells (flats cs).toArray t) } := by
  obtain ⟨hzok, i, zv, hi, hzv, hzc⟩ := zeroChs_sound hz
  have e : zv.cells = (flats cs).toArray := by apply Array.toList_inj.1; simp [hzc]
  simp [Instr.alloc, run_zero hi hzv, newVar, e, run_newRow]

theorem setParts_sound {sz : Nat} : ∀ (parts : List (Nat × SV)) (vals : List (Nat × Value)) (l l' : List (List Ch)) (cells : Array Value),
    parts.length = vals.length → (∀ (i : Nat) (p : Nat × SV) (q : Nat × Value), parts[i]? = some p → vals[i]? = some q → p.1 = q.1 ∧ p.2.rel q.2) →
    setParts sz parts l = some l' → (∀ x, x ∈ l → oks x ∧ chsSize x = sz) → cells.toList = flats l.flatten →
    (∀ x, x ∈ l' → oks x ∧ chsSize x = sz) ∧ ∃ cells' : Array Value, Instr.fill (fun i => some (i * sz, sz)) cells vals = some cells' ∧ cells'.toList = flats l'.flatten := by
  intro parts
  induction parts with
  | nil =>
    intro vals l l' cells hlen _ h hok hc
    cases vals with
    | nil => simp [setParts] at h; subst h; exact ⟨hok, cells, rfl, hc⟩
    | cons _ _ => simp at hlen
  | cons p parts ih =>
    intro vals l l' cells hlen hrel h hok hc
    cases vals with
    | nil => simp at hlen
    | cons q vals =>
    obtain ⟨i, sv⟩ := p
    obtain ⟨i', v⟩ := q
    obtain ⟨he, hr⟩ := hrel 0 _ _ rfl rfl
    simp only at he hr
    subst he
    cases sv with
    | un => simp [setParts] at h
    | nd => simp [setParts] at h
    | tup _ => simp [setParts] at h
    | dv x =>
      obtain ⟨hx, rfl⟩ := hr
      simp only [setParts] at h
      split at h
      · rename_i hs hlt
        have hs := Nat.eq_of_beq_eq_true hs
        have hlt : i < l.length := Nat.le_of_ble_eq_true hlt
        have hxs := DV.chs_oks hx
        have hcl := DV.cells_flat hx
        have hcs : x.flat.cells.size = sz := by rw [hcl]; simp [flats_length hxs, hs]
        -- how the flattened list parts at the i-th element
        have hfl : ∀ (m : List (List Ch)), (∀ x, x ∈ m → oks x ∧ chsSize x = sz) → (flats m.flatten).length = m.length * sz := by
          intro m
          induction m with
          | nil => intro _; simp [flats]
          | cons y m ihm =>
            intro hm
            simp only [List.flatten_cons, flats_append, List.length_append, List.length_cons]
            rw [ihm (fun x hx => hm x (by simp [hx])), flats_length (hm y (by simp)).1, (hm y (by simp)).2, Nat.succ_mul, Nat.add_comm]
        have hsplit : l = l.take i ++ l[i] :: l.drop (i + 1) := by rw [List.getElem_cons_drop, List.take_append_drop]
        have htk : ∀ x, x ∈ l.take i → oks x ∧ chsSize x = sz := fun x hx => hok x (List.mem_of_mem_take hx)
        have hln : (flats (l.take i).flatten).length = i * sz := by rw [hfl _ htk]; simp [Nat.min_eq_left (Nat.le_of_lt hlt)]
        have hli : (flats l[i]).length = sz := by rw [flats_length (hok _ (List.getElem_mem hlt)).1, (hok _ (List.getElem_mem hlt)).2]
        have hall : flats l.flatten = flats (l.take i).flatten ++ (flats l[i] ++ flats (l.drop (i + 1)).flatten) := by
          calc flats l.flatten = flats (l.take i ++ l[i] :: l.drop (i + 1)).flatten := congrArg (fun m => flats (List.flatten m)) hsplit
            _ = _ := by simp only [List.flatten_append, List.flatten_cons, flats_append]
        obtain ⟨cells', h1, h2⟩ := fill_cons (rest := vals) (place := fun i => some (i * sz, sz)) (i := i) rfl hcs (cells := cells) (by
          rw [← Array.length_toList, hc, hall]; simp only [List.length_append, hln, hli]; omega)
        rw [h2]
        refine ih vals (l.set i x.chs) l' cells' (by simpa using hlen) (fun j p q h3 h4 => hrel (j + 1) p q (by simpa using h3) (by simpa using h4)) h ?_ ?_
        · intro y hy
          rcases List.mem_or_eq_of_mem_set hy with hy | rfl
          · exact hok y hy
          · exact ⟨hxs, hs⟩
        · rw [h1, hc, hcl, List.set_eq_take_append_cons_drop, if_pos hlt]
          have e1 : List.take (i * sz) (flats l.flatten) = flats (l.take i).flatten := by rw [hall, List.take_left' hln]
          have e2 : List.drop (i * sz + sz) (flats l.flatten) = flats (l.drop (i + 1)).flatten := by
            rw [hall, ← List.append_assoc, List.drop_left' (by simp [hln, hli])]
          rw [e1, e2]
          simp [flats_append]
      · simp at h

theorem flats_replicate (n : Nat) (z : List Ch) : flats (List.replicate n z).flatten = (List.replicate n (flats z)).flatten := by
  induction n with
  | zero => rfl
  | succ n ih => simp [List.replicate_succ, flats_append, ih]

theorem lookupT_mem {T : Tbl} {f : Nat} {r : Run} (h : lookupT T f = some r) : (f, r) ∈ T := by
  induction T with
  | nil => simp [lookupT] at h
  | cons x T ih =>
    obtain ⟨g, r'⟩ := x
    simp only [lookupT] at h
    split at h
    · rename_i hg
      have := Nat.eq_of_beq_eq_true hg
      simp at h; subst h; subst this; exact List.mem_cons_self
    · exact List.mem_cons_of_mem _ (ih h)

theorem run_callFunc_of {f : FuncId} (h : callable P f = true) (args : Array Value) (w : World) : (callFunc f args).run P w = .ok (.enter f args) w := by
  unfold callable at h
  cases hf : P.funcs[f]? with
  | none => simp [hf] at h
  | some fn =>
    simp only [hf, Bool.and_eq_true, Bool.not_eq_true'] at h
    have hb : fn.body.isNone = false := by cases hbb : fn.body <;> simp [hbb] at h ⊢
    simp only [callFunc, Sem.run_bind, run_program, Result.andThen_ok, hf, h.1, Bool.false_eq_true, if_false, hb, Sem.run_pure]

theorem dvs_sound {fr : Fr} {a : Act} (hFR : FR fr a.tmps) : ∀ (xs : List Operand) (ds : List DV), dvs (xs.map (ev fr)) = some ds → (∀ d, d ∈ ds → d.ok) ∧ xs.map a.eval = ds.map DV.flat := by
  intro xs
  induction xs with
  | nil => intro ds h; simp [dvs] at h; subst h; exact ⟨fun _ h => (by cases h), rfl⟩
  | cons x xs ih =>
    intro ds h
    simp only [List.map_cons] at h
    cases hx : ev fr x with
    | dv d =>
      simp only [hx, dvs] at h
      obtain ⟨hok, hv⟩ := ev_dv hFR hx
      cases h2 : dvs (xs.map (ev fr)) with
      | none => simp [h2] at h
      | some r =>
        simp [h2] at h
        subst h
        obtain ⟨h3, h4⟩ := ih r h2
        exact ⟨fun y hy => by rcases List.mem_cons.1 hy with rfl | hy; exact hok; exact h3 y hy, by simp [h4, hv]⟩
    | un => simp [hx, dvs] at h
    | nd => simp [hx, dvs] at h
    | tup _ => simp [hx, dvs] at h
theorem toDV_flat (v : Value) : (toDV v).flat = v := by
  unfold toDV
  split <;> rfl
theorem toDV_ok {v : Value} (h : v.oneCell' = true) : (toDV v).ok := by
  unfold toDV
  split
  · trivial
  · exact h
theorem toSV_rel {xs : List DV} (h : ∀ x, x ∈ xs → x.ok) : (toSV xs).rel (resVal xs) := by
  unfold toSV resVal
  split
  · exact ⟨h _ (by simp), rfl⟩
  · exact ⟨h, rfl⟩

theorem isSh_elim {s : Sh} {x : DV} {K : DV → Prop} (h : isSh s x K) : K x := by
  cases s <;> simp only [isSh] at h
  case slc => obtain ⟨p, l, c, rfl, h⟩ := h; exact h
  all_goals obtain ⟨n, rfl, h⟩ := h; exact h
theorem tyRes_elim : ∀ (shs : List TSh) (rs : List DV) (K : List DV → Prop), tyRes shs rs K → K rs := by
  intro shs
  induction shs with
  | nil => intro rs K h; obtain ⟨rfl, h⟩ := h; exact h
  | cons s shs ih =>
    intro rs K h
    cases s with
    | sc s =>
      obtain ⟨x, rest, rfl, h⟩ := h
      exact ih rest (fun l => K (x :: l)) (isSh_elim h)
    | ag _ => exact h.elim

theorem next_callsV {f : FuncId} {args : List Value} {Q : List DV → H → Prop} {K : SV → H → Prop} {w : World} (h : callsV P f args Q w.heap) (hQ : ∀ rs h', Q rs h' → K (toSV rs) h') (args' : Array Value) (ha : args' = args.toArray) :
    NextOk P K w ((callFunc f args').run P w) := by
  subst ha
  rw [run_callFunc_of h.1]
  refine ⟨rfl, (h.2 w rfl).mono fun e w' he => ?_⟩
  obtain ⟨xs, hok, rfl, hr, hq⟩ := he
  exact ⟨_, toSV xs, rfl, hr, toSV_rel hok, hQ _ _ hq⟩

theorem Dcall_sound {T : Tbl} (hT : TblOk P T) {f : Operand} {args : Array Operand} {ats : Array TypeId} {ty : TypeId} {fr : Fr} {a : Act} (hFR : FR fr a.tmps) {K : SV → H → Prop} {w : World}
    (h : Dcall P T ty (ev fr f) (dvs (args.toList.map (ev fr))) K w.heap) :
    NextOk P K w ((do let d ← resolve a.eval { callee := .value f, args, argTypes := ats } ty; invoke d.target d.args : Sem Next).run P w) := by
  unfold Dcall at h
  split at h
  · rename_i g fa fc xs hf hxs
    obtain ⟨_, hv⟩ := ev_dv hFR hf
    obtain ⟨hok, hargs⟩ := dvs_sound hFR _ _ hxs
    split at h
    · rename_i run hrun hone
      have hone' : ∀ v, v ∈ fa.toList ++ fc.toList → v.oneCell' = true := by rw [List.all_eq_true] at hone; exact hone
      have hc := hT g run (lookupT_mem hrun) _ _ _ (by
        intro x hx
        simp only [List.mem_append, List.mem_map] at hx
        rcases hx with (⟨v, hv, rfl⟩ | hx) | ⟨v, hv, rfl⟩
        · exact toDV_ok (hone' v (by simp [hv]))
        · exact hok x hx
        · exact toDV_ok (hone' v (by simp [hv]))) h
      have e : ((do let d ← resolve a.eval { callee := .value f, args, argTypes := ats } ty; invoke d.target d.args : Sem Next).run P w) = (callFunc g (fa ++ args.map a.eval ++ fc)).run P w := by
        simp [resolve, hv, DV.flat, Deferred.ofValue, invoke]
      rw [e]
      refine next_callsV hc (fun rs h' hh => hh) _ ?_
      apply Array.toList_inj.1
      simp only [Array.toList_append, Array.toList_map, List.map_append, List.map_map]
      rw [hargs]
      have : ∀ l : List Value, l.map (DV.flat ∘ toDV) = l := fun l => by
        have : (DV.flat ∘ toDV) = id := funext toDV_flat
        rw [this]; simp
      rw [this, this]
    · exact h.elim
  · rename_i v xs hf hxs
    obtain ⟨_, hv⟩ := ev_dv hFR hf
    obtain ⟨hok, hargs⟩ := dvs_sound hFR _ _ hxs
    split at h
    · rename_i shs hshs
      obtain ⟨g, fa, fc, rfl, hc⟩ := h
      have e : ((do let d ← resolve a.eval { callee := .value f, args, argTypes := ats } ty; invoke d.target d.args : Sem Next).run P w) = (callFunc g (fa ++ args.map a.eval ++ fc)).run P w := by
        simp [resolve, hv, DV.flat, Deferred.ofValue, invoke]
      rw [e]
      refine next_callsV hc (fun rs h' hh => tyRes_elim _ _ _ hh) _ ?_
      apply Array.toList_inj.1
      simp only [Array.toList_append, Array.toList_map]
      rw [hargs]
    · exact h.elim
  · exact h.elim

theorem oper_eta (o : Oper) : o = { o with } := rfl

theorem Dmem_sound {T : Tbl} (hT : TblOk P T) {o : Oper} {fr : Fr} {a : Act} (hFR : FR fr a.tmps) {K : SV → H → Prop} {w : World} (h : Dmem P T o fr K w.heap) :
    NextOk P K w ((execOp a.eval o).run P w) := by
  unfold execOp
  cases hop : o.op with
  | alloc t =>
    simp only [Dmem, hop] at h
    split at h
    · rename_i cs hz
      refine MemOk.next ⟨.dv (.addr ⟨w.heap.size, 0, none⟩), _, _, run_alloc_zero hz w, ⟨rfl, rfl, rfl⟩, ⟨trivial, rfl⟩, h _ _ hnew_push⟩
    · exact h.elim
  | box t x =>
    simp only [Dmem, hop] at h
    split at h
    · rename_i d hx
      obtain ⟨hok, hv⟩ := ev_dv hFR hx
      refine MemOk.next ⟨.dv (.addr ⟨w.heap.size, 0, none⟩), _, { w with heap := w.heap.push (.cells (flats d.chs).toArray t) }, ?_, ⟨rfl, rfl, rfl⟩, ⟨trivial, rfl⟩, h _ _ hnew_push⟩
      simp [Instr.box, newVar, hv, DV.cells_flat hok, run_newRow]
      rfl
    · exact h.elim
  | buildSlice t n parts =>
    simp only [Dmem, hop] at h
    split at h
    · rename_i e hu
      split at h
      · rename_i sz z hsz hz
        split at h
        · rename_i l hle hl
          simp only [Bool.and_eq_true] at hle
          have h24 := Nat.le_of_ble_eq_true hle.1
          have hzs := Nat.eq_of_beq_eq_true hle.2
          obtain ⟨hzok, i, zv, hi, hzv, hzc⟩ := zeroChs_sound hz
          have hzl : zv.cells.size = sz := by rw [← Array.length_toList, hzc, flats_length hzok, hzs]
          obtain ⟨_, cells', h1, h2⟩ := setParts_sound (parts.toList.map fun (i, x) => (i, ev fr x)) (parts.map fun (i, x) => (i, a.eval x)).toList (List.replicate n z) l
            ((Array.range (n * sz)).map (zv.cells[· % zv.cells.size]!)) (by simp) (by
              intro i p q h1 h2
              simp only [List.getElem?_map, Array.toList_map, Option.map_eq_some_iff] at h1 h2
              obtain ⟨x, hx, rfl⟩ := h1
              obtain ⟨y, hy, rfl⟩ := h2
              rw [hx] at hy
              injection hy with hy
              subst hy
              exact ⟨rfl, ev_rel hFR _⟩) hl (by intro x hx; rw [List.eq_of_mem_replicate hx]; exact ⟨hzok, hzs⟩) (by
              simp only [Array.toList_map, Array.toList_range]
              rw [← hzl, range_mod, hzc, flats_replicate])
          refine MemOk.next ⟨.dv (.one (.slice (some ⟨w.heap.size, 0, none⟩) n n)), _, { w with heap := w.heap.push (.cells (flats l.flatten).toArray e) }, ?_, ⟨rfl, rfl, rfl⟩, ⟨rfl, rfl⟩, h _ _ hnew_push⟩
          have hcells : cells' = (flats l.flatten).toArray := by apply Array.toList_inj.1; simp [h2]
          subst hcells
          have hng : ¬ (n * sz > 16777216) := by omega
          by_cases h0 : n * sz = 0
          · have hempty : (Array.range (n * sz)).map (zv.cells[· % zv.cells.size]!) = (Array.range (n * sz)).map ((#[] : Array Value)[· % (#[] : Array Value).size]!) := by simp [h0]
            rw [hempty] at h1
            simp only [Instr.buildSlice, Sem.run_bind, run_underlying hu, Result.andThen_ok, run_sizeOf hsz, Nat.reducePow, gt_iff_lt, if_neg hng, if_pos h0, Sem.run_pure, h1, run_newRow]
            rfl
          · simp only [Instr.buildSlice, Sem.run_bind, run_underlying hu, Result.andThen_ok, run_sizeOf hsz, Nat.reducePow, gt_iff_lt, if_neg hng, if_neg h0, run_zero hi hzv, Sem.run_pure, h1, run_newRow]
            rfl
        · exact h.elim
      · exact h.elim
    · exact h.elim
  | makeSlice t l c =>
    simp only [Dmem, hop] at h
    split at h
    · rename_i e l' c' hu hl hc
      obtain ⟨kl, hvl⟩ := asI_rel (ev_rel hFR l) hl
      obtain ⟨kc, hvc⟩ := asI_rel (ev_rel hFR c) hc
      split at h
      · rename_i bytes z hzs hb hz
        obtain ⟨h0, h1, h2, h3, hK⟩ := h
        obtain ⟨hzok, i, zv, hi, hzv, hzc⟩ := zeroChs_sound hz
        have hib : i.bytes = bytes := by simp [hi] at hb; exact hb
        cases hsz : szOf P e with
        | none => simp [hsz] at hzs
        | some sz =>
        simp [hsz, hz] at hzs
        have hzl : zv.cells.size = sz := by rw [← Array.length_toList, hzc, flats_length hzok, hzs]
        refine MemOk.next ⟨.dv (.one (.slice (some ⟨w.heap.size, 0, none⟩) l'.toNat c'.toNat)), _, { w with heap := w.heap.push (.cells ((List.replicate c'.toNat (flats z)).flatten).toArray e) }, ?_, ⟨rfl, rfl, rfl⟩, ⟨rfl, rfl⟩, hK _ _ hnew_push⟩
        have wl : IntKind.i64.wrap l' = l' := by
          unfold IntKind.wrap; simp [IntKind.bits, IntKind.signed]; omega
        have wc : IntKind.i64.wrap c' = c' := by
          unfold IntKind.wrap; simp [IntKind.bits, IntKind.signed]; omega
        have hcells : (Array.range (c'.toNat * sz)).map (zv.cells[· % zv.cells.size]!) = ((List.replicate c'.toNat (flats z)).flatten).toArray := by
          apply Array.toList_inj.1
          simp only [Array.toList_map, Array.toList_range]
          rw [← hzl, range_mod, hzc]
        have t1 : ¬ ((decide (c' < 0) || decide ((i.bytes : Int) * c' > 281474976710656) || decide (l' < 0) || decide (l' > c')) = true) := by
          rw [hib]; simp; omega
        simp only [Instr.makeSlice, Sem.run_bind, run_underlying hu, Result.andThen_ok, hvl, hvc, asInt, asIntOf, Sem.run_pure, run_typeInfo hi, wl, wc, Int.reducePow]
        rw [if_neg t1]
        simp only [Sem.run_bind, run_askRoom, Result.andThen_ok, run_sizeOf hsz]
        by_cases hn0 : c'.toNat * sz = 0
        · have hr : Array.range (c'.toNat * sz) = #[] := by rw [hn0]; rfl
          have he : (List.replicate c'.toNat (flats z)).flatten = [] := by
            have := congrArg Array.toList hcells
            rw [hr] at this
            simpa using this.symm
          simp only [if_pos hn0, Sem.run_pure, Result.andThen_ok, hr, he, Array.map_empty, Sem.run_bind, newRow, run_newObj]
          rfl
        · simp only [if_neg hn0, Sem.run_bind, run_zero hi hzv, Sem.run_pure, Result.andThen_ok, hcells, run_newRow]
          rfl
      · exact h.elim
    · exact h.elim
  | load t x =>
    simp only [Dmem, hop] at h
    split at h
    · rename_i p hx
      obtain ⟨_, hv⟩ := ev_dv hFR hx
      obtain ⟨d, hok, hcell, hK, hrun⟩ := ldT_sound h
      refine MemOk.next ⟨.dv d, d.flat, w, ?_, Rest.refl w, ⟨hok, rfl⟩, hK⟩
      simp [hv, DV.flat, Instr.loadAt, Instr.sureAddr, hrun w hcell]
    · exact h.elim
  | store t x y =>
    simp only [Dmem, hop] at h
    split at h
    · rename_i p d hx hy
      obtain ⟨_, hv⟩ := ev_dv hFR hx
      obtain ⟨hok, hv2⟩ := ev_dv hFR hy
      split at h
      · rename_i sz hsz
        split at h
        · rename_i hn
          have hn := Nat.eq_of_beq_eq_true hn
          obtain ⟨hcn, hK⟩ := h
          obtain ⟨w', r1, r2, r3⟩ := run_storeVar (P := P) hok hsz hn hcn
          have e : (do Instr.storeAt t (a.eval x) (a.eval y); pure Next.skip : Sem Next).run P w = .ok .skip w' := by
            simp [hv, hv2, Instr.storeAt, Instr.sureAddr, DV.flat]
            have : (storeVar t p d.flat).run P w = .ok () w' := r1
            simp only [DV.flat] at this
            rw [this]
            rfl
          simp only [e]
          exact ⟨r3, hK _ r2⟩
        · exact h.elim
      · exact h.elim
    · exact h.elim
  | convert s d x =>
    simp only [Dmem, hop] at h
    split at h
    · rename_i e p l c hs hd hx
      obtain ⟨_, hv⟩ := ev_dv hFR hx
      split at h
      · rename_i he
        obtain ⟨ns, hns, hK⟩ := h
        refine MemOk.next ⟨.dv (.one (.string (bytesOf ns))), _, w, ?_, Rest.refl w, ⟨rfl, rfl⟩, hK⟩
        rw [hv]
        simp only [DV.flat]
        rw [run_convert_bytes_string w s d e p l c hs he hd]
        have hlen : ns.length = l := by have := hns.1; simpa [ints] using this
        have hb : bytesOf ns = ns.foldl (fun r n => r.push (UInt8.ofNat n.toNat)) ByteArray.empty := by
          have gen : ∀ (ns : List Int) (b : ByteArray), ns.foldl (fun r n => r.push (UInt8.ofNat n.toNat)) b = ⟨b.data ++ (ns.map fun n => UInt8.ofNat n.toNat).toArray⟩ := by
            intro ns
            induction ns with
            | nil => intro b; simp
            | cons n ns ih => intro b; simp only [List.foldl_cons, ih, List.map_cons]; congr 1; apply Array.toList_inj.1; simp [ByteArray.push]
          rw [gen]; simp [bytesOf]
        cases p with
        | none =>
          have : ns = [] := by
            rcases hns.2.2 with h | ⟨q, hq, _⟩
            · simpa [ints] using h
            · cases hq
          subst this
          simp [Conv.bytesToString]; rfl
        | some q =>
          have hl : (loadCells q l).run P w = .ok (ns.map (Value.int .u8)).toArray w := by
            have := firstCells_hsv (P := P) hns l c
            simpa [Builtin.firstCells, ints] using this
          rw [run_bytesToString w q l c ns hl, hb]
      · exact h.elim
    · exact h.elim
  | call c =>
    obtain ⟨callee, args, ats⟩ := c
    simp only [Dmem, hop] at h
    split at h
    · rename_i f
      exact Dcall_sound hT hFR h
    · obtain ⟨x, v, w', h1, h2, h3, h4⟩ := Dappend_sound (P := P) (ty := o.type) hFR h
      have e : args.map a.eval = (args.toList.map a.eval).toArray := by apply Array.toList_inj.1; simp
      simp only [resolve, Sem.run_bind, Sem.run_pure, Result.andThen_ok, invoke, builtin, e, h1]
      exact ⟨h2, x, h3, h4⟩
    · obtain ⟨x, v, w', h1, h2, h3, h4⟩ := Dcopy_sound (P := P) (ty := o.type) hFR h
      have e : args.map a.eval = (args.toList.map a.eval).toArray := by apply Array.toList_inj.1; simp
      simp only [resolve, Sem.run_bind, Sem.run_pure, Result.andThen_ok, invoke, builtin, e, h1]
      exact ⟨h2, x, h3, h4⟩
    · exact h.elim
  | _ => simp only [Dmem, hop] at h

theorem Dop_sound {T : Tbl} (hT : TblOk P T) {o : Oper} {fr : Fr} {a : Act} (hFR : FR fr a.tmps) {K : SV → H → Prop} {w : World} (h : Dop P T o fr K w.heap) :
    NextOk P K w ((execOp a.eval o).run P w) := by
  unfold Dop at h
  split at h
  · obtain ⟨x, v, h1, h2, h3⟩ := Dpure_sound (P := P) hFR h
    rw [h3 w]
    exact ⟨Rest.refl w, x, h1, h2⟩
  · exact Dmem_sound hT hFR h
end Go.Vc
