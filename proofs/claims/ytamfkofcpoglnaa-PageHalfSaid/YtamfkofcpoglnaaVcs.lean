/- The denotation of the model's code is sound: first the operations that touch no memory, loads and stores. Own work; generic over any program. -/
import Derived.Test.YtamfkofcpoglnaaVc
set_option autoImplicit false
set_option linter.all false
namespace Go.Vc
variable {P : Program}

theorem Rest.refl (w : World) : Rest w w := ⟨rfl, rfl, rfl⟩
theorem Rest.trans {a b c : World} (h : Rest a b) (k : Rest b c) : Rest a c := ⟨k.1.trans h.1, k.2.1.trans h.2.1, k.2.2.trans h.2.2⟩

theorem add_add (a : Addr) (n m : Nat) : (a.add n).add m = a.add (n + m) := by
  unfold Addr.add
  by_cases hm : m = 0
  · subst hm; simp
  · by_cases hn : n = 0
    · subst hn; simp [hm]
    · simp [hm, hn, Nat.add_assoc]
theorem add_zero (a : Addr) : a.add 0 = a := by simp [Addr.add]

/-! ### Chunks -/
theorem flat_length {c : Ch} (h : c.ok) : c.flat.length = c.size := by
  cases c with
  | c v => rfl
  | row k n ns => simp only [Ch.ok] at h; simp [Ch.flat, ints, Ch.size, h]
theorem oks_cons {c : Ch} {r : List Ch} (h : oks (c :: r)) : c.ok ∧ oks r := ⟨h c (by simp), fun x hx => h x (by simp [hx])⟩
theorem oks_mk {c : Ch} {r : List Ch} (h : c.ok) (hr : oks r) : oks (c :: r) := fun x hx => by
  rcases List.mem_cons.1 hx with rfl | hx
  · exact h
  · exact hr x hx
theorem oks_nil : oks [] := fun _ h => by cases h
theorem flats_length {cs : List Ch} (h : oks cs) : (flats cs).length = chsSize cs := by
  induction cs with
  | nil => rfl
  | cons c r ih => obtain ⟨h1, h2⟩ := oks_cons h; simp [flats, chsSize, flat_length h1, ih h2]
theorem flats_append (a b : List Ch) : flats (a ++ b) = flats a ++ flats b := by
  induction a with
  | nil => rfl
  | cons c r ih => simp [flats, ih]
theorem chsSize_append (a b : List Ch) : chsSize (a ++ b) = chsSize a + chsSize b := by
  induction a with
  | nil => simp [chsSize]
  | cons c r ih => simp [chsSize, ih, Nat.add_assoc]
theorem oks_append {a b : List Ch} (ha : oks a) (hb : oks b) : oks (a ++ b) := fun x hx => by
  rcases List.mem_append.1 hx with h | h
  · exact ha x h
  · exact hb x h
theorem flat_one {c : Ch} (h : c.ok) : ∀ v, v ∈ c.flat → v.oneCell' = true := by
  cases c with
  | c v => intro u hu; simp [Ch.flat] at hu; subst hu; exact h
  | row k n ns => intro u hu; simp [Ch.flat, ints] at hu; obtain ⟨x, _, rfl⟩ := hu; rfl
theorem flats_one {cs : List Ch} (h : oks cs) : ∀ v, v ∈ flats cs → v.oneCell' = true := by
  induction cs with
  | nil => intro v hv; cases hv
  | cons c r ih =>
    obtain ⟨h1, h2⟩ := oks_cons h
    intro v hv
    rcases List.mem_append.1 hv with hv | hv
    · exact flat_one h1 v hv
    · exact ih h2 v hv

theorem DV.chs_oks {d : DV} (h : d.ok) : oks d.chs := by
  cases d with
  | one v => exact oks_mk h oks_nil
  | addr p => exact oks_mk (by simp [Ch.ok, Value.oneCell']) oks_nil
  | fnv v => exact oks_mk h oks_nil
  | agg cs => exact h
theorem DV.cells_flat {d : DV} (h : d.ok) : d.flat.cells = (flats d.chs).toArray := by
  cases d with
  | one v => simp only [DV.ok] at h; cases v <;> first | rfl | (simp [Value.oneCell'] at h)
  | addr p => rfl
  | fnv v => simp only [DV.ok] at h; cases v <;> first | rfl | (simp [Value.oneCell'] at h)
  | agg cs => rfl

/-! ### Frames -/
theorem get_putO (fr : Fr) (d : Option Nat) (v : SV) (i : Nat) : get (putO d v fr) i = if d = some i then v else get fr i := by
  cases d with
  | none => simp [putO]
  | some d =>
    simp only [putO, get, Option.some.injEq]
    cases h : Nat.beq i d with
    | true => have := Nat.eq_of_beq_eq_true h; simp [this]
    | false => have := Nat.ne_of_beq_eq_false h; simp [Ne.symm this]

theorem FR.put {fr : Fr} {a : Act} (h : FR fr a.tmps) (d : Option Nat) (hd : ∀ i, d = some i → i < a.tmps.size) {x : SV} {v : Value} (hx : x.rel v) : FR (putO d x fr) (a.put d v).tmps := by
  intro i
  rw [get_putO]
  cases d with
  | none => simpa [Act.put] using h i
  | some d =>
    have hs := hd d rfl
    by_cases hd : d = i
    · subst hd
      simpa [Act.put, hs] using hx
    · have : ¬ some d = some i := by simpa using hd
      rw [if_neg this]
      have h2 := h i
      simp only [Act.put]
      simpa [Array.getElem?_setIfInBounds, hd] using h2
theorem size_put (a : Act) (d : Option Nat) (v : Value) : (a.put d v).tmps.size = a.tmps.size := by cases d <;> simp [Act.put]
theorem defers_put (a : Act) (d : Option Nat) (v : Value) : (a.put d v).defers = a.defers := by cases d <;> rfl

theorem constSV_rel (v : Value) : (constSV v).rel v := by
  cases v <;> simp [constSV, SV.rel, DV.ok, DV.flat, Value.oneCell']
theorem ev_rel {fr : Fr} {a : Act} (h : FR fr a.tmps) (x : Operand) : (ev fr x).rel (a.eval x) := by
  cases x with
  | tmp t => exact h t
  | const v => exact constSV_rel v
  | global g => simp [ev, SV.rel, DV.ok, DV.flat, Act.eval]
  | func f => simp [ev, SV.rel, DV.ok, DV.flat, Act.eval, Value.oneCell']
theorem ev_dv {fr : Fr} {a : Act} (h : FR fr a.tmps) {x : Operand} {d : DV} (he : ev fr x = .dv d) : d.ok ∧ a.eval x = d.flat := by
  have := ev_rel h x
  rw [he] at this
  exact this

/-! ### Types -/
theorem tsh_sc {t : TypeId} {s : Sh} (h : tsh P t = some (.sc s)) : ∃ d, P.underlying t = some d ∧ (∀ fs, d ≠ .struct fs) ∧ (∀ n e, d ≠ .array n e) ∧ shScalar d = some s := by
  unfold tsh at h
  split at h
  · split at h
    · split at h <;> simp at h
    · simp at h
  · split at h
    · split at h <;> simp at h
    · simp at h
  · rename_i d h1 h2 hd
    refine ⟨d, hd, fun fs e => h1 fs e, fun n e e' => h2 n e e', ?_⟩
    · cases hs : shScalar d with
      | none => simp [hs] at h
      | some s' => simp [hs] at h; rw [h]
  · simp at h
theorem tsh_ag {t : TypeId} {l : List Sh} (h : tsh P t = some (.ag l)) : (∃ d, P.underlying t = some d ∧ ((∃ fs, d = .struct fs) ∨ ∃ n e, d = .array n e)) ∧ ∃ i, P.info? t = some i ∧ i.size = shsSize l := by
  unfold tsh at h
  split at h
  · rename_i fs hd
    refine ⟨⟨_, hd, .inl ⟨fs, rfl⟩⟩, ?_⟩
    split at h
    · rename_i i hi
      split at h
      · rename_i hb
        simp at h
        exact ⟨i, hi, by rw [← h]; exact Nat.eq_of_beq_eq_true hb⟩
      · simp at h
    · simp at h
  · rename_i n e hd
    refine ⟨⟨_, hd, .inr ⟨n, e, rfl⟩⟩, ?_⟩
    split at h
    · rename_i i hi
      split at h
      · rename_i hb
        simp at h
        exact ⟨i, hi, by rw [← h]; exact Nat.eq_of_beq_eq_true hb⟩
      · simp at h
    · simp at h
  · rename_i d _ _ _
    cases hs : shScalar d <;> simp [hs] at h
  · simp at h

theorem run_isAgg_sc {t : TypeId} {s : Sh} (h : tsh P t = some (.sc s)) (w : World) : (isAgg t).run P w = .ok false w := by
  obtain ⟨d, hd, h1, h2, _⟩ := tsh_sc h
  unfold isAgg
  simp only [Sem.run_bind, run_underlying hd, Result.andThen_ok]
  cases d <;> first | rfl | exact absurd rfl (h1 _) | exact absurd rfl (h2 _ _)
theorem run_isAgg_ag {t : TypeId} {l : List Sh} (h : tsh P t = some (.ag l)) (w : World) : (isAgg t).run P w = .ok true w := by
  obtain ⟨⟨d, hd, h1⟩, _⟩ := tsh_ag h
  unfold isAgg
  simp only [Sem.run_bind, run_underlying hd, Result.andThen_ok]
  rcases h1 with ⟨fs, rfl⟩ | ⟨n, e, rfl⟩ <;> rfl
theorem run_typeInfo {t : TypeId} {i : TypeInfo} (h : P.info? t = some i) (w : World) : (typeInfo t).run P w = .ok i w := by
  unfold typeInfo
  simp [h]
theorem run_sizeOf {t : TypeId} {n : Nat} (h : szOf P t = some n) (w : World) : (sizeOf t).run P w = .ok n w := by
  unfold szOf at h
  cases hi : P.info? t with
  | none => simp [hi] at h
  | some i => simp [hi] at h; unfold sizeOf; simp [run_typeInfo hi, h]

/-! ### Loads -/
theorem ld1_sound {h : H} {a : Addr} {s : Sh} {K : DV → Prop} (hh : ld1 h a s K) : ∃ x, x.ok ∧ hc h a = some x.flat ∧ x.chs = [.c x.flat] ∧ K x := by
  cases s with
  | int k => obtain ⟨n, h1, h2⟩ := hh; exact ⟨(.one (.int k n)), rfl, h1, rfl, h2⟩
  | bool => obtain ⟨n, h1, h2⟩ := hh; exact ⟨(.one (.bool n)), rfl, h1, rfl, h2⟩
  | str => obtain ⟨n, h1, h2⟩ := hh; exact ⟨(.one (.string n)), rfl, h1, rfl, h2⟩
  | ptr => obtain ⟨n, h1, h2⟩ := hh; exact ⟨(.one (.pointer n)), rfl, h1, rfl, h2⟩
  | slc => obtain ⟨p, l, c, h1, h2⟩ := hh; exact ⟨.one (.slice p l c), rfl, h1, rfl, h2⟩
  | mp => obtain ⟨n, h1, h2⟩ := hh; exact ⟨(.one (.map n)), rfl, h1, rfl, h2⟩
  | fn => obtain ⟨v, h1, h3, h2⟩ := hh; exact ⟨.fnv v, h3, h1, rfl, h2⟩
  | ifc => obtain ⟨v, h1, h3, h2⟩ := hh; exact ⟨.fnv v, h3, h1, rfl, h2⟩
  | row k n => exact hh.elim

theorem hcs_nil (h : H) (a : Addr) : hcs h a [] := fun i v hv => by simp at hv
theorem hcs_append {h : H} {a : Addr} {x y : List Value} (hx : hcs h a x) (hy : hcs h (a.add x.length) y) : hcs h a (x ++ y) := by
  intro i v hv
  by_cases hi : i < x.length
  · rw [List.getElem?_append_left hi] at hv; exact hx i v hv
  · rw [List.getElem?_append_right (by omega)] at hv
    have := hy _ v hv
    rw [add_add] at this
    rwa [show x.length + (i - x.length) = i by omega] at this
theorem hcs_one {h : H} {a : Addr} {v : Value} (hv : hc h a = some v) : hcs h a [v] := by
  intro i u hu
  match i, hu with
  | 0, hu => simp at hu; subst hu; rw [add_zero]; exact hv

theorem ldSh_sound {h : H} {a : Addr} : ∀ (l : List Sh) (o : Nat) (K : List Ch → Prop), ldSh h a o l K →
    ∃ cs, oks cs ∧ chsSize cs = shsSize l ∧ hcs h (a.add o) (flats cs) ∧ K cs := by
  intro l
  induction l with
  | nil => intro o K hh; exact ⟨[], oks_nil, rfl, hcs_nil _ _, hh⟩
  | cons s r ih =>
    intro o K hh
    by_cases hs : ∃ k n, s = .row k n
    · obtain ⟨k, n, rfl⟩ := hs
      obtain ⟨ns, hn, hr, h2⟩ := hh
      obtain ⟨cs, h3, h4, h5, h6⟩ := ih _ _ h2
      refine ⟨.row k n ns :: cs, oks_mk hn h3, by simp [chsSize, shsSize, Ch.size, Sh.size, h4], ?_, h6⟩
      refine hcs_append hr ?_
      rw [add_add]; simpa [Ch.flat, ints, hn] using h5
    · have hh' : ld1 h (a.add o) s fun x => ldSh h a (o + 1) r fun cs => K (x.chs ++ cs) := by
        cases s <;> first | exact hh | exact absurd ⟨_, _, rfl⟩ hs
      obtain ⟨x, hx, hc1, hxc, h2⟩ := ld1_sound hh'
      obtain ⟨cs, h3, h4, h5, h6⟩ := ih _ _ h2
      have hok : oks (x.chs ++ cs) := oks_append (DV.chs_oks hx) h3
      refine ⟨x.chs ++ cs, hok, ?_, ?_, h6⟩
      · rw [chsSize_append, hxc]
        have : s.size = 1 := by cases s <;> first | rfl | exact absurd ⟨_, _, rfl⟩ hs
        simp [chsSize, shsSize, Ch.size, h4, this]
      · rw [hxc]
        exact hcs_append (hcs_one hc1) (by rw [add_add]; simpa [Ch.flat] using h5)

theorem run_load_hc {w : World} {a : Addr} {v : Value} (h : hc w.heap a = some v) : (load a).run P w = .ok v w := by
  have : w.cell? a = some v := h
  simp [this]

theorem run_loadCells {w : World} {a : Addr} : ∀ (vs : List Value) (i : Nat) (acc : Array Value), hcs w.heap (a.add i) vs →
    (loadCellsFrom a i vs.length acc).run P w = .ok (acc ++ vs.toArray) w := by
  intro vs
  induction vs with
  | nil => intro i acc _; simp [loadCellsFrom]
  | cons v r ih =>
    intro i acc h
    have h0 := h 0 v rfl
    rw [add_zero] at h0
    have hr : hcs w.heap (a.add (i + 1)) r := fun j u hu => by
      have := h (j + 1) u (by simpa using hu)
      rw [add_add] at this ⊢
      rwa [show i + 1 + j = i + (j + 1) by omega]
    simp only [List.length_cons, loadCellsFrom, Sem.run_bind, run_load_hc h0, Result.andThen_ok]
    rw [ih (i + 1) _ hr]
    simp

theorem ldT_sound {t : TypeId} {h : H} {a : Addr} {K : DV → Prop} (hh : ldT P t h a K) : ∃ x, x.ok ∧ hcs h a (flats x.chs) ∧ K x ∧
    ∀ w : World, hcs w.heap a (flats x.chs) → (loadVar t a).run P w = .ok x.flat w := by
  unfold ldT at hh
  split at hh
  · rename_i s hs
    obtain ⟨x, hx, hc1, hxc, hK⟩ := ld1_sound hh
    refine ⟨x, hx, by rw [hxc]; exact hcs_one hc1, hK, fun w hw => ?_⟩
    rw [hxc] at hw
    have := hw 0 x.flat rfl
    rw [add_zero] at this
    unfold loadVar
    simp only [Sem.run_bind, run_isAgg_sc hs, Result.andThen_ok]
    exact run_load_hc this
  · rename_i l hl
    obtain ⟨cs, hok, hsz, hcell, hK⟩ := ldSh_sound _ _ _ hh
    rw [add_zero] at hcell
    refine ⟨.agg cs, hok, hcell, hK, fun w hw => ?_⟩
    obtain ⟨_, i, hi, his⟩ := tsh_ag hl
    have hlen : (flats cs).length = i.size := by rw [flats_length hok, hsz, his]
    unfold loadVar
    simp only [Sem.run_bind, run_isAgg_ag hl, Result.andThen_ok, if_true]
    have hz : (sizeOf t).run P w = .ok i.size w := run_sizeOf (by simp [szOf, hi]) w
    rw [hz]
    simp only [Result.andThen_ok, loadCells]
    have := run_loadCells (P := P) (w := w) (a := a) (flats cs) 0 #[] (by rw [add_zero]; exact hw)
    rw [hlen] at this
    rw [this]
    simp [DV.flat]
  · exact hh.elim

/-! ### Stores -/
theorem hc_hs_isSome (h : H) (a b : Addr) (v : Value) : (hc (hs h a v) b).isSome = (hc h b).isSome := by
  unfold hc hs
  by_cases hb : a.block = b.block
  · rw [← hb]
    simp only [Array.getElem?_modify]
    cases h1 : h[a.block]? with
    | none => rfl
    | some o =>
      cases o with
      | cells c e fz => by_cases hs : a.spot.isSome = true <;> by_cases hs' : b.spot.isSome = true <;> simp [hs, hs'] <;>
          (by_cases hi : b.off < c.size <;> simp [hi])
      | _ => rfl
  · simp [Array.getElem?_modify, hb]
theorem hf_hs (h : H) (a b : Addr) (v : Value) : hf (hs h a v) b = hf h b := by
  unfold hf hs
  by_cases hb : a.block = b.block
  · rw [← hb]
    simp only [Array.getElem?_modify]
    cases h1 : h[a.block]? with
    | none => rfl
    | some o => cases o <;> rfl
  · simp [Array.getElem?_modify, hb]

theorem run_store_hs {w : World} {a : Addr} {v : Value} (hv : v.oneCell' = true) (h1 : (hc w.heap a).isSome = true) (h2 : hf w.heap a = false) :
    (store a v).run P w = .ok () (w.setCell a v) := by
  obtain ⟨u, hu⟩ := Option.isSome_iff_exists.1 h1
  rw [run_store P w a v .plain hv]
  have e1 : w.cell? a = some u := hu
  have e2 : w.frozen? a = false := h2
  simp [e1, e2]

theorem run_storeCells {a : Addr} : ∀ (vs : List Value) (i : Nat) (w : World), (∀ v, v ∈ vs → v.oneCell' = true) →
    (∀ j, j < vs.length → (hc w.heap (a.add (i + j))).isSome = true ∧ hf w.heap (a.add (i + j)) = false) →
    ∃ w', (storeCells a vs i).run P w = .ok () w' ∧ w'.heap = hwrFrom w.heap a i vs ∧ Rest w w' ∧ w'.drawn = w.drawn := by
  intro vs
  induction vs with
  | nil => intro i w _ _; exact ⟨w, by simp [storeCells], rfl, Rest.refl w, rfl⟩
  | cons v r ih =>
    intro i w hv hcan
    have h0 := hcan 0 (by simp)
    rw [Nat.add_zero] at h0
    obtain ⟨w', h1, h2, h3, h4⟩ := ih (i + 1) (w.setCell (a.add i) v) (fun u hu => hv u (by simp [hu])) (fun j hj => by
      have := hcan (j + 1) (by simpa using hj)
      rw [heap_hs, hc_hs_isSome, hf_hs, show i + 1 + j = i + (j + 1) by omega]
      exact this)
    refine ⟨w', ?_, ?_, Rest.trans ⟨rfl, rfl, rfl⟩ h3, h4⟩
    · simp only [storeCells, Sem.run_bind, run_store_hs (hv v (by simp)) h0.1 h0.2, Result.andThen_ok]
      exact h1
    · rw [h2]; rfl

theorem run_storeCells0 {a : Addr} {vs : List Value} {w : World} (hv : ∀ v, v ∈ vs → v.oneCell' = true) (hcn : hcan w.heap a vs.length) :
    ∃ w', (storeCells a vs).run P w = .ok () w' ∧ w'.heap = hwr w.heap a vs ∧ Rest w w' := by
  obtain ⟨w', h1, h2, h3, _⟩ := run_storeCells (P := P) (a := a) vs 0 w hv (fun j hj => by rw [Nat.zero_add]; exact hcn j hj)
  exact ⟨w', h1, h2, h3⟩

theorem run_storeVar {t : TypeId} {a : Addr} {d : DV} {sz : Nat} (hd : d.ok) (hsz : szOf P t = some sz) (hn : chsSize d.chs = sz) {w : World} (hcn : hcan w.heap a sz) :
    ∃ w', (storeVar t a d.flat).run P w = .ok () w' ∧ w'.heap = hwr w.heap a (flats d.chs) ∧ Rest w w' := by
  have hoks := DV.chs_oks hd
  have hlen : (flats d.chs).length = sz := by rw [flats_length hoks, hn]
  obtain ⟨w', h1, h2, h3⟩ := run_storeCells0 (P := P) (a := a) (vs := flats d.chs) (w := w) (flats_one hoks) (by rw [hlen]; exact hcn)
  refine ⟨w', ?_, h2, h3⟩
  unfold storeVar
  simp only [Sem.run_bind, run_sizeOf hsz, Result.andThen_ok, DV.cells_flat hd]
  simp only [List.size_toArray, hlen, ne_eq, not_true_eq_false, if_false]
  exact h1
end Go.Vc
