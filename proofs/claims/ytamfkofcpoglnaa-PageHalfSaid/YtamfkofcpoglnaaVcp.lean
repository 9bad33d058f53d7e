/- The denotation is sound, second part: operations that touch no memory. Own work; generic over any program. -/
import Derived.Test.YtamfkofcpoglnaaVcs
import Derived.Laws.StructEq
import Derived.ChangeKeysEq
import Derived.Laws.Tables
set_option autoImplicit false
set_option linter.all false
namespace Go.Vc
variable {P : Program}

/-- A computation that yields a value in whatever world, and that value's denotation is continued with. -/
def PureOk (P : Program) (s : Sem Value) (K : SV → Prop) : Prop := ∃ x v, SV.rel x v ∧ K x ∧ ∀ w, s.run P w = .ok v w

theorem PureOk.one {s : Sem Value} {K : SV → Prop} {v : Value} (h1 : v.oneCell' = true) (hK : K (.dv (.one v))) (hr : ∀ w, s.run P w = .ok v w) : PureOk P s K :=
  ⟨.dv (.one v), v, ⟨h1, rfl⟩, hK, hr⟩
theorem PureOk.addr {s : Sem Value} {K : SV → Prop} {p : Addr} (hK : K (.dv (.addr p))) (hr : ∀ w, s.run P w = .ok (.pointer (some p)) w) : PureOk P s K :=
  ⟨.dv (.addr p), _, ⟨trivial, rfl⟩, hK, hr⟩

/-! ### Equality of aggregates -/
theorem eqItems_ints (w : World) {e : TypeId} {k : IntKind} (he : P.underlying e = some (.int k)) {j j' : IntKind} (hj : j' = j) (a b : List Int) (d : Nat) (n : Nat) (ha : a.length = n) (hb : b.length = n) :
    (Op.eqItems (d + 1) e 1 (a.map (Value.int j)).toArray (b.map (Value.int j')).toArray (List.range n)).run P w = .ok (a == b) w := by
  subst hj
  have hag : ∀ w, (isAgg e).run P w = .ok false w := fun w => by unfold isAgg; simp [run_underlying he]
  have gen : ∀ (m i : Nat), i + m = n → (Op.eqItems (d + 1) e 1 (a.map (Value.int j')).toArray (b.map (Value.int j')).toArray (List.range' i m)).run P w = .ok (a.drop i == b.drop i) w := by
    intro m
    induction m with
    | zero =>
      intro i hi
      rw [List.drop_eq_nil_of_le (by omega), List.drop_eq_nil_of_le (by omega)]
      simp [Op.eqItems]
    | succ m ih =>
      intro i hi
      have h1 : i < a.length := by omega
      have h2 : i < b.length := by omega
      have p1 : ∀ w, (part e (a.map (Value.int j')).toArray (i * 1)).run P w = .ok (.int j' a[i]) w := fun w => by
        unfold part; simp [hag, h1]
      have p2 : ∀ w, (part e (b.map (Value.int j')).toArray (i * 1)).run P w = .ok (.int j' b[i]) w := fun w => by
        unfold part; simp [hag, h2]
      rw [List.range'_succ]
      simp only [Op.eqItems, Sem.run_bind, p1, p2, Result.andThen_ok, run_equalIn_int w d e j' k _ _ he]
      have := ih (i + 1) (by omega)
      rw [List.drop_eq_getElem_cons h1, List.drop_eq_getElem_cons h2, List.cons_beq_cons]
      cases hab : a[i] == b[i]
      · simp only [Bool.not_false, if_true, Sem.run_pure, Bool.false_and]
      · simp only [Bool.not_true, Bool.false_eq_true, if_false, this, Bool.true_and]
  have := gen n 0 (by omega)
  simpa [List.range_eq_range'] using this

theorem szOf_cells {t : TypeId} {n : Nat} (h : szOf P t = some n) : P.cellsOf t = n ∧ ∃ i, P.info? t = some i := by
  unfold szOf at h
  cases hi : P.info? t with
  | none => simp [hi] at h
  | some i => simp [hi] at h; exact ⟨by simp [Program.cellsOf, hi, h], i, rfl⟩

theorem equalIn_row (w : World) {t e : TypeId} {n : Nat} {k j j' : IntKind} (hu : P.underlying t = some (.array n e)) (he : P.underlying e = some (.int k)) (hz : szOf P e = some 1)
    (hj : j' = j) (a b : List Int) (ha : a.length = n) (hb : b.length = n) (d : Nat) :
    (Op.equalIn (d + 2) t (.agg (a.map (Value.int j)).toArray) (.agg (b.map (Value.int j')).toArray)).run P w = .ok (a == b) w := by
  obtain ⟨hc1, i, hi⟩ := szOf_cells hz
  rw [run_equalIn_array (P := P) w (d + 1) _ _ hu hi, hc1]
  exact eqItems_ints w he hj a b d n ha hb

theorem part_mid_row {w : World} {t e : TypeId} {n : Nat} (hu : P.underlying t = some (.array n e)) (hz : szOf P t = some n) {pre xs post : List Value} (hx : xs.length = n) :
    (part t (pre ++ xs ++ post).toArray pre.length).run P w = .ok (.agg xs.toArray) w := by
  unfold part
  have hag : ∀ w, (isAgg t).run P w = .ok true w := fun w => by unfold isAgg; simp [run_underlying hu]
  simp only [Sem.run_bind, hag, Result.andThen_ok, if_true, run_sizeOf hz, Sem.run_pure]
  congr 2
  apply Array.toList_inj.1
  simp [← hx]
theorem part_mid_one {w : World} {t : TypeId} (hag : ∀ w, (isAgg t).run P w = .ok false w) {pre post : List Value} {v : Value} :
    (part t (pre ++ [v] ++ post).toArray pre.length).run P w = .ok v w := by
  unfold part
  simp [hag]

theorem fieldEq_sound {t : TypeId} {x y : Ch} {b : Bool} (h : fieldEq P t x y = some b) (hx : x.ok) (hy : y.ok) : x.size = y.size ∧ ∃ u v,
    (∀ (pre post : List Value) (w : World), (part t (pre ++ x.flat ++ post).toArray pre.length).run P w = .ok u w) ∧
    (∀ (pre post : List Value) (w : World), (part t (pre ++ y.flat ++ post).toArray pre.length).run P w = .ok v w) ∧
    ∀ (d : Nat) (w : World), (Op.equalIn (d + 2) t u v).run P w = .ok b w := by
  unfold fieldEq at h
  split at h
  · rename_i k a k' a'
    split at h
    · rename_i k'' hk hu
      simp only [Option.some.injEq] at h
      have hk' : k = k' := by simpa using hk
      subst hk'
      have hag : ∀ w, (isAgg t).run P w = .ok false w := fun w => by unfold isAgg; simp [run_underlying hu]
      exact ⟨rfl, _, _, fun _ _ _ => part_mid_one hag, fun _ _ _ => part_mid_one hag, fun d w => by rw [← h]; exact run_equalIn_int w (d + 1) t _ _ _ _ hu⟩
    · simp at h
  · split at h
    · rename_i hu
      simp only [Option.some.injEq] at h
      have hag : ∀ w, (isAgg t).run P w = .ok false w := fun w => by unfold isAgg; simp [run_underlying hu]
      exact ⟨rfl, _, _, fun _ _ _ => part_mid_one hag, fun _ _ _ => part_mid_one hag, fun d w => by rw [← h]; exact run_equalIn_bool' w (d + 1) t _ _ hu⟩
    · simp at h
  · split at h
    · rename_i hu
      simp only [Option.some.injEq] at h
      have hag : ∀ w, (isAgg t).run P w = .ok false w := fun w => by unfold isAgg; simp [run_underlying hu]
      exact ⟨rfl, _, _, fun _ _ _ => part_mid_one hag, fun _ _ _ => part_mid_one hag, fun d w => by rw [← h]; exact run_equalIn_string w (d + 1) t _ _ hu⟩
    · simp at h
  · rename_i k n a k' n' a'
    split at h
    · rename_i m e sz hu hsz
      split at h
      · rename_i q he hz hk hn
        simp only [Option.some.injEq] at h
        have hk' : k = k' := by simpa using hk
        subst hk'
        simp only [Bool.and_eq_true] at hn
        have e1 : n = m := Nat.eq_of_beq_eq_true hn.1.1
        have e2 : n' = m := Nat.eq_of_beq_eq_true hn.1.2
        have e3 : sz = m := Nat.eq_of_beq_eq_true hn.2
        simp only [Ch.ok] at hx hy
        refine ⟨by simp [Ch.size, e1, e2], _, _, fun pre post w => part_mid_row hu (by rw [hsz, e3]) (by simp [Ch.flat, ints, hx, e1]),
          fun pre post w => part_mid_row hu (by rw [hsz, e3]) (by simp [Ch.flat, ints, hy, e2]), fun d w => ?_⟩
        rw [← h]
        exact equalIn_row w hu he hz rfl _ _ (by rw [hx, e1]) (by rw [hy, e2]) d
      · simp at h
    · simp at h
  · simp at h

theorem structEq_sound (w : World) (d : Nat) : ∀ (fs : List Field) (xs ys : List Ch) (off : Nat) (preX preY : List Value) (r : Bool), preX.length = off → preY.length = off →
    oks xs → oks ys → structEq P off fs xs ys = some r →
    (Op.eqFields (d + 2) (preX ++ flats xs).toArray (preY ++ flats ys).toArray fs).run P w = .ok r w := by
  intro fs
  induction fs with
  | nil =>
    intro xs ys off preX preY r hX hY hox hoy he
    cases xs <;> cases ys <;> simp [structEq] at he
    subst he; simp [Op.eqFields]
  | cons f fs ih =>
    intro xs ys off preX preY r hX hY hox hoy he
    cases xs with
    | nil => simp [structEq] at he
    | cons x xs =>
    cases ys with
    | nil => simp [structEq] at he
    | cons y ys =>
    obtain ⟨hx1, hx2⟩ := oks_cons hox
    obtain ⟨hy1, hy2⟩ := oks_cons hoy
    simp only [structEq] at he
    split at he
    · rename_i b hn hof hfe
      have hoff : f.offset = off := Nat.eq_of_beq_eq_true hof
      obtain ⟨hsz, u, v, pu, pv, hq⟩ := fieldEq_sound hfe hx1 hy1
      cases hrec : structEq P (off + x.size) fs xs ys with
      | none => simp [hrec] at he
      | some s =>
        simp only [hrec, Option.map_some, Option.some.injEq] at he
        have hn' : f.name ≠ "_" := by simpa using hn
        have h1 := pu preX (flats xs) w
        have h2 := pv preY (flats ys) w
        rw [hX] at h1; rw [hY] at h2
        have h4 := ih xs ys _ (preX ++ x.flat) (preY ++ y.flat) s (by simp [hX, flat_length hx1]) (by simp [hY, flat_length hy1, hsz]) hx2 hy2 hrec
        simp only [flats, ← List.append_assoc] at *
        simp only [Op.eqFields, if_pos hn', Sem.run_bind, hoff, h1, h2, hq, Result.andThen_ok]
        cases b
        · simp [← he]
        · simp only [Bool.not_true, Bool.false_eq_true, if_false, h4, ← he, Bool.true_and]
    · simp at he

theorem aggEq_sound {t : TypeId} {xs ys : List Ch} {b : Bool} (hx : oks xs) (hy : oks ys) (h : aggEq P t xs ys = some b) (op : BinOp) (x y : Operand) (w : World) :
    (eqGuard op t x y (.agg (flats xs).toArray) (.agg (flats ys).toArray)).run P w = .ok () w ∧
    (Op.equalIn 10000 t (.agg (flats xs).toArray) (.agg (flats ys).toArray)).run P w = .ok b w := by
  unfold aggEq at h
  split at h
  · rename_i n e hg hu
    refine ⟨run_eqGuard_agg w op t x y _ _ hg, ?_⟩
    split at h
    · rename_i cx cy
      obtain ⟨hsz, u, v, pu, pv, hq⟩ := fieldEq_sound h (oks_cons hx).1 (oks_cons hy).1
      have h1 := pu [] [] w
      have h2 := pv [] [] w
      have hag : ∀ w, (isAgg t).run P w = .ok true w := fun w => by unfold isAgg; simp [run_underlying hu]
      -- the parts are the whole
      unfold fieldEq at h
      split at h <;> try (first | (simp at h; done) | (split at h <;> simp_all; done))
      rename_i k n1 a k' n' a'
      split at h
      · rename_i m e' sz hu' hsz'
        rw [hu] at hu'
        simp only [Option.some.injEq, TypeDesc.array.injEq] at hu'
        obtain ⟨rfl, rfl⟩ := hu'
        split at h
        · rename_i q he hz hk hn
          simp only [Option.some.injEq] at h
          have hk' : k = k' := by simpa using hk
          subst hk'
          simp only [Bool.and_eq_true] at hn
          have e1 := Nat.eq_of_beq_eq_true hn.1.1
          have e2 := Nat.eq_of_beq_eq_true hn.1.2
          have o1 : a.length = n1 := (oks_cons hx).1
          have o2 : a'.length = n' := (oks_cons hy).1
          simp only [flats, Ch.flat, ints, List.append_nil]
          rw [← h]
          exact equalIn_row w hu he hz rfl _ _ (by omega) (by omega) 9998
        · simp at h
      · simp at h
    · simp at h
  · rename_i fs hg hu
    refine ⟨run_eqGuard_agg w op t x y _ _ hg, ?_⟩
    split at h
    · rename_i hst
      have hf : P.fieldsOf t = fs := by simp [Program.fieldsOf, hu]
      have := run_equalIn_struct (P := P) w 9999 t (flats xs).toArray (flats ys).toArray (by rw [hf]; exact hu) hst
      rw [hf] at this
      rw [show (10000 : Nat) = 9999 + 1 from rfl, this]
      exact structEq_sound w 9997 fs.toList xs ys 0 [] [] b rfl rfl hx hy h
    · simp at h
  · simp at h

/-! ### Binary operations -/
theorem run_eql_of {t : TypeId} {x y : Value} {b : Bool} (hb : binOp .eql t x y = (do pure (.bool (← Op.equal t x y)))) (he : ∀ w, (Op.equalIn (9999 + 1) t x y).run P w = .ok b w) (w : World) : (binOp .eql t x y).run P w = .ok (.bool b) w := by
  rw [hb]
  simp only [Op.equal, Sem.run_bind]
  rw [show Op.maxDepth = 9999 + 1 from rfl, he w]
  rfl
theorem run_neq_of {t : TypeId} {x y : Value} {b : Bool} (hb : binOp .neq t x y = (do pure (.bool (!(← Op.equal t x y))))) (he : ∀ w, (Op.equalIn (9999 + 1) t x y).run P w = .ok b w) (w : World) : (binOp .neq t x y).run P w = .ok (.bool (!b)) w := by
  rw [hb]
  simp only [Op.equal, Sem.run_bind]
  rw [show Op.maxDepth = 9999 + 1 from rfl, he w]
  rfl
theorem eqIn_ptr {t e : TypeId} (hu : P.underlying t = some (.pointer e)) (a : Option Addr) (d : Nat) (w : World) : (Op.equalIn (d + 1) t (.pointer a) (.pointer none)).run P w = .ok a.isNone w := by
  cases a <;> simp only [Op.equalIn, Sem.run_bind, run_underlying hu, Result.andThen_ok] <;> rfl
theorem eqIn_slc {t e : TypeId} (hu : P.underlying t = some (.slice e)) (a : Option Addr) (l c : Nat) (d : Nat) (w : World) : (Op.equalIn (d + 1) t (.slice a l c) (.slice none 0 0)).run P w = .ok a.isNone w := by
  cases a <;> simp only [Op.equalIn, Sem.run_bind, run_underlying hu, Result.andThen_ok] <;> rfl
theorem eqIn_ifc {t : TypeId} {ms : Array (String × TypeId)} (hu : P.underlying t = some (.interface ms)) (v : Value) (hv : isIfc v = true) (d : Nat) (w : World) : (Op.equalIn (d + 1) t v .nilIface).run P w = .ok (isNilI v) w := by
  cases v <;> simp only [isIfc] at hv <;> try (simp at hv; done)
  all_goals simp only [Op.equalIn, Sem.run_bind, run_underlying hu, Result.andThen_ok] <;> rfl
theorem Dbin_sound {op : BinOp} {t : TypeId} {dx dy : DV} {K : SV → Prop} (hx : dx.ok) (hy : dy.ok) (X Y : Operand) (h : Dbin P op t dx dy (isConstO Y) K) :
    PureOk P (do eqGuard op t X Y dx.flat dy.flat; binOp op t dx.flat dy.flat) K := by
  unfold Dbin at h
  split at h
  · rename_i k a k' b
    simp only [DV.flat, eqGuard_at_int]
    by_cases hk : k = k'
    case neg =>
      have hk' : (k == k') = false := by simpa using hk
      cases op <;> simp only [hk'] at h <;> try exact h.elim
      · exact .one rfl h.2 fun w => by simp [binOp, Op.shift, Int.not_lt.2 h.1]
      · exact .one rfl h.2 fun w => by simp [binOp, Op.shift, Int.not_lt.2 h.1]
    subst hk
    cases op <;> simp only [beq_self_eq_true] at h
    case shl => exact .one rfl h.2 fun w => by simp [binOp, Op.shift, Int.not_lt.2 h.1]
    case shr => exact .one rfl h.2 fun w => by simp [binOp, Op.shift, Int.not_lt.2 h.1]
    case quo => exact .one rfl h.2 fun w => by simp [binOp, Op.intDiv, h.1]
    case rem => exact .one rfl h.2 fun w => by simp [binOp, Op.intDiv, h.1]
    case add => exact .one rfl h fun w => by simp [binOp, Op.intArith]
    case sub => exact .one rfl h fun w => by simp [binOp, Op.intArith]
    case mul => exact .one rfl h fun w => by simp [binOp, Op.intArith]
    case and => exact .one rfl h fun w => by simp [binOp, intBits_and]
    case or => exact .one rfl h fun w => by simp [binOp, intBits_or]
    case xor => exact .one rfl h fun w => by simp [binOp, intBits_xor]
    case andNot => exact .one rfl h fun w => by simp [binOp, intBits_andNot]
    case eql => exact .one rfl h fun w => by simp [binOp, Op.intCmp]
    case neq => exact .one rfl h fun w => by simp [binOp, Op.intCmp]
    case lss => exact .one rfl h fun w => by simp [binOp, Op.intCmp, ltI_eq, leI_eq]
    case leq => exact .one rfl h fun w => by simp [binOp, Op.intCmp, ltI_eq, leI_eq]
    case gtr => exact .one rfl h fun w => by simp [binOp, Op.intCmp, ltI_eq, leI_eq]
    case geq => exact .one rfl h fun w => by simp [binOp, Op.intCmp, ltI_eq, leI_eq]
  · rename_i a b
    simp only [DV.flat, eqGuard_at_bool]
    split at h
    · have hu : P.underlying t = some .bool := by assumption
      exact .one rfl h fun w => by simp [binOp, Op.equal, Op.maxDepth, run_equalIn_bool' w 9999 t a b hu]
    · have hu : P.underlying t = some .bool := by assumption
      exact .one rfl h fun w => by simp [binOp, Op.equal, Op.maxDepth, run_equalIn_bool' w 9999 t a b hu]
    · exact h.elim
  · rename_i a b
    simp only [DV.flat, eqGuard_at_string]
    cases op <;> simp only at h <;> try exact h.elim
    case eql => exact .one rfl h fun w => by simp [binOp, Op.stringOp]
    case neq => exact .one rfl h fun w => by simp [binOp, Op.stringOp]
    case add => exact .one rfl h.2 fun w => by
                  have := Int.not_lt.2 h.1
                  simp only [binOp, Op.stringOp, gt_iff_lt, if_neg this, pure_bind, Sem.run_pure]
  · rename_i a
    simp only [DV.flat, eqGuard_at_pointer]
    split at h
    · rename_i hu; exact .one rfl h (run_eql_of rfl (eqIn_ptr hu a 9999))
    · rename_i hu; exact .one rfl h (run_neq_of rfl (eqIn_ptr hu a 9999))
    · exact h.elim
  · rename_i a
    simp only [DV.flat, eqGuard_at_pointer]
    split at h
    · rename_i hu; exact .one rfl h (run_eql_of rfl (eqIn_ptr hu (some a) 9999))
    · rename_i hu; exact .one rfl h (run_neq_of rfl (eqIn_ptr hu (some a) 9999))
    · exact h.elim
  · rename_i a l c
    simp only [DV.flat, eqGuard_at_slice]
    split at h
    · rename_i hu; exact .one rfl h (run_eql_of rfl (eqIn_slc hu a l c 9999))
    · rename_i hu; exact .one rfl h (run_neq_of rfl (eqIn_slc hu a l c 9999))
    · exact h.elim
  · rename_i v
    have hc : isConstO Y = true → ∃ c, Y = .const c := fun h => by cases Y <;> simp [isConstO] at h; exact ⟨_, rfl⟩
    have hg : ∀ op, isIfc v = true → isConstO Y = true → eqGuard op t X Y v .nilIface = pure () := fun op hi hy => by
      obtain ⟨c, rfl⟩ := hc hy
      cases v <;> simp only [isIfc] at hi <;> try (simp at hi; done)
      · exact eqGuard_at_iface ..
      · exact eqGuard_nil_constR ..
    split at h
    · rename_i hy hu
      simp only [DV.flat, hg _ h.1 hy]
      refine .one rfl h.2 (run_eql_of ?_ (eqIn_ifc hu v h.1 9999))
      have := h.1
      cases v <;> simp only [isIfc] at this <;> first | rfl | (simp at this; done)
    · rename_i hy hu
      simp only [DV.flat, hg _ h.1 hy]
      refine .one rfl h.2 (run_neq_of ?_ (eqIn_ifc hu v h.1 9999))
      have := h.1
      cases v <;> simp only [isIfc] at this <;> first | rfl | (simp at this; done)
    · exact h.elim
  · rename_i xs ys
    cases op <;> simp only at h <;> try exact h.elim
    · split at h
      · rename_i b hb
        refine .one rfl h fun w => ?_
        obtain ⟨h1, h2⟩ := aggEq_sound (P := P) hx hy hb .eql X Y w
        simp only [DV.flat, Sem.run_bind, h1, Result.andThen_ok, run_eql_struct, h2]
      · exact h.elim
    · split at h
      · rename_i b hb
        refine .one rfl h fun w => ?_
        obtain ⟨h1, h2⟩ := aggEq_sound (P := P) hx hy hb .neq X Y w
        simp only [DV.flat, Sem.run_bind, h1, Result.andThen_ok, run_neq_struct, h2]
      · exact h.elim
  · exact h.elim

theorem Dun_sound {op : UnOp} {dx : DV} {K : SV → Prop} (h : Dun op dx K) : PureOk P (Op.unary op dx.flat) K := by
  unfold Dun at h
  split at h
  · exact .one rfl h fun w => by simp [DV.flat, Op.unary]
  · exact .one rfl h fun w => by simp [DV.flat, Op.unary, Op.intArith]
  · exact .one rfl h fun w => by simp [DV.flat, Op.unary, intBits_xor]
  · exact h.elim

/-! ### Parts -/
theorem dropC_sound : ∀ (cs : List Ch) (n : Nat) (r : List Ch), dropC cs n = some r → oks cs → oks r ∧ ∃ pre, flats cs = pre ++ flats r ∧ pre.length = n := by
  intro cs
  induction cs with
  | nil =>
    intro n r h _
    simp only [dropC] at h
    cases hb : Nat.beq n 0 with
    | false => simp [hb] at h
    | true => simp [hb] at h; subst h; have := Nat.eq_of_beq_eq_true hb; exact ⟨oks_nil, [], rfl, by simp [this]⟩
  | cons c r ih =>
    intro n q h hok
    simp only [dropC] at h
    cases hb : Nat.beq n 0 with
    | true => simp [hb] at h; subst h; have := Nat.eq_of_beq_eq_true hb; exact ⟨hok, [], rfl, by simp [this]⟩
    | false =>
      simp only [hb, cond_false] at h
      cases hl : Nat.ble c.size n with
      | false => simp [hl] at h
      | true =>
        simp only [hl, cond_true] at h
        have hle := Nat.le_of_ble_eq_true hl
        obtain ⟨h1, pre, h2, h3⟩ := ih _ _ h (oks_cons hok).2
        exact ⟨h1, c.flat ++ pre, by simp [flats, h2], by simp [flat_length (oks_cons hok).1, h3]; omega⟩
theorem takeC_sound : ∀ (cs : List Ch) (n : Nat) (l : List Ch), takeC cs n = some l → oks cs → oks l ∧ chsSize l = n ∧ ∃ post, flats cs = flats l ++ post := by
  intro cs
  induction cs with
  | nil =>
    intro n r h _
    simp only [takeC] at h
    cases hb : Nat.beq n 0 with
    | false => simp [hb] at h
    | true => simp [hb] at h; subst h; have := Nat.eq_of_beq_eq_true hb; exact ⟨oks_nil, by simp [this, chsSize], [], rfl⟩
  | cons c r ih =>
    intro n q h hok
    simp only [takeC] at h
    cases hb : Nat.beq n 0 with
    | true => simp [hb] at h; subst h; have := Nat.eq_of_beq_eq_true hb; exact ⟨oks_nil, by simp [this, chsSize], flats (c :: r), by simp [flats]⟩
    | false =>
      simp only [hb, cond_false] at h
      cases hl : Nat.ble c.size n with
      | false => simp [hl] at h
      | true =>
        simp only [hl, cond_true] at h
        have hle := Nat.le_of_ble_eq_true hl
        cases hr : takeC r (n - c.size) with
        | none => simp [hr] at h
        | some l =>
          simp [hr] at h; subst h
          obtain ⟨h1, h2, post, h3⟩ := ih _ _ hr (oks_cons hok).2
          exact ⟨oks_mk (oks_cons hok).1 h1, by simp [chsSize, h2]; omega, post, by simp [flats, h3]⟩
theorem partC_sound {cs l : List Ch} {off n : Nat} (h : partC cs off n = some l) (hok : oks cs) : oks l ∧ chsSize l = n ∧ ∃ pre post, flats cs = pre ++ flats l ++ post ∧ pre.length = off := by
  unfold partC at h
  cases hd : dropC cs off with
  | none => simp [hd] at h
  | some r =>
    simp [hd] at h
    obtain ⟨h1, pre, h2, h3⟩ := dropC_sound _ _ _ hd hok
    obtain ⟨h4, h5, post, h6⟩ := takeC_sound _ _ _ h h1
    exact ⟨h4, h5, pre, post, by rw [h2, h6]; simp, h3⟩
theorem putC_sound {cs xs l : List Ch} {off : Nat} (h : putC cs off xs = some l) (hok : oks cs) (hx : oks xs) :
    oks l ∧ flats l = (flats cs).take off ++ flats xs ++ (flats cs).drop (off + chsSize xs) ∧ off + chsSize xs ≤ (flats cs).length := by
  unfold putC at h
  cases ha : takeC cs off with
  | none => simp [ha] at h
  | some a =>
    cases hb : dropC cs (off + chsSize xs) with
    | none => simp [ha, hb] at h
    | some b =>
      simp [ha, hb] at h
      obtain ⟨h1, h2, post, h3⟩ := takeC_sound _ _ _ ha hok
      obtain ⟨h4, pre, h5, h6⟩ := dropC_sound _ _ _ hb hok
      have ho : oks (a ++ (xs ++ b)) := oks_append h1 (oks_append hx h4)
      subst h
      refine ⟨ho, ?_, by rw [h5]; simp [h6]⟩
      have e1 : (flats cs).take off = flats a := by rw [h3, List.take_left' (by rw [flats_length h1, h2])]
      have e2 : (flats cs).drop (off + chsSize xs) = flats b := by rw [h5, List.drop_left' h6]
      rw [e1, e2]; simp [flats_append]

/-! ### Composite literals -/
theorem fold_set (off : Nat) : ∀ (l : List Value) (i : Nat) (cells : Array Value), off + i + l.length ≤ cells.size →
    ((l.zipIdx i).foldl (fun cs (x : Value × Nat) => cs.setIfInBounds (off + x.2) x.1) cells).toList =
      cells.toList.take (off + i) ++ l ++ cells.toList.drop (off + i + l.length) := by
  intro l
  induction l with
  | nil => intro i cells _; simp
  | cons c r ih =>
    intro i cells hle
    simp only [List.length_cons] at hle
    simp only [List.zipIdx_cons, List.foldl_cons]
    rw [ih (i + 1) _ (by simp; omega)]
    simp only [Array.toList_setIfInBounds, List.length_cons]
    rw [show off + (i + 1) = off + i + 1 by omega]
    have hlt : off + i < cells.toList.length := by simp; omega
    rw [List.take_succ_eq_append_getElem (by simpa using hlt), List.take_set_of_le (by omega), List.getElem_set_self, List.drop_set_of_lt (by omega)]
    simp [show off + i + 1 + r.length = off + i + (r.length + 1) by omega]

theorem fill_cons {place : Nat → Option (Nat × Nat)} {cells : Array Value} {i off sz : Nat} {v : Value} {rest : List (Nat × Value)} (hp : place i = some (off, sz)) (hv : v.cells.size = sz) (hle : off + sz ≤ cells.size) :
    ∃ cells' : Array Value, cells'.toList = cells.toList.take off ++ v.cells.toList ++ cells.toList.drop (off + sz) ∧ Instr.fill place cells ((i, v) :: rest) = Instr.fill place cells' rest := by
  refine ⟨v.cells.zipIdx.foldl (fun cs (x : Value × Nat) => cs.setIfInBounds (off + x.2) x.1) cells, ?_, ?_⟩
  · rw [← Array.foldl_toList, Array.toList_zipIdx, fold_set off v.cells.toList 0 cells (by simp; omega)]
    simp [hv]
  · simp only [Instr.fill, hp]
    rw [if_neg (by simp; omega)]

theorem fillC_sound {place : Nat → Option (Nat × Nat)} {isRow : Bool} : ∀ (parts : List (Nat × SV)) (vals : List (Nat × Value)) (cs l : List Ch) (cells : Array Value),
    parts.length = vals.length → (∀ (i : Nat) (p : Nat × SV) (q : Nat × Value), parts[i]? = some p → vals[i]? = some q → p.1 = q.1 ∧ p.2.rel q.2) →
    fillC place isRow parts cs = some l → oks cs → cells.toList = flats cs → oks l ∧ ∃ cells' : Array Value, Instr.fill place cells vals = some cells' ∧ cells'.toList = flats l := by
  intro parts
  induction parts with
  | nil =>
    intro vals cs l cells hlen _ h hok hc
    cases vals with
    | nil => simp [fillC] at h; subst h; exact ⟨hok, cells, rfl, hc⟩
    | cons _ _ => simp at hlen
  | cons p parts ih =>
    intro vals cs l cells hlen hrel h hok hc
    cases vals with
    | nil => simp at hlen
    | cons q vals =>
    obtain ⟨i, sv⟩ := p
    obtain ⟨i', v⟩ := q
    obtain ⟨he, hr⟩ := hrel 0 _ _ rfl rfl
    simp only at he hr
    subst he
    cases sv with
    | un => simp [fillC] at h
    | nd => simp [fillC] at h
    | tup _ => simp [fillC] at h
    | dv x =>
      obtain ⟨hx, rfl⟩ := hr
      simp only [fillC] at h
      cases hp : place i with
      | none => simp [hp] at h
      | some os =>
        obtain ⟨off, sz⟩ := os
        simp only [hp] at h
        have hxs := DV.chs_oks hx
        have hcl := DV.cells_flat hx
        have next : ∀ cs', oks cs' → flats cs' = (flats cs).take off ++ flats x.chs ++ (flats cs).drop (off + sz) → chsSize x.chs = sz → off + sz ≤ (flats cs).length → fillC place isRow parts cs' = some l →
            oks l ∧ ∃ cells' : Array Value, Instr.fill place cells ((i, x.flat) :: vals) = some cells' ∧ cells'.toList = flats l := by
          intro cs' hok' hfl hsz hle hf
          have hcs : x.flat.cells.size = sz := by rw [hcl]; simp [flats_length hxs, hsz]
          obtain ⟨cells', h1, h2⟩ := fill_cons (rest := vals) hp hcs (cells := cells) (by rw [← Array.length_toList, hc]; exact hle)
          rw [h2]
          refine ih vals cs' l cells' (by simpa using hlen) (fun j p q h3 h4 => hrel (j + 1) p q (by simpa using h3) (by simpa using h4)) hf hok' ?_
          rw [h1, hfl, hc, hcl]
        split at h
        · rename_i hsz
          have hsz := Nat.eq_of_beq_eq_true hsz
          split at h
          · rename_i h1
            have h1 := Nat.eq_of_beq_eq_true h1
            cases hput : putRow cs off x.chs with
            | none => simp [hput] at h
            | some cs' =>
              simp only [hput, Option.bind_some] at h
              unfold putRow at hput
              split at hput
              · rename_i k n ns k' m hxc
                split at hput
                · rename_i hk hlt
                  simp only [Option.some.injEq] at hput
                  have hk : k = k' := by simpa using hk
                  have hlt : off < n := Nat.le_of_ble_eq_true hlt
                  subst hk
                  have hn : ns.length = n := (oks_cons hok).1
                  subst hput
                  refine next _ (oks_mk (by simp [Ch.ok, hn]) oks_nil) ?_ hsz (by simp [flats, Ch.flat, ints, hn]; omega) h
                  rw [hxc]
                  simp only [flats, Ch.flat, ints, List.append_nil, h1]
                  rw [List.map_set]
                  have hlt' : off < (ns.map (Value.int k)).length := by simp [hn, hlt]
                  rw [List.set_eq_take_append_cons_drop, if_pos hlt']
                  simp
                · simp at hput
              · simp at hput
          · simp at h
        · rename_i hsz
          have hsz := Nat.eq_of_beq_eq_true hsz
          cases hput : putC cs off x.chs with
          | none => simp [hput] at h
          | some cs' =>
            simp only [hput, Option.bind_some] at h
            obtain ⟨h1, h2, h3⟩ := putC_sound hput hok hxs
            rw [hsz] at h2 h3
            exact next cs' h1 h2 hsz h3 h
        · simp at h

/-! ### Zero values -/
theorem veq_sound {a b : Value} (h : veq a b = true) : a = b := by
  unfold veq at h
  split at h <;> try (first | rfl | (simp at h; done))
  · split at h
    · rename_i hk
      simp at h hk
      rw [hk, h]
    · simp at h
  · simp at h; rw [h]
  · rename_i a b
    split at h
    · rename_i ha hb
      congr 1
      cases a; cases b
      simp only at ha hb
      congr 1
      exact Array.toList_inj.1 (by rw [ha, hb])
    · simp at h
theorem vseq_sound : ∀ {a b : List Value}, vseq a b = true → a = b
  | [], [], _ => rfl
  | [], _ :: _, h => by simp [vseq] at h
  | _ :: _, [], h => by simp [vseq] at h
  | x :: a, y :: b, h => by
    simp only [vseq] at h
    split at h
    · rename_i hv; rw [veq_sound hv, vseq_sound h]
    · simp at h
theorem zero_ok (s : Sh) : s.zero.ok := by cases s <;> simp [Sh.zero, Ch.ok, zeros, Value.oneCell']
theorem zeroChs_sound {t : TypeId} {cs : List Ch} (h : zeroChs P t = some cs) : oks cs ∧ ∃ i z, P.info? t = some i ∧ i.zero = some z ∧ z.cells.toList = flats cs := by
  unfold zeroChs at h
  cases hi : P.info? t with
  | none => simp [hi] at h
  | some i =>
    simp only [hi, Option.bind_some] at h
    split at h
    · rename_i z l hz _
      split at h
      · rename_i hv
        simp at h; subst h
        refine ⟨fun c hc => ?_, i, z, rfl, hz, (vseq_sound hv).symm⟩
        obtain ⟨s, _, rfl⟩ := List.mem_map.1 hc
        exact zero_ok s
      · simp at h
    · rename_i z s hz _
      split at h
      · rename_i hv
        simp at h; subst h
        refine ⟨oks_mk (zero_ok s) oks_nil, i, z, rfl, hz, ?_⟩
        rw [← vseq_sound hv]; simp [flats]
      · simp at h
    · simp at h
theorem run_zero {t : TypeId} {i : TypeInfo} {z : Value} (h : P.info? t = some i) (hz : i.zero = some z) (w : World) : (zeroValue t).run P w = .ok z w := by
  unfold zeroValue
  simp [run_typeInfo h, hz]

theorem Dbuild_sound {t : TypeId} {parts : List (Nat × SV)} {vals : Array (Nat × Value)} {K : SV → Prop} (hlen : parts.length = vals.toList.length)
    (hrel : ∀ (i : Nat) (p : Nat × SV) (q : Nat × Value), parts[i]? = some p → vals.toList[i]? = some q → p.1 = q.1 ∧ p.2.rel q.2) (h : Dbuild P t parts K) : PureOk P (Instr.build t vals) K := by
  unfold Dbuild at h
  split at h
  · rename_i fs z hu hz
    obtain ⟨hok, i, zv, hi, hzv, hzc⟩ := zeroChs_sound hz
    split at h
    · rename_i pl hpl
      split at h
      · rename_i cs hf
        obtain ⟨h1, cells', h2, h3⟩ := fillC_sound parts vals.toList z cs zv.cells hlen hrel hf hok hzc
        refine ⟨.dv (.agg cs), .agg cells', ⟨h1, ?_⟩, h, fun w => run_build w t vals cells' ?_⟩
        · simp only [DV.flat]; congr 1; exact Array.toList_inj.1 (by rw [h3])
        · have h2' : Instr.fill (fun x => pl.toArray[x]?) zv.cells vals.toList = some cells' := by simpa using h2
          simp only [Program.built, hi, hu, hzv, hpl, h2']
      · exact h.elim
    · exact h.elim
  · rename_i n e z hu hz
    obtain ⟨hok, i, zv, hi, hzv, hzc⟩ := zeroChs_sound hz
    split at h
    · rename_i ie hie
      split at h
      · rename_i cs hf
        obtain ⟨h1, cells', h2, h3⟩ := fillC_sound parts vals.toList z cs zv.cells hlen hrel hf hok hzc
        refine ⟨.dv (.agg cs), .agg cells', ⟨h1, ?_⟩, h, fun w => run_build w t vals cells' ?_⟩
        · simp only [DV.flat]; congr 1; exact Array.toList_inj.1 (by rw [h3])
        · simp only [Program.built, hi, hu, hzv, hie, h2]
      · exact h.elim
    · exact h.elim
  · exact h.elim

/-! ### Bounds, indexes, fields -/
def IV : Option Int → Option Value → Prop
  | none, none => True
  | some i, some v => ∃ k, v = .int k i
  | _, _ => False
theorem run_bound {k : IntKind} {i : Int} {y : Nat} (code : BoundsCode) (h0 : 0 ≤ i) (h1 : i ≤ y) (w : World) : (Instr.sliceBound (.int k i) y code).run P w = .ok i.toNat w := by
  unfold Instr.sliceBound
  simp [asIntOf, h0, h1]
theorem Dbounds_sound {lo hi mx : Option Int} {lo' hi' mx' : Option Value} {len cap : Nat} {K : Nat → Nat → Nat → Prop} (hl : IV lo lo') (hh : IV hi hi') (hm : IV mx mx') (h : Dbounds lo hi mx len cap K) :
    ∃ a b m, K a b m ∧ ∀ (s : Bool) (w : World), (Instr.sliceBounds s len cap lo' hi' mx').run P w = .ok (a, b, m) w := by
  unfold Dbounds at h
  split at h
  · cases lo' <;> cases hi' <;> cases mx' <;> simp only [IV] at hl hh hm
    exact ⟨_, _, _, h, fun s w => by simp [Instr.sliceBounds]⟩
  · rename_i l
    cases lo' <;> cases hi' <;> cases mx' <;> simp only [IV] at hl hh hm
    obtain ⟨k, rfl⟩ := hl
    exact ⟨_, _, _, h.2.2, fun s w => by simp [Instr.sliceBounds, run_bound _ h.1 h.2.1]⟩
  · rename_i x
    cases lo' <;> cases hi' <;> cases mx' <;> simp only [IV] at hl hh hm
    obtain ⟨k, rfl⟩ := hh
    exact ⟨_, _, _, h.2.2, fun s w => by simp [Instr.sliceBounds, run_bound _ h.1 h.2.1]⟩
  · rename_i l x
    cases lo' <;> cases hi' <;> cases mx' <;> simp only [IV] at hl hh hm
    obtain ⟨k, rfl⟩ := hl
    obtain ⟨k', rfl⟩ := hh
    obtain ⟨h1, h2, h3, h4⟩ := h
    have e : l ≤ (x.toNat : Int) := by omega
    have e0 : 0 ≤ x := by omega
    exact ⟨_, _, _, h4, fun s w => by simp [Instr.sliceBounds, run_bound _ h1 e, run_bound _ e0 h3]⟩
  · rename_i l x m
    cases lo' <;> cases hi' <;> cases mx' <;> simp only [IV] at hl hh hm
    obtain ⟨k, rfl⟩ := hl
    obtain ⟨k', rfl⟩ := hh
    obtain ⟨k'', rfl⟩ := hm
    obtain ⟨h1, h2, h3, h3', h4⟩ := h
    have e : l ≤ (x.toNat : Int) := by omega
    have e0 : 0 ≤ x := by omega
    have e1 : x ≤ (m.toNat : Int) := by omega
    have e2 : 0 ≤ m := by omega
    exact ⟨_, _, _, h4, fun s w => by simp [Instr.sliceBounds, run_bound _ h1 e, run_bound _ e0 e1, run_bound _ e2 h3']⟩
  · rename_i x m
    cases lo' <;> cases hi' <;> cases mx' <;> simp only [IV] at hl hh hm
    obtain ⟨k', rfl⟩ := hh
    obtain ⟨k'', rfl⟩ := hm
    obtain ⟨h2, h3, h3', h4⟩ := h
    have e1 : x ≤ (m.toNat : Int) := by omega
    have e2 : 0 ≤ m := by omega
    exact ⟨_, _, _, h4, fun s w => by simp [Instr.sliceBounds, run_bound _ h2 e1, run_bound _ e2 h3']⟩
  · exact h.elim

theorem Dslice_sound {t : TypeId} {x : SV} {xv : Value} {lo hi mx : Option Int} {lo' hi' mx' : Option Value} {K : SV → Prop} (hx : x.rel xv) (hl : IV lo lo') (hh : IV hi hi') (hm : IV mx mx')
    (h : Dslice P t x lo hi mx K) : PureOk P (Instr.sliceAt t xv lo' hi' mx') K := by
  unfold Dslice at h
  split at h
  · rename_i e p l c hu
    obtain ⟨_, rfl⟩ := hx
    split at h
    · rename_i sz hsz
      obtain ⟨a, b, m, hK, hr⟩ := Dbounds_sound (P := P) hl hh hm h
      exact .one rfl hK fun w => by simp [DV.flat, Instr.sliceAt, Instr.slice, run_underlying hu, hr, run_sizeOf hsz, subAddr]
    · exact h.elim
  · rename_i n e p hu
    obtain ⟨_, rfl⟩ := hx
    split at h
    · rename_i sz hsz
      obtain ⟨a, b, m, hK, hr⟩ := Dbounds_sound (P := P) hl hh hm h
      refine .one rfl hK fun w => ?_
      simp only [DV.flat, Instr.sliceAt, run_underlying hu, Instr.sureAddr, Sem.run_bind, Sem.run_pure, Result.andThen_ok, hr, run_sizeOf hsz, subAddr, Option.map_some]
      split <;> rfl
    · exact h.elim
  · rename_i s hu
    obtain ⟨_, rfl⟩ := hx
    split at h
    · obtain ⟨a, b, m, hK, hr⟩ := Dbounds_sound (P := P) hl hh hm h
      cases mx' with
      | none => exact .one rfl hK fun w => by simp [DV.flat, Instr.sliceAt, Instr.slice, run_underlying hu, hr]
      | some _ => exact hm.elim
    · exact h.elim
  · exact h.elim

theorem DindexAddr_sound {t : TypeId} {x : SV} {xv iv : Value} {i : Option Int} {K : SV → Prop} (hx : x.rel xv) (hi : ∀ j, i = some j → ∃ k, iv = .int k j) (h : DindexAddr P t x i K) :
    PureOk P (Instr.indexAt t xv iv) K := by
  unfold DindexAddr at h
  split at h
  · rename_i e p l c j hu
    obtain ⟨_, rfl⟩ := hx
    obtain ⟨k, rfl⟩ := hi j rfl
    split at h
    · rename_i sz hsz
      obtain ⟨q, rfl, h0, h1, hK⟩ := h
      exact .addr hK fun w => by simp [DV.flat, Instr.indexAt, asIntOf, run_underlying hu, h0, h1, run_sizeOf hsz]
    · exact h.elim
  · rename_i n e q j hu
    obtain ⟨_, rfl⟩ := hx
    obtain ⟨k, rfl⟩ := hi j rfl
    split at h
    · rename_i sz hsz
      obtain ⟨h0, h1, hK⟩ := h
      exact .addr hK fun w => by simp [DV.flat, Instr.indexAt, asIntOf, Instr.sureAddr, run_underlying hu, h0, h1, run_sizeOf hsz]
    · exact h.elim
  · exact h.elim

theorem Dindex_sound {t : TypeId} {x : SV} {xv iv : Value} {i : Option Int} {K : SV → Prop} (hx : x.rel xv) (hi : ∀ j, i = some j → ∃ k, iv = .int k j) (h : Dindex P t x i K) :
    PureOk P (Instr.index t xv iv) K := by
  unfold Dindex at h
  split at h
  · rename_i n e k m ns j hu
    obtain ⟨hok, rfl⟩ := hx
    obtain ⟨k', rfl⟩ := hi j rfl
    split at h
    · rename_i q he hsz hn
      have hn := Nat.eq_of_beq_eq_true hn
      obtain ⟨h0, h1, hK⟩ := h
      have hlen : ns.length = m := (oks_cons hok).1
      have hlt : j.toNat < ns.length := by omega
      have hag : ∀ w, (isAgg e).run P w = .ok false w := fun w => by unfold isAgg; simp [run_underlying he]
      refine .one rfl hK fun w => ?_
      simp [DV.flat, Instr.index, asIntOf, run_underlying hu, h0, h1, run_sizeOf hsz, part, hag, flats, Ch.flat, ints, hlt]
    · exact h.elim
  · rename_i s j hu
    obtain ⟨hok, rfl⟩ := hx
    obtain ⟨k', rfl⟩ := hi j rfl
    obtain ⟨h0, h1, hK⟩ := h
    have hlt : j.toNat < s.size := by omega
    have hlt' : j.toNat < s.data.toList.length := by simpa using hlt
    refine .one rfl hK fun w => ?_
    have e : s[j.toNat]? = some (s.data.toList.getD j.toNat 0) := by
      rw [getElem?_pos s j.toNat hlt, List.getD_eq_getElem?_getD, List.getElem?_eq_getElem hlt']
      rfl
    simp only [DV.flat, Instr.index, asIntOf, run_underlying hu, Sem.run_bind, Sem.run_pure, Result.andThen_ok, if_pos h0, e]
  · exact h.elim

theorem ofChs_sound {t : TypeId} {l : List Ch} {d : DV} {n : Nat} (h : ofChs P t l = some d) (hok : oks l) (hn : szOf P t = some n) (hl : chsSize l = n) :
    d.ok ∧ ∀ (pre post : List Value) (w : World), (part t (pre ++ flats l ++ post).toArray pre.length).run P w = .ok d.flat w := by
  have scalar : ∀ (s : Sh) (v : Value), tsh P t = some (.sc s) → ∀ (pre post : List Value) (w : World), (part t (pre ++ flats [.c v] ++ post).toArray pre.length).run P w = .ok v w := by
    intro s v hs pre post w
    exact part_mid_one (run_isAgg_sc hs)
  unfold ofChs at h
  split at h
  · rename_i sl hs
    simp at h; subst h
    refine ⟨hok, fun pre post w => ?_⟩
    unfold part
    simp only [Sem.run_bind, run_isAgg_ag hs, Result.andThen_ok, if_true, run_sizeOf hn, Sem.run_pure, DV.flat]
    congr 2
    apply Array.toList_inj.1
    have := flats_length hok
    rw [hl] at this
    simp [← this]
  · rename_i v hs
    simp at h; subst h
    exact ⟨(oks_cons hok).1, scalar _ _ hs⟩
  · rename_i v hs
    simp at h; subst h
    exact ⟨(oks_cons hok).1, scalar _ _ hs⟩
  · simp at h
  · rename_i s v _ _ _ hs
    simp at h; subst h
    exact ⟨(oks_cons hok).1, scalar _ _ hs⟩
  · simp at h

theorem Dfield_sound {t : TypeId} {x : SV} {xv : Value} {f : Nat} {K : SV → Prop} (hx : x.rel xv) (h : Dfield P t x f K) : PureOk P (Instr.field t xv f) K := by
  unfold Dfield at h
  split at h
  · rename_i fs cs hu
    obtain ⟨hok, rfl⟩ := hx
    split at h
    · rename_i fd hf
      split at h
      · rename_i n hn
        split at h
        · rename_i d hd
          cases hp : partC cs fd.offset n with
          | none => simp [hp] at hd
          | some l =>
            simp [hp] at hd
            obtain ⟨h1, h2, pre, post, h3, h4⟩ := partC_sound hp hok
            obtain ⟨h5, h6⟩ := ofChs_sound hd h1 hn h2
            refine ⟨.dv d, d.flat, ⟨h5, rfl⟩, h, fun w => ?_⟩
            have := h6 pre post w
            rw [h4, ← h3] at this
            simp only [DV.flat, Instr.field, run_underlying hu, Sem.run_bind, Result.andThen_ok, hf, asAgg, Sem.run_pure]
            exact this
        · exact h.elim
      · exact h.elim
    · exact h.elim
  · exact h.elim

theorem DfieldAddr_sound {t : TypeId} {x : SV} {xv : Value} {f : Nat} {K : SV → Prop} (hx : x.rel xv) (h : DfieldAddr P t x f K) : PureOk P (Instr.fieldAt t xv f) K := by
  unfold DfieldAddr at h
  split at h
  · rename_i fs p hu
    obtain ⟨_, rfl⟩ := hx
    split at h
    · rename_i fd hf
      split at h
      · rename_i n hn
        exact .addr h fun w => by simp [DV.flat, Instr.fieldAt, run_underlying hu, hf, Instr.sureAddr, fieldPlace, run_sizeOf hn]
      · exact h.elim
    · exact h.elim
  · exact h.elim
end Go.Vc
