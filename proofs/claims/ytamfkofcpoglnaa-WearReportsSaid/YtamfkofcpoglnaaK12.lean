/- WearReports: what is proved and its parts, laid together by a program of ours: Wr4 RwWearReports -/
import Derived.Test.YtamfkofcpoglnaaK11
set_option autoImplicit false
set_option linter.all false
/- Wear: the statement about reports. Own work. -/
section
set_option maxRecDepth 100000
set_option linter.unusedVariables false
namespace Go.Proofs.Ytamfkofcpoglnaa
open Go Go.Vc

theorem er_pos {c : Cfg} {s : St} (lay : s.lays c) (ty : s.typed) : posE (layC c s) := by
  intro k
  have : (layC c s).er k = s.erases.getD k 0 := rfl
  rw [this, List.getD_eq_getElem?_getD]
  cases e : s.erases[k]? with
  | none => exact ⟨by decide, by decide⟩
  | some v =>
    have hm := List.mem_iff_getElem?.2 ⟨k, e⟩
    exact ⟨lay.pos v hm, (ty.erases v hm).2⟩
section
variable {h0 h : H} {A : List Ent} {i j p r l b : Nat} {C : Cm}
theorem WearReports_sp {a b c' : Sl} {Q : Bool → H → Prop} (c : Cfg) (s : St) (rd0 : RdS h0 a b c' s) (ty : s.typed) (k : ∀ h', Ext none_ h0 h' → Q true h') :
    F_portcullislaw20_WearReports c.cells c.slots c.fuses c.step c.keys c.erases c.area a.1 a.2.1 a.2.2 b.1 b.2.1 b.2.2 c'.1 c'.2.1 c'.2.2 Q h0 := by
  unfold F_portcullislaw20_WearReports G_portcullislaw20_WearReports
  have hs := Sat.init h0
  simp only [add_mk, Nat.zero_add, List.append_nil]
  intro n1 _ hn; replace hs := Sat.new hs hn; clear hn
  intro n2 _ hn; replace hs := Sat.new hs hn; clear hn
  (repeat first | refine ⟨_, Sat.ld hs (by (repeat (first | exact At.z | apply At.s))) (by rfl), ?_⟩ | refine ⟨_, _, _, Sat.ld hs (by (repeat (first | exact At.z | apply At.s))) (by rfl), ?_⟩ | (intro _ _ hn; replace hs := Sat.new hs hn; clear hn) | refine ⟨Sat.cs hs (by (repeat (first | exact At.z | apply At.s))) (by rfl), ?_⟩ | (refine ⟨Sat.can hs (by (repeat (first | exact At.z | apply At.s))) (by simp), ?_⟩; intro _ e; replace hs := Sat.wr hs (by (repeat (first | exact At.z | apply At.s))) e; clear e; simp only [put, splice, List.set] at hs))
  refine Lay_sp (a := a) (b := b) (c' := c') (s := s) c hs (fun h' hs' => rd0.ext hs'.ex) ty ?_ ?_ ?_
  · intro nm h2 hs
    (repeat first | refine ⟨_, Sat.ld hs (by (repeat (first | exact At.z | apply At.s))) (by rfl), ?_⟩ | refine ⟨_, _, _, Sat.ld hs (by (repeat (first | exact At.z | apply At.s))) (by rfl), ?_⟩ | (intro _ _ hn; replace hs := Sat.new hs hn; clear hn) | refine ⟨Sat.cs hs (by (repeat (first | exact At.z | apply At.s))) (by rfl), ?_⟩ | (refine ⟨Sat.can hs (by (repeat (first | exact At.z | apply At.s))) (by simp), ?_⟩; intro _ e; replace hs := Sat.wr hs (by (repeat (first | exact At.z | apply At.s))) e; clear e; simp only [put, splice, List.set] at hs))
    refine rLay_sp (a := a) (b := b) (c' := c') (s := s) c hs (fun h' hs' => rd0.ext hs'.ex) ty ?_ (fun m => absurd m nm) (fun m => absurd m nm)
    intro _ h3 hs J hJ
    rw [if_neg (by simp), if_neg (by simp)]
    apply hJ
    rw [if_pos (by simp)]
    exact fixed20_sp hs fun h' hs => k _ hs.ex
  · intro m nl h2 hs
    (repeat first | refine ⟨_, Sat.ld hs (by (repeat (first | exact At.z | apply At.s))) (by rfl), ?_⟩ | refine ⟨_, _, _, Sat.ld hs (by (repeat (first | exact At.z | apply At.s))) (by rfl), ?_⟩ | (intro _ _ hn; replace hs := Sat.new hs hn; clear hn) | refine ⟨Sat.cs hs (by (repeat (first | exact At.z | apply At.s))) (by rfl), ?_⟩ | (refine ⟨Sat.can hs (by (repeat (first | exact At.z | apply At.s))) (by simp), ?_⟩; intro _ e; replace hs := Sat.wr hs (by (repeat (first | exact At.z | apply At.s))) e; clear e; simp only [put, splice, List.set] at hs))
    refine rLay_sp (a := a) (b := b) (c' := c') (s := s) c hs (fun h' hs' => rd0.ext hs'.ex) ty (fun nm => absurd m nm) ?_ (fun _ l => absurd l nl)
    intro _ _ h3 hs J hJ
    rw [if_neg (by simp), if_neg (by simp)]
    apply hJ
    rw [if_pos (by simp)]
    exact fixed20_sp hs fun h' hs => k _ hs.ex
  intro m lay pc h2 hs
  (repeat first | refine ⟨_, Sat.ld hs (by (repeat (first | exact At.z | apply At.s))) (by rfl), ?_⟩ | refine ⟨_, _, _, Sat.ld hs (by (repeat (first | exact At.z | apply At.s))) (by rfl), ?_⟩ | (intro _ _ hn; replace hs := Sat.new hs hn; clear hn) | refine ⟨Sat.cs hs (by (repeat (first | exact At.z | apply At.s))) (by rfl), ?_⟩ | (refine ⟨Sat.can hs (by (repeat (first | exact At.z | apply At.s))) (by simp), ?_⟩; intro _ e; replace hs := Sat.wr hs (by (repeat (first | exact At.z | apply At.s))) e; clear e; simp only [put, splice, List.set] at hs))
  refine rLay_sp (a := a) (b := b) (c' := c') (s := s) c hs (fun h' hs' => rd0.ext hs'.ex) ty (fun nm => absurd m nm) (fun _ nl => absurd lay nl) ?_
  intro _ _ pr h3 hs J hJ
  rw [if_neg (by simp), if_neg (by simp)]
  apply hJ
  rw [if_neg (by simp)]
  clear hJ J
  have ok := layC_ok m lay ty
  have hpos := er_pos lay ty
  have co : (layC c s).out = false := rfl
  have ca : (layC c s).acts = 0 := rfl
  generalize layC c s = C at *
  have sm := ok.small
  have sme := sm.erases
  refine ⟨_, rfl, ?_⟩
  refine wOf_sp hs (i := 1) (.s .z) (fun y => by rw [co] at y; cases y) ?_
  intro _ x h4 hs
  intro n87 _ hn; replace hs := Sat.new hs hn; clear hn
  (refine ⟨Sat.can hs (by (repeat (first | exact At.z | apply At.s))) (by simp), ?_⟩; intro _ e; replace hs := Sat.wr hs (by (repeat (first | exact At.z | apply At.s))) e; clear e; simp only [put, splice, List.set] at hs)
  refine ⟨_, rfl, ?_⟩
  refine wOf_sp hs (i := 3) (.s (.s (.s .z))) (fun y => by rw [co] at y; cases y) ?_
  intro _ y h5 hs
  intro n102 _ hn; replace hs := Sat.new hs hn; clear hn
  (refine ⟨Sat.can hs (by (repeat (first | exact At.z | apply At.s))) (by simp), ?_⟩; intro _ e; replace hs := Sat.wr hs (by (repeat (first | exact At.z | apply At.s))) e; clear e; simp only [put, splice, List.set] at hs)
  refine ⟨_, rfl, ?_⟩
  refine rOf20_sp hs (j := 4) (.s (.s (.s (.s .z)))) co hpos ?_
  intro z h6 hs
  intro n117 _ hn; replace hs := Sat.new hs hn; clear hn
  (refine ⟨Sat.can hs (by (repeat (first | exact At.z | apply At.s))) (by simp), ?_⟩; intro _ e; replace hs := Sat.wr hs (by (repeat (first | exact At.z | apply At.s))) e; clear e; simp only [put, splice, List.set] at hs)
  intro J122 hJ122
  rw [if_neg (by simp)]
  obtain ⟨L, hL⟩ : ∃ L, L = [refE pr C, chipE pc C, blk n2 [a.v, b.v, c'.v], blk n1 [.int .i64 c.cells, .int .i64 c.slots, .int .i64 c.fuses, .int .i64 c.step, .int .i64 c.keys, .int .i64 c.erases, .int .i64 c.area]] := ⟨_, rfl⟩
  have tR : At L 0 (refE pr C) := by rw [hL]; exact .z
  have tC : At L 1 (chipE pc C) := by rw [hL]; exact .s .z
  replace hs := Sat.eqL (B := blk n117 [z.v, .int .i64 (apartM C), .int .i64 (freeT C), .int .i64 (turnsM C), .int .i64 (wlaysM C)] :: sE z 1 (ints .i64 C.s.erases) ::
    blk n102 [y.v, .int .i64 (apartM C), .int .i64 (freeT C), .int .i64 (turnsM C), .int .i64 (wlaysM C)] :: sE y 1 (ints .i64 C.s.erases) ::
    blk n87 [x.v, .int .i64 (apartM C), .int .i64 (freeT C), .int .i64 (turnsM C), .int .i64 (wlaysM C)] :: sE x 1 (ints .i64 C.s.erases) :: L) hs (by rw [hL])
  (repeat first | refine ⟨_, Sat.ld hs (by (repeat (first | exact At.z | apply At.s))) (by rfl), ?_⟩ | refine ⟨_, _, _, Sat.ld hs (by (repeat (first | exact At.z | apply At.s))) (by rfl), ?_⟩ | (intro _ _ hn; replace hs := Sat.new hs hn; clear hn) | refine ⟨Sat.cs hs (by (repeat (first | exact At.z | apply At.s))) (by rfl), ?_⟩ | (refine ⟨Sat.can hs (by (repeat (first | exact At.z | apply At.s))) (by simp), ?_⟩; intro _ e; replace hs := Sat.wr hs (by (repeat (first | exact At.z | apply At.s))) e; clear e; simp only [put, splice, List.set] at hs))
  refine same20_sp (x := x) (y := z) (ns := C.s.erases) hs (fun h' hs' => hs'.sv (i := 5) (.s (.s (.s (.s (.s .z)))))) (fun h' hs' => hs'.sv (i := 1) (.s .z)) (by omega) ?_
  intro h7 hs
  rw [if_neg (by simp)]
  (repeat first | refine ⟨_, Sat.ld hs (by (repeat (first | exact At.z | apply At.s))) (by rfl), ?_⟩ | refine ⟨_, _, _, Sat.ld hs (by (repeat (first | exact At.z | apply At.s))) (by rfl), ?_⟩ | (intro _ _ hn; replace hs := Sat.new hs hn; clear hn) | refine ⟨Sat.cs hs (by (repeat (first | exact At.z | apply At.s))) (by rfl), ?_⟩ | (refine ⟨Sat.can hs (by (repeat (first | exact At.z | apply At.s))) (by simp), ?_⟩; intro _ e; replace hs := Sat.wr hs (by (repeat (first | exact At.z | apply At.s))) e; clear e; simp only [put, splice, List.set] at hs))
  refine same20_sp (x := y) (y := z) (ns := C.s.erases) hs (fun h' hs' => hs'.sv (i := 3) (.s (.s (.s .z)))) (fun h' hs' => hs'.sv (i := 1) (.s .z)) (by omega) ?_
  intro h8 hs
  rw [if_neg (by simp)]
  apply hJ122
  clear hJ122 J122
  intro J124 hJ124
  have lx : C.s.erases.length = x.2.1 := by have := (hs.sv (i := 5) (.s (.s (.s (.s (.s .z)))))).1; simpa using this
  refine loop_up C.s.erases.length (fun _ h => ∃ ns : List Int, ns.length = C.s.erases.length ∧ Sat h0 (blk n117 [z.v, .int .i64 (apartM C), .int .i64 (freeT C), .int .i64 (turnsM C), .int .i64 (wlaysM C)] :: sE z 1 (ints .i64 C.s.erases) ::
    blk n102 [y.v, .int .i64 (apartM C), .int .i64 (freeT C), .int .i64 (turnsM C), .int .i64 (wlaysM C)] :: sE y 1 (ints .i64 C.s.erases) ::
    blk n87 [x.v, .int .i64 (apartM C), .int .i64 (freeT C), .int .i64 (turnsM C), .int .i64 (wlaysM C)] :: sE x 1 (ints .i64 ns) :: L) h) ?_ ?_ 0 _ (by omega) ⟨_, rfl, hs⟩
  · rintro n h9 hn ⟨ns, hns, hs⟩ hk
    apply hJ124
    refine ⟨_, _, _, Sat.ld hs (by (repeat (first | exact At.z | apply At.s))) (by rfl), ?_⟩
    rw [ltI_eq, if_pos (by simp; omega)]
    refine ⟨_, _, _, Sat.ld hs (by (repeat (first | exact At.z | apply At.s))) (by rfl), ?_⟩
    obtain ⟨q, hq, hcn, hw⟩ := hs.slPut (i := 5) (.s (.s (.s (.s (.s .z))))) (n := n) (v := .int .i64 (-7)) (by omega) rfl
    refine ⟨_, hq, by omega, by omega, ?_⟩
    rw [Int.toNat_natCast, Nat.mul_one]
    refine ⟨hcn, ?_⟩
    intro h10 e
    replace hs := hw _ e
    simp only [put] at hs
    rw [ints_set] at hs
    rw [wrap_succ (by omega)]
    exact hk _ ⟨_, by simp [hns], hs⟩
  rintro h9 ⟨ns, hns, hs⟩
  apply hJ124
  refine ⟨_, _, _, Sat.ld hs (by (repeat (first | exact At.z | apply At.s))) (by rfl), ?_⟩
  rw [ltI_eq, if_neg (by simp; omega)]
  clear hJ124 J124
  intro J136 hJ136
  refine loop_up 9 (fun n h => ∃ (x : Sl) (ns : List Int), x.2.1 ≤ C.s.erases.length + n ∧ Sat h0 (blk n117 [z.v, .int .i64 (apartM C), .int .i64 (freeT C), .int .i64 (turnsM C), .int .i64 (wlaysM C)] :: sE z 1 (ints .i64 C.s.erases) ::
    blk n102 [y.v, .int .i64 (apartM C), .int .i64 (freeT C), .int .i64 (turnsM C), .int .i64 (wlaysM C)] :: sE y 1 (ints .i64 C.s.erases) ::
    blk n87 [x.v, .int .i64 (apartM C), .int .i64 (freeT C), .int .i64 (turnsM C), .int .i64 (wlaysM C)] :: sE x 1 (ints .i64 ns) :: L) h) ?_ ?_ 0 _ (by omega) ⟨x, ns, by omega, hs⟩
  · rintro n h10 hn ⟨x, ns, hxl, hs⟩ hk
    apply hJ136
    rw [ltI_eq, if_pos (by simp; omega)]
    refine ⟨_, _, _, Sat.ld hs (by (repeat (first | exact At.z | apply At.s))) (by rfl), ?_⟩
    intro n142 _ hn142; replace hs := Sat.new hs hn142; clear hn142
    refine ⟨_, Sat.bv hs .z (l := 1) rfl (ints_one .i64 [-8]), ?_⟩
    obtain ⟨xp, xl, xc⟩ := x
    dsimp only at hxl hs ⊢
    refine Sat.app hs (i := 6) (vs := ints .i64 [-8]) (.s (.s (.s (.s (.s (.s .z)))))) (by simp) rfl (ints_one _ _) (by dsimp only; omega) ?_
    intro p' c1 h11 hs
    simp only [put] at hs
    (refine ⟨Sat.can hs (by (repeat (first | exact At.z | apply At.s))) (by simp), ?_⟩; intro _ e; replace hs := Sat.wr hs (by (repeat (first | exact At.z | apply At.s))) e; clear e; simp only [put, splice, List.set] at hs)
    rw [wrap_succ (by omega)]
    refine hk _ ⟨(p', xl + 1, c1), ns ++ [-8], by dsimp only; omega, ?_⟩
    have e : ints .i64 ns ++ ints .i64 [-8] = ints .i64 (ns ++ [-8]) := by simp [ints]
    rw [e] at hs
    exact hs.drop
  rintro h10 ⟨x2, ns2, hxl, hs⟩
  apply hJ136
  rw [ltI_eq, if_neg (by simp)]
  clear hJ136 J136
  intro J152 hJ152
  (repeat first | refine ⟨_, Sat.ld hs (by (repeat (first | exact At.z | apply At.s))) (by rfl), ?_⟩ | refine ⟨_, _, _, Sat.ld hs (by (repeat (first | exact At.z | apply At.s))) (by rfl), ?_⟩ | (intro _ _ hn; replace hs := Sat.new hs hn; clear hn) | refine ⟨Sat.cs hs (by (repeat (first | exact At.z | apply At.s))) (by rfl), ?_⟩ | (refine ⟨Sat.can hs (by (repeat (first | exact At.z | apply At.s))) (by simp), ?_⟩; intro _ e; replace hs := Sat.wr hs (by (repeat (first | exact At.z | apply At.s))) e; clear e; simp only [put, splice, List.set] at hs))
  refine same20_sp (x := y) (y := z) (ns := C.s.erases) hs (fun h' hs' => hs'.sv (i := 3) (.s (.s (.s .z)))) (fun h' hs' => hs'.sv (i := 1) (.s .z)) (by omega) ?_
  intro h11 hs
  rw [if_neg (by simp)]
  refine ⟨_, rfl, ?_⟩
  simp only [add_mk, Nat.zero_add]
  obtain ⟨o1, m1, c1, e1, o2, m2, c2, e2, o3, m3, c3, e3, hst⟩ := stateSame_sp (K := fun b225 h225 => if (!b225) = true then Q false h225 else ∃ p226, (some (⟨pc, 0, none⟩ : Addr)) = some p226 ∧ F_chip_Chip_Acts p226 (fun i227 h228 => if (i227 != 0) = true then Q false h228 else J152 [] h228) h225) hs tC.s.s.s.s.s.s tR.s.s.s.s.s.s (by
    intro h12 hs
    rw [if_neg (by simp)]
    refine ⟨_, rfl, ?_⟩
    refine Acts_sp hs tC.s.s.s.s.s.s ?_
    rw [ca, if_neg (by simp)]
    apply hJ152
    refine ⟨_, rfl, ?_⟩
    refine Cut_sp (bs := []) hs tC.s.s.s.s.s.s 0 (by decide) hsv_nil (fun v hv => by cases hv) (by decide) ?_
    intro h13 hs
    simp only [put_succ] at hs
    refine ⟨_, rfl, ?_⟩
    refine Blow_sp hs (tC.put _).s.s.s.s.s.s 0 ?_
    intro h14 hs
    simp only [put_succ, put_put] at hs
    have hbo : (blowM (cutM C 0 []) 0).1.out = true := by
      have hb := ok.fits.blown
      have hf := ok.may.fuses
      have hsl := ok.may.slots
      have hk := ok.may.keys
      have hnf : C.cfg.nf = C.cfg.slots * C.cfg.fuses + C.cfg.keys := rfl
      have : 0 ≤ C.cfg.slots * C.cfg.fuses := Int.mul_nonneg (by omega) (by omega)
      exact blow_out (C := cutM C 0 []) (k := 0) co (by show 0 < C.s.blown.length; omega) rfl
    generalize (blowM (cutM C 0 []) 0).1 = D at *
    refine ⟨_, rfl, ?_⟩
    refine wOf_sp hs (tC.put _).s.s.s.s.s.s ?_ (fun y => by rw [hbo] at y; cases y)
    intro _ h15 hs
    intro n169 _ hn; replace hs := Sat.new hs hn; clear hn
    (refine ⟨Sat.can hs (by (repeat (first | exact At.z | apply At.s))) (by simp), ?_⟩; intro _ e; replace hs := Sat.wr hs (by (repeat (first | exact At.z | apply At.s))) e; clear e; simp only [put, splice, List.set] at hs)
    rw [if_pos (by decide)]
    (repeat first | refine ⟨_, Sat.ld hs (by (repeat (first | exact At.z | apply At.s))) (by rfl), ?_⟩ | refine ⟨_, _, _, Sat.ld hs (by (repeat (first | exact At.z | apply At.s))) (by rfl), ?_⟩ | (intro _ _ hn; replace hs := Sat.new hs hn; clear hn) | refine ⟨Sat.cs hs (by (repeat (first | exact At.z | apply At.s))) (by rfl), ?_⟩ | (refine ⟨Sat.can hs (by (repeat (first | exact At.z | apply At.s))) (by simp), ?_⟩; intro _ e; replace hs := Sat.wr hs (by (repeat (first | exact At.z | apply At.s))) e; clear e; simp only [put, splice, List.set] at hs))
    refine same20_sp (x := (none, 0, 0)) (y := (none, 0, 0)) (ns := []) hs (fun h' hs' => hsv_nil) (fun h' hs' => hsv_nil) (by decide) ?_
    intro h16 hs
    rw [if_pos (by simp)]
    exact fixed20_sp hs fun h' hs => k _ hs.ex)
  exact ⟨_, _, _, e1, _, _, _, e2, _, _, _, e3, _, rfl, hst⟩
end
end Go.Proofs.Ytamfkofcpoglnaa
end

/- WearReports: how any chip stands; for every input. -/
section
set_option maxRecDepth 100000
set_option linter.unusedVariables false
namespace Go.Proofs.Ytamfkofcpoglnaa
open Go Go.Vc Go.ChangeShapes Go.WideShapes Go.ChangeAt Go.RowKit

theorem WearReports_calls {D : Type} {enc : TypeId × Value → D} {W : World} {base : Nat} (vs : List Value) (h : ArgsOk enc PP W base [23, 40] vs) : CallsTrue PP 14 vs W := by
  obtain ⟨hl, h⟩ := h
  match vs, hl with
  | [v0, v1], _ =>
  obtain ⟨r0, w0⟩ := h 0 _ v0 rfl rfl
  obtain ⟨r1, w1⟩ := h 1 _ v1 rfl rfl
  obtain ⟨c0, rfl⟩ := cfg_of r0 w0
  obtain ⟨a1, b1, d1, s1, rfl, rd1, ty1, sm1⟩ := chip_of r1 w1
  have := R_portcullislaw20_WearReports [.agg (c0.vals.map .c), .agg [.c a1.v, .c b1.v, .c d1.v]] (fun rs h' => rs = [DV.one (.bool true)] ∧ Ext none_ W.heap h') W.heap (by
    intro x hx
    simp only [List.mem_cons, List.not_mem_nil, or_false] at hx
    rcases hx with rfl | rfl
    · exact ok_cfg c0
    · exact ok_chip a1 b1 d1
    ) (by
    show F_portcullislaw20_WearReports c0.cells c0.slots c0.fuses c0.step c0.keys c0.erases c0.area a1.1 a1.2.1 a1.2.2 b1.1 b1.2.1 b1.2.2 d1.1 d1.2.1 d1.2.2 (fun b h' => [DV.one (.bool b)] = [DV.one (.bool true)] ∧ Ext none_ W.heap h') W.heap
    exact WearReports_sp c0 s1 rd1 ty1 fun h' x => ⟨rfl, x⟩)
  exact this
theorem WearReports_lifted (os : Os) (started : os.Started) (D : Type) (enc : TypeId × Value → D) :
    ReturnsInHanded {} Try.checked os 14 .any (Rows.wearReportsSpec.pre6 enc Try.prog Try.f14 Rows.wearReportsRow.domain false) (Rows.wearReportsSpec.post enc Try.prog Try.f14 false true false false) := by
  refine returnsInHanded_of_change_sized (C := Try.checked) Try.own started (by kernel_rfl) Try.func14
    (ChangeSpec.witness6 (enc := enc) (C := Try.checked) false ⟨#[], #[.agg #[.int .i64 0, .int .i64 0, .int .i64 0, .int .i64 0, .int .i64 0, .int .i64 0, .int .i64 0], .agg #[.slice none 0 0, .slice none 0 0, .slice none 0 0]], []⟩ 8 (by kernel_rfl) (by kernel_rfl) (by kernel_rfl) (by kernel_rfl)) ?_
  intro W base args ds gs before hval hW hcnd hsz _
  exact law_go (P := Try.prog) (fn := Try.f14) (s := Rows.wearReportsSpec) [23, 40] (by kernel_rfl) Try.laidOut rfl (by kernel_rfl) (by kernel_rfl) Try.ubool
    (fun ds hl => match ds, hl with | [d1, d2], _ => rfl) hval hW hsz WearReports_calls

theorem WearReports_holds : Rows.WearReportsSaid :=
  OpenClaim.holds_of_wide 14 Try.f14 rfl rfl rfl rfl rfl rfl rfl ⟨rfl, rfl, rfl, rfl, rfl⟩ rfl rfl rfl rfl rfl (by kernel_rfl) Try.func14 (by kernel_rfl)
    (of_decide_eq_true (by kernel_rfl)) (by unfold Func.isWrapper; first | (rw [if_pos (by decide +kernel)]; kernel_rfl) | (rw [if_neg (by decide +kernel)]; exact ⟨rfl, rfl⟩))
    (fun os started H enc _ => WearReports_lifted os started H enc)

end Go.Proofs.Ytamfkofcpoglnaa
end
