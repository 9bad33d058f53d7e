/- TokenChecks: what is proved and its parts, laid together by a program of ours: Av Tq5 Aw RwTokenChecks -/
import Derived.Test.YtaglicdidpgkpaaGreatDoorK15
set_option autoImplicit false
set_option linter.all false
/- What arguments of the statements are: scenes. Own work. -/
section
set_option maxRecDepth 100000
set_option linter.unusedVariables false
namespace Go.Proofs.YtaglicdidpgkpaaGreatDoor
open Go Go.Vc Go.ChangeShapes Go.WideShapes Go.ChangeAt Go.RowKit
theorem xScn : xsh PP 8 31 = some [.int .i64, .int .i64, .int .i64, .int .i64, .int .i64, .int .i64, .int .i64, .slc 165, .slc 3, .slc 4, .slc 89] := by kernel_rfl
section
variable {D : Type} {enc : TypeId × Value → D} {W : World}
theorem scene_of {v : Value} {base : Nat} (h : Rdt enc PP W 31 v.cells.toList) (ho : Value.okWide PP W .any base 31 v) :
  ∃ (c : Cfg) (a b c' : Sl) (s : St) (X : List SR) (lp : Option Addr) (ll lc : Nat), v = .agg (scnV c a b c' lp ll lc).toArray ∧ RdS W.heap a b c' s ∧ s.typed ∧ s.small ∧ SecsAt W.heap lp ll X ∧ ll < 2 ^ 47 := by
 have e := okw_agg (by kernel_rfl) ho
 obtain ⟨a1, r1, e1, _, a2, r2, rfl, _, a3, r3, rfl, _, a4, r4, rfl, _, a5, r5, rfl, _, a6, r6, rfl, _, a7, r7, rfl, _, p1, l1, c1, q1, rfl, s1, p2, l2, c2, q2, rfl, s2, p3, l3, c3, q3, rfl, s3, p4, l4, c4, q4, rfl, s4, hr⟩ := Rdt.xm 8 _ _ _ xScn h
 simp only [XM] at hr
 subst hr
 obtain ⟨rows, m1, m2, m3⟩ := mat_of s1
 obtain ⟨es, i1, i2, i3⟩ := ints_of s2
 obtain ⟨bs, b1, b2⟩ := bools_of s3
 obtain ⟨X, x1, x2⟩ := secs_of s4
 refine ⟨⟨a1, a2, a3, a4, a5, a6, a7⟩, (p1, l1, c1), (p2, l2, c2), (p3, l3, c3), ⟨rows, es, bs⟩, X, p4, l4, c4, ?_, ⟨m1, i1, b1⟩, ⟨fun l hl => (m2 l hl).1, i2⟩, ⟨m3, fun l hl => (m2 l hl).2, i3, b2⟩, x1, x2⟩
 rw [e]
 congr 1
 rw [← Array.toArray_toList (xs := v.cells), e1]
theorem ok_scn (c : Cfg) (a b c' : Sl) (lp : Option Addr) (ll lc : Nat) : (DV.agg [.c (.int .i64 c.cells), .c (.int .i64 c.slots), .c (.int .i64 c.fuses), .c (.int .i64 c.step), .c (.int .i64 c.keys), .c (.int .i64 c.erases), .c (.int .i64 c.area), .c a.v, .c b.v, .c c'.v, .c (.slice lp ll lc)]).ok := by
 intro y hy; simp only [List.mem_cons, List.not_mem_nil, or_false] at hy
 rcases hy with rfl | rfl | rfl | rfl | rfl | rfl | rfl | rfl | rfl | rfl | rfl <;> rfl
end
end Go.Proofs.YtaglicdidpgkpaaGreatDoor
end

/- TokenChecks: over any chip, keys, tokens, wishes; no act; without power, too. Own work. -/
section
set_option maxRecDepth 100000
set_option linter.unusedVariables false
namespace Go.Proofs.YtaglicdidpgkpaaGreatDoor
open Go Go.Vc
attribute [local irreducible] macM

structure TkIn (h : H) (key : Int) (id tag : List Int) (cs : List CvM) (ip : Option Addr) (il : Nat) (cp : Option Addr) (cl : Nat) : Prop where
 ri : hsv h ip 1 il (ints .u8 id)
 rb : isBy id
 ii : il + 4096 ≤ 2 ^ 47
 rc : hsv h cp 5 cl (cvsV cs)
 tl : tag.length = 32
 tb : isBy tag
def TokAt (h : H) (p : Option Addr) (t : Nat) : Prop := ∃ q key id tag cs ip il ic cp cl cc, p = some q ∧ hc h (q.add (t * 35)) = some (.int .i64 key) ∧ hc h ((q.add (t * 35)).add 1) = some (.slice ip il ic) ∧ hc h ((q.add (t * 35)).add 2) = some (.slice cp cl cc) ∧ hrow h ((q.add (t * 35)).add 3) .u8 tag ∧ TkIn h key id tag cs ip il cp cl
def WiAt (h : H) (p : Option Addr) (t : Nat) : Prop := ∃ q w, p = some q ∧ hc h (q.add (t * 3)) = some (.int .i64 (WiM.kind w)) ∧ hc h ((q.add (t * 3)).add 1) = some (.int .i64 w.slot) ∧ hc h ((q.add (t * 3)).add 2) = some (.int .i64 w.ver)
theorem wi_cs {h : H} {a : Addr} {w : WiM} (h0 : hc h a = some (.int .i64 w.kind)) (h1 : hc h (a.add 1) = some (.int .i64 w.slot)) (h2 : hc h (a.add 2) = some (.int .i64 w.ver)) : hcs h a (wiV w) := by
 intro x v hv
 match x, hv with
 | 0, hv => injection hv with hv; subst hv; rw [add_zero]; exact h0
 | 1, hv => injection hv with hv; subst hv; exact h1
 | 2, hv => injection hv with hv; subst hv; exact h2
theorem cut_acts (c : Cfg) (s : St) (m : c.may) (l : s.lays c) : (blowM (cutM (layC c s) 0 []) 0).1.acts = 1 := by
 have hb : (s.blown.length : Int) = c.nf := l.fits.blown
 have hf := m.fuses
 have hsl := m.slots
 have hk := m.keys
 have h1 : 1 ≤ c.nf := by
  unfold Cfg.nf
  have : 0 ≤ c.slots * c.fuses := Int.mul_nonneg (by omega) (by omega)
  omega
 have ha : askedM (cutM (layC c s) 0 []) 0 s.blown.length = 0 := askedM_in rfl (by decide) (by omega)
 unfold blowM
 rw [if_neg (show ¬ askedM (cutM (layC c s) 0 []) 0 (cutM (layC c s) 0 []).s.blown.length ≠ 0 from fun y => y ha)]
 have e : (cutM (layC c s) 0 []).act.acts = 1 := by
  unfold Cm.act
  rw [if_neg (by show ¬ ((if (0 : Int) > -1 then (0 : Int) else -1) ≠ 0); decide)]
  show w64 (0 + 1) = 1
  decide
 dsimp only
 by_cases g : bits .and .u8 (maskAt (cutM (layC c s) 0 []) 0) 1 = 1
 ·rw [if_pos g]; exact e
 ·rw [if_neg g]; exact e
section
variable {h0 h : H} {A : List Ent} {i j p r b s m : Nat} {C : Cm}
theorem wish_sp {Q : Int → Int → Int → H → Prop} (w : WiM) (hs : Sat h0 A h) (k : ∀ h', Sat h0 A h' → Q w.kind w.slot w.ver h') : F_portcullislaw24_wish w.kind w.slot w.ver Q h := by
 unfold F_portcullislaw24_wish G_portcullislaw24_wish
 try simp only [add_mk, Nat.zero_add]
 intro b _ hn; replace hs := Sat.new hs hn; clear hn
 intro b2 _ hn; replace hs := Sat.new hs hn; clear hn
 refine ⟨_, hs.ld (i := 1) (.s .z) rfl, _, hs.ld (i := 1) (.s .z) rfl, _, hs.ld (i := 1) (.s .z) rfl, ?_⟩
 refine ⟨Sat.can hs (i := 0) .z (by simp), ?_⟩
 intro h2 e
 replace hs := Sat.wra hs (i := 0) .z e rfl
 clear e
 simp only [put_zero] at hs
 refine ⟨_, hs.ld (i := 0) .z rfl, _, hs.ld (i := 0) .z rfl, _, hs.ld (i := 0) .z rfl, ?_⟩
 exact k _ hs.drop.drop
theorem TokenChecks_sp {Q : Bool → H → Prop} (hg : hc h0 ⟨0, 0, none⟩ = some errTypeV) {a_ b_ c' : Sl} {s : St} {X : List SR} {lp tp wp : Option Addr} {ll lc tl tc wl wc : Nat} (c : Cfg) (rd0 : RdS h0 a_ b_ c' s) (ty : s.typed) (rl : SecsAt h0 lp ll X) (hll : ll < 2 ^ 47)
  (rt : ∀ t, t < tl → TokAt h0 tp t) (htl : tl < 2 ^ 60) (rw_ : ∀ t, t < wl → WiAt h0 wp t) (k : ∀ h', Sat h0 [] h' → Q true h') :
  F_portcullislaw24_TokenChecks c.cells c.slots c.fuses c.step c.keys c.erases c.area a_.1 a_.2.1 a_.2.2 b_.1 b_.2.1 b_.2.2 c'.1 c'.2.1 c'.2.2 lp ll lc tp tl tc wp wl wc Q h0 := by
 unfold F_portcullislaw24_TokenChecks G_portcullislaw24_TokenChecks
 try simp only [add_mk, Nat.zero_add, List.append_nil]
 have hs := Sat.init h0
 intro n41 _ hn; replace hs := Sat.new hs hn; clear hn
 replace hs : Sat h0 [blk n41 (scnV c a_ b_ c' lp ll lc)] _ := hs
 refine awake24_sp hg hs ?_
 intro h1 hs
 rw [if_neg (by decide)]
 (repeat first | refine ⟨_, Sat.ld hs (by (repeat (first | exact At.z | apply At.s))) (by rfl), ?_⟩ | refine ⟨_, _, _, Sat.ld hs (by (repeat (first | exact At.z | apply At.s))) (by rfl), ?_⟩ | (intro _ _ hn; replace hs := Sat.new hs hn; clear hn) | refine ⟨Sat.cs hs (by (repeat (first | exact At.z | apply At.s))) (by rfl), ?_⟩ | (refine ⟨Sat.can hs (by (repeat (first | exact At.z | apply At.s))) (by simp), ?_⟩; intro _ e; replace hs := Sat.wr hs (by (repeat (first | exact At.z | apply At.s))) e; clear e; simp only [put, splice, List.set] at hs))
 refine scene24_sp (a_ := a_) (b_ := b_) (c' := c') (s := s) (X := X) c hs (fun h' hs' => rd0.ext hs'.ex) ty rl hll ?_ ?_
 ·intro h2 hs J72 hJ72
  rw [if_neg (by decide), if_pos (by decide)]
  exact k _ hs.nil
 intro m l pc st lg pr rp mp R rr lp' lc' R2 h2 eR gR eR2 gR2 lR2 hs J72 hJ72
 rw [if_neg (by decide), if_neg (by simp)]
 apply hJ72
 clear hJ72
 obtain ⟨RR, hRR⟩ : ∃ RR, RR = ringD rr lp' lc' R2 ++ (ringP rp mp R ++ [blk n41 (scnV c a_ b_ c' lp ll lc)]) := ⟨_, rfl⟩
 rw [← hRR] at hs
 obtain ⟨x1, a1⟩ : ∃ x, At RR x (blk rr [.slice lp' R2.length lc']) := At.mem (by rw [hRR]; simp)
 obtain ⟨x2, a2⟩ : ∃ x, At RR x (slE lp' R2.length lc' 2 (secV R2)) := At.mem (by rw [hRR]; simp)
 obtain ⟨x3, a3⟩ : ∃ x, At RR x (blk rp [.map (some mp)]) := At.mem (by rw [hRR]; simp)
 obtain ⟨x4, a4⟩ : ∃ x, At RR x (mapE mp (R.map SR.ent)) := At.mem (by rw [hRR]; simp)
 obtain ⟨x5, a5⟩ : ∃ x, At RR x (blk n41 (scnV c a_ b_ c' lp ll lc)) := At.mem (by rw [hRR]; simp)
 have r1 : ∀ x, x ∈ R → ∃ y, At RR y x.sl := fun x hx => At.mem (by rw [hRR]; exact List.mem_append_right _ (List.mem_append_left _ (List.mem_cons_of_mem _ (List.mem_cons_of_mem _ (List.mem_map_of_mem hx)))))
 have r2 : ∀ x, x ∈ R2 → ∃ y, At RR y x.sl := fun x hx => At.mem (by rw [hRR]; exact List.mem_append_left _ (List.mem_cons_of_mem _ (List.mem_cons_of_mem _ (List.mem_map_of_mem hx))))
 clear hRR
 intro J74 hJ74
 refine loop_up 2 (fun t h => ∃ C, Sat h0 (chipE pc C :: refE pr C :: storeE st pc lg :: logE lg pc :: RR) h ∧ (t < 2 → C.acts = (t : Int)) ∧ (t = 0 → C = layC c s)) ?_ ?_ 0 _ (by omega) ⟨_, hs, fun _ => rfl, fun _ => rfl⟩
 ·clear hs
  rintro t h3 ht ⟨C, hs, hac, hC⟩ hk
  apply hJ74
  rw [ltI_eq, if_pos (by rw [decide_eq_true_iff]; omega)]
  intro J77 hJ77
  refine loop_up tl (fun u h => Sat h0 (chipE pc C :: refE pr C :: storeE st pc lg :: logE lg pc :: RR) h) ?_ ?_ 0 _ (by omega) hs
  ·clear hs
   intro u h4 hu hs hk2
   apply hJ77
   rw [ltI_eq, if_pos (by rw [decide_eq_true_iff]; omega)]
   obtain ⟨q, key, id, tag, cs, ip, il, ic, cp, cl, cc, hq, g0, g1, g2, g3, T⟩ := rt u hu
   have hil : id.length = il := by have := T.ri.1; simpa using this
   refine ⟨q, hq, by omega, by omega, ?_⟩
   simp only [Int.toNat_natCast]
   refine ⟨_, hc_ext hs.ex g0 (fun y => y), _, _, _, hc_ext hs.ex g1 (fun y => y), _, _, _, hc_ext hs.ex g2 (fun y => y), _, T.tl, hrow_ext hs.ex g3 (fun y => y), ?_⟩
   intro tb _ hn; replace hs := Sat.new hs hn; clear hn
   refine ⟨Sat.can hs (i := 0) .z (by simp [zeros]), ?_⟩
   intro h5 e
   replace hs := Sat.wra (xs := tokL key ip il ic cp cl cc tag) hs (i := 0) .z e (by simp [zeros, T.tl])
   clear e
   simp only [put_zero] at hs
   refine ⟨_, hs.ld (i := 0) .z rfl, _, _, _, hs.ld (i := 0) .z rfl, _, _, _, hs.ld (i := 0) .z rfl, _, T.tl, tok_row hs (i := 0) .z, ?_⟩
   refine rfew_sp hs ?_
   intro h6 hs
   by_cases cf : cl ≤ 65536
   case neg =>
    rw [if_pos (by simp [cf]), wrap_succ (by omega)]
    exact hk2 _ hs.drop
   rw [if_neg (by simp [cf])]
   intro J104 hJ104
   obtain ⟨N, hN1, hN2, hN3⟩ : ∃ N, N ≤ wl ∧ N ≤ 10 ∧ (N = wl ∨ N = 10) := ⟨min wl 10, by omega, by omega, by omega⟩
   refine loop_up N (fun v h => Sat h0 (blk tb (tokL key ip il ic cp cl cc tag) :: chipE pc C :: refE pr C :: storeE st pc lg :: logE lg pc :: RR) h) ?_ ?_ 0 _ (by omega) hs
   ·clear hs
    intro v h7 hv hs hk3
    apply hJ104
    intro J107 hJ107
    rw [ltI_eq, if_pos (by rw [decide_eq_true_iff]; omega), ltI_eq, if_pos (by rw [decide_eq_true_iff]; omega)]
    apply hJ107
    clear hJ107
    obtain ⟨q2, w, hq2, w0, w1, w2⟩ := rw_ v (by omega)
    have wcs : ∀ {B : List Ent} {h' : H}, Sat h0 B h' → hcs h' (q2.add (v * 3)) (wiV w) := fun hs' => wi_cs (hc_ext hs'.ex w0 (fun y => y)) (hc_ext hs'.ex w1 (fun y => y)) (hc_ext hs'.ex w2 (fun y => y))
    refine ⟨_, hs.ld (i := 0) .z rfl, _, _, _, hs.ld (i := 0) .z rfl, _, _, _, hs.ld (i := 0) .z rfl, _, T.tl, tok_row hs (i := 0) .z, q2, hq2, by omega, by omega, ?_⟩
    simp only [Int.toNat_natCast]
    refine ⟨_, hc_ext hs.ex w0 (fun y => y), _, hc_ext hs.ex w1 (fun y => y), _, hc_ext hs.ex w2 (fun y => y), _, hs.ld (i := 0) .z rfl, _, _, _, hs.ld (i := 0) .z rfl, _, _, _, hs.ld (i := 0) .z rfl, _, T.tl, tok_row hs (i := 0) .z, q2, hq2, by omega, by omega, ?_⟩
    refine ⟨_, hc_ext hs.ex w0 (fun y => y), _, hc_ext hs.ex w1 (fun y => y), _, hc_ext hs.ex w2 (fun y => y), ?_⟩
    refine lawof_sp (id := id) (cs := cs) hs T.tl T.ii cf (fun h' hs' => hs'.base T.ri) (fun h' hs' => hs'.base T.rc) ?_
    intro p1 c1 p2 c2 h8 hc1 hs
    refine ⟨wcs hs, Sat.cs hs (i := 2) (.s (.s .z)) (by rw [List.drop_zero, List.take_of_length_le (Nat.le_refl _)]), wcs hs, ?_⟩
    refine wish_sp w hs ?_
    intro h9 hs
    refine ⟨wcs hs, Sat.cs hs (i := 2) (.s (.s .z)) (by rw [List.drop_zero, List.take_of_length_le (Nat.le_refl _)]), _, rfl, _, rfl, ?_⟩
    refine tcheck_sp (id := id) (cs := cs) w hs (i := 3) (.s (.s (.s .z))) (j := 6) (.s (.s (.s (.s (.s (.s .z)))))) (m := 5) (.s (.s (.s (.s (.s .z))))) a3.s.s.s.s.s.s.s a4.s.s.s.s.s.s.s gR (fun x hx h' hs' => hs'.sv (r1 x hx).choose_spec.s.s.s.s.s.s.s) T.tl T.tb (by omega) (fun h' hs' => ofId hil hc1 (hs'.sv (i := 1) (.s .z))) (fun h' hs' => hs'.sv (i := 0) .z) ?_
    intro h10 hs
    refine ⟨wcs hs, Sat.cs hs (i := 2) (.s (.s .z)) (by rw [List.drop_zero, List.take_of_length_le (Nat.le_refl _)]), _, rfl, _, rfl, ?_⟩
    refine rcheck_sp (id := id) (cs := cs) w hs (j := 4) (.s (.s (.s (.s .z)))) a1.s.s.s.s.s.s.s a2.s.s.s.s.s.s.s lR2 gR2 (fun x hx h' hs' => hs'.sv (r2 x hx).choose_spec.s.s.s.s.s.s.s) T.tl T.tb T.rb (by omega) (fun h' hs' => hs'.base T.ri) (fun h' hs' => hs'.base T.rc) ?_
    intro h11 hs
    rw [eR, eR2, if_neg (by simp), wrap_succ (by omega)]
    exact hk3 _ hs.drop.drop
   ·clear hs
    intro h7 hs
    apply hJ104
    intro J107 hJ107
    rw [ltI_eq]
    by_cases cw : N < wl
    ·rw [if_pos (by rw [decide_eq_true_iff]; omega), ltI_eq, if_neg (by rw [decide_eq_true_iff]; omega), wrap_succ (by omega)]
     exact hk2 _ hs.drop
    ·rw [if_neg (by rw [decide_eq_true_iff]; omega), wrap_succ (by omega)]
     exact hk2 _ hs.drop
  ·clear hs
   intro h4 hs
   apply hJ77
   clear hJ77
   rw [ltI_eq, if_neg (by rw [decide_eq_true_iff]; omega)]
   refine ⟨_, rfl, ?_⟩
   refine Acts_sp hs (i := 0) .z ?_
   rw [if_neg (by simp [hac ht])]
   by_cases t0 : t = 0
   ·have e := hC t0
    subst t0
    subst e
    have ok := chip_ok hs (i := 0) .z
    have sm := ok.small
    rw [if_pos (by decide)]
    refine ⟨_, _, _, hs.ld a5.s.s.s.s rfl, _, _, _, hs.ld a5.s.s.s.s rfl, _, _, _, hs.ld a5.s.s.s.s rfl, _, rfl, ?_⟩
    refine State_sp hs (i := 0) .z ?_
    intro a1' b1' c1' h5 hs
    replace hs : Sat h0 (matE 32 a1' (layC c s).s.pages :: sE b1' 1 (ints .i64 (layC c s).s.erases) :: sE c1' 1 (bools (layC c s).s.blown) :: chipE pc (layC c s) :: refE pr (layC c s) :: storeE st pc lg :: logE lg pc :: RR) _ := hs
    refine ⟨Sat.cs hs a5.s.s.s.s.s.s.s rfl, ?_⟩
    refine same21_sp (a := a1') (b := b1') (c := c1') (a2 := a_) (b2 := b_) (c2 := c') (s := s) hs
     (fun h' hs' => sat_rdS hs' (i := 0) (j := 1) (k := 2) .z (.s .z) (.s (.s .z))) (fun h' hs' => rd0.ext hs'.ex) (small_lt sm).1 (small_lt sm).2.1 (small_lt sm).2.2.1 (small_lt sm).2.2.2 ?_
    intro h6 hs
    rw [if_neg (by decide), if_pos (by decide)]
    replace hs := hs.drop.drop.drop
    refine ⟨_, rfl, ?_⟩
    refine Cut_sp (bs := []) hs (i := 0) .z 0 (by decide) (hsv_nil _ _ _) (by intro n hn; cases hn) (by decide) ?_
    intro h7 hs
    simp only [put_zero] at hs
    refine ⟨_, rfl, ?_⟩
    refine rCut_sp (bs := []) hs (i := 1) (.s .z) 0 (by decide) (fun _ _ _ => hsv_nil _ _ _) (by intro n hn; cases hn) (by decide) ?_
    intro h8 hs
    simp only [put_succ, put_zero] at hs
    refine ⟨_, rfl, ?_⟩
    refine Blow_sp hs (i := 0) .z 0 ?_
    intro h9 hs
    simp only [put_zero] at hs
    refine ⟨_, rfl, ?_⟩
    refine rBlow_sp hs (i := 1) (.s .z) 0 ?_
    intro h10 hs
    simp only [put_succ, put_zero] at hs
    rw [wrap_succ (by omega)]
    exact hk _ ⟨_, hs, fun _ => cut_acts c s m l, fun y => by omega⟩
   ·have t1 : t = 1 := by omega
    subst t1
    rw [if_neg (by decide), if_neg (by decide), wrap_succ (by omega)]
    exact hk _ ⟨C, hs, fun y => by omega, fun y => by omega⟩
 ·clear hs
  rintro h3 ⟨C, hs, _, _⟩
  apply hJ74
  rw [ltI_eq, if_neg (by rw [decide_eq_true_iff]; omega)]
  exact k _ hs.nil
end
end Go.Proofs.YtaglicdidpgkpaaGreatDoor
end

/- What arguments of the statements are: lists of tokens, of wishes. Own work. -/
section
set_option maxRecDepth 100000
set_option linter.unusedVariables false
namespace Go.Proofs.YtaglicdidpgkpaaGreatDoor
open Go Go.Vc Go.ChangeShapes Go.WideShapes Go.ChangeAt Go.RowKit
theorem xWi24 : xsh PP 8 42 = some [.int .i64, .int .i64, .int .i64] := by kernel_rfl
section
variable {D : Type} {enc : TypeId × Value → D} {W : World}
theorem toks_of {p : Option Addr} {l c : Nat} (h : Sli enc PP W 37 p l c) : l < 2 ^ 47 ∧ ∀ t, t < l → TokAt W.heap p t := by
 have hb : Tryz.prog.bytesOf 37 = 88 := by kernel_rfl
 have hc : Tryz.prog.cellsOf 37 = 35 := by kernel_rfl
 obtain ⟨ess, h1, h2, _, h4⟩ := h.els xTok24
 have hlc := h.1
 have hr := h.2.1
 rw [hb] at hr
 unfold reachBytes at hr
 refine ⟨by omega, fun t ht => ?_⟩
 obtain ⟨q, hq, g⟩ := h4 t (by omega)
 obtain ⟨key, r1, e1, hk, ip, il, ic, r2, rfl, s2, cp, cl, cc, r3, rfl, s3, tag, r4, rfl, tl, th, hrr⟩ := (h2 ess[t] (List.getElem_mem _)).2
 simp only [XM] at hrr
 subst hrr
 rw [e1, hc, List.append_nil] at g
 obtain ⟨id, i1, i2, _, i4⟩ := bytes24_of s2
 obtain ⟨cs, c1, _, _, _⟩ := cavs_of s3
 have g0 := g 0 _ rfl
 rw [add_zero] at g0
 refine ⟨q, key, id, tag, cs, ip, il, ic, cp, cl, cc, hq, g0, g 1 _ rfl, g 2 _ rfl, ?_, i1, i2, i4, c1, tl, fun x hx => has_u8 (th x hx)⟩
 intro x v hv
 have := g (3 + x) v (by rw [show 3 + x = x + 1 + 1 + 1 by omega, List.getElem?_cons_succ, List.getElem?_cons_succ, List.getElem?_cons_succ]; exact hv)
 rw [addAdd]
 exact this
theorem wishes_of {p : Option Addr} {l c : Nat} (h : Sli enc PP W 42 p l c) : ∀ t, t < l → WiAt W.heap p t := by
 have hc : Tryz.prog.cellsOf 42 = 3 := by kernel_rfl
 obtain ⟨ess, h1, h2, _, h4⟩ := h.els xWi24
 intro t ht
 obtain ⟨q, hq, g⟩ := h4 t (by omega)
 obtain ⟨a, r1, e1, _, b, r2, rfl, _, d, r3, rfl, _, hrr⟩ := (h2 ess[t] (List.getElem_mem _)).2
 simp only [XM] at hrr
 subst hrr
 rw [e1, hc] at g
 have g0 := g 0 _ rfl
 rw [add_zero] at g0
 exact ⟨q, ⟨a, b, d⟩, hq, g0, g 1 _ rfl, g 2 _ rfl⟩
end
end Go.Proofs.YtaglicdidpgkpaaGreatDoor
end

/- TokenChecks: over any chip, keys, tokens, wishes: what the program's check says is what the document says; no act; without power, too; for every input. -/
section
set_option maxRecDepth 100000
set_option linter.unusedVariables false
namespace Go.Proofs.YtaglicdidpgkpaaGreatDoor
open Go Go.Vc Go.ChangeShapes Go.WideShapes Go.ChangeAt Go.RowKit

theorem TokenChecks_calls {D : Type} {enc : TypeId × Value → D} {W : World} {base : Nat} (hg : hc W.heap ⟨0, 0, none⟩ = some errTypeV) (vs : List Value) (h : ArgsOk enc PP W base [31, 67, 68] vs) : CallsTrue PP 4 vs W := by
 obtain ⟨hl, h⟩ := h
 match vs, hl with
 | [v0, v1, v2], _ =>
 obtain ⟨r0, w0⟩ := h 0 _ v0 rfl rfl
 obtain ⟨r1, w1⟩ := h 1 _ v1 rfl rfl
 obtain ⟨r2, w2⟩ := h 2 _ v2 rfl rfl
 obtain ⟨c, a, b, c', s, X, lp, ll, lc, rfl, rd, ty, _, rl, hll⟩ := scene_of r0 w0
 obtain ⟨tp, tl, tc, rfl, hs1⟩ := slice24_of (e := 37) (by kernel_rfl) r1 w1
 obtain ⟨htl, rt⟩ := toks_of hs1
 obtain ⟨wp, wl, wc, rfl, hs2⟩ := slice24_of (e := 42) (by kernel_rfl) r2 w2
 have rw_ := wishes_of hs2
 have := R_portcullislaw24_TokenChecks [.agg [.c (.int .i64 c.cells), .c (.int .i64 c.slots), .c (.int .i64 c.fuses), .c (.int .i64 c.step), .c (.int .i64 c.keys), .c (.int .i64 c.erases), .c (.int .i64 c.area), .c a.v, .c b.v, .c c'.v, .c (.slice lp ll lc)], .one (.slice tp tl tc), .one (.slice wp wl wc)] (fun rs h' => rs = [DV.one (.bool true)] ∧ Ext none_ W.heap h') W.heap (by
  intro x hx
  simp only [List.mem_cons, List.not_mem_nil, or_false] at hx
  rcases hx with rfl | rfl | rfl
  ·exact ok_scn c a b c' lp ll lc
  ·rfl
  ·rfl) (by
  show F_portcullislaw24_TokenChecks c.cells c.slots c.fuses c.step c.keys c.erases c.area a.1 a.2.1 a.2.2 b.1 b.2.1 b.2.2 c'.1 c'.2.1 c'.2.2 lp ll lc tp tl tc wp wl wc (fun b h' => [DV.one (.bool b)] = [DV.one (.bool true)] ∧ Ext none_ W.heap h') W.heap
  exact TokenChecks_sp hg c rd ty rl hll rt (by omega) rw_ fun h' x => ⟨rfl, x.ex⟩)
 exact this
theorem TokenChecks_lifted (os : Os) (started : os.Started) (D : Type) (enc : TypeId × Value → D) :
  ReturnsInHanded {} Tryz.checked os 4 .any (fun w args => (Rows.tokenChecksSpec.pre enc Tryz.prog Tryz.f4 [] false w args ∧ laidMetH Tryz.prog laidL w) ∧ sizedMet enc Tryz.prog Tryz.f4 (OpenSpec.ofChange Rows.tokenChecksSpec) false w args)
   (Rows.tokenChecksSpec.post enc Tryz.prog Tryz.f4 false true false false) := by
 refine returnsInHanded_of_change_and (C := Tryz.checked) (X := fun w _ => laidMetH Tryz.prog laidL w) (fun _ _ _ hh h => h.of_heap hh) Tryz.own started (by kernel_rfl) Tryz.func4
  (ChangeSpec.witness_at (enc := enc) (C := Tryz.checked) (os := os) (X := fun w _ => laidMetH Tryz.prog laidL w) false (laidWorld os) #[.agg #[.int .i64 0, .int .i64 0, .int .i64 0, .int .i64 0, .int .i64 0, .int .i64 0, .int .i64 0, .slice none 0 0, .slice none 0 0, .slice none 0 0, .slice none 0 0], .slice none 0 0, .slice none 0 0] 8 rfl (by kernel_rfl) (by kernel_rfl) (by kernel_rfl) (by kernel_rfl) (by kernel_rfl) (laidWorld_met os _)) ?_
 intro W base args ds gs before hval hW hcnd hsz hL _
 exact law_go (P := Tryz.prog) (fn := Tryz.f4) (s := Rows.tokenChecksSpec) [31, 67, 68] (by kernel_rfl) Tryz.laidOut rfl (by kernel_rfl) (by kernel_rfl) Tryz.ubool
  (fun ds hl => match ds, hl with | [d1, d2, d3], _ => rfl) hval hW hsz (TokenChecks_calls (handle_of_laid hL))

theorem TokenChecks_k1 : (Rows.tokenChecksRow.wf (OpenSpec.ofChange Rows.tokenChecksSpec) && laidOutB Tryz.prog && mapsRowed Tryz.prog && Tryz.f4.params.all (Tryz.prog.readableRec ·) && namedTie Tryz.prog Rows.tokenChecksRow.named Rows.tokenChecksSpec.vars && (Rows.tokenChecksRow.stops == []) && (Tryz.prog.stops == []) && (Rows.tokenChecksRow.knobs == []) && (Tryz.prog.stopKnobs == [])) = true := by kernel_rfl
theorem TokenChecks_k2 : (Rows.tokenChecksRow.inPlace == Tryz.prog.inPlace 4) = true := by kernel_rfl
theorem TokenChecks_k3 : (Rows.tokenChecksRow.unfollowed == Tryz.prog.unfollowed 4) = true := by kernel_rfl
theorem TokenChecks_k4 : (Rows.tokenChecksRow.recurses == Tryz.prog.recurses 4) = true := by kernel_rfl
theorem TokenChecks_k5 : (Rows.tokenChecksRow.named == Tryz.prog.varsNamed 4) = true := by kernel_rfl
theorem TokenChecks_k6 : Tryz.prog.stopsHeard = true := by kernel_rfl
theorem TokenChecks_k7 : Tryz.prog.mayEnter = true := by kernel_rfl
theorem TokenChecks_k8 : (Rows.tokenChecksRow.lifted == Tryz.prog.liftsFinal) = true := by kernel_rfl
theorem TokenChecks_k9 : (Tryz.prog.make == some Rows.tokenChecksRow.make) = true := by kernel_rfl
theorem TokenChecks_facts : joinedFacts Tryz.pinned.checked.prog 4 Tryz.f4 Rows.tokenChecksSpec Rows.tokenChecksRow = true := by
 unfold joinedFacts
 exact bool_and (bool_and (bool_and (bool_and (bool_and (bool_and (bool_and (bool_and (bool_and (bool_and (bool_and (bool_and (bool_and (bool_and (bool_and (bool_and (bool_and (bool_and (bool_and (bool_and (bool_and (bool_and (bool_and (TokenChecks_k1) TokenChecks_k2) TokenChecks_k3) TokenChecks_k4) TokenChecks_k5) (by kernel_rfl)) (by kernel_rfl)) (by kernel_rfl)) (by kernel_rfl)) (by kernel_rfl)) (by kernel_rfl)) (by kernel_rfl)) (by kernel_rfl)) (by kernel_rfl)) (by kernel_rfl)) (by kernel_rfl)) TokenChecks_k6) TokenChecks_k7) TokenChecks_k8) TokenChecks_k9) (by kernel_rfl)) (by kernel_rfl)) (by kernel_rfl)) (by kernel_rfl)
theorem TokenChecks_said : Rows.TokenChecksSaid :=
 OpenClaim.holds_of_wide 4 Tryz.f4 rfl rfl rfl rfl rfl rfl rfl ⟨rfl, rfl, rfl, rfl, rfl⟩ rfl rfl rfl rfl rfl (by kernel_rfl) Tryz.func4 TokenChecks_facts
  (of_decide_eq_true (by kernel_rfl)) (by unfold Func.isWrapper; first | (rw [if_pos (by decide +kernel)]; kernel_rfl) | (rw [if_neg (by decide +kernel)]; exact ⟨rfl, rfl⟩))
  (fun os started H enc _ => TokenChecks_lifted os started H enc)

theorem TokenChecks_plain (f : FuncId) (fn : Func) (hf : Tryz.pinned.checked.prog.funcNamed "portcullis/portcullislaw24.TokenChecks" = some f) (hfn : Tryz.pinned.checked.prog.funcs[f]? = some fn) :
  true = Tryz.pinned.checked.prog.looks [] ∧ ∀ (j : Nat) t, fn.params[j]? = some t → Tryz.pinned.checked.prog.wantsStandIn t = false := by
 obtain rfl : f = 4 := Option.some.inj ((show Tryz.prog.funcNamed "portcullis/portcullislaw24.TokenChecks" = some 4 by kernel_rfl).symm.trans hf) |>.symm
 obtain rfl : fn = Tryz.f4 := (Option.some.inj (Tryz.func4.symm.trans hfn)).symm
 refine ⟨by kernel_rfl, fun j t ht => ?_⟩
 have hm := Array.mem_of_getElem? ht
 have hm2 : t ∈ ([31, 67, 68] : List Nat) := by
  have : Tryz.f4.params.toList = [31, 67, 68] := by kernel_rfl
  rw [← this]; exact Array.mem_toList_iff.2 hm
 simp only [List.mem_cons, List.not_mem_nil, or_false] at hm2
 rcases hm2 with rfl | rfl | rfl <;> (first | kernel_rfl | rfl)

theorem TokenChecks_holds : Rows.TokenChecksCardSaid :=
 Claim7.holds_tied_plain_at .later [] _ _ _ _ TokenChecks_said (fun _ h => by cases h) (by kernel_rfl) (fun _ h => by cases h) tokenChecks_row_tie rfl ⟨rfl, rfl⟩ (by kernel_rfl) rfl TokenChecks_plain (by kernel_rfl)

end Go.Proofs.YtaglicdidpgkpaaGreatDoor
end
