/- WearLasts: what is proved and its parts, laid together by a program of ours: Wr2 Wr3 Wl1 Wl2 RwWearLasts -/
import Derived.Test.YteabcbpimjjdpaaK10
set_option autoImplicit false
set_option linter.all false
/- Wear: how a chip stands. Own work. -/
section
set_option maxRecDepth 100000
set_option linter.unusedVariables false
namespace Go.Proofs.Yteabcbpimjjdpaa
open Go Go.Vc

section
variable {h0 h : H} {A : List Ent} {i j p r l b : Nat} {C : Cm}
/-- How often a page may be made blank yet. -/
def leftM (C : Cm) (k : Nat) (e : Int) : Int :=
  if (pI C k).blank = true then IntKind.i64.wrap ((if IntKind.i64.wrap (C.cfg.erases - e) > 0 then IntKind.i64.wrap (C.cfg.erases - e) else 0) + 1) else (if IntKind.i64.wrap (C.cfg.erases - e) > 0 then IntKind.i64.wrap (C.cfg.erases - e) else 0)
theorem left_sp {Q : Int → Int → H → Prop} (hs : Sat h0 A h) (ci : At A i (chipE p C)) (ho : C.out = false) {k : Nat} (hk : k < 2) (e : Int) (kk : ∀ h', Sat h0 A h' → Q (leftM C k e) 0 h') : F_wear_left ⟨p, 0, none⟩ (k : Int) e Q h := by
  unfold F_wear_left G_wear_left
  simp only [add_mk, Nat.zero_add]
  have ok := chip_ok hs ci
  refine Look_sp hs ci (k : Int) ?_
  intro h1 hs
  rw [look_pg ho ok hk]
  have hpl := pI_len C k
  intro n14 _ hn; replace hs := Sat.new hs hn; clear hn
  refine ⟨Sat.can hs (i := 0) .z (by decide), ?_⟩
  intro h4 e4
  replace hs := Sat.wra hs (i := 0) .z e4 ((inf_len hpl).trans rfl)
  clear e4
  replace hs : Sat h0 (blk n14 (infI (pI C k)) :: A) _ := hs
  rw [if_neg (by simp)]
  refine Config_sp hs ci.s ?_
  intro h5 hs
  obtain ⟨L0, L1, L10, L11, L12⟩ := hs.infAt .z hpl
  refine ⟨_, L11, ?_⟩
  unfold leftM at kk
  split
  · rename_i g; rw [if_pos g] at kk; exact kk _ hs.drop
  · rename_i g; rw [if_neg g] at kk; exact kk _ hs.drop
def apartM (C : Cm) : Int := IntKind.i64.wrap ((if C.er 1 > C.er 0 then C.er 1 else C.er 0) - (if C.er 1 < C.er 0 then C.er 1 else C.er 0))
def turnsM (C : Cm) : Int := if leftM C (1 - tgtM C) (C.er (1 - tgtM C)) < leftM C (tgtM C) (C.er (tgtM C)) then IntKind.i64.wrap (IntKind.i64.wrap (2 * leftM C (1 - tgtM C) (C.er (1 - tgtM C))) + 1) else IntKind.i64.wrap (2 * leftM C (tgtM C) (C.er (tgtM C)))
def wlaysM (C : Cm) : Int := IntKind.i64.wrap (freeT C + IntKind.i64.wrap (turnsM C * wLaysM C.cfg))
theorem wOf_sp {Q : Option Addr → Nat → Nat → Int → Int → Int → Int → Int → H → Prop} (hs : Sat h0 A h) (ci : At A i (chipE p C))
    (k1 : C.out = true → ∀ h', Sat h0 A h' → Q none 0 0 0 0 0 0 8 h')
    (k2 : C.out = false → ∀ (x : Sl) h', Sat h0 (sE x 1 (ints .i64 C.s.erases) :: A) h' → Q x.1 x.2.1 x.2.2 (apartM C) (freeT C) (turnsM C) (wlaysM C) 0 h') : F_wear_Of ⟨p, 0, none⟩ Q h := by
  unfold F_wear_Of G_wear_Of
  simp only [add_mk, Nat.zero_add]
  have ok := chip_ok hs ci
  obtain ⟨hp2, he2⟩ := ok_pages ok
  have hnp : C.cfg.np = 2 + 2 * C.cfg.area := rfl
  have hfe := ok.fits.erases
  have hfp := ok.fits.pages
  have har := ok.may.area
  intro n10 _ hn; replace hs := Sat.new hs hn; clear hn
  refine Mount_sp hs ci.s ?_ ?_
  · intro ho
    rw [if_pos (by simp)]
    (repeat first | refine ⟨_, Sat.ld hs (by (repeat (first | exact At.z | apply At.s))) (by rfl), ?_⟩ | refine ⟨_, _, _, Sat.ld hs (by (repeat (first | exact At.z | apply At.s))) (by rfl), ?_⟩ | (intro _ _ hn; replace hs := Sat.new hs hn; clear hn) | refine ⟨Sat.cs hs (by (repeat (first | exact At.z | apply At.s))) (by rfl), ?_⟩ | (refine ⟨Sat.can hs (by (repeat (first | exact At.z | apply At.s))) (by simp), ?_⟩; intro _ e; replace hs := Sat.wr hs (by (repeat (first | exact At.z | apply At.s))) e; clear e; simp only [put, splice, List.set] at hs) | refine ⟨_, rfl, ?_⟩)
    exact k1 ho _ hs.drop
  intro ho lg h1 hs
  rw [if_neg (by simp)]
  replace k2 := k2 ho
  clear k1
  refine ⟨_, rfl, ?_⟩
  refine Free_sp hs ci.s.s .z ?_
  intro h2 hs
  have hfr := freeT_range ok
  rw [wrap_id (by omega)]
  intro n28 _ hn; replace hs := Sat.new hs hn; clear hn
  (refine ⟨Sat.can hs (by (repeat (first | exact At.z | apply At.s))) (by simp), ?_⟩; intro _ e; replace hs := Sat.wr hs (by (repeat (first | exact At.z | apply At.s))) e; clear e; simp only [put, splice, List.set] at hs)
  refine Config_sp hs ci.s.s.s ?_
  intro h3 hs
  intro J hJ
  have en : IntKind.i64.wrap (2 + IntKind.i64.wrap (2 * C.cfg.area)) = (C.s.erases.length : Int) := by
    rw [wrap_id (n := 2 * C.cfg.area) (by omega), wrap_id (by omega)]; omega
  obtain ⟨fr, hfr2⟩ : ∃ fr, fr = freeT C := ⟨_, rfl⟩
  rw [← hfr2] at hs k2
  rw [en] at hJ
  have hs1 : ∃ x : Sl, x.2.1 = 0 ∧ Sat h0 (sE x 1 (ints .i64 (C.s.erases.take 0)) :: blk n28 [x.v, .int .i64 0, .int .i64 fr, .int .i64 0, .int .i64 0] :: logE lg p :: blk n10 [.slice none 0 0, .int .i64 0, .int .i64 0, .int .i64 0, .int .i64 0] :: A) h3 := by
    refine ⟨(none, 0, 0), rfl, ?_⟩
    exact hs.sl_nil 1 none
  clear hs
  refine loop_up C.s.erases.length (fun n h => ∃ x : Sl, x.2.1 = n ∧ Sat h0 (sE x 1 (ints .i64 (C.s.erases.take n)) :: blk n28 [x.v, .int .i64 0, .int .i64 fr, .int .i64 0, .int .i64 0] :: logE lg p :: blk n10 [.slice none 0 0, .int .i64 0, .int .i64 0, .int .i64 0, .int .i64 0] :: A) h) ?_ ?_ 0 _ (by omega) hs1
  · rintro n h4 hn ⟨x, hx, hs⟩ hk
    apply hJ
    rw [ltI_eq, if_pos (by simp; omega)]
    refine Erases_sp hs ci.s.s.s.s (n : Int) ?_
    have ee : erasesM C (n : Int) = (C.s.erases.getD n 0, 0) := by unfold erasesM; rw [askedM_in ho (by omega) (by omega), if_neg (by simp), Int.toNat_natCast]
    rw [ee, if_neg (by simp)]
    refine ⟨_, _, _, Sat.ld hs (by (repeat (first | exact At.z | apply At.s))) (by rfl), ?_⟩
    intro n59 _ hn59; replace hs := Sat.new hs hn59; clear hn59
    refine ⟨_, Sat.bv hs .z (l := 1) rfl (ints_one .i64 [C.s.erases.getD n 0]), ?_⟩
    obtain ⟨xp, xl, xc⟩ := x
    dsimp only at hx hs ⊢
    subst hx
    refine Sat.app hs (i := 1) (vs := ints .i64 [C.s.erases.getD xl 0]) (.s .z) (by simp) rfl (ints_one _ _) (by dsimp only; omega) ?_
    intro p' c' h5 hs
    simp only [put] at hs
    (refine ⟨Sat.can hs (by (repeat (first | exact At.z | apply At.s))) (by simp), ?_⟩; intro _ e; replace hs := Sat.wr hs (by (repeat (first | exact At.z | apply At.s))) e; clear e; simp only [put, splice, List.set] at hs)
    rw [wrap_succ (by omega)]
    refine hk _ ⟨(p', xl + 1, c'), rfl, ?_⟩
    have e : ints .i64 (C.s.erases.take xl) ++ ints .i64 [C.s.erases.getD xl 0] = ints .i64 (C.s.erases.take (xl + 1)) := by
      rw [← take_snoc _ _ hn]; simp [ints]
    rw [e] at hs
    exact hs.drop
  rintro h4 ⟨x, hx, hs⟩
  rw [List.take_length] at hs
  apply hJ
  rw [ltI_eq, if_neg (by simp)]
  clear hJ J hs1
  have hx2 : 2 ≤ x.2.1 := by omega
  have ld : ∀ k : Nat, k < 2 → ∀ {A' : List Ent} {h' : H} {i : Nat}, Sat h0 A' h' → At A' i (sE x 1 (ints .i64 C.s.erases)) → ∃ q, x.1 = some q ∧ hc h' (q.add k) = some (.int .i64 (C.er k)) := by
    intro k hk A' h' i hs' hi
    exact hsv_int (hs'.sv hi) (x := k) (by omega)
  obtain ⟨q, hq, e0⟩ := ld 0 (by decide) hs .z
  obtain ⟨q1, hq1, e1⟩ := ld 1 (by decide) hs .z
  rw [hq] at hq1
  injection hq1 with hq1
  subst hq1
  rw [add_zero] at e0
  have bnd0 : (0 : Int) ≤ 0 ∧ (0 : Int) < (x.2.1 : Int) := by omega
  refine ⟨_, _, _, hs.ld (i := 1) (.s .z) rfl, _, hq, by omega, by omega, _, e0, _, _, _, hs.ld (i := 1) (.s .z) rfl, _, hq, by omega, by omega, _, e1, _, _, _, hs.ld (i := 1) (.s .z) rfl, _, hq, by omega, by omega, _, e0, _, _, _, hs.ld (i := 1) (.s .z) rfl, _, hq, by omega, by omega, _, e1, ?_⟩
  (refine ⟨Sat.can hs (by (repeat (first | exact At.z | apply At.s))) (by simp), ?_⟩; intro _ e; replace hs := Sat.wr hs (by (repeat (first | exact At.z | apply At.s))) e; clear e; simp only [put, splice, List.set] at hs)
  intro J hJ
  refine ⟨_, rfl, ?_⟩
  refine Present_sp hs ci.s.s.s.s (j := 2) (.s (.s .z)) ?_
  intro h5 hs
  have way : ∀ t : Nat, t = tgtM C → ∀ h', Sat h0 (sE x 1 (ints .i64 C.s.erases) :: blk n28 [x.v, .int .i64 (apartM C), .int .i64 fr, .int .i64 0, .int .i64 0] :: logE lg p :: blk n10 [.slice none 0 0, .int .i64 0, .int .i64 0, .int .i64 0, .int .i64 0] :: A) h' → J [.dv (.one (.int .i64 (t : Int)))] h' := by
    intro t ht h6 hs
    apply hJ
    have ht2 : t < 2 := by rw [ht]; unfold tgtM; split <;> omega
    obtain ⟨q, hq, e0⟩ := ld t ht2 hs .z
    refine ⟨_, _, _, hs.ld (i := 1) (.s .z) rfl, _, hq, by omega, by omega, _, by rw [Int.toNat_natCast, Nat.mul_one]; exact e0, ?_⟩
    refine left_sp hs ci.s.s.s.s ho ht2 (C.er t) ?_
    intro h7 hs
    rw [if_neg (by simp)]
    have ew : IntKind.i64.wrap (1 - (t : Int)) = ((1 - t : Nat) : Int) := by rw [wrap_id (by omega)]; omega
    rw [ew]
    obtain ⟨q, hq, e0⟩ := ld (1 - t) (by omega) hs .z
    refine ⟨_, _, _, hs.ld (i := 1) (.s .z) rfl, _, hq, by omega, by omega, _, by rw [Int.toNat_natCast, Nat.mul_one]; exact e0, ?_⟩
    refine left_sp hs ci.s.s.s.s ho (by omega) (C.er (1 - t)) ?_
    intro h8 hs
    rw [if_neg (by simp)]
    (refine ⟨Sat.can hs (by (repeat (first | exact At.z | apply At.s))) (by simp), ?_⟩; intro _ e; replace hs := Sat.wr hs (by (repeat (first | exact At.z | apply At.s))) e; clear e; simp only [put, splice, List.set] at hs)
    have hT : turnsM C = if leftM C (1 - t) (C.er (1 - t)) < leftM C t (C.er t) then IntKind.i64.wrap (IntKind.i64.wrap (2 * leftM C (1 - t) (C.er (1 - t))) + 1) else IntKind.i64.wrap (2 * leftM C t (C.er t)) := by rw [ht]; rfl
    have hL : wlaysM C = IntKind.i64.wrap (fr + IntKind.i64.wrap (turnsM C * wLaysM C.cfg)) := by rw [hfr2]; rfl
    rw [ltI_eq]
    by_cases g : leftM C (1 - t) (C.er (1 - t)) < leftM C t (C.er t)
    · rw [if_pos g] at hT
      rw [if_pos (by simpa using g)]
      (refine ⟨Sat.can hs (by (repeat (first | exact At.z | apply At.s))) (by simp), ?_⟩; intro _ e; replace hs := Sat.wr hs (by (repeat (first | exact At.z | apply At.s))) e; clear e; simp only [put, splice, List.set] at hs)
      rw [← hT] at hs
      (repeat first | refine ⟨_, Sat.ld hs (by (repeat (first | exact At.z | apply At.s))) (by rfl), ?_⟩ | refine ⟨_, _, _, Sat.ld hs (by (repeat (first | exact At.z | apply At.s))) (by rfl), ?_⟩ | (intro _ _ hn; replace hs := Sat.new hs hn; clear hn) | refine ⟨Sat.cs hs (by (repeat (first | exact At.z | apply At.s))) (by rfl), ?_⟩ | (refine ⟨Sat.can hs (by (repeat (first | exact At.z | apply At.s))) (by simp), ?_⟩; intro _ e; replace hs := Sat.wr hs (by (repeat (first | exact At.z | apply At.s))) e; clear e; simp only [put, splice, List.set] at hs) | refine ⟨_, rfl, ?_⟩)
      refine Config_sp hs ci.s.s.s.s ?_
      intro h9 hs
      (repeat first | refine ⟨_, Sat.ld hs (by (repeat (first | exact At.z | apply At.s))) (by rfl), ?_⟩ | refine ⟨_, _, _, Sat.ld hs (by (repeat (first | exact At.z | apply At.s))) (by rfl), ?_⟩ | (intro _ _ hn; replace hs := Sat.new hs hn; clear hn) | refine ⟨Sat.cs hs (by (repeat (first | exact At.z | apply At.s))) (by rfl), ?_⟩ | (refine ⟨Sat.can hs (by (repeat (first | exact At.z | apply At.s))) (by simp), ?_⟩; intro _ e; replace hs := Sat.wr hs (by (repeat (first | exact At.z | apply At.s))) e; clear e; simp only [put, splice, List.set] at hs) | refine ⟨_, rfl, ?_⟩)
      refine lays_sp C.cfg hs ?_
      intro h10 hs
      (repeat first | refine ⟨_, Sat.ld hs (by (repeat (first | exact At.z | apply At.s))) (by rfl), ?_⟩ | refine ⟨_, _, _, Sat.ld hs (by (repeat (first | exact At.z | apply At.s))) (by rfl), ?_⟩ | (intro _ _ hn; replace hs := Sat.new hs hn; clear hn) | refine ⟨Sat.cs hs (by (repeat (first | exact At.z | apply At.s))) (by rfl), ?_⟩ | (refine ⟨Sat.can hs (by (repeat (first | exact At.z | apply At.s))) (by simp), ?_⟩; intro _ e; replace hs := Sat.wr hs (by (repeat (first | exact At.z | apply At.s))) e; clear e; simp only [put, splice, List.set] at hs) | refine ⟨_, rfl, ?_⟩)
      rw [← hL] at hs ⊢
      refine k2 x _ ?_
      exact hs.sub (by (repeat (first | exact List.Sublist.refl _ | apply List.Sublist.cons_cons | apply List.Sublist.cons)))
    · rw [if_neg g] at hT
      rw [if_neg (by simpa using g)]
      rw [← hT] at hs
      (repeat first | refine ⟨_, Sat.ld hs (by (repeat (first | exact At.z | apply At.s))) (by rfl), ?_⟩ | refine ⟨_, _, _, Sat.ld hs (by (repeat (first | exact At.z | apply At.s))) (by rfl), ?_⟩ | (intro _ _ hn; replace hs := Sat.new hs hn; clear hn) | refine ⟨Sat.cs hs (by (repeat (first | exact At.z | apply At.s))) (by rfl), ?_⟩ | (refine ⟨Sat.can hs (by (repeat (first | exact At.z | apply At.s))) (by simp), ?_⟩; intro _ e; replace hs := Sat.wr hs (by (repeat (first | exact At.z | apply At.s))) e; clear e; simp only [put, splice, List.set] at hs) | refine ⟨_, rfl, ?_⟩)
      refine Config_sp hs ci.s.s.s.s ?_
      intro h9 hs
      (repeat first | refine ⟨_, Sat.ld hs (by (repeat (first | exact At.z | apply At.s))) (by rfl), ?_⟩ | refine ⟨_, _, _, Sat.ld hs (by (repeat (first | exact At.z | apply At.s))) (by rfl), ?_⟩ | (intro _ _ hn; replace hs := Sat.new hs hn; clear hn) | refine ⟨Sat.cs hs (by (repeat (first | exact At.z | apply At.s))) (by rfl), ?_⟩ | (refine ⟨Sat.can hs (by (repeat (first | exact At.z | apply At.s))) (by simp), ?_⟩; intro _ e; replace hs := Sat.wr hs (by (repeat (first | exact At.z | apply At.s))) e; clear e; simp only [put, splice, List.set] at hs) | refine ⟨_, rfl, ?_⟩)
      refine lays_sp C.cfg hs ?_
      intro h10 hs
      (repeat first | refine ⟨_, Sat.ld hs (by (repeat (first | exact At.z | apply At.s))) (by rfl), ?_⟩ | refine ⟨_, _, _, Sat.ld hs (by (repeat (first | exact At.z | apply At.s))) (by rfl), ?_⟩ | (intro _ _ hn; replace hs := Sat.new hs hn; clear hn) | refine ⟨Sat.cs hs (by (repeat (first | exact At.z | apply At.s))) (by rfl), ?_⟩ | (refine ⟨Sat.can hs (by (repeat (first | exact At.z | apply At.s))) (by simp), ?_⟩; intro _ e; replace hs := Sat.wr hs (by (repeat (first | exact At.z | apply At.s))) e; clear e; simp only [put, splice, List.set] at hs) | refine ⟨_, rfl, ?_⟩)
      rw [← hL] at hs ⊢
      refine k2 x _ ?_
      exact hs.sub (by (repeat (first | exact List.Sublist.refl _ | apply List.Sublist.cons_cons | apply List.Sublist.cons)))
  have hp : presT C = presM C := by unfold presT; rw [if_neg (by simp [ho])]
  rw [hp]
  by_cases g : presM C = 0
  · rw [if_pos (by simpa using g)]
    exact way 1 (by unfold tgtM; rw [if_pos g]) _ hs
  · rw [if_neg (by simpa using g)]
    exact way 0 (by unfold tgtM; rw [if_neg g]) _ hs
end
end Go.Proofs.Yteabcbpimjjdpaa
end

/- Wear: the document's report; the statements of layer 20. Own work. -/
section
set_option maxRecDepth 100000
set_option linter.unusedVariables false
namespace Go.Proofs.Yteabcbpimjjdpaa
open Go Go.Vc

section
variable {h0 h : H} {A : List Ent} {i j p r l b : Nat} {C : Cm}
theorem small20_sp {Q : Int → Int → Int → Int → Int → Int → Int → H → Prop} (hs : Sat h0 A h) (k : ∀ h', Sat h0 A h' → Q 6 2 4 10 1 3 1 h') : F_portcullislaw20_small Q h := by
  unfold F_portcullislaw20_small G_portcullislaw20_small
  simp only [add_mk, Nat.zero_add]
  (repeat first | refine ⟨_, Sat.ld hs (by (repeat (first | exact At.z | apply At.s))) (by rfl), ?_⟩ | refine ⟨_, _, _, Sat.ld hs (by (repeat (first | exact At.z | apply At.s))) (by rfl), ?_⟩ | (intro _ _ hn; replace hs := Sat.new hs hn; clear hn) | refine ⟨Sat.cs hs (by (repeat (first | exact At.z | apply At.s))) (by rfl), ?_⟩ | (refine ⟨Sat.can hs (by (repeat (first | exact At.z | apply At.s))) (by simp), ?_⟩; intro _ e; replace hs := Sat.wr hs (by (repeat (first | exact At.z | apply At.s))) e; clear e; simp only [put, splice, List.set] at hs) | refine ⟨_, rfl, ?_⟩)
  exact k _ hs.drop
abbrev cfg20 : Cfg := ⟨6, 2, 4, 10, 1, 3, 1⟩
theorem fix20 : turnsM (freshC cfg20) = 8 ∧ wlaysM (freshC cfg20) = 24 ∧ (freshC cfg20).s.erases.length = 4 ∧ budgM cfg20 1 = 18 ∧ actsM cfg20 2 = 9 := by decide +kernel
theorem fixed20_sp {Q : Bool → H → Prop} (hs : Sat h0 A h) (k : ∀ h', Sat h0 A h' → Q true h') : F_portcullislaw20_fixed Q h := by
  unfold F_portcullislaw20_fixed G_portcullislaw20_fixed
  simp only [add_mk, Nat.zero_add]
  obtain ⟨f1, f2, f3, f4, f5⟩ := fix20
  refine small20_sp hs ?_
  intro h1 hs
  refine New_sp cfg20 hs (fun nm => absurd (show cfg20.may by decide) nm) ?_
  intro _ p h2 hs
  intro J hJ
  rw [if_neg (by simp), if_neg (by simp)]
  apply hJ
  have ho : (freshC cfg20).out = false := rfl
  generalize freshC cfg20 = C at *
  refine ⟨_, rfl, ?_⟩
  refine wOf_sp hs .z (fun y => by rw [ho] at y; cases y) ?_
  intro _ x h3 hs
  have lx := (hs.sv .z).1
  rw [ints_length, f3] at lx
  have lx2 : x.2.1 = 4 := by omega
  rw [f1, f2]
  intro n30 _ hn; replace hs := Sat.new hs hn; clear hn
  (refine ⟨Sat.can hs (by (repeat (first | exact At.z | apply At.s))) (by simp), ?_⟩; intro _ e; replace hs := Sat.wr hs (by (repeat (first | exact At.z | apply At.s))) e; clear e; simp only [put, splice, List.set] at hs)
  rw [if_pos (by decide)]
  refine ⟨_, Sat.ld hs (by (repeat (first | exact At.z | apply At.s))) (by rfl), ?_⟩
  rw [if_pos (by decide)]
  refine ⟨_, Sat.ld hs (by (repeat (first | exact At.z | apply At.s))) (by rfl), ?_⟩
  rw [if_pos (by decide)]
  refine ⟨_, _, _, Sat.ld hs (by (repeat (first | exact At.z | apply At.s))) (by rfl), ?_⟩
  rw [if_pos (by simp [lx2])]
  refine small20_sp hs ?_
  intro h4 hs
  refine Budget_sp cfg20 1 hs ?_
  intro h5 hs
  rw [f4, if_pos (by decide)]
  refine small20_sp hs ?_
  intro h6 hs
  refine Acts20_sp cfg20 2 hs ?_
  intro h7 hs
  rw [f5]
  exact k _ hs.drop.drop.drop
end
end Go.Proofs.Yteabcbpimjjdpaa
end

/- Wear: the game of law 20 (a log on a chip), and WearLasts. Own work. -/
section
set_option maxRecDepth 100000
set_option linter.unusedVariables false
namespace Go.Proofs.Yteabcbpimjjdpaa
open Go Go.Vc

abbrev gmE (g px lp : Nat) (oks cuts : Int) : Ent := blk g [.pointer (some ⟨px, 0, none⟩), .pointer (some ⟨lp, 0, none⟩), .int .i64 oks, .int .i64 cuts]
def absR (b : Int) : Int := if b.tmod 1000 < 0 then 0 - b.tmod 1000 else b.tmod 1000
theorem absR_in (b : Int) : 0 ≤ absR b ∧ absR b < 1000 := by
  have h2 := Int.tmod_lt_of_pos b (show (0 : Int) < 1000 by decide)
  have h3 := Int.tmod_lt_of_pos (-b) (show (0 : Int) < 1000 by decide)
  rw [Int.neg_tmod] at h3
  unfold absR; split <;> omega
abbrev gslot (C : Cm) (n : Int) : Int := rndM n (C.cfg.slots + 1)
section
variable {h0 h : H} {A B : List Ent} {i j a g px lp : Nat} {C : Cm} {oks cuts : Int}
theorem glay_sp {Q : Int → Bool → H → Prop} {kind n by_ : Int} {mp : Option Addr} {ml mc : Nat} (hs : Sat h0 (gmE g px lp oks cuts :: logE lp px :: chipE px C :: B) h) (hk : 0 ≤ oks ∧ oks < 2 ^ 60) (ha : 0 ≤ C.acts ∧ C.acts < 2 ^ 60)
    (k1 : C.out = true → ∀ h', Sat h0 (gmE g px lp oks cuts :: logE lp px :: chipE px C :: B) h' → Q 8 true h')
    (k2 : C.out = false → ∀ (sl : Nat) (D : Cm) (e : Int) h', gslot C n = (sl : Int) → (sl : Int) ≤ C.cfg.slots → layL C (sl : Int) (IntKind.i64.wrap (IntKind.i64.wrap (numOf C sl + 1) + absR by_)) = (D, e) →
      Sat h0 (gmE g px lp (if e = 0 then oks + 1 else oks) cuts :: logE lp px :: chipE px D :: B) h' → Q e (leI (IntKind.i64.wrap (D.acts - C.acts)) (IntKind.i64.wrap (C.cfg.slots + 3))) h') :
    F_portcullislaw20_game_lay ⟨g, 0, none⟩ kind n by_ mp ml mc Q h := by
  unfold F_portcullislaw20_game_lay G_portcullislaw20_game_lay
  try simp only [add_mk, Nat.zero_add, List.append_nil]
  have ok := chip_ok hs (i := 2) (by (repeat (first | exact At.z | apply At.s)))
  have hms := ok.may.slots
  intro on _ hn; replace hs := Sat.new hs hn; clear hn
  refine ⟨_, hs.ld (i := 1) (.s .z) rfl, _, rfl, ?_⟩
  refine Config_sp hs (i := 3) (by (repeat (first | exact At.z | apply At.s))) ?_
  intro h1 hs
  rw [wrap_id (n := C.cfg.slots + 1) (by omega)]
  refine ⟨_, hs.ld (i := 0) .z rfl, by omega, ?_⟩
  obtain ⟨r0, r1⟩ := rnd_in n (n := C.cfg.slots + 1) (by omega)
  obtain ⟨sl, hsl⟩ := Int.eq_ofNat_of_zero_le r0
  have hsl2 : (sl : Int) ≤ C.cfg.slots := by omega
  intro J hJ
  have way : J [.dv (.one (.int .i64 (sl : Int)))] h1 := by
    apply hJ
    clear hJ J
    refine ⟨_, hs.ld (i := 1) (.s .z) rfl, _, rfl, ?_⟩
    refine Number_sp hs (i := 3) (j := 2) (by (repeat (first | exact At.z | apply At.s))) (by (repeat (first | exact At.z | apply At.s))) (sl : Int) ?_
    intro h2 hs
    by_cases ho : C.out = true
    · have en : numberM C (sl : Int) = (0, 8) := by unfold numberM; rw [if_pos ho]
      rw [en, if_pos (by simp)]
      exact k1 ho _ hs.drop
    have ho' : C.out = false := by simpa using ho
    have en : numberM C (sl : Int) = (numOf C sl, 0) := by
      unfold numberM
      rw [if_neg ho, if_neg (fun y => y ⟨by omega, by omega⟩), Int.toNat_natCast]
    rw [en, if_neg (by simp)]
    refine ⟨_, hs.ld (i := 0) .z rfl, by decide, ?_⟩
    intro J36 hJ36
    have way2 : J36 [.dv (.one (.int .i64 (absR by_)))] h2 := by
      apply hJ36
      clear hJ36 J36
      refine ⟨_, hs.ld (i := 1) (.s .z) rfl, _, rfl, ?_⟩
      refine Acts_sp hs (i := 3) (by (repeat (first | exact At.z | apply At.s))) ?_
      refine ⟨_, hs.ld (i := 1) (.s .z) rfl, _, rfl, ?_⟩
      refine Lay9_sp hs (i := 3) (j := 2) (by (repeat (first | exact At.z | apply At.s))) (by (repeat (first | exact At.z | apply At.s))) (by decide) (sl : Int) _ ?_
      intro h3 hs
      have K := fun D e h' => k2 ho' sl D e h' hsl hsl2
      obtain ⟨D, e, hL⟩ : ∃ D e, layL C (sl : Int) (IntKind.i64.wrap (IntKind.i64.wrap (numOf C sl + 1) + absR by_)) = (D, e) := ⟨_, _, rfl⟩
      replace K := fun h' => K D e h' hL
      replace hL : layL C (sl : Int) (IntKind.i64.wrap (IntKind.i64.wrap ((infoM C).nums.getD sl 0 + 1) + absR by_)) = (D, e) := hL
      rw [hL] at hs ⊢
      simp only [put_succ, put_zero] at hs
      dsimp only at hs ⊢
      by_cases e0 : e = 0
      · rw [if_pos (by simpa using e0)]
        rw [if_pos e0] at K
        refine ⟨_, hs.ld (i := 1) (.s .z) rfl, ?_⟩
        refine ⟨Sat.can hs (i := 1) (.s .z) (by simp), ?_⟩
        intro h4 e4
        replace hs := Sat.wr hs (i := 1) (.s .z) e4
        clear e4
        simp only [put_succ, put_zero] at hs
        rw [wrap_id (n := oks + 1) (by omega)] at hs
        replace hs : Sat h0 (blk on [.int .i64 kind, .int .i64 n, .int .i64 by_, .slice mp ml mc] :: gmE g px lp (oks + 1) cuts :: logE lp px :: chipE px D :: B) h4 := hs
        refine ⟨_, hs.ld (i := 1) (.s .z) rfl, _, rfl, ?_⟩
        refine Acts_sp hs (i := 3) (by (repeat (first | exact At.z | apply At.s))) ?_
        exact K _ hs.drop
      · rw [if_neg (by simpa using e0)]
        rw [if_neg e0] at K
        refine ⟨_, hs.ld (i := 1) (.s .z) rfl, _, rfl, ?_⟩
        refine Acts_sp hs (i := 3) (by (repeat (first | exact At.z | apply At.s))) ?_
        exact K _ hs.drop
    have hb := absR_in by_
    unfold absR at way2 hb
    rw [ltI_eq]
    by_cases c : by_.tmod 1000 < 0
    · rw [if_pos c] at way2 hb
      rw [if_pos (by simpa using c), wrap_id (by omega)]
      exact way2
    · rw [if_neg c] at way2
      rw [if_neg (by simpa using c)]
      exact way2
  unfold rndM at r0 r1 hsl
  rw [ltI_eq]
  by_cases c : n.tmod (C.cfg.slots + 1) < 0
  · rw [if_pos c] at hsl r0 r1
    rw [if_pos (by simpa using c), wrap_id (by omega), hsl]
    exact way
  · rw [if_neg c] at hsl
    rw [if_neg (by simpa using c), hsl]
    exact way
theorem even_sp {Q : Bool → H → Prop} (hs : Sat h0 (gmE g px lp oks cuts :: logE lp px :: chipE px C :: B) h) (hc : 0 ≤ cuts ∧ cuts < 2 ^ 60) (he : ∀ x, 0 ≤ C.er x ∧ C.er x ≤ C.cfg.erases) (hd : C.er 0 - C.er 1 ≤ 1 + cuts ∧ C.er 1 - C.er 0 ≤ 1 + cuts)
    (k : ∀ h', Sat h0 (gmE g px lp oks cuts :: logE lp px :: chipE px C :: B) h' → Q true h') : F_portcullislaw20_game_even ⟨g, 0, none⟩ Q h := by
  unfold F_portcullislaw20_game_even G_portcullislaw20_game_even
  try simp only [add_mk, Nat.zero_add, List.append_nil]
  have ok := chip_ok hs (i := 2) (by (repeat (first | exact At.z | apply At.s)))
  obtain ⟨hp2, he2⟩ := ok_pages ok
  have sme := ok.small.erases
  have hme := ok.may.erases
  refine ⟨_, hs.ld (i := 0) .z rfl, _, rfl, ?_⟩
  refine State_sp hs (i := 2) (by (repeat (first | exact At.z | apply At.s))) ?_
  intro a1 b1 c1 h1 hs
  intro sn _ hn; replace hs := Sat.new hs hn; clear hn
  refine ⟨Sat.can hs (i := 0) .z (by simp), ?_⟩
  intro h2 e
  replace hs := Sat.wr hs (i := 0) .z e
  clear e
  replace hs : Sat h0 (blk sn [a1.v, b1.v, c1.v] :: matE 32 a1 C.s.pages :: sE b1 1 (ints .i64 C.s.erases) :: sE c1 1 (bools C.s.blown) :: gmE g px lp oks cuts :: logE lp px :: chipE px C :: B) h2 := hs
  have rd := hs.sv (i := 2) (.s (.s .z))
  have le : C.s.erases.length = b1.2.1 := by have := rd.1; simpa using this
  intro J hJ
  refine loop_up C.s.erases.length (fun _ h => Sat h0 (blk sn [a1.v, b1.v, c1.v] :: matE 32 a1 C.s.pages :: sE b1 1 (ints .i64 C.s.erases) :: sE c1 1 (bools C.s.blown) :: gmE g px lp oks cuts :: logE lp px :: chipE px C :: B) h) ?_ ?_ 0 _ (by omega) hs
  · intro n h3 hn hs hk
    apply hJ
    refine ⟨_, _, _, hs.ld (i := 0) .z rfl, ?_⟩
    rw [ltI_eq, if_pos (by simp; omega)]
    obtain ⟨q1, hq1, g1⟩ := hsv_int (hs.sv (i := 2) (.s (.s .z))) (x := n) (by omega)
    refine ⟨_, _, _, hs.ld (i := 0) .z rfl, _, hq1, by omega, by omega, ?_⟩
    simp only [Int.toNat_natCast, Nat.mul_one]
    refine ⟨_, g1, _, hs.ld (i := 4) (by (repeat (first | exact At.z | apply At.s))) rfl, _, rfl, ?_⟩
    refine Config_sp hs (i := 6) (by (repeat (first | exact At.z | apply At.s))) ?_
    intro h4 hs
    obtain ⟨q2, hq2, g2⟩ := hsv_int (hs.sv (i := 2) (.s (.s .z))) (x := n) (by omega)
    have : q2 = q1 := by rw [hq1] at hq2; injection hq2 with y; exact y.symm
    subst this
    refine ⟨hcs_one g2, hcs_one (hs.ld (i := 0) .z rfl), ?_⟩
    have h9 := he n
    unfold Cm.er at h9
    rw [ltI_eq, if_neg (by rw [decide_eq_true_iff]; omega), wrap_succ (by omega)]
    exact hk _ hs
  · intro h3 hs
    apply hJ
    refine ⟨_, _, _, hs.ld (i := 0) .z rfl, ?_⟩
    rw [ltI_eq, if_neg (by simp; omega)]
    obtain ⟨q0, hq0, g0⟩ := hsv_int (hs.sv (i := 2) (.s (.s .z))) (x := 0) (by omega)
    obtain ⟨q1, hq1, g1⟩ := hsv_int (hs.sv (i := 2) (.s (.s .z))) (x := 1) (by omega)
    rw [add_zero] at g0
    have h00 := he 0
    have h01 := he 1
    refine ⟨_, _, _, hs.ld (i := 0) .z rfl, _, hq0, by omega, by omega, _, g0, _, _, _, hs.ld (i := 0) .z rfl, _, hq1, by omega, by omega, _, g1, _, hs.ld (i := 4) (o := 3) (by (repeat (first | exact At.z | apply At.s))) rfl, ?_⟩
    unfold Cm.er at h00 h01 hd
    rw [wrap_id (n := 1 + cuts) (by omega), wrap_id (n := C.s.erases.getD 0 0 - C.s.erases.getD 1 0) (by omega)]
    rw [leI_eq, if_pos (by rw [decide_eq_true_iff]; omega)]
    refine ⟨_, hs.ld (i := 4) (o := 3) (by (repeat (first | exact At.z | apply At.s))) rfl, ?_⟩
    rw [wrap_id (n := 0 - _) (by omega), wrap_id (n := 1 + cuts) (by omega), leI_eq, decide_eq_true (by omega)]
    exact k _ hs.drop.drop.drop.drop
end
end Go.Proofs.Yteabcbpimjjdpaa
end

/- Wear: WearLasts. Own work. -/
section
set_option maxRecDepth 100000
set_option linter.unusedVariables false
namespace Go.Proofs.Yteabcbpimjjdpaa
open Go Go.Vc

theorem wlays_lpt {c : Cfg} (hm : c.may) : wLaysM c = lpt c := by
  have := hm.cells; have := hm.slots
  unfold wLaysM lpt
  rw [wrap_id (n := c.cells - c.slots) (by omega), wrap_id (by omega)]
theorem mul_small {a l : Int} (a0 : 0 ≤ a) (a1 : a ≤ 2 ^ 20) (l0 : 0 ≤ l) (l1 : l ≤ 256) : 0 ≤ a * l ∧ a * l ≤ 2 ^ 28 := by
  refine ⟨Int.mul_nonneg a0 l0, ?_⟩
  have := Int.mul_le_mul a1 l1 l0 (by decide)
  omega
theorem budg_eq {c : Cfg} (hm : c.may) {cuts : Int} (h0 : 0 ≤ cuts) (h1 : cuts ≤ c.erases) : budgM c cuts = (2 * c.erases + 2) * lpt c - cuts * (2 * lpt c) := by
  have h2 := hm.erases
  have h3 := hm.cells
  have h4 := hm.slots
  unfold budgM
  rw [if_pos ⟨hm, h0, h1⟩, wlays_lpt hm, wrap_id (n := c.erases - cuts) (by omega), wrap_id (n := 2 * (c.erases - cuts)) (by omega), wrap_id (n := 2 * (c.erases - cuts) + 2) (by omega)]
  have hl : 0 ≤ lpt c ∧ lpt c ≤ 256 := by unfold lpt; omega
  have := mul_small (a := 2 * (c.erases - cuts) + 2) (l := lpt c) (by omega) (by omega) hl.1 hl.2
  rw [wrap_id (by omega)]
  rw [show 2 * (c.erases - cuts) + 2 = (2 * c.erases + 2) - cuts * 2 by omega, Int.sub_mul, Int.mul_assoc]
structure WlI (c : Cfg) (C : Cm) (i : Nat) (oks cuts : Int) : Prop where
  cfg : C.cfg = c
  snd : sndM C
  wear : Wear C cuts
  far : ∀ x, 2 ≤ x → C.er x = 0
  o : 0 ≤ oks ∧ oks ≤ i
  u : 0 ≤ cuts ∧ cuts ≤ i
  a : 0 ≤ C.acts ∧ C.acts ≤ (i : Int) * 11
  pot : (2 * c.erases + 2) * lpt c ≤ oks + phi C + cuts * (2 * lpt c)
  head : (infoM C).head ≤ i
  num : ∀ k : Nat, (k : Int) ≤ c.slots → numOf C k ≤ 1000 * (i : Int)
theorem WlI.idle {c : Cfg} {C D : Cm} {i : Nat} {oks cuts : Int} (w : WlI c C i oks cuts) (h1 : D.cfg = C.cfg) (h2 : D.s = C.s) (h3 : D.acts = C.acts) : WlI c D (i + 1) oks cuts := by
  obtain ⟨cC, sC, aC, lC, oC, mC⟩ := C
  obtain ⟨cD, sD, aD, lD, oD, mD⟩ := D
  dsimp only at h1 h2 h3
  subst h1 h2 h3
  obtain ⟨w1, w2, w3, w4, w5, w6, w7, w8, w9, w10⟩ := w
  refine ⟨w1, w2, ⟨w3.inv, w3.e0, w3.e1⟩, w4, ⟨w5.1, by push_cast; omega⟩, ⟨w6.1, by push_cast; omega⟩, ⟨w7.1, ?_⟩, w8, ?_, fun k hk => ?_⟩
  · have := w7.2; dsimp only at this ⊢; push_cast; omega
  · have : (infoM ⟨cD, sD, aD, lC, oC, mC⟩).head ≤ i := w9
    show (infoM ⟨cD, sD, aD, lC, oC, mC⟩).head ≤ _
    push_cast; omega
  · have := w10 k hk
    show numOf ⟨cD, sD, aD, lC, oC, mC⟩ k ≤ _
    push_cast; omega
theorem WlI.even {c : Cfg} {C : Cm} {i : Nat} {oks cuts : Int} (ok : C.ok) (w : WlI c C i oks cuts) : (∀ x, 0 ≤ C.er x ∧ C.er x ≤ C.cfg.erases) ∧ C.er 0 - C.er 1 ≤ 1 + cuts ∧ C.er 1 - C.er 0 ≤ 1 + cuts := by
  have he := ok.may.erases
  obtain ⟨⟨x, y, x0, y0, xy, eq⟩, w0, w1⟩ := w.wear
  have hb0 := bet_nn C 0
  have hb1 := bet_nn C 1
  have hkp : kap C = 0 ∨ (kap C = 1 ∧ bet C 0 = 0) := by
    unfold kap
    by_cases z : presM C = 0
    · rw [if_pos z]; exact Or.inr ⟨rfl, bet_head ok (pres_head (t := 0) z)⟩
    · rw [if_neg z]; exact Or.inl rfl
  refine ⟨fun x => ?_, by omega, by omega⟩
  by_cases c0 : x = 0
  · subst c0; exact w0
  by_cases c1 : x = 1
  · subst c1; exact w1
  rw [w.far x (by omega)]; omega
theorem WlI.lay {c : Cfg} {C D : Cm} {i : Nat} {oks cuts by_ e : Int} {sl : Nat} (ok : C.ok) (ho : C.out = false) (w : WlI c C i oks cuts) (hi : i < 2 ^ 50) (hsl : (sl : Int) ≤ C.cfg.slots) (hb : 0 ≤ by_ ∧ by_ < 1000)
    (hL : layL C (sl : Int) (IntKind.i64.wrap (IntKind.i64.wrap (numOf C sl + 1) + by_)) = (D, e)) :
    D.ok ∧ (e = 0 ∨ e = 8 ∨ e = 9) ∧ (e = 8 → D.out = true) ∧ (e ≠ 8 → D.out = false) ∧ (C.acts ≤ D.acts ∧ D.acts ≤ C.acts + C.cfg.slots + 3) ∧ (e = 9 → budgM c cuts ≤ oks) ∧ WlI c D (i + 1) (if e = 0 then oks + 1 else oks) (if e = 8 then cuts + 1 else cuts) := by
  have hm := ok.may
  have hn := w.num sl (by rw [← w.cfg]; exact hsl)
  have hn0 := ((infoM_ok ok).nums sl).1
  replace hn0 : 0 ≤ numOf C sl := hn0
  have hmv := most_val
  have ha := w.a
  have hms := hm.slots
  rw [wrap_id (n := numOf C sl + 1) (by omega), wrap_id (by omega)] at hL
  obtain ⟨D', e', d1, L, W, _, la, lb⟩ := lay_wear (u := false) ok ho w.snd (slot := sl) (n := numOf C sl + 1 + by_) hsl (by omega) (by omega) (by omega) w.wear ha.1 (by omega)
  have K := lay_cost (u := false) ok ho w.snd (slot := sl) hsl (by omega) (by omega) (by omega) hL
  rw [hL] at d1
  injection d1 with g1 g2
  subst g1 g2
  have P := lay_phi ok L.ok L.cfg K
  have cfg := w.cfg
  have hh := w.head
  have wo := w.o
  have wu := w.u
  have wp := w.pot
  rw [cfg] at P
  have hl : 0 ≤ lpt c := by rw [← cfg]; unfold lpt; have := hm.cells; omega
  refine ⟨L.ok, L.ec, K.out8, ?_, ⟨la, lb⟩, ?_, ?_⟩
  · intro h
    rcases L.ec with z | z | z
    · exact L.out0 z
    · exact absurd z h
    · rw [L.e9 z]; exact ho
  · intro h
    have := P.2.2 h (by omega)
    by_cases g : cuts ≤ c.erases
    · rw [budg_eq (by rw [← cfg]; exact hm) wu.1 g]; omega
    · unfold budgM
      rw [if_neg (fun y => g y.2.2)]; exact wo.1
  · refine ⟨L.cfg.trans cfg, L.snd, W, fun x hx => by rw [K.far x hx]; exact w.far x hx, ?_, ?_, ?_, ?_, ?_, ?_⟩
    · push_cast; split <;> omega
    · push_cast; split <;> omega
    · push_cast; omega
    · rcases L.ec with z | z | z
      · rw [if_pos z, if_neg (by omega)]
        have := P.1 z; omega
      · rw [if_neg (by omega), if_pos z]
        have z2 := Int.add_mul cuts 1 (2 * lpt c)
        rw [Int.one_mul] at z2
        have := P.2.1 z; omega
      · rw [if_neg (by omega), if_neg (by omega), L.e9 z]; exact wp
    · have := K.gen; push_cast; omega
    · intro k hk
      by_cases e : k = sl
      · subst e
        have := L.me
        push_cast; omega
      · rw [L.other k (by rw [cfg]; exact hk) e]
        have := w.num k hk
        push_cast; omega
theorem fresh_pot {c : Cfg} (hm : c.may) : phi (freshC c) = (2 * c.erases + 2) * lpt c := by
  have p0 := blank_cells (fresh_rk hm (t := 0) (by decide))
  have p1 := blank_cells (fresh_rk hm (t := 1) (by decide))
  have he := hm.erases
  have pr : presM (freshC c) = -1 := by unfold presM; rw [p0, p1]; rfl
  have b0 : bet (freshC c) 0 = 1 := by unfold bet; rw [p0]; rfl
  have b1 : bet (freshC c) 1 = 1 := by unfold bet; rw [p1]; rfl
  have av : ∀ t, bet (freshC c) t = 1 → avl (freshC c) t = c.erases + 1 := by
    intro t h
    unfold avl
    rw [h, fresh_er]
    show rest c.erases 0 + 1 = _
    unfold rest; split <;> omega
  have et : tgtM (freshC c) = 0 := by unfold tgtM; rw [pr]; rfl
  unfold phi frn trn
  rw [pr, et, av 0 b0, av (1 - 0) b1, if_pos (by decide)]
  unfold trnI
  rw [if_neg (by omega)]
  show 0 + 2 * (c.erases + 1) * lpt c = _
  rw [show 2 * (c.erases + 1) = 2 * c.erases + 2 by omega]; omega
theorem fresh_head {c : Cfg} (hm : c.may) : (infoM (freshC c)).head = 0 := by
  have p0 := blank_cells (fresh_rk hm (t := 0) (by decide))
  have p1 := blank_cells (fresh_rk hm (t := 1) (by decide))
  have e : presM (freshC c) = -1 := by unfold presM; rw [p0, p1]; rfl
  unfold infoM
  rw [e, if_pos (by decide)]; rfl
theorem fresh_num0 {c : Cfg} (hm : c.may) (k : Nat) : numOf (freshC c) k = 0 := by
  have p0 := blank_cells (fresh_rk hm (t := 0) (by decide))
  have p1 := blank_cells (fresh_rk hm (t := 1) (by decide))
  have e : presM (freshC c) = -1 := by unfold presM; rw [p0, p1]; rfl
  unfold numOf infoM
  rw [e, if_pos (by decide)]
  show (zeros 9).getD k 0 = 0
  rw [List.getD_eq_getElem?_getD]
  unfold zeros
  rw [List.getElem?_replicate]; split <;> rfl
abbrev cfgW (n : Nat) (c : Cfg) : Ent := blk n [.int .i64 c.cells, .int .i64 c.slots, .int .i64 c.fuses, .int .i64 c.step, .int .i64 c.keys, .int .i64 c.erases, .int .i64 c.area]
theorem WearLasts_sp {h0 : H} {Q : Bool → H → Prop} {mp : Option Addr} {ml mc : Nat} (c : Cfg) (sc : List OpE) (rd : ScriptO h0 mp ml sc) (k : ∀ h', Ext none_ h0 h' → Q true h') :
    F_portcullislaw20_WearLasts c.cells c.slots c.fuses c.step c.keys c.erases c.area mp ml mc Q h0 := by
  unfold F_portcullislaw20_WearLasts G_portcullislaw20_WearLasts
  have hs := Sat.init h0
  try simp only [add_mk, Nat.zero_add, List.append_nil]
  intro n22 _ hn; replace hs := Sat.new hs hn; clear hn
  have hl := rd.len
  have hlt := rd.lt
  (repeat first | refine ⟨_, Sat.ld hs (by (repeat (first | exact At.z | apply At.s))) (by rfl), ?_⟩ | refine ⟨_, _, _, Sat.ld hs (by (repeat (first | exact At.z | apply At.s))) (by rfl), ?_⟩ | (intro _ _ hn; replace hs := Sat.new hs hn; clear hn) | refine ⟨Sat.cs hs (by (repeat (first | exact At.z | apply At.s))) (by rfl), ?_⟩ | (refine ⟨Sat.can hs (by (repeat (first | exact At.z | apply At.s))) (by simp), ?_⟩; intro _ e; replace hs := Sat.wr hs (by (repeat (first | exact At.z | apply At.s))) e; clear e; simp only [put, splice, List.set] at hs))
  refine New_sp c hs ?_ ?_
  · intro nm h2 hs
    rw [if_pos (by simp), if_pos (by simp)]
    (repeat first | refine ⟨_, Sat.ld hs (by (repeat (first | exact At.z | apply At.s))) (by rfl), ?_⟩ | refine ⟨_, _, _, Sat.ld hs (by (repeat (first | exact At.z | apply At.s))) (by rfl), ?_⟩ | (intro _ _ hn; replace hs := Sat.new hs hn; clear hn) | refine ⟨Sat.cs hs (by (repeat (first | exact At.z | apply At.s))) (by rfl), ?_⟩ | (refine ⟨Sat.can hs (by (repeat (first | exact At.z | apply At.s))) (by simp), ?_⟩; intro _ e; replace hs := Sat.wr hs (by (repeat (first | exact At.z | apply At.s))) e; clear e; simp only [put, splice, List.set] at hs))
    refine rMay_sp c hs ?_
    intro h3 hs
    have e : c.may? = 1 := by unfold Cfg.may?; rw [if_neg nm]
    rw [e, if_pos (by decide)]
    refine fixed20_sp hs ?_
    intro h4 hs
    exact k _ hs.ex
  intro m px h2 hs
  rw [if_neg (by simp)]
  intro J hJ
  rw [if_neg (by simp)]
  (repeat first | refine ⟨_, Sat.ld hs (by (repeat (first | exact At.z | apply At.s))) (by rfl), ?_⟩ | refine ⟨_, _, _, Sat.ld hs (by (repeat (first | exact At.z | apply At.s))) (by rfl), ?_⟩ | (intro _ _ hn; replace hs := Sat.new hs hn; clear hn) | refine ⟨Sat.cs hs (by (repeat (first | exact At.z | apply At.s))) (by rfl), ?_⟩ | (refine ⟨Sat.can hs (by (repeat (first | exact At.z | apply At.s))) (by simp), ?_⟩; intro _ e; replace hs := Sat.wr hs (by (repeat (first | exact At.z | apply At.s))) e; clear e; simp only [put, splice, List.set] at hs))
  refine rMay_sp c hs ?_
  intro h3 hs
  have e : c.may? = 0 := by unfold Cfg.may?; rw [if_pos m]
  rw [e, if_neg (by simp)]
  apply hJ
  clear hJ J
  refine ⟨_, rfl, ?_⟩
  refine Mount_sp hs (i := 0) .z (fun y => absurd y (by show ¬ (false = true); decide)) ?_
  intro _ l0 h4 hs J hJ
  rw [if_neg (by simp), if_neg (by simp)]
  apply hJ
  clear hJ J
  intro g _ hn; replace hs := Sat.new hs hn; clear hn
  have hms := m.slots
  have hmv := most_val
  intro J hJ
  refine loop_st ml (fun i (s : Nat) => [si i])
    (fun i l h => ∃ (C : Cm) (oks cuts : Int), WlI c C i oks cuts ∧ Sat h0 (gmE g px l oks cuts :: logE l px :: chipE px C :: [cfgW n22 c]) h) ?_ ?_ 0 l0 _ (by omega)
    ⟨freshC c, 0, 0, ⟨rfl, fresh_snd m, fresh_wear m, fun x _ => fresh_er c x, by decide, by decide, ⟨by show (0 : Int) ≤ 0; decide, by show (0 : Int) ≤ _; decide⟩, by rw [fresh_pot m]; omega, by rw [fresh_head m]; decide, fun k _ => by rw [fresh_num0 m]; decide⟩, hs⟩
  · rintro i l h6 hi ⟨C, oks, cuts, w, hs⟩ hk
    apply hJ
    rw [ltI_eq, if_pos (by simp; omega)]
    have ok := chip_ok hs (i := 2) (by (repeat (first | exact At.z | apply At.s)))
    have ec := w.cfg
    obtain ⟨q2, mp2, ml2, mc2, hq2, e0, e1, e2, e3, hrd, hok⟩ := rd.at_ i (by omega)
    obtain ⟨X, hX⟩ : ∃ X, X = sc[i] := ⟨_, rfl⟩
    rw [← hX] at e0 e1 e2 hrd hok
    refine ⟨_, hq2, by omega, by omega, ?_⟩
    simp only [Int.toNat_natCast]
    refine ⟨_, hc_ext hs.ex e0 (fun y => y), _, hc_ext hs.ex e1 (fun y => y), _, hc_ext hs.ex e2 (fun y => y), _, _, _, hc_ext hs.ex e3 (fun y => y), ?_⟩
    intro on _ hn; replace hs := Sat.new hs hn; clear hn
    refine ⟨Sat.can hs (i := 0) .z (by simp), ?_⟩
    intro h7 e
    replace hs := Sat.wr hs (i := 0) .z e
    clear e
    replace hs : Sat h0 (blk on [.int .i64 X.kind, .int .i64 X.n, .int .i64 X.v, .slice mp2 ml2 mc2] :: gmE g px l oks cuts :: logE l px :: chipE px C :: [cfgW n22 c]) h7 := hs
    have hml : X.mask.length = ml2 := by have := hrd.1; simpa using this
    have hmm := hok.ml
    -- behind the act
    have fin : ∀ (D : Cm) (l : Nat) (oks cuts : Int) h', WlI c D (i + 1) oks cuts → Sat h0 (gmE g px l oks cuts :: logE l px :: chipE px D :: [cfgW n22 c]) h' →
        F_portcullislaw20_game_even ⟨g, 0, none⟩ (fun b102 h103 => if (!b102) = true then Q false h103 else J [.dv (.one (.int .i64 (IntKind.i64.wrap ((i : Int) + 1))))] h103) h' := by
      intro D l oks cuts h8 w hs
      have okD := chip_ok hs (i := 2) (by (repeat (first | exact At.z | apply At.s)))
      have ev := w.even okD
      have wu := w.u
      refine even_sp hs (by push_cast at wu; omega) ev.1 ev.2 ?_
      intro h9 hs
      rw [if_neg (by simp), wrap_succ (by omega)]
      exact hk l _ ⟨D, oks, cuts, w, hs⟩
    refine ⟨_, hs.ld (i := 0) .z rfl, ?_⟩
    by_cases k1 : X.kind = 1
    · rw [if_pos (by simpa using k1)]
      refine ⟨_, rfl, ?_⟩
      refine Out_sp hs (i := 3) (by (repeat (first | exact At.z | apply At.s))) ?_
      refine ⟨_, hs.ld (i := 0) .z rfl, _, hs.ld (i := 0) .z rfl, _, hs.ld (i := 0) .z rfl, _, _, _, hs.ld (i := 0) .z rfl, ?_⟩
      have wo := w.o; have wu := w.u; have wa := w.a
      refine glay_sp hs.drop (by omega) (by omega) ?_ ?_
      · intro ho h8 hs J85 hJ85
        rw [if_neg (by decide), if_pos (by decide), if_neg (by decide)]
        refine ⟨_, rfl, ?_⟩
        refine Out_sp hs (i := 2) (by (repeat (first | exact At.z | apply At.s))) ?_
        rw [ho, if_neg (by decide)]
        apply hJ85
        clear hJ85 J85
        intro J87 hJ87
        rw [if_pos (by decide), ho, if_neg (by decide)]
        apply hJ87
        rw [if_neg (by decide)]
        exact fin C l oks cuts _ (w.idle rfl rfl rfl) hs
      · intro ho sl D e h8 _ hsl hL hs J85 hJ85
        obtain ⟨okD, hec, ho8, hon, hac, hbu, wD⟩ := w.lay ok ho (by omega) hsl (absR_in X.v) hL
        have wa2 := wD.a
        rw [wrap_id (n := D.acts - C.acts) (by push_cast at wa2; omega), wrap_id (n := C.cfg.slots + 3) (by rw [ec]; omega), leI_eq, decide_eq_true (by omega), if_neg (by decide)]
        have way : ∀ h', Sat h0 (gmE g px l (if e = 0 then oks + 1 else oks) cuts :: logE l px :: chipE px D :: [cfgW n22 c]) h' → J85 [] h' := by
          intro h9 hs
          apply hJ85
          clear hJ85 J85
          intro J87 hJ87
          have way2 : ∀ h', Sat h0 (gmE g px l (if e = 0 then oks + 1 else oks) (if e = 8 then cuts + 1 else cuts) :: logE l px :: chipE px D :: [cfgW n22 c]) h' → J87 [] h' := by
            intro h10 hs
            apply hJ87
            by_cases e9 : e = 9
            · have hb := hbu e9
              rw [if_neg (show ¬ e = 0 by omega), if_neg (show ¬ e = 8 by omega)] at hs wD
              rw [if_pos (by simpa using e9)]
              refine ⟨_, hs.ld (i := 0) .z rfl, ?_⟩
              have ld := fun (o : Nat) (v : Value) (z : [Value.int .i64 c.cells, .int .i64 c.slots, .int .i64 c.fuses, .int .i64 c.step, .int .i64 c.keys, .int .i64 c.erases, .int .i64 c.area][o]? = some v) => hs.ld (i := 3) (b := n22) (by (repeat (first | exact At.z | apply At.s))) z
              refine ⟨_, ld 0 _ rfl, _, ld 1 _ rfl, _, ld 2 _ rfl, _, ld 3 _ rfl, _, ld 4 _ rfl, _, ld 5 _ rfl, _, ld 6 _ rfl, _, hs.ld (i := 0) .z rfl, ?_⟩
              refine Budget_sp c cuts hs ?_
              intro h11 hs
              refine ⟨hcs_one (hs.ld (i := 0) .z rfl), ?_⟩
              rw [ltI_eq, if_neg (by rw [decide_eq_true_iff]; omega)]
              exact fin D l _ _ _ wD hs
            · rw [if_neg (by simpa using e9)]
              exact fin D l _ _ _ wD hs
          by_cases e8 : e = 8
          · rw [if_pos (by simpa using e8), ho, if_pos (by decide)]
            refine ⟨_, hs.ld (i := 0) .z rfl, ?_⟩
            refine ⟨Sat.can hs (i := 0) .z (by simp), ?_⟩
            intro h10 e4
            replace hs := Sat.wr hs (i := 0) .z e4
            clear e4
            rw [wrap_id (n := cuts + 1) (by omega)] at hs
            refine way2 _ ?_
            rw [if_pos e8]
            exact hs
          · rw [if_neg (by simpa using e8)]
            refine way2 _ ?_
            rw [if_neg e8]
            exact hs
        have tail : ∃ p : Addr, (some ⟨px, 0, none⟩ : Option Addr) = some p ∧ F_chip_Chip_Out p (fun b h' => if (!(e == 8) == b) = true then Q false h' else J85 [] h') h8 := by
          refine ⟨_, rfl, ?_⟩
          refine Out_sp hs (i := 2) (by (repeat (first | exact At.z | apply At.s))) ?_
          by_cases e8 : e = 8
          · rw [ho8 e8, e8, if_neg (by decide)]
            exact way _ hs
          · rw [hon e8, show (e == 8) = false by simpa using e8, if_neg (by decide)]
            exact way _ hs
        rcases hec with z | z | z
        · rw [if_neg (by simp [z])]
          exact tail
        · rw [if_pos (by simp [z]), if_neg (by simp [z])]
          exact tail
        · rw [if_pos (by simp [z]), if_pos (by simp [z]), if_neg (by simp [z])]
          exact tail
    rw [if_neg (by simpa using k1)]
    by_cases k2 : X.kind = 2
    · rw [if_pos (by simpa using k2)]
      refine ⟨_, hs.ld (i := 0) .z rfl, _, _, _, hs.ld (i := 0) .z rfl, _, rfl, ?_⟩
      refine Cut_sp hs (i := 3) (by (repeat (first | exact At.z | apply At.s))) X.n hok.n (hsv_ext hs.ex hrd (fun _ _ y => y)) hok.mb (by omega) ?_
      intro h8 hs
      simp only [put_succ, put_zero] at hs
      exact fin (cutM C X.n X.mask) l oks cuts _ (w.idle rfl rfl rfl) hs.drop
    rw [if_neg (by simpa using k2)]
    refine ⟨_, rfl, ?_⟩
    refine Restore_sp hs (i := 3) (by (repeat (first | exact At.z | apply At.s))) ?_
    intro h8 hs
    simp only [put_succ, put_zero] at hs
    refine ⟨_, rfl, ?_⟩
    refine Mount_sp hs (i := 3) (by (repeat (first | exact At.z | apply At.s))) (fun y => absurd y (by show ¬ (false = true); decide)) ?_
    intro _ l2 h9 hs
    refine ⟨Sat.can hs (i := 2) (by (repeat (first | exact At.z | apply At.s))) (by simp), ?_⟩
    intro h10 e4
    replace hs := Sat.wr hs (i := 2) (by (repeat (first | exact At.z | apply At.s))) e4
    clear e4
    simp only [put_succ, put_zero] at hs
    replace hs : Sat h0 (logE l2 px :: blk on [.int .i64 X.kind, .int .i64 X.n, .int .i64 X.v, .slice mp2 ml2 mc2] :: gmE g px l2 oks cuts :: logE l px :: chipE px { C with out := false } :: [cfgW n22 c]) h10 := hs
    refine ⟨_, hs.ld (i := 2) (by (repeat (first | exact At.z | apply At.s))) rfl, ?_⟩
    rw [if_neg (by simp), if_neg (by simp)]
    replace hs := Sat.front hs (e := gmE g px l2 oks cuts) (by (repeat (first | exact At.z | apply At.s)))
    simp only [del] at hs
    exact fin { C with out := false } l2 oks cuts _ (w.idle rfl rfl rfl) (hs.sub (by (repeat (first | exact List.Sublist.refl _ | apply List.Sublist.cons_cons | apply List.Sublist.cons))))
  · rintro l h6 ⟨C, oks, cuts, w, hs⟩
    apply hJ
    rw [ltI_eq, if_neg (by simp)]
    refine fixed20_sp hs ?_
    intro h4 hs
    exact k _ hs.ex
end Go.Proofs.Yteabcbpimjjdpaa
end

/- WearLasts: no lay is refused for wear ahead of the budget, and the pages of the log are erased evenly but for the cuts; for every input. -/
section
set_option maxRecDepth 100000
set_option linter.unusedVariables false
namespace Go.Proofs.Yteabcbpimjjdpaa
open Go Go.Vc Go.ChangeShapes Go.WideShapes Go.ChangeAt Go.RowKit

theorem WearLasts_calls {D : Type} {enc : TypeId × Value → D} {W : World} {base : Nat} (vs : List Value) (h : ArgsOk enc PP W base [23, 58] vs) : CallsTrue PP 5 vs W := by
  obtain ⟨hl, h⟩ := h
  match vs, hl with
  | [v0, v1], _ =>
  obtain ⟨r0, w0⟩ := h 0 _ v0 rfl rfl
  obtain ⟨r1, w1⟩ := h 1 _ v1 rfl rfl
  obtain ⟨c, rfl⟩ := cfg_of r0 w0
  obtain ⟨p, l, cc, rfl, hsl⟩ := slice_of (e := 64) (by kernel_rfl) r1 w1
  obtain ⟨sc, hsc⟩ := scriptW_of hsl
  have := R_portcullislaw20_WearLasts [.agg (c.vals.map .c), .one (.slice p l cc)] (fun rs h' => rs = [DV.one (.bool true)] ∧ Ext none_ W.heap h') W.heap (by
    intro x hx
    simp only [List.mem_cons, List.not_mem_nil, or_false] at hx
    rcases hx with rfl | rfl
    · exact ok_cfg c
    · rfl) (by
    show F_portcullislaw20_WearLasts c.cells c.slots c.fuses c.step c.keys c.erases c.area p l cc (fun b h' => [DV.one (.bool b)] = [DV.one (.bool true)] ∧ Ext none_ W.heap h') W.heap
    exact WearLasts_sp c sc hsc fun h' x => ⟨rfl, x⟩)
  exact this
theorem WearLasts_lifted (os : Os) (started : os.Started) (D : Type) (enc : TypeId × Value → D) :
    ReturnsInHanded {} Try.checked os 5 .any (Rows.wearLastsSpec.pre6 enc Try.prog Try.f5 Rows.wearLastsRow.domain false) (Rows.wearLastsSpec.post enc Try.prog Try.f5 false true false false) := by
  refine returnsInHanded_of_change_sized (C := Try.checked) Try.own started (by kernel_rfl) Try.func5
    (ChangeSpec.witness6 (enc := enc) (C := Try.checked) false ⟨#[], #[.agg #[.int .i64 0, .int .i64 0, .int .i64 0, .int .i64 0, .int .i64 0, .int .i64 0, .int .i64 0], .slice none 0 0], []⟩ 8 (by kernel_rfl) (by kernel_rfl) (by kernel_rfl) (by kernel_rfl)) ?_
  intro W base args ds gs before hval hW hcnd hsz _
  exact law_go (P := Try.prog) (fn := Try.f5) (s := Rows.wearLastsSpec) [23, 58] (by kernel_rfl) Try.laidOut rfl (by kernel_rfl) (by kernel_rfl) Try.ubool
    (fun ds hl => match ds, hl with | [d1, d2], _ => rfl) hval hW hsz WearLasts_calls

theorem WearLasts_holds : Rows.WearLastsSaid :=
  OpenClaim.holds_of_wide 5 Try.f5 rfl rfl rfl rfl rfl rfl rfl ⟨rfl, rfl, rfl, rfl, rfl⟩ rfl rfl rfl rfl rfl (by kernel_rfl) Try.func5 (by kernel_rfl)
    (of_decide_eq_true (by kernel_rfl)) (by unfold Func.isWrapper; first | (rw [if_pos (by decide +kernel)]; kernel_rfl) | (rw [if_neg (by decide +kernel)]; exact ⟨rfl, rfl⟩))
    (fun os started H enc _ => WearLasts_lifted os started H enc)

end Go.Proofs.Yteabcbpimjjdpaa
end
