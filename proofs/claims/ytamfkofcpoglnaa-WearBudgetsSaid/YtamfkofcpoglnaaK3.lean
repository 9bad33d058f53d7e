/- WearBudgets: what is proved and its parts, laid together by a program of ours: Wr2 Wr3 RwWearBudgets -/
import Derived.Test.YtamfkofcpoglnaaK2
set_option autoImplicit false
set_option linter.all false
/- Wear: how a chip stands. Own work. -/
section
set_option maxRecDepth 100000
set_option linter.unusedVariables false
namespace Go.Proofs.Ytamfkofcpoglnaa
open Go Go.Vc

section
variable {h0 h : H} {A : List Ent} {i j p r l b : Nat} {C : Cm}
/-- How often a page may be made blank yet. -/
def leftM (C : Cm) (k : Nat) (e : Int) : Int :=
  if (pI C k).blank = true then IntKind.i64.wrap ((if IntKind.i64.wrap (C.cfg.erases - e) > 0 then IntKind.i64.wrap (C.cfg.erases - e) else 0) + 1) else (if IntKind.i64.wrap (C.cfg.erases - e) > 0 then IntKind.i64.wrap (C.cfg.erases - e) else 0)
theorem left_sp {Q : Int → Int → H → Prop} (hs : Sat h0 A h) (ci : At A i (chipE p C)) (ho : C.out = false) {k : Nat} (hk : k < 2) (e : Int) (kk : ∀ h', Sat h0 A h' → Q (leftM C k e) 0 h') : F_wear_left ⟨p, 0, none⟩ (k : Int) e Q h := by
  unfold F_wear_left G_wear_left
  simp only [add_mk, Nat.zero_add]
  have ok := chip_ok hs ci
  refine Look_sp hs ci (k : Int) ?_
  intro h1 hs
  rw [look_pg ho ok hk]
  have hpl := pI_len C k
  intro n14 _ hn; replace hs := Sat.new hs hn; clear hn
  refine ⟨Sat.can hs (i := 0) .z (by decide), ?_⟩
  intro h4 e4
  replace hs := Sat.wra hs (i := 0) .z e4 ((inf_len hpl).trans rfl)
  clear e4
  replace hs : Sat h0 (blk n14 (infI (pI C k)) :: A) _ := hs
  rw [if_neg (by simp)]
  refine Config_sp hs ci.s ?_
  intro h5 hs
  obtain ⟨L0, L1, L10, L11, L12⟩ := hs.infAt .z hpl
  refine ⟨_, L11, ?_⟩
  unfold leftM at kk
  split
  · rename_i g; rw [if_pos g] at kk; exact kk _ hs.drop
  · rename_i g; rw [if_neg g] at kk; exact kk _ hs.drop
def apartM (C : Cm) : Int := IntKind.i64.wrap ((if C.er 1 > C.er 0 then C.er 1 else C.er 0) - (if C.er 1 < C.er 0 then C.er 1 else C.er 0))
def turnsM (C : Cm) : Int := if leftM C (1 - tgtM C) (C.er (1 - tgtM C)) < leftM C (tgtM C) (C.er (tgtM C)) then IntKind.i64.wrap (IntKind.i64.wrap (2 * leftM C (1 - tgtM C) (C.er (1 - tgtM C))) + 1) else IntKind.i64.wrap (2 * leftM C (tgtM C) (C.er (tgtM C)))
def wlaysM (C : Cm) : Int := IntKind.i64.wrap (freeT C + IntKind.i64.wrap (turnsM C * wLaysM C.cfg))
theorem take_snoc (l : List Int) (n : Nat) (h : n < l.length) : l.take n ++ [l.getD n 0] = l.take (n + 1) := by
  rw [List.take_succ]; simp [List.getD, List.getElem?_eq_getElem h]
theorem wOf_sp {Q : Option Addr → Nat → Nat → Int → Int → Int → Int → Int → H → Prop} (hs : Sat h0 A h) (ci : At A i (chipE p C))
    (k1 : C.out = true → ∀ h', Sat h0 A h' → Q none 0 0 0 0 0 0 8 h')
    (k2 : C.out = false → ∀ (x : Sl) h', Sat h0 (sE x 1 (ints .i64 C.s.erases) :: A) h' → Q x.1 x.2.1 x.2.2 (apartM C) (freeT C) (turnsM C) (wlaysM C) 0 h') : F_wear_Of ⟨p, 0, none⟩ Q h := by
  unfold F_wear_Of G_wear_Of
  simp only [add_mk, Nat.zero_add]
  have ok := chip_ok hs ci
  obtain ⟨hp2, he2⟩ := ok_pages ok
  have hnp : C.cfg.np = 2 + 2 * C.cfg.area := rfl
  have hfe := ok.fits.erases
  have hfp := ok.fits.pages
  have har := ok.may.area
  intro n10 _ hn; replace hs := Sat.new hs hn; clear hn
  refine Mount_sp hs ci.s ?_ ?_
  · intro ho
    rw [if_pos (by simp)]
    (repeat first | refine ⟨_, Sat.ld hs (by (repeat (first | exact At.z | apply At.s))) (by rfl), ?_⟩ | refine ⟨_, _, _, Sat.ld hs (by (repeat (first | exact At.z | apply At.s))) (by rfl), ?_⟩ | (intro _ _ hn; replace hs := Sat.new hs hn; clear hn) | refine ⟨Sat.cs hs (by (repeat (first | exact At.z | apply At.s))) (by rfl), ?_⟩ | (refine ⟨Sat.can hs (by (repeat (first | exact At.z | apply At.s))) (by simp), ?_⟩; intro _ e; replace hs := Sat.wr hs (by (repeat (first | exact At.z | apply At.s))) e; clear e; simp only [put, splice, List.set] at hs) | refine ⟨_, rfl, ?_⟩)
    exact k1 ho _ hs.drop
  intro ho lg h1 hs
  rw [if_neg (by simp)]
  replace k2 := k2 ho
  clear k1
  refine ⟨_, rfl, ?_⟩
  refine Free_sp hs ci.s.s .z ?_
  intro h2 hs
  have hfr := freeT_range ok
  rw [wrap_id (by omega)]
  intro n28 _ hn; replace hs := Sat.new hs hn; clear hn
  (refine ⟨Sat.can hs (by (repeat (first | exact At.z | apply At.s))) (by simp), ?_⟩; intro _ e; replace hs := Sat.wr hs (by (repeat (first | exact At.z | apply At.s))) e; clear e; simp only [put, splice, List.set] at hs)
  refine Config_sp hs ci.s.s.s ?_
  intro h3 hs
  intro J hJ
  have en : IntKind.i64.wrap (2 + IntKind.i64.wrap (2 * C.cfg.area)) = (C.s.erases.length : Int) := by
    rw [wrap_id (n := 2 * C.cfg.area) (by omega), wrap_id (by omega)]; omega
  obtain ⟨fr, hfr2⟩ : ∃ fr, fr = freeT C := ⟨_, rfl⟩
  rw [← hfr2] at hs k2
  rw [en] at hJ
  have hs1 : ∃ x : Sl, x.2.1 = 0 ∧ Sat h0 (sE x 1 (ints .i64 (C.s.erases.take 0)) :: blk n28 [x.v, .int .i64 0, .int .i64 fr, .int .i64 0, .int .i64 0] :: logE lg p :: blk n10 [.slice none 0 0, .int .i64 0, .int .i64 0, .int .i64 0, .int .i64 0] :: A) h3 := by
    refine ⟨(none, 0, 0), rfl, ?_⟩
    exact hs.sl_nil 1 none
  clear hs
  refine loop_up C.s.erases.length (fun n h => ∃ x : Sl, x.2.1 = n ∧ Sat h0 (sE x 1 (ints .i64 (C.s.erases.take n)) :: blk n28 [x.v, .int .i64 0, .int .i64 fr, .int .i64 0, .int .i64 0] :: logE lg p :: blk n10 [.slice none 0 0, .int .i64 0, .int .i64 0, .int .i64 0, .int .i64 0] :: A) h) ?_ ?_ 0 _ (by omega) hs1
  · rintro n h4 hn ⟨x, hx, hs⟩ hk
    apply hJ
    rw [ltI_eq, if_pos (by simp; omega)]
    refine Erases_sp hs ci.s.s.s.s (n : Int) ?_
    have ee : erasesM C (n : Int) = (C.s.erases.getD n 0, 0) := by unfold erasesM; rw [askedM_in ho (by omega) (by omega), if_neg (by simp), Int.toNat_natCast]
    rw [ee, if_neg (by simp)]
    refine ⟨_, _, _, Sat.ld hs (by (repeat (first | exact At.z | apply At.s))) (by rfl), ?_⟩
    intro n59 _ hn59; replace hs := Sat.new hs hn59; clear hn59
    refine ⟨_, Sat.bv hs .z (l := 1) rfl (ints_one .i64 [C.s.erases.getD n 0]), ?_⟩
    obtain ⟨xp, xl, xc⟩ := x
    dsimp only at hx hs ⊢
    subst hx
    refine Sat.app hs (i := 1) (vs := ints .i64 [C.s.erases.getD xl 0]) (.s .z) (by simp) rfl (ints_one _ _) (by dsimp only; omega) ?_
    intro p' c' h5 hs
    simp only [put] at hs
    (refine ⟨Sat.can hs (by (repeat (first | exact At.z | apply At.s))) (by simp), ?_⟩; intro _ e; replace hs := Sat.wr hs (by (repeat (first | exact At.z | apply At.s))) e; clear e; simp only [put, splice, List.set] at hs)
    rw [wrap_succ (by omega)]
    refine hk _ ⟨(p', xl + 1, c'), rfl, ?_⟩
    have e : ints .i64 (C.s.erases.take xl) ++ ints .i64 [C.s.erases.getD xl 0] = ints .i64 (C.s.erases.take (xl + 1)) := by
      rw [← take_snoc _ _ hn]; simp [ints]
    rw [e] at hs
    exact hs.drop
  rintro h4 ⟨x, hx, hs⟩
  rw [List.take_length] at hs
  apply hJ
  rw [ltI_eq, if_neg (by simp)]
  clear hJ J hs1
  have hx2 : 2 ≤ x.2.1 := by omega
  have ld : ∀ k : Nat, k < 2 → ∀ {A' : List Ent} {h' : H} {i : Nat}, Sat h0 A' h' → At A' i (sE x 1 (ints .i64 C.s.erases)) → ∃ q, x.1 = some q ∧ hc h' (q.add k) = some (.int .i64 (C.er k)) := by
    intro k hk A' h' i hs' hi
    exact hsv_int (hs'.sv hi) (x := k) (by omega)
  obtain ⟨q, hq, e0⟩ := ld 0 (by decide) hs .z
  obtain ⟨q1, hq1, e1⟩ := ld 1 (by decide) hs .z
  rw [hq] at hq1
  injection hq1 with hq1
  subst hq1
  rw [add_zero] at e0
  have bnd0 : (0 : Int) ≤ 0 ∧ (0 : Int) < (x.2.1 : Int) := by omega
  refine ⟨_, _, _, hs.ld (i := 1) (.s .z) rfl, _, hq, by omega, by omega, _, e0, _, _, _, hs.ld (i := 1) (.s .z) rfl, _, hq, by omega, by omega, _, e1, _, _, _, hs.ld (i := 1) (.s .z) rfl, _, hq, by omega, by omega, _, e0, _, _, _, hs.ld (i := 1) (.s .z) rfl, _, hq, by omega, by omega, _, e1, ?_⟩
  (refine ⟨Sat.can hs (by (repeat (first | exact At.z | apply At.s))) (by simp), ?_⟩; intro _ e; replace hs := Sat.wr hs (by (repeat (first | exact At.z | apply At.s))) e; clear e; simp only [put, splice, List.set] at hs)
  intro J hJ
  refine ⟨_, rfl, ?_⟩
  refine Present_sp hs ci.s.s.s.s (j := 2) (.s (.s .z)) ?_
  intro h5 hs
  have way : ∀ t : Nat, t = tgtM C → ∀ h', Sat h0 (sE x 1 (ints .i64 C.s.erases) :: blk n28 [x.v, .int .i64 (apartM C), .int .i64 fr, .int .i64 0, .int .i64 0] :: logE lg p :: blk n10 [.slice none 0 0, .int .i64 0, .int .i64 0, .int .i64 0, .int .i64 0] :: A) h' → J [.dv (.one (.int .i64 (t : Int)))] h' := by
    intro t ht h6 hs
    apply hJ
    have ht2 : t < 2 := by rw [ht]; unfold tgtM; split <;> omega
    obtain ⟨q, hq, e0⟩ := ld t ht2 hs .z
    refine ⟨_, _, _, hs.ld (i := 1) (.s .z) rfl, _, hq, by omega, by omega, _, by rw [Int.toNat_natCast, Nat.mul_one]; exact e0, ?_⟩
    refine left_sp hs ci.s.s.s.s ho ht2 (C.er t) ?_
    intro h7 hs
    rw [if_neg (by simp)]
    have ew : IntKind.i64.wrap (1 - (t : Int)) = ((1 - t : Nat) : Int) := by rw [wrap_id (by omega)]; omega
    rw [ew]
    obtain ⟨q, hq, e0⟩ := ld (1 - t) (by omega) hs .z
    refine ⟨_, _, _, hs.ld (i := 1) (.s .z) rfl, _, hq, by omega, by omega, _, by rw [Int.toNat_natCast, Nat.mul_one]; exact e0, ?_⟩
    refine left_sp hs ci.s.s.s.s ho (by omega) (C.er (1 - t)) ?_
    intro h8 hs
    rw [if_neg (by simp)]
    (refine ⟨Sat.can hs (by (repeat (first | exact At.z | apply At.s))) (by simp), ?_⟩; intro _ e; replace hs := Sat.wr hs (by (repeat (first | exact At.z | apply At.s))) e; clear e; simp only [put, splice, List.set] at hs)
    have hT : turnsM C = if leftM C (1 - t) (C.er (1 - t)) < leftM C t (C.er t) then IntKind.i64.wrap (IntKind.i64.wrap (2 * leftM C (1 - t) (C.er (1 - t))) + 1) else IntKind.i64.wrap (2 * leftM C t (C.er t)) := by rw [ht]; rfl
    have hL : wlaysM C = IntKind.i64.wrap (fr + IntKind.i64.wrap (turnsM C * wLaysM C.cfg)) := by rw [hfr2]; rfl
    rw [ltI_eq]
    by_cases g : leftM C (1 - t) (C.er (1 - t)) < leftM C t (C.er t)
    · rw [if_pos g] at hT
      rw [if_pos (by simpa using g)]
      (refine ⟨Sat.can hs (by (repeat (first | exact At.z | apply At.s))) (by simp), ?_⟩; intro _ e; replace hs := Sat.wr hs (by (repeat (first | exact At.z | apply At.s))) e; clear e; simp only [put, splice, List.set] at hs)
      rw [← hT] at hs
      (repeat first | refine ⟨_, Sat.ld hs (by (repeat (first | exact At.z | apply At.s))) (by rfl), ?_⟩ | refine ⟨_, _, _, Sat.ld hs (by (repeat (first | exact At.z | apply At.s))) (by rfl), ?_⟩ | (intro _ _ hn; replace hs := Sat.new hs hn; clear hn) | refine ⟨Sat.cs hs (by (repeat (first | exact At.z | apply At.s))) (by rfl), ?_⟩ | (refine ⟨Sat.can hs (by (repeat (first | exact At.z | apply At.s))) (by simp), ?_⟩; intro _ e; replace hs := Sat.wr hs (by (repeat (first | exact At.z | apply At.s))) e; clear e; simp only [put, splice, List.set] at hs) | refine ⟨_, rfl, ?_⟩)
      refine Config_sp hs ci.s.s.s.s ?_
      intro h9 hs
      (repeat first | refine ⟨_, Sat.ld hs (by (repeat (first | exact At.z | apply At.s))) (by rfl), ?_⟩ | refine ⟨_, _, _, Sat.ld hs (by (repeat (first | exact At.z | apply At.s))) (by rfl), ?_⟩ | (intro _ _ hn; replace hs := Sat.new hs hn; clear hn) | refine ⟨Sat.cs hs (by (repeat (first | exact At.z | apply At.s))) (by rfl), ?_⟩ | (refine ⟨Sat.can hs (by (repeat (first | exact At.z | apply At.s))) (by simp), ?_⟩; intro _ e; replace hs := Sat.wr hs (by (repeat (first | exact At.z | apply At.s))) e; clear e; simp only [put, splice, List.set] at hs) | refine ⟨_, rfl, ?_⟩)
      refine lays_sp C.cfg hs ?_
      intro h10 hs
      (repeat first | refine ⟨_, Sat.ld hs (by (repeat (first | exact At.z | apply At.s))) (by rfl), ?_⟩ | refine ⟨_, _, _, Sat.ld hs (by (repeat (first | exact At.z | apply At.s))) (by rfl), ?_⟩ | (intro _ _ hn; replace hs := Sat.new hs hn; clear hn) | refine ⟨Sat.cs hs (by (repeat (first | exact At.z | apply At.s))) (by rfl), ?_⟩ | (refine ⟨Sat.can hs (by (repeat (first | exact At.z | apply At.s))) (by simp), ?_⟩; intro _ e; replace hs := Sat.wr hs (by (repeat (first | exact At.z | apply At.s))) e; clear e; simp only [put, splice, List.set] at hs) | refine ⟨_, rfl, ?_⟩)
      rw [← hL] at hs ⊢
      refine k2 x _ ?_
      exact hs.sub (by (repeat (first | exact List.Sublist.refl _ | apply List.Sublist.cons_cons | apply List.Sublist.cons)))
    · rw [if_neg g] at hT
      rw [if_neg (by simpa using g)]
      rw [← hT] at hs
      (repeat first | refine ⟨_, Sat.ld hs (by (repeat (first | exact At.z | apply At.s))) (by rfl), ?_⟩ | refine ⟨_, _, _, Sat.ld hs (by (repeat (first | exact At.z | apply At.s))) (by rfl), ?_⟩ | (intro _ _ hn; replace hs := Sat.new hs hn; clear hn) | refine ⟨Sat.cs hs (by (repeat (first | exact At.z | apply At.s))) (by rfl), ?_⟩ | (refine ⟨Sat.can hs (by (repeat (first | exact At.z | apply At.s))) (by simp), ?_⟩; intro _ e; replace hs := Sat.wr hs (by (repeat (first | exact At.z | apply At.s))) e; clear e; simp only [put, splice, List.set] at hs) | refine ⟨_, rfl, ?_⟩)
      refine Config_sp hs ci.s.s.s.s ?_
      intro h9 hs
      (repeat first | refine ⟨_, Sat.ld hs (by (repeat (first | exact At.z | apply At.s))) (by rfl), ?_⟩ | refine ⟨_, _, _, Sat.ld hs (by (repeat (first | exact At.z | apply At.s))) (by rfl), ?_⟩ | (intro _ _ hn; replace hs := Sat.new hs hn; clear hn) | refine ⟨Sat.cs hs (by (repeat (first | exact At.z | apply At.s))) (by rfl), ?_⟩ | (refine ⟨Sat.can hs (by (repeat (first | exact At.z | apply At.s))) (by simp), ?_⟩; intro _ e; replace hs := Sat.wr hs (by (repeat (first | exact At.z | apply At.s))) e; clear e; simp only [put, splice, List.set] at hs) | refine ⟨_, rfl, ?_⟩)
      refine lays_sp C.cfg hs ?_
      intro h10 hs
      (repeat first | refine ⟨_, Sat.ld hs (by (repeat (first | exact At.z | apply At.s))) (by rfl), ?_⟩ | refine ⟨_, _, _, Sat.ld hs (by (repeat (first | exact At.z | apply At.s))) (by rfl), ?_⟩ | (intro _ _ hn; replace hs := Sat.new hs hn; clear hn) | refine ⟨Sat.cs hs (by (repeat (first | exact At.z | apply At.s))) (by rfl), ?_⟩ | (refine ⟨Sat.can hs (by (repeat (first | exact At.z | apply At.s))) (by simp), ?_⟩; intro _ e; replace hs := Sat.wr hs (by (repeat (first | exact At.z | apply At.s))) e; clear e; simp only [put, splice, List.set] at hs) | refine ⟨_, rfl, ?_⟩)
      rw [← hL] at hs ⊢
      refine k2 x _ ?_
      exact hs.sub (by (repeat (first | exact List.Sublist.refl _ | apply List.Sublist.cons_cons | apply List.Sublist.cons)))
  have hp : presT C = presM C := by unfold presT; rw [if_neg (by simp [ho])]
  rw [hp]
  by_cases g : presM C = 0
  · rw [if_pos (by simpa using g)]
    exact way 1 (by unfold tgtM; rw [if_pos g]) _ hs
  · rw [if_neg (by simpa using g)]
    exact way 0 (by unfold tgtM; rw [if_neg g]) _ hs
end
end Go.Proofs.Ytamfkofcpoglnaa
end

/- Wear: the document's report; the statements of layer 20. Own work. -/
section
set_option maxRecDepth 100000
set_option linter.unusedVariables false
namespace Go.Proofs.Ytamfkofcpoglnaa
open Go Go.Vc

section
variable {h0 h : H} {A : List Ent} {i j p r l b : Nat} {C : Cm}
theorem small20_sp {Q : Int → Int → Int → Int → Int → Int → Int → H → Prop} (hs : Sat h0 A h) (k : ∀ h', Sat h0 A h' → Q 6 2 4 10 1 3 1 h') : F_portcullislaw20_small Q h := by
  unfold F_portcullislaw20_small G_portcullislaw20_small
  simp only [add_mk, Nat.zero_add]
  (repeat first | refine ⟨_, Sat.ld hs (by (repeat (first | exact At.z | apply At.s))) (by rfl), ?_⟩ | refine ⟨_, _, _, Sat.ld hs (by (repeat (first | exact At.z | apply At.s))) (by rfl), ?_⟩ | (intro _ _ hn; replace hs := Sat.new hs hn; clear hn) | refine ⟨Sat.cs hs (by (repeat (first | exact At.z | apply At.s))) (by rfl), ?_⟩ | (refine ⟨Sat.can hs (by (repeat (first | exact At.z | apply At.s))) (by simp), ?_⟩; intro _ e; replace hs := Sat.wr hs (by (repeat (first | exact At.z | apply At.s))) e; clear e; simp only [put, splice, List.set] at hs) | refine ⟨_, rfl, ?_⟩)
  exact k _ hs.drop
abbrev cfg20 : Cfg := ⟨6, 2, 4, 10, 1, 3, 1⟩
theorem fix20 : turnsM (freshC cfg20) = 8 ∧ wlaysM (freshC cfg20) = 24 ∧ (freshC cfg20).s.erases.length = 4 ∧ budgM cfg20 1 = 18 ∧ actsM cfg20 2 = 9 := by decide +kernel
theorem fixed20_sp {Q : Bool → H → Prop} (hs : Sat h0 A h) (k : ∀ h', Sat h0 A h' → Q true h') : F_portcullislaw20_fixed Q h := by
  unfold F_portcullislaw20_fixed G_portcullislaw20_fixed
  simp only [add_mk, Nat.zero_add]
  obtain ⟨f1, f2, f3, f4, f5⟩ := fix20
  refine small20_sp hs ?_
  intro h1 hs
  refine New_sp cfg20 hs (fun nm => absurd (show cfg20.may by decide) nm) ?_
  intro _ p h2 hs
  intro J hJ
  rw [if_neg (by simp), if_neg (by simp)]
  apply hJ
  have ho : (freshC cfg20).out = false := rfl
  generalize freshC cfg20 = C at *
  refine ⟨_, rfl, ?_⟩
  refine wOf_sp hs .z (fun y => by rw [ho] at y; cases y) ?_
  intro _ x h3 hs
  have lx := (hs.sv .z).1
  rw [ints_length, f3] at lx
  have lx2 : x.2.1 = 4 := by omega
  rw [f1, f2]
  intro n30 _ hn; replace hs := Sat.new hs hn; clear hn
  (refine ⟨Sat.can hs (by (repeat (first | exact At.z | apply At.s))) (by simp), ?_⟩; intro _ e; replace hs := Sat.wr hs (by (repeat (first | exact At.z | apply At.s))) e; clear e; simp only [put, splice, List.set] at hs)
  rw [if_pos (by decide)]
  refine ⟨_, Sat.ld hs (by (repeat (first | exact At.z | apply At.s))) (by rfl), ?_⟩
  rw [if_pos (by decide)]
  refine ⟨_, Sat.ld hs (by (repeat (first | exact At.z | apply At.s))) (by rfl), ?_⟩
  rw [if_pos (by decide)]
  refine ⟨_, _, _, Sat.ld hs (by (repeat (first | exact At.z | apply At.s))) (by rfl), ?_⟩
  rw [if_pos (by simp [lx2])]
  refine small20_sp hs ?_
  intro h4 hs
  refine Budget_sp cfg20 1 hs ?_
  intro h5 hs
  rw [f4, if_pos (by decide)]
  refine small20_sp hs ?_
  intro h6 hs
  refine Acts20_sp cfg20 2 hs ?_
  intro h7 hs
  rw [f5]
  exact k _ hs.drop.drop.drop
theorem WearBudgets_sp {Q : Bool → H → Prop} (c : Cfg) (cuts kind : Int) (hs : Sat h0 A h) (k : ∀ h', Sat h0 A h' → Q true h') : F_portcullislaw20_WearBudgets c.cells c.slots c.fuses c.step c.keys c.erases c.area cuts kind Q h := by
  unfold F_portcullislaw20_WearBudgets G_portcullislaw20_WearBudgets
  simp only [add_mk, Nat.zero_add]
  intro n9 _ hn; replace hs := Sat.new hs hn; clear hn
  (repeat first | refine ⟨_, Sat.ld hs (by (repeat (first | exact At.z | apply At.s))) (by rfl), ?_⟩ | refine ⟨_, _, _, Sat.ld hs (by (repeat (first | exact At.z | apply At.s))) (by rfl), ?_⟩ | (intro _ _ hn; replace hs := Sat.new hs hn; clear hn) | refine ⟨Sat.cs hs (by (repeat (first | exact At.z | apply At.s))) (by rfl), ?_⟩ | (refine ⟨Sat.can hs (by (repeat (first | exact At.z | apply At.s))) (by simp), ?_⟩; intro _ e; replace hs := Sat.wr hs (by (repeat (first | exact At.z | apply At.s))) e; clear e; simp only [put, splice, List.set] at hs) | refine ⟨_, rfl, ?_⟩)
  refine Budget_sp c cuts hs ?_
  intro h1 hs
  (repeat first | refine ⟨_, Sat.ld hs (by (repeat (first | exact At.z | apply At.s))) (by rfl), ?_⟩ | refine ⟨_, _, _, Sat.ld hs (by (repeat (first | exact At.z | apply At.s))) (by rfl), ?_⟩ | (intro _ _ hn; replace hs := Sat.new hs hn; clear hn) | refine ⟨Sat.cs hs (by (repeat (first | exact At.z | apply At.s))) (by rfl), ?_⟩ | (refine ⟨Sat.can hs (by (repeat (first | exact At.z | apply At.s))) (by simp), ?_⟩; intro _ e; replace hs := Sat.wr hs (by (repeat (first | exact At.z | apply At.s))) e; clear e; simp only [put, splice, List.set] at hs) | refine ⟨_, rfl, ?_⟩)
  refine rBudget_sp c cuts hs ?_
  intro h2 hs
  rw [if_pos (by simp)]
  (repeat first | refine ⟨_, Sat.ld hs (by (repeat (first | exact At.z | apply At.s))) (by rfl), ?_⟩ | refine ⟨_, _, _, Sat.ld hs (by (repeat (first | exact At.z | apply At.s))) (by rfl), ?_⟩ | (intro _ _ hn; replace hs := Sat.new hs hn; clear hn) | refine ⟨Sat.cs hs (by (repeat (first | exact At.z | apply At.s))) (by rfl), ?_⟩ | (refine ⟨Sat.can hs (by (repeat (first | exact At.z | apply At.s))) (by simp), ?_⟩; intro _ e; replace hs := Sat.wr hs (by (repeat (first | exact At.z | apply At.s))) e; clear e; simp only [put, splice, List.set] at hs) | refine ⟨_, rfl, ?_⟩)
  refine Acts20_sp c kind hs ?_
  intro h3 hs
  (repeat first | refine ⟨_, Sat.ld hs (by (repeat (first | exact At.z | apply At.s))) (by rfl), ?_⟩ | refine ⟨_, _, _, Sat.ld hs (by (repeat (first | exact At.z | apply At.s))) (by rfl), ?_⟩ | (intro _ _ hn; replace hs := Sat.new hs hn; clear hn) | refine ⟨Sat.cs hs (by (repeat (first | exact At.z | apply At.s))) (by rfl), ?_⟩ | (refine ⟨Sat.can hs (by (repeat (first | exact At.z | apply At.s))) (by simp), ?_⟩; intro _ e; replace hs := Sat.wr hs (by (repeat (first | exact At.z | apply At.s))) e; clear e; simp only [put, splice, List.set] at hs) | refine ⟨_, rfl, ?_⟩)
  refine rActs20_sp c kind hs ?_
  intro h4 hs
  rw [if_pos (by simp)]
  refine fixed20_sp hs ?_
  intro h5 hs
  exact k _ hs.drop
end
end Go.Proofs.Ytamfkofcpoglnaa
end

/- WearBudgets: budgets and acts of any config; for every input. -/
section
set_option maxRecDepth 100000
set_option linter.unusedVariables false
namespace Go.Proofs.Ytamfkofcpoglnaa
open Go Go.Vc Go.ChangeShapes Go.WideShapes Go.ChangeAt Go.RowKit

theorem WearBudgets_calls {D : Type} {enc : TypeId × Value → D} {W : World} {base : Nat} (vs : List Value) (h : ArgsOk enc PP W base [23, 3, 3] vs) : CallsTrue PP 11 vs W := by
  obtain ⟨hl, h⟩ := h
  match vs, hl with
  | [v0, v1, v2], _ =>
  obtain ⟨r0, w0⟩ := h 0 _ v0 rfl rfl
  obtain ⟨r1, w1⟩ := h 1 _ v1 rfl rfl
  obtain ⟨r2, w2⟩ := h 2 _ v2 rfl rfl
  obtain ⟨c0, rfl⟩ := cfg_of r0 w0
  obtain ⟨x1, rfl, bd1⟩ := int_of (by kernel_rfl) r1 w1
  obtain ⟨x2, rfl, bd2⟩ := int_of (by kernel_rfl) r2 w2
  have := R_portcullislaw20_WearBudgets [.agg (c0.vals.map .c), .one (.int .i64 x1), .one (.int .i64 x2)] (fun rs h' => rs = [DV.one (.bool true)] ∧ Ext none_ W.heap h') W.heap (by
    intro x hx
    simp only [List.mem_cons, List.not_mem_nil, or_false] at hx
    rcases hx with rfl | rfl | rfl
    · exact ok_cfg c0
    · rfl
    · rfl
    ) (by
    show F_portcullislaw20_WearBudgets c0.cells c0.slots c0.fuses c0.step c0.keys c0.erases c0.area x1 x2 (fun b h' => [DV.one (.bool b)] = [DV.one (.bool true)] ∧ Ext none_ W.heap h') W.heap
    exact WearBudgets_sp c0 x1 x2 (Sat.init W.heap) fun h' x => ⟨rfl, x.ex⟩)
  exact this
theorem WearBudgets_lifted (os : Os) (started : os.Started) (D : Type) (enc : TypeId × Value → D) :
    ReturnsInHanded {} Try.checked os 11 .any (Rows.wearBudgetsSpec.pre6 enc Try.prog Try.f11 Rows.wearBudgetsRow.domain false) (Rows.wearBudgetsSpec.post enc Try.prog Try.f11 false true false false) := by
  refine returnsInHanded_of_change_sized (C := Try.checked) Try.own started (by kernel_rfl) Try.func11
    (ChangeSpec.witness6 (enc := enc) (C := Try.checked) false ⟨#[], #[.agg #[.int .i64 0, .int .i64 0, .int .i64 0, .int .i64 0, .int .i64 0, .int .i64 0, .int .i64 0], .int .i64 0, .int .i64 0], []⟩ 8 (by kernel_rfl) (by kernel_rfl) (by kernel_rfl) (by kernel_rfl)) ?_
  intro W base args ds gs before hval hW hcnd hsz _
  exact law_go (P := Try.prog) (fn := Try.f11) (s := Rows.wearBudgetsSpec) [23, 3, 3] (by kernel_rfl) Try.laidOut rfl (by kernel_rfl) (by kernel_rfl) Try.ubool
    (fun ds hl => match ds, hl with | [d1, d2, d3], _ => rfl) hval hW hsz WearBudgets_calls

theorem WearBudgets_holds : Rows.WearBudgetsSaid :=
  OpenClaim.holds_of_wide 11 Try.f11 rfl rfl rfl rfl rfl rfl rfl ⟨rfl, rfl, rfl, rfl, rfl⟩ rfl rfl rfl rfl rfl (by kernel_rfl) Try.func11 (by kernel_rfl)
    (of_decide_eq_true (by kernel_rfl)) (by unfold Func.isWrapper; first | (rw [if_pos (by decide +kernel)]; kernel_rfl) | (rw [if_neg (by decide +kernel)]; exact ⟨rfl, rfl⟩))
    (fun os started H enc _ => WearBudgets_lifted os started H enc)

end Go.Proofs.Ytamfkofcpoglnaa
end
