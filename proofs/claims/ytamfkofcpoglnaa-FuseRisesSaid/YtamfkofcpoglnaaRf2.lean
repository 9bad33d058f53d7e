/- Contracts of the document's chip: new ones, laid ones, copies. Own work. -/
import Derived.Test.YtamfkofcpoglnaaFa2
import Derived.Test.YtamfkofcpoglnaaRf1
set_option autoImplicit false
set_option linter.all false
set_option linter.unusedVariables false
namespace Go.Proofs.Ytamfkofcpoglnaa
open Go Go.Vc

section
variable {h0 h : H} {A : List Ent} {i p : Nat} {C : Cm}
theorem wnp {c : Cfg} (m : c.may) : IntKind.i64.wrap (2 + IntKind.i64.wrap (2 * c.area)) = c.np := by
  have := m.area; unfold Cfg.np; simp only [IntKind.wrap_i64]; omega
theorem wnf {c : Cfg} (m : c.may) : IntKind.i64.wrap (IntKind.i64.wrap (c.slots * c.fuses) + c.keys) = c.nf := by
  have h1 := m.slots; have h2 := m.fuses; have h3 := m.keys
  have e1 : 0 ≤ c.slots * c.fuses := Int.mul_nonneg (by omega) (by omega)
  have e2 : c.slots * c.fuses ≤ 8 * 64 := Int.mul_le_mul (by omega) (by omega) (by omega) (by omega)
  unfold Cfg.nf; simp only [IntKind.wrap_i64]; omega
theorem rep_set {α : Type} (n i : Nat) (X Y : List α) (hX : X.length = 32) (hi : i < n) (hY : Y.length = 32) :
    (List.replicate i X).flatten ++ X ++ (List.replicate (n - (i + 1)) Y).flatten = (List.replicate (i + 1) X).flatten ++ (List.replicate (n - (i + 1)) Y).flatten := by
  rw [rep_add i 1 X]; simp
theorem fresh_sp (c : Cfg) (hm : c.may) {Q : Option Addr → Nat → Nat → Option Addr → Nat → Nat → Option Addr → Nat → Nat → H → Prop} (hs : Sat h0 A h)
    (k : ∀ (a' b' c' : Sl) h', Sat h0 (stL a' b' c' (freshSt c) ++ A) h' → Q a'.1 a'.2.1 a'.2.2 b'.1 b'.2.1 b'.2.2 c'.1 c'.2.1 c'.2.2 h') :
    F_portcullisref04_fresh c.cells c.slots c.fuses c.step c.keys c.erases c.area Q h := by
  unfold F_portcullisref04_fresh G_portcullisref04_fresh
  simp only [add_mk, Nat.zero_add, List.append_nil]
  intro g _ hn; replace hs := Sat.new hs hn; clear hn
  intro n2 _ hn; replace hs := Sat.new hs hn; clear hn
  intro J hJ
  have hnp := hm.np
  have hnf := hm.nf
  have hmc := hm.cells
  have hms := hm.slots
  have fin : ∀ p a b h', Sat h0 (blk p [.slice none 0 0, .slice (some ⟨a, 0, none⟩) c.np.toNat c.np.toNat, .slice (some ⟨b, 0, none⟩) c.nf.toNat c.nf.toNat] :: blk a (List.replicate c.np.toNat [Value.int .i64 0]).flatten :: blk b (List.replicate c.nf.toNat [Value.bool false]).flatten ::
      blk g c.vals :: blk n2 [.slice none 0 0, .slice none 0 0, .slice none 0 0] :: A) h' → J [SV.dv (DV.addr ⟨p, 0, none⟩)] h' := by
    intro p a b h' hs
    apply hJ
    simp only [Cfg.vals] at hs
    intro J2 hJ2
    replace hs := hs.mat_nil 32 none
    refine loop_up c.np.toNat (fun i h => ∃ hd : Sl, hd.2.1 = i ∧ Sat h0 (matE 32 hd (List.replicate i (blankRow c)) :: blk p [hd.v, .slice (some ⟨a, 0, none⟩) c.np.toNat c.np.toNat, .slice (some ⟨b, 0, none⟩) c.nf.toNat c.nf.toNat] :: blk a (List.replicate c.np.toNat [Value.int .i64 0]).flatten :: blk b (List.replicate c.nf.toNat [Value.bool false]).flatten ::
      blk g c.vals :: blk n2 [.slice none 0 0, .slice none 0 0, .slice none 0 0] :: A) h) ?_ ?_ 0 _ (by omega) ⟨_, rfl, hs⟩
    · rintro i h1 hi ⟨⟨hp, hl, hc⟩, e, hs⟩ hk
      simp only at e; subst e
      apply hJ2
      simp only [Cfg.vals] at hs
      refine ⟨_, Sat.ld hs (by (repeat (first | exact At.z | apply At.s))) (by rfl), ?_⟩
      rw [wnp hm, ltI_eq, if_pos (by simp; omega)]
      refine ⟨_, Sat.ld hs (by (repeat (first | exact At.z | apply At.s))) (by rfl), ?_⟩
      refine ⟨by omega, by omega, by omega, by omega, ?_⟩
      intro nr _ hn; replace hs := Sat.new hs hn; clear hn
      intro J3 hJ3
      have hrl : ∀ i, ((List.replicate i blankCell).flatten ++ (List.replicate (c.cells.toNat - i) (zeros 32)).flatten).length = i * 32 + (c.cells.toNat - i) * 32 := fun i => by
        simp [blankCell]
      refine loop_up c.cells.toNat (fun i h => Sat h0 (blk nr (ints .u8 ((List.replicate i blankCell).flatten ++ (List.replicate (c.cells.toNat - i) (zeros 32)).flatten)) :: matE 32 (hp, hl, hc) (List.replicate hl (blankRow c)) :: blk p [.slice hp hl hc, .slice (some ⟨a, 0, none⟩) c.np.toNat c.np.toNat, .slice (some ⟨b, 0, none⟩) c.nf.toNat c.nf.toNat] :: blk a (List.replicate c.np.toNat [Value.int .i64 0]).flatten :: blk b (List.replicate c.nf.toNat [Value.bool false]).flatten ::
        blk g c.vals :: blk n2 [.slice none 0 0, .slice none 0 0, .slice none 0 0] :: A) h) ?_ ?_ 0 _ (by omega) ?_
      · intro j h2 hj hs hk2
        apply hJ3
        simp only [Cfg.vals] at hs
        refine ⟨_, Sat.ld hs (by (repeat (first | exact At.z | apply At.s))) (by rfl), ?_⟩
        rw [ltI_eq, if_pos (by simp; omega)]
        refine rBlank_sp hs ?_
        intro h3 hs
        refine ⟨_, rfl, by omega, by omega, ?_⟩
        simp only [add_mk, Nat.zero_add, Int.toNat_natCast]
        refine ⟨hs.can .z (by rw [ints_length, hrl]; omega), ?_⟩
        intro h4 e4
        replace hs := hs.wr .z e4
        rw [wrap_succ (by omega)]
        refine hk2 _ ?_
        have esp : splice (ints .u8 ((List.replicate j blankCell).flatten ++ (List.replicate (c.cells.toNat - j) (zeros 32)).flatten)) (j * 32) (ints .u8 blankCell) = ints .u8 ((List.replicate (j + 1) blankCell).flatten ++ (List.replicate (c.cells.toNat - (j + 1)) (zeros 32)).flatten) := by
          have e1 : (List.replicate (c.cells.toNat - j) (zeros 32)).flatten = zeros 32 ++ (List.replicate (c.cells.toNat - (j + 1)) (zeros 32)).flatten := by
            rw [show c.cells.toNat - j = 1 + (c.cells.toNat - (j + 1)) by omega, rep_add]; simp
          have e2 : (ints .u8 (List.replicate j blankCell).flatten).length = j * 32 := by simp [blankCell]
          rw [e1, ints_append, ints_append, ← List.append_assoc, ← e2, splice_append _ _ _ _ (by simp [blankCell]), rep_add j 1]
          simp
        rw [esp] at hs
        exact hs
      · intro h2 hs
        apply hJ3
        simp only [Cfg.vals] at hs
        refine ⟨_, Sat.ld hs (by (repeat (first | exact At.z | apply At.s))) (by rfl), ?_⟩
        rw [ltI_eq, if_neg (by simp; omega)]
        refine ⟨_, _, _, Sat.ld hs (by (repeat (first | exact At.z | apply At.s))) (by rfl), ?_⟩
        intro nh _ hn; replace hs := Sat.new hs hn; clear hn
        refine ⟨_, Sat.bv hs (.z) (by simp) (by simp), ?_⟩
        replace hs := hs.as_sl (i := 1) (l := c.cells.toNat) (sz := 32) (.s .z) (by rw [ints_length, hrl]; omega) (ints_one _ _)
        simp only [put] at hs
        replace hs := Sat.front (e := sE (some ⟨nr, 0, none⟩, c.cells.toNat, c.cells.toNat) 32 _) hs (.s .z)
        refine Sat.app_row hs (i := 1) (.s .z) (by omega) ?_
        intro p2 c2' h4 hs
        simp only [put, del] at hs
        (refine ⟨Sat.can hs (by (repeat (first | exact At.z | apply At.s))) (by simp), ?_⟩; intro _ e; replace hs := Sat.wr hs (by (repeat (first | exact At.z | apply At.s))) e; clear e; simp only [put, splice, List.set] at hs)
        rw [wrap_succ (by omega)]
        refine hk _ ⟨(p2, hl + 1, c2'), rfl, ?_⟩
        have e1 : (List.replicate c.cells.toNat blankCell).flatten ++ (List.replicate (c.cells.toNat - c.cells.toNat) (zeros 32)).flatten = blankRow c := by simp [blankRow]
        rw [e1] at hs
        rw [List.replicate_succ']
        exact hs.sub (by (repeat (first | exact List.Sublist.refl _ | apply List.Sublist.cons_cons | apply List.Sublist.cons)))
      · have e0 : (List.replicate c.cells.toNat (ints .u8 (zeros 32))).flatten = ints .u8 ((List.replicate 0 blankCell).flatten ++ (List.replicate (c.cells.toNat - 0) (zeros 32)).flatten) := by
          simp [ints, List.map_flatten]
        rw [e0] at hs
        exact hs
    · rintro h1 ⟨⟨hp, hl, hc⟩, e, hs⟩
      simp only at e; subst e
      apply hJ2
      simp only [Cfg.vals] at hs
      refine ⟨_, Sat.ld hs (by (repeat (first | exact At.z | apply At.s))) (by rfl), ?_⟩
      rw [wnp hm, ltI_eq, if_neg (by simp; omega)]
      (repeat first | refine ⟨_, Sat.ld hs (by (repeat (first | exact At.z | apply At.s))) (by rfl), ?_⟩ | refine ⟨_, _, _, Sat.ld hs (by (repeat (first | exact At.z | apply At.s))) (by rfl), ?_⟩ | (intro _ _ hn; replace hs := Sat.new hs hn; clear hn) | refine ⟨Sat.cs hs (by (repeat (first | exact At.z | apply At.s))) (by rfl), ?_⟩ | (refine ⟨Sat.can hs (by (repeat (first | exact At.z | apply At.s))) (by simp), ?_⟩; intro _ e; replace hs := Sat.wr hs (by (repeat (first | exact At.z | apply At.s))) e; clear e; simp only [put, splice, List.set] at hs))
      refine k (hp, _, hc) (some ⟨a, 0, none⟩, _, _) (some ⟨b, 0, none⟩, _, _) _ ?_
      have eb : (List.replicate c.nf.toNat [Value.bool false]).flatten = bools (freshSt c).blown := by simp [freshSt, bools]
      have ea : (List.replicate c.np.toNat [Value.int .i64 0]).flatten = ints .i64 (freshSt c).erases := by simp [freshSt, zeros, ints]
      rw [ea, eb] at hs
      replace hs := Sat.front hs (e := blk p _) (by (repeat (first | exact At.z | apply At.s)))
      replace hs := Sat.front hs (e := blk g _) (by (repeat (first | exact At.z | apply At.s)))
      replace hs := Sat.front hs (e := blk n2 _) (by (repeat (first | exact At.z | apply At.s)))
      simp only [del] at hs
      replace hs := hs.drop.drop.drop
      replace hs := hs.as_sl (i := 1) (l := c.np.toNat) (sz := 1) (.s .z) (by simp [freshSt]) (ints_one _ _)
      replace hs := hs.as_sl (i := 2) (l := c.nf.toNat) (sz := 1) (.s (.s .z)) (by simp [freshSt]) (bools_one _)
      exact hs
  (repeat first | refine ⟨_, Sat.ld hs (by (repeat (first | exact At.z | apply At.s))) (by rfl), ?_⟩ | refine ⟨_, _, _, Sat.ld hs (by (repeat (first | exact At.z | apply At.s))) (by rfl), ?_⟩ | (intro _ _ hn; replace hs := Sat.new hs hn; clear hn) | refine ⟨Sat.cs hs (by (repeat (first | exact At.z | apply At.s))) (by rfl), ?_⟩ | (refine ⟨Sat.can hs (by (repeat (first | exact At.z | apply At.s))) (by simp), ?_⟩; intro _ e; replace hs := Sat.wr hs (by (repeat (first | exact At.z | apply At.s))) e; clear e; simp only [put, splice, List.set] at hs))
  simp only [wnp hm, wnf hm]
  repeat' (first
    | refine ⟨_, Sat.ld hs (by (repeat (first | exact At.z | apply At.s))) (by rfl), ?_⟩
    | (intro _ _ hn; replace hs := Sat.new hs hn; clear hn)
    | refine ⟨Sat.cs hs (by (repeat (first | exact At.z | apply At.s))) (by rfl), ?_⟩
    | (refine ⟨Sat.can hs (by (repeat (first | exact At.z | apply At.s))) (by simp), ?_⟩; intro _ e; replace hs := Sat.wr hs (by (repeat (first | exact At.z | apply At.s))) e; clear e; simp only [put, splice, List.set] at hs)
    | refine ⟨by omega, ?_⟩
    | refine And.intro ?_ ?_)
  all_goals
    replace hs := Sat.front hs (e := blk n2 _) (by (repeat (first | exact At.z | apply At.s)))
    replace hs := Sat.front hs (e := blk g _) (by (repeat (first | exact At.z | apply At.s)))
    replace hs := Sat.front hs (e := blk _ (List.replicate c.nf.toNat [Value.bool false]).flatten) (by (repeat (first | exact At.z | apply At.s)))
    replace hs := Sat.front hs (e := blk _ (List.replicate c.np.toNat [Value.int .i64 0]).flatten) (by (repeat (first | exact At.z | apply At.s)))
    replace hs := Sat.front hs (e := blk _ [Value.slice none 0 0, Value.slice (some ⟨_, 0, none⟩) _ _, Value.slice (some ⟨_, 0, none⟩) _ _]) (by (repeat (first | exact At.z | apply At.s)))
    exact fin _ _ _ _ hs
theorem rNew_sp (c : Cfg) {Q : Option Addr → Int → H → Prop} (hs : Sat h0 A h)
    (k1 : ¬ c.may → ∀ h', Sat h0 A h' → Q none 1 h')
    (k2 : c.may → ∀ p h', Sat h0 (chipE p (freshC c) :: A) h' → Q (some ⟨p, 0, none⟩) 0 h') :
    F_portcullisref04_New c.cells c.slots c.fuses c.step c.keys c.erases c.area Q h := by
  unfold F_portcullisref04_New G_portcullisref04_New
  simp only [add_mk, Nat.zero_add]
  intro g _ hn; replace hs := Sat.new hs hn; clear hn
  (repeat first | refine ⟨_, Sat.ld hs (by (repeat (first | exact At.z | apply At.s))) (by rfl), ?_⟩ | refine ⟨_, _, _, Sat.ld hs (by (repeat (first | exact At.z | apply At.s))) (by rfl), ?_⟩ | (intro _ _ hn; replace hs := Sat.new hs hn; clear hn) | refine ⟨Sat.cs hs (by (repeat (first | exact At.z | apply At.s))) (by rfl), ?_⟩ | (refine ⟨Sat.can hs (by (repeat (first | exact At.z | apply At.s))) (by simp), ?_⟩; intro _ e; replace hs := Sat.wr hs (by (repeat (first | exact At.z | apply At.s))) e; clear e; simp only [put, splice, List.set] at hs))
  refine rMay_sp c hs ?_
  intro h1 hs
  unfold Cfg.may?
  by_cases hm : c.may
  case neg =>
    rw [if_neg hm, if_pos (by decide)]
    exact k1 hm _ hs.drop
  rw [if_pos hm, if_neg (by decide)]
  (repeat first | refine ⟨_, Sat.ld hs (by (repeat (first | exact At.z | apply At.s))) (by rfl), ?_⟩ | refine ⟨_, _, _, Sat.ld hs (by (repeat (first | exact At.z | apply At.s))) (by rfl), ?_⟩ | (intro _ _ hn; replace hs := Sat.new hs hn; clear hn) | refine ⟨Sat.cs hs (by (repeat (first | exact At.z | apply At.s))) (by rfl), ?_⟩ | (refine ⟨Sat.can hs (by (repeat (first | exact At.z | apply At.s))) (by simp), ?_⟩; intro _ e; replace hs := Sat.wr hs (by (repeat (first | exact At.z | apply At.s))) e; clear e; simp only [put, splice, List.set] at hs))
  refine fresh_sp c hm hs ?_
  intro a b c' h2 hs
  replace hs : Sat h0 (matE 32 a (freshSt c).pages :: sE b 1 (ints .i64 (freshSt c).erases) :: sE c' 1 (bools (freshSt c).blown) :: blk g c.vals :: A) h2 := hs
  simp only [Cfg.vals] at hs
  (repeat first | refine ⟨_, Sat.ld hs (by (repeat (first | exact At.z | apply At.s))) (by rfl), ?_⟩ | refine ⟨_, _, _, Sat.ld hs (by (repeat (first | exact At.z | apply At.s))) (by rfl), ?_⟩ | (intro _ _ hn; replace hs := Sat.new hs hn; clear hn) | refine ⟨Sat.cs hs (by (repeat (first | exact At.z | apply At.s))) (by rfl), ?_⟩ | (refine ⟨Sat.can hs (by (repeat (first | exact At.z | apply At.s))) (by simp), ?_⟩; intro _ e; replace hs := Sat.wr hs (by (repeat (first | exact At.z | apply At.s))) e; clear e; simp only [put, splice, List.set] at hs))
  refine k2 hm _ _ ?_
  replace hs := hs.sl_nil 1 none
  replace hs := Sat.front hs (e := slE _ _ _ 1 (bools _)) (by (repeat (first | exact At.z | apply At.s)))
  replace hs := Sat.front hs (e := slE _ _ _ 1 (ints .i64 _)) (by (repeat (first | exact At.z | apply At.s)))
  replace hs := Sat.front hs (e := matE 32 _ _) (by (repeat (first | exact At.z | apply At.s)))
  replace hs := Sat.front hs (e := blk _ [_, _, _, _, _, _, _, _, _, _, _, _, _, _]) (by (repeat (first | exact At.z | apply At.s)))
  simp only [del] at hs
  exact (chip_make (C := freshC c) (a := a) (b := b) (c := c') (m := (none, 0, 0)) (freshC_ok hm) hs).sub (by (repeat (first | exact List.Sublist.refl _ | apply List.Sublist.cons_cons | apply List.Sublist.cons)))
end
end Go.Proofs.Ytamfkofcpoglnaa
