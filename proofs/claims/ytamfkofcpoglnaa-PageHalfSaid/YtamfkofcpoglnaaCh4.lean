/- Contracts: what is copied; a new chip. Own work. -/
import Derived.Test.YtamfkofcpoglnaaFa1
import Derived.Test.YtamfkofcpoglnaaCh3
import Derived.Test.YtamfkofcpoglnaaCm
set_option autoImplicit false
set_option linter.all false
set_option linter.unusedVariables false
namespace Go.Proofs.Ytamfkofcpoglnaa
open Go Go.Vc

theorem May_sp {h0 h : H} {A : List Ent} (c : Cfg) {Q : Int → H → Prop} (hs : Sat h0 A h) (k : ∀ h', Sat h0 A h' → Q c.may? h') :
    F_chip_May c.cells c.slots c.fuses c.step c.keys c.erases c.area Q h := by
  apply May_spec
  intro h' x
  have := k h' (hs.ext x)
  unfold Cfg.may? at this
  by_cases hm : c.may
  · rw [if_pos hm] at this ⊢; exact this
  · rw [if_neg hm] at this ⊢; exact this
theorem pages_sp {h0 h : H} {A : List Ent} (c : Cfg) (hm : c.may) {Q : Int → H → Prop} (hs : Sat h0 A h) (k : ∀ h', Sat h0 A h' → Q c.np h') :
    F_chip_pages c.cells c.slots c.fuses c.step c.keys c.erases c.area Q h := pages_spec c hm Q h fun h' x => k h' (hs.ext x)
theorem fuses_sp {h0 h : H} {A : List Ent} (c : Cfg) (hm : c.may) {Q : Int → H → Prop} (hs : Sat h0 A h) (k : ∀ h', Sat h0 A h' → Q c.nf h') :
    F_chip_fuses c.cells c.slots c.fuses c.step c.keys c.erases c.area Q h := fuses_spec c hm Q h fun h' x => k h' (hs.ext x)

theorem Cfg.may.np {c : Cfg} (m : c.may) : 2 ≤ c.np ∧ c.np ≤ 130 := by have := m.area; unfold Cfg.np; omega
theorem Cfg.may.nf {c : Cfg} (m : c.may) : 0 ≤ c.nf ∧ c.nf ≤ 576 := by
  have h1 := m.slots; have h2 := m.fuses; have h3 := m.keys
  have e1 : 0 ≤ c.slots * c.fuses := Int.mul_nonneg (by omega) (by omega)
  have e2 : c.slots * c.fuses ≤ 8 * 64 := Int.mul_le_mul (by omega) (by omega) (by omega) (by omega)
  unfold Cfg.nf; omega

theorem Repeat_sp {h0 h : H} {A : List Ent} (n : Nat) {k : Int} {c i b : Nat} {X : List Int} {Q : Option Addr → Nat → Nat → H → Prop} (hk : k = (n : Int)) (hs : Sat h0 A h) (m : At A i (blk b (ints .u8 X ++ []))) (hX : X.length = 32)
    (hn : 1 ≤ n ∧ n ≤ 2 ^ 20) (kk : ∀ b h', Sat h0 (sE (some ⟨b, 0, none⟩, n, n) 32 (ints .u8 (List.replicate n X).flatten) :: A) h' → Q (some ⟨b, 0, none⟩) n n h') :
    F_slices_Repeat_api_Cell_api_Cell (some ⟨b, 0, none⟩) 1 c k Q h := by
  rw [hk]
  rw [List.append_nil] at m
  refine Repeat_spec _ _ n (ints .u8 X) (by simpa using hX) hn _ _ (hs.bv m (by simpa using hX) (ints_one _ _)) ?_
  intro b' h' x kb hb
  refine kk b' h' ?_
  have e : (List.replicate n (ints .u8 X)).flatten = ints .u8 (List.replicate n X).flatten := by
    simp [ints, List.map_flatten]
  rw [e] at kb
  exact (hs.ofBlk x kb hb).as_sl (.z) (by simp [hX]) (ints_one _ _)
def blankRow (c : Cfg) : List Int := (List.replicate c.cells.toNat blankCell).flatten
def freshSt (c : Cfg) : St := ⟨List.replicate c.np.toNat (blankRow c), zeros c.np.toNat, List.replicate c.nf.toNat false⟩
def freshC (c : Cfg) : Cm := ⟨c, freshSt c, 0, false, -1, []⟩

theorem freshC_ok {c : Cfg} (hm : c.may) : (freshC c).ok := by
  have h1 := hm.np; have h2 := hm.nf; have h3 := hm.cells; have h4 := hm.slots
  refine ⟨hm, ⟨by simp [freshC, freshSt]; omega, ?_, by simp [freshC, freshSt]; omega, by simp [freshC, freshSt]; omega⟩, ⟨?_, ?_⟩, by simp [freshC], by simp [freshC], by intro n hn; simp [freshC] at hn, by simp [freshC], by simp [freshC]⟩
  · intro l hl
    rw [List.eq_of_mem_replicate hl]
    simp [blankRow, blankCell, freshC]; omega
  · intro l hl
    rw [List.eq_of_mem_replicate hl]
    intro n hn
    simp only [blankRow, List.mem_flatten, List.mem_replicate] at hn
    obtain ⟨l, ⟨_, rfl⟩, hn⟩ := hn
    have := List.eq_of_mem_replicate hn
    unfold isByte; omega
  · intro n hn
    have := List.eq_of_mem_replicate hn
    omega
theorem New_sp {h0 h : H} {A : List Ent} (c : Cfg) {Q : Option Addr → Int → H → Prop} (hs : Sat h0 A h)
    (k1 : ¬ c.may → ∀ h', Sat h0 A h' → Q none 1 h')
    (k2 : c.may → ∀ p h', Sat h0 (chipE p (freshC c) :: A) h' → Q (some ⟨p, 0, none⟩) 0 h') :
    F_chip_New c.cells c.slots c.fuses c.step c.keys c.erases c.area Q h := by
  unfold F_chip_New G_chip_New
  simp only [add_mk, Nat.zero_add]
  intro g _ hn; have hs := Sat.new hs hn; clear hn
  (repeat first | refine ⟨_, Sat.ld hs (by (repeat (first | exact At.z | apply At.s))) (by rfl), ?_⟩ | refine ⟨_, _, _, Sat.ld hs (by (repeat (first | exact At.z | apply At.s))) (by rfl), ?_⟩ | (intro _ _ hn; replace hs := Sat.new hs hn; clear hn) | refine ⟨Sat.cs hs (by (repeat (first | exact At.z | apply At.s))) (by rfl), ?_⟩ | (refine ⟨Sat.can hs (by (repeat (first | exact At.z | apply At.s))) (by simp), ?_⟩; intro _ e; replace hs := Sat.wr hs (by (repeat (first | exact At.z | apply At.s))) e; clear e; simp only [put, splice, List.set] at hs))
  refine May_sp c hs ?_
  intro h1 hs
  unfold Cfg.may?
  by_cases hm : c.may
  case neg =>
    rw [if_neg hm, if_pos (by decide)]
    exact k1 hm _ hs.drop
  rw [if_pos hm, if_neg (by decide)]
  intro J hJ
  have hnp := hm.np
  have hnf := hm.nf
  have fin : ∀ p a b h', Sat h0 (blk g c.vals :: blk b (List.replicate c.nf.toNat [Value.bool false]).flatten :: blk a (List.replicate c.np.toNat [Value.int .i64 0]).flatten ::
      blk p [.slice none 0 0, .slice (some ⟨a, 0, none⟩) c.np.toNat c.np.toNat, .slice (some ⟨b, 0, none⟩) c.nf.toNat c.nf.toNat] :: A) h' → J [SV.dv (DV.addr ⟨p, 0, none⟩)] h' := by
    intro p a b h' hs
    apply hJ
    simp only [Cfg.vals] at hs
    (repeat first | refine ⟨_, Sat.ld hs (by (repeat (first | exact At.z | apply At.s))) (by rfl), ?_⟩ | refine ⟨_, _, _, Sat.ld hs (by (repeat (first | exact At.z | apply At.s))) (by rfl), ?_⟩ | (intro _ _ hn; replace hs := Sat.new hs hn; clear hn) | refine ⟨Sat.cs hs (by (repeat (first | exact At.z | apply At.s))) (by rfl), ?_⟩ | (refine ⟨Sat.can hs (by (repeat (first | exact At.z | apply At.s))) (by simp), ?_⟩; intro _ e; replace hs := Sat.wr hs (by (repeat (first | exact At.z | apply At.s))) e; clear e; simp only [put, splice, List.set] at hs))
    refine pages_sp c hm hs ?_
    intro _ hs J38 hJ38
    have hs := hs.mat_nil 32 none
    refine loop_up c.np.toNat (fun i h => ∃ hd : Sl, hd.2.1 = i ∧ Sat h0 (matE 32 hd (List.replicate i (blankRow c)) :: blk g c.vals :: blk b (List.replicate c.nf.toNat [Value.bool false]).flatten :: blk a (List.replicate c.np.toNat [Value.int .i64 0]).flatten ::
      blk p [hd.v, .slice (some ⟨a, 0, none⟩) c.np.toNat c.np.toNat, .slice (some ⟨b, 0, none⟩) c.nf.toNat c.nf.toNat] :: A) h) ?_ ?_ 0 _ (by omega) ⟨_, rfl, hs⟩
    · rintro i h1 hi ⟨⟨hp, hl, hc⟩, e, hs⟩ hk
      simp only at e; subst e
      apply hJ38
      rw [ltI_eq, if_pos (by simp; omega)]
      simp only [Cfg.vals] at hs
      (repeat first | refine ⟨_, Sat.ld hs (by (repeat (first | exact At.z | apply At.s))) (by rfl), ?_⟩ | refine ⟨_, _, _, Sat.ld hs (by (repeat (first | exact At.z | apply At.s))) (by rfl), ?_⟩ | (intro _ _ hn; replace hs := Sat.new hs hn; clear hn) | refine ⟨Sat.cs hs (by (repeat (first | exact At.z | apply At.s))) (by rfl), ?_⟩ | (refine ⟨Sat.can hs (by (repeat (first | exact At.z | apply At.s))) (by simp), ?_⟩; intro _ e; replace hs := Sat.wr hs (by (repeat (first | exact At.z | apply At.s))) e; clear e; simp only [put, splice, List.set] at hs))
      refine blank_spec _ _ fun h2 x2 => ?_
      have hs := hs.ext x2
      (repeat first | refine ⟨_, Sat.ld hs (by (repeat (first | exact At.z | apply At.s))) (by rfl), ?_⟩ | refine ⟨_, _, _, Sat.ld hs (by (repeat (first | exact At.z | apply At.s))) (by rfl), ?_⟩ | (intro _ _ hn; replace hs := Sat.new hs hn; clear hn) | refine ⟨Sat.cs hs (by (repeat (first | exact At.z | apply At.s))) (by rfl), ?_⟩ | (refine ⟨Sat.can hs (by (repeat (first | exact At.z | apply At.s))) (by simp), ?_⟩; intro _ e; replace hs := Sat.wr hs (by (repeat (first | exact At.z | apply At.s))) e; clear e; simp only [put, splice, List.set] at hs))
      have hc' := hm.cells
      have hc'' := hm.slots
      refine Repeat_sp c.cells.toNat ?_ hs (.z) rfl ?_ ?_
      · omega
      · omega
      intro b2 h3 hs
      (repeat first | refine ⟨_, Sat.ld hs (by (repeat (first | exact At.z | apply At.s))) (by rfl), ?_⟩ | refine ⟨_, _, _, Sat.ld hs (by (repeat (first | exact At.z | apply At.s))) (by rfl), ?_⟩ | (intro _ _ hn; replace hs := Sat.new hs hn; clear hn) | refine ⟨Sat.cs hs (by (repeat (first | exact At.z | apply At.s))) (by rfl), ?_⟩ | (refine ⟨Sat.can hs (by (repeat (first | exact At.z | apply At.s))) (by simp), ?_⟩; intro _ e; replace hs := Sat.wr hs (by (repeat (first | exact At.z | apply At.s))) e; clear e; simp only [put, splice, List.set] at hs))
      refine ⟨_, Sat.bv hs (.z) (by simp) (by simp), ?_⟩
      replace hs := Sat.front hs (e := sE (some ⟨b2, 0, none⟩, _, _) 32 _) (by (repeat (first | exact At.z | apply At.s)))
      refine Sat.app_row hs (by (repeat (first | exact At.z | apply At.s))) (by dsimp only; omega) ?_
      intro p' c' h4 hs
      simp only [put, del] at hs
      (repeat first | refine ⟨_, Sat.ld hs (by (repeat (first | exact At.z | apply At.s))) (by rfl), ?_⟩ | refine ⟨_, _, _, Sat.ld hs (by (repeat (first | exact At.z | apply At.s))) (by rfl), ?_⟩ | (intro _ _ hn; replace hs := Sat.new hs hn; clear hn) | refine ⟨Sat.cs hs (by (repeat (first | exact At.z | apply At.s))) (by rfl), ?_⟩ | (refine ⟨Sat.can hs (by (repeat (first | exact At.z | apply At.s))) (by simp), ?_⟩; intro _ e; replace hs := Sat.wr hs (by (repeat (first | exact At.z | apply At.s))) e; clear e; simp only [put, splice, List.set] at hs))
      rw [wrap_succ (by omega)]
      refine hk _ ⟨(p', hl + 1, c'), rfl, ?_⟩
      replace hs := Sat.front hs (e := blk p _) (by (repeat (first | exact At.z | apply At.s)))
      replace hs := Sat.front hs (e := blk a _) (by (repeat (first | exact At.z | apply At.s)))
      replace hs := Sat.front hs (e := blk b _) (by (repeat (first | exact At.z | apply At.s)))
      replace hs := Sat.front hs (e := blk g _) (by (repeat (first | exact At.z | apply At.s)))
      replace hs := Sat.front hs (e := matE 32 _ _) (by (repeat (first | exact At.z | apply At.s)))
      simp only [del] at hs
      rw [List.replicate_succ']
      exact hs.sub (by (repeat (first | exact List.Sublist.refl _ | apply List.Sublist.cons_cons | apply List.Sublist.cons)))
    · rintro h1 ⟨⟨hp, hl, hc⟩, e, hs⟩
      apply hJ38
      rw [ltI_eq, if_neg (by simp; omega)]
      simp only [Cfg.vals] at hs
      (repeat first | refine ⟨_, Sat.ld hs (by (repeat (first | exact At.z | apply At.s))) (by rfl), ?_⟩ | refine ⟨_, _, _, Sat.ld hs (by (repeat (first | exact At.z | apply At.s))) (by rfl), ?_⟩ | (intro _ _ hn; replace hs := Sat.new hs hn; clear hn) | refine ⟨Sat.cs hs (by (repeat (first | exact At.z | apply At.s))) (by rfl), ?_⟩ | (refine ⟨Sat.can hs (by (repeat (first | exact At.z | apply At.s))) (by simp), ?_⟩; intro _ e; replace hs := Sat.wr hs (by (repeat (first | exact At.z | apply At.s))) e; clear e; simp only [put, splice, List.set] at hs))
      refine k2 hm _ _ (Sat.close ⟨(hp, hl, hc), (some ⟨a, 0, none⟩, c.np.toNat, c.np.toNat), (some ⟨b, 0, none⟩, c.nf.toNat, c.nf.toNat), (none, 0, 0)⟩ (freshC_ok hm) ?_)
      have eb : (List.replicate c.nf.toNat [Value.bool false]).flatten = bools (freshC c).s.blown := by simp [freshC, freshSt, bools]
      have ea : (List.replicate c.np.toNat [Value.int .i64 0]).flatten = ints .i64 (freshC c).s.erases := by simp [freshC, freshSt, zeros, ints]
      rw [ea, eb] at hs
      replace hs := hs.as_sl (i := 3) (l := c.nf.toNat) (sz := 1) (.s (.s (.s .z))) (by simp [freshC, freshSt]) (bools_one _)
      replace hs := hs.as_sl (i := 4) (l := c.np.toNat) (sz := 1) (.s (.s (.s (.s .z)))) (by simp [freshC, freshSt]) (ints_one _ _)
      replace hs := hs.sl_nil 1 none
      simp only [put] at hs
      replace hs := Sat.front hs (e := slE _ _ _ 1 (bools _)) (by (repeat (first | exact At.z | apply At.s)))
      replace hs := Sat.front hs (e := slE _ _ _ 1 (ints .i64 _)) (by (repeat (first | exact At.z | apply At.s)))
      replace hs := Sat.front hs (e := matE 32 _ _) (by (repeat (first | exact At.z | apply At.s)))
      replace hs := Sat.front hs (e := blk _ [_, _, _, _, _, _, _, _, _, _, _, _, _, _]) (by (repeat (first | exact At.z | apply At.s)))
      simp only [del] at hs
      exact hs.sub (by (repeat (first | exact List.Sublist.refl _ | apply List.Sublist.cons_cons | apply List.Sublist.cons)))
  repeat' (first | refine ⟨_, Sat.ld hs (by (repeat (first | exact At.z | apply At.s))) (by rfl), ?_⟩ | (intro _ _ hn; replace hs := Sat.new hs hn; clear hn) | refine ⟨Sat.cs hs (by (repeat (first | exact At.z | apply At.s))) (by rfl), ?_⟩ | (refine ⟨Sat.can hs (by (repeat (first | exact At.z | apply At.s))) (by simp), ?_⟩; intro _ e; replace hs := Sat.wr hs (by (repeat (first | exact At.z | apply At.s))) e; clear e; simp only [put, splice, List.set] at hs) | refine ⟨by omega, ?_⟩ | (refine pages_sp c hm hs ?_; intro _ hs) | (refine fuses_sp c hm hs ?_; intro _ hs) | refine And.intro ?_ ?_)
  all_goals
    replace hs := Sat.front hs (e := blk _ [Value.slice none 0 0, Value.slice (some ⟨_, 0, none⟩) _ _, Value.slice (some ⟨_, 0, none⟩) _ _]) (by (repeat (first | exact At.z | apply At.s)))
    replace hs := Sat.front hs (e := blk _ (List.replicate c.np.toNat [Value.int .i64 0]).flatten) (by (repeat (first | exact At.z | apply At.s)))
    replace hs := Sat.front hs (e := blk _ (List.replicate c.nf.toNat [Value.bool false]).flatten) (by (repeat (first | exact At.z | apply At.s)))
    replace hs := Sat.front hs (e := blk _ c.vals) (by (repeat (first | exact At.z | apply At.s)))
    exact fin _ _ _ _ hs
end Go.Proofs.Ytamfkofcpoglnaa
