/- Contract of chip.Lay. Own work. -/
import Derived.Test.YtamfkofcpoglnaaFa0
import Derived.Test.YtamfkofcpoglnaaFa1
import Derived.Test.YtamfkofcpoglnaaFa5
import Derived.Test.YtamfkofcpoglnaaCh7
set_option autoImplicit false
set_option linter.all false
set_option linter.unusedVariables false
namespace Go.Proofs.Ytamfkofcpoglnaa
open Go Go.Vc

structure St.lays (c : Cfg) (s : St) : Prop where
  fits : s.fits c
  pos : ∀ n, n ∈ s.erases → 0 ≤ n
def layC (c : Cfg) (s : St) : Cm := ⟨c, s, 0, false, -1, []⟩
theorem layC_ok {c : Cfg} {s : St} (m : c.may) (f : s.lays c) (t : s.typed) : (layC c s).ok :=
  ⟨m, f.fits, t, by simp [layC], by simp [layC], by intro n hn; simp [layC] at hn, by simp [layC], by simp [layC]⟩

section
variable {h0 h : H} {A : List Ent} {i p : Nat} {C : Cm}
theorem contains_neg {p : Option Addr} {l c : Nat} {ns : List Int} {Q : Bool → H → Prop} (hs : Sat h0 A h) (rd : hsv h p 1 l (ints .i64 ns)) (hl : l < 2 ^ 62) (k : Q (ns.any fun n => decide (n < 0)) h) :
    F_slices_ContainsFunc_int_int p l c (.func (.func id_chip_Lay_2) #[] #[]) Q h := by
  unfold F_slices_ContainsFunc_int_int G_slices_ContainsFunc_int_int F_slices_IndexFunc_int_int G_slices_IndexFunc_int_int
  intro J hJ
  have hlen : ns.length = l := by have := rd.1; simpa using this
  refine loop_up l (fun i h' => h' = h ∧ ∀ j (hj : j < ns.length), j < i → 0 ≤ ns[j]) ?_ ?_ 0 _ (by omega) ⟨rfl, fun j _ hj => by omega⟩
  · rintro i h' hi ⟨rfl, hb⟩ hk
    apply hJ
    rw [ltI_eq, if_pos (by simp; omega)]
    have hin : i < ns.length := by omega
    obtain ⟨q, hq, g⟩ := hsv_get rd (i := i) (v := .int .i64 ns[i]) (by rw [ints_get, List.getElem?_eq_getElem hin]; rfl)
    refine ⟨q, hq, by omega, by omega, _, by simpa using g, ?_⟩
    refine callFn_of R_chip_Lay_2 (by simp) (by simp) (by simp [DV.ok]) ?_
    show F_chip_Lay_2 ns[i] _ h'
    unfold F_chip_Lay_2 G_chip_Lay_2
    refine ⟨_, _, rfl, _, rfl, rfl, ?_⟩
    rw [ltI_eq]
    by_cases hn : ns[i] < 0
    · rw [if_pos (by simpa using hn)]
      have : (ns.any fun n => decide (n < 0)) = true := by rw [List.any_eq_true]; exact ⟨_, List.getElem_mem hin, by simpa using hn⟩
      rw [this] at k
      simpa using k
    · rw [if_neg (by simpa using hn), wrap_succ (by omega)]
      refine hk _ ⟨rfl, fun j hj hji => ?_⟩
      by_cases e : j = i
      · subst e; omega
      · exact hb j hj (by omega)
  · rintro h' ⟨rfl, hb⟩
    apply hJ
    rw [ltI_eq, if_neg (by simp)]
    have : (ns.any fun n => decide (n < 0)) = false := by
      rw [List.any_eq_false]
      intro n hn
      obtain ⟨j, hj, rfl⟩ := List.mem_iff_getElem.1 hn
      have := hb j hj (by omega)
      simp; omega
    rw [this] at k
    simpa using k
theorem contains_len {a : Sl} {rows : List (List Int)} {Q : Bool → H → Prop} {b : Nat} {c : Cfg} (hs : Sat h0 A h) (m : At A i (blk b [.int .i64 c.cells, .int .i64 c.slots, .int .i64 c.fuses, .int .i64 c.step, .int .i64 c.keys, .int .i64 c.erases, .int .i64 c.area])) (rd : RdM h 32 a rows) (hl : a.2.1 < 2 ^ 62)
    (k : Q (rows.any fun r => decide ((r.length : Int) ≠ 32 * c.cells)) h) :
    F_slices_ContainsFunc_api_Cell_api_Cell a.1 a.2.1 a.2.2 (.func (.func id_chip_Lay_1) #[] #[.pointer (some ⟨b, 0, none⟩)]) Q h := by
  unfold F_slices_ContainsFunc_api_Cell_api_Cell G_slices_ContainsFunc_api_Cell_api_Cell F_slices_IndexFunc_api_Cell_api_Cell G_slices_IndexFunc_api_Cell_api_Cell
  intro J hJ
  have hlen := rd.len
  refine loop_up a.2.1 (fun i h' => h' = h ∧ ∀ j (hj : j < rows.length), j < i → (rows[j].length : Int) = 32 * c.cells) ?_ ?_ 0 _ (by omega) ⟨rfl, fun j _ hj => by omega⟩
  · rintro i h' hi ⟨rfl, hb⟩ hk
    apply hJ
    rw [ltI_eq, if_pos (by simp; omega)]
    have hin : i < rows.length := by omega
    obtain ⟨q, x, hq, g, e⟩ := rd.at hin
    have hx : rows[i].length = x.2.1 * 32 := by have := e.1; simpa using this
    refine ⟨q, hq, by omega, by omega, _, _, _, by simpa using g, ?_⟩
    refine callFn_of R_chip_Lay_1 (by simp) (by simp) (by simp [DV.ok]) ?_
    show F_chip_Lay_1 x.1 x.2.1 x.2.2 ⟨b, 0, none⟩ _ h'
    unfold F_chip_Lay_1 G_chip_Lay_1
    refine ⟨_, hs.ld m rfl, ?_⟩
    refine ⟨_, _, rfl, _, rfl, rfl, ?_⟩
    by_cases hn : (rows[i].length : Int) = 32 * c.cells
    · rw [if_neg (by simp; omega), wrap_succ (by omega)]
      refine hk _ ⟨rfl, fun j hj hji => ?_⟩
      by_cases e : j = i
      · subst e; omega
      · exact hb j hj (by omega)
    · rw [if_pos (by simp; omega)]
      have : (rows.any fun r => decide ((r.length : Int) ≠ 32 * c.cells)) = true := by rw [List.any_eq_true]; exact ⟨_, List.getElem_mem hin, by simpa using hn⟩
      rw [this] at k
      simpa using k
  · rintro h' ⟨rfl, hb⟩
    apply hJ
    rw [ltI_eq, if_neg (by simp)]
    have : (rows.any fun r => decide ((r.length : Int) ≠ 32 * c.cells)) = false := by
      rw [List.any_eq_false]
      intro n hn
      obtain ⟨j, hj, rfl⟩ := List.mem_iff_getElem.1 hn
      have := hb j hj (by omega)
      simp; omega
    rw [this] at k
    simpa using k
theorem Lay_sp {a b c' : Sl} {s : St} (c : Cfg) {Q : Option Addr → Int → H → Prop} (hs : Sat h0 A h) (rd : ∀ h', Sat h0 A h' → RdS h' a b c' s) (ty : s.typed)
    (k1 : ¬ c.may → ∀ h', Sat h0 A h' → Q none 1 h') (k2 : c.may → ¬ s.lays c → ∀ h', Sat h0 A h' → Q none 5 h')
    (k3 : c.may → s.lays c → ∀ p h', Sat h0 (chipE p (layC c s) :: A) h' → Q (some ⟨p, 0, none⟩) 0 h') :
    F_chip_Lay c.cells c.slots c.fuses c.step c.keys c.erases c.area a.1 a.2.1 a.2.2 b.1 b.2.1 b.2.2 c'.1 c'.2.1 c'.2.2 Q h := by
  unfold F_chip_Lay G_chip_Lay
  simp only [add_mk, Nat.zero_add]
  intro n1 _ hn; replace hs := Sat.new hs hn; clear hn
  intro n2 _ hn; replace hs := Sat.new hs hn; clear hn
  (repeat first | refine ⟨_, Sat.ld hs (by (repeat (first | exact At.z | apply At.s))) (by rfl), ?_⟩ | refine ⟨_, _, _, Sat.ld hs (by (repeat (first | exact At.z | apply At.s))) (by rfl), ?_⟩ | (intro _ _ hn; replace hs := Sat.new hs hn; clear hn) | refine ⟨Sat.cs hs (by (repeat (first | exact At.z | apply At.s))) (by rfl), ?_⟩ | (refine ⟨Sat.can hs (by (repeat (first | exact At.z | apply At.s))) (by simp), ?_⟩; intro _ e; replace hs := Sat.wr hs (by (repeat (first | exact At.z | apply At.s))) e; clear e; simp only [put, splice, List.set] at hs))
  refine May_sp c hs ?_
  intro h1 hs
  unfold Cfg.may?
  by_cases hm : c.may
  case neg =>
    rw [if_neg hm, if_pos (by decide)]
    exact k1 hm _ hs.drop.drop
  rw [if_pos hm, if_neg (by decide)]
  have hnp := hm.np
  have hnf := hm.nf
  intro J hJ
  have rd0 := rd _ hs.drop.drop
  have l1 := rd0.pg.len
  have l2 : s.erases.length = b.2.1 := by have := rd0.er.1; simpa using this
  have l3 : s.blown.length = c'.2.1 := by have := rd0.bl.1; simpa using this
  have bad : ¬ s.lays c → ∀ h', Sat h0 (blk n2 [a.v, b.v, c'.v] :: blk n1 [.int .i64 c.cells, .int .i64 c.slots, .int .i64 c.fuses, .int .i64 c.step, .int .i64 c.keys, .int .i64 c.erases, .int .i64 c.area] :: A) h' → J [SV.dv (DV.one (.bool true))] h' := by
    intro nf h' hs
    apply hJ
    rw [if_pos rfl]
    exact k2 hm nf _ hs.drop.drop
  (repeat first | refine ⟨_, Sat.ld hs (by (repeat (first | exact At.z | apply At.s))) (by rfl), ?_⟩ | refine ⟨_, _, _, Sat.ld hs (by (repeat (first | exact At.z | apply At.s))) (by rfl), ?_⟩ | (intro _ _ hn; replace hs := Sat.new hs hn; clear hn) | refine ⟨Sat.cs hs (by (repeat (first | exact At.z | apply At.s))) (by rfl), ?_⟩ | (refine ⟨Sat.can hs (by (repeat (first | exact At.z | apply At.s))) (by simp), ?_⟩; intro _ e; replace hs := Sat.wr hs (by (repeat (first | exact At.z | apply At.s))) e; clear e; simp only [put, splice, List.set] at hs))
  refine pages_sp c hm hs ?_
  intro h2 hs
  refine ⟨Sat.cs hs (by (repeat (first | exact At.z | apply At.s))) (by rfl), ?_⟩
  by_cases e1 : (s.pages.length : Int) = c.np
  case neg =>
    rw [if_pos (by simp; omega)]
    exact bad (fun f => e1 f.fits.pages) _ hs
  rw [if_neg (by simp; omega)]
  (repeat first | refine ⟨_, Sat.ld hs (by (repeat (first | exact At.z | apply At.s))) (by rfl), ?_⟩ | refine ⟨_, _, _, Sat.ld hs (by (repeat (first | exact At.z | apply At.s))) (by rfl), ?_⟩ | (intro _ _ hn; replace hs := Sat.new hs hn; clear hn) | refine ⟨Sat.cs hs (by (repeat (first | exact At.z | apply At.s))) (by rfl), ?_⟩ | (refine ⟨Sat.can hs (by (repeat (first | exact At.z | apply At.s))) (by simp), ?_⟩; intro _ e; replace hs := Sat.wr hs (by (repeat (first | exact At.z | apply At.s))) e; clear e; simp only [put, splice, List.set] at hs))
  refine pages_sp c hm hs ?_
  intro h3 hs
  refine ⟨Sat.cs hs (by (repeat (first | exact At.z | apply At.s))) (by rfl), ?_⟩
  by_cases e2 : (s.erases.length : Int) = c.np
  case neg =>
    rw [if_pos (by simp; omega)]
    exact bad (fun f => e2 f.fits.erases) _ hs
  rw [if_neg (by simp; omega)]
  (repeat first | refine ⟨_, Sat.ld hs (by (repeat (first | exact At.z | apply At.s))) (by rfl), ?_⟩ | refine ⟨_, _, _, Sat.ld hs (by (repeat (first | exact At.z | apply At.s))) (by rfl), ?_⟩ | (intro _ _ hn; replace hs := Sat.new hs hn; clear hn) | refine ⟨Sat.cs hs (by (repeat (first | exact At.z | apply At.s))) (by rfl), ?_⟩ | (refine ⟨Sat.can hs (by (repeat (first | exact At.z | apply At.s))) (by simp), ?_⟩; intro _ e; replace hs := Sat.wr hs (by (repeat (first | exact At.z | apply At.s))) e; clear e; simp only [put, splice, List.set] at hs))
  refine fuses_sp c hm hs ?_
  intro h4 hs
  refine ⟨Sat.cs hs (by (repeat (first | exact At.z | apply At.s))) (by rfl), ?_⟩
  by_cases e3 : (s.blown.length : Int) = c.nf
  case neg =>
    rw [if_pos (by simp; omega)]
    exact bad (fun f => e3 f.fits.blown) _ hs
  rw [if_neg (by simp; omega)]
  refine ⟨_, _, _, Sat.ld hs (by (repeat (first | exact At.z | apply At.s))) (by rfl), ?_⟩
  refine contains_len (i := 1) (c := c) hs (.s .z) (rd _ hs.drop.drop).pg (by omega) ?_
  by_cases e4 : ∀ l, l ∈ s.pages → (l.length : Int) = 32 * c.cells
  case neg =>
    rw [if_pos (by
      rw [List.any_eq_true]
      have ⟨l, h5⟩ := Classical.not_forall.1 e4
      have ⟨h6, h7⟩ := Classical.not_imp.1 h5
      exact ⟨l, h6, by simpa using h7⟩)]
    exact bad (fun f => e4 f.fits.cells) _ hs
  rw [if_neg (by
    intro h5
    obtain ⟨l, h6, h7⟩ := List.any_eq_true.1 h5
    have := e4 l h6
    simp at h7; omega)]
  refine ⟨_, _, _, Sat.ld hs (by (repeat (first | exact At.z | apply At.s))) (by rfl), ?_⟩
  refine contains_neg hs (rd _ hs.drop.drop).er (by omega) ?_
  by_cases e5 : ∀ n, n ∈ s.erases → 0 ≤ n
  case neg =>
    have : (s.erases.any fun n => decide (n < 0)) = true := by
      rw [List.any_eq_true]
      have ⟨l, h5⟩ := Classical.not_forall.1 e5
      have ⟨h6, h7⟩ := Classical.not_imp.1 h5
      exact ⟨l, h6, by simp; omega⟩
    rw [this]
    exact bad (fun f => e5 f.pos) _ hs
  have : (s.erases.any fun n => decide (n < 0)) = false := by
    rw [List.any_eq_false]
    intro n hn
    have := e5 n hn
    simp; omega
  rw [this]
  have ly : s.lays c := ⟨⟨e1, e4, e2, e3⟩, e5⟩
  have ok := layC_ok hm ly ty
  apply hJ
  rw [if_neg (by simp)]
  (repeat first | refine ⟨_, Sat.ld hs (by (repeat (first | exact At.z | apply At.s))) (by rfl), ?_⟩ | refine ⟨_, _, _, Sat.ld hs (by (repeat (first | exact At.z | apply At.s))) (by rfl), ?_⟩ | (intro _ _ hn; replace hs := Sat.new hs hn; clear hn) | refine ⟨Sat.cs hs (by (repeat (first | exact At.z | apply At.s))) (by rfl), ?_⟩ | (refine ⟨Sat.can hs (by (repeat (first | exact At.z | apply At.s))) (by simp), ?_⟩; intro _ e; replace hs := Sat.wr hs (by (repeat (first | exact At.z | apply At.s))) e; clear e; simp only [put, splice, List.set] at hs))
  refine copied_sp (a := a) (b := b) (c := c') (s := s) hs (fun h' hs' => rd _ hs'.drop.drop) ok.small ?_
  intro a2 b2 c2 h5 hs
  replace hs : Sat h0 (matE 32 a2 s.pages :: sE b2 1 (ints .i64 s.erases) :: sE c2 1 (bools s.blown) :: blk n2 [a.v, b.v, c'.v] :: blk n1 [.int .i64 c.cells, .int .i64 c.slots, .int .i64 c.fuses, .int .i64 c.step, .int .i64 c.keys, .int .i64 c.erases, .int .i64 c.area] :: A) h5 := hs
  (repeat first | refine ⟨_, Sat.ld hs (by (repeat (first | exact At.z | apply At.s))) (by rfl), ?_⟩ | refine ⟨_, _, _, Sat.ld hs (by (repeat (first | exact At.z | apply At.s))) (by rfl), ?_⟩ | (intro _ _ hn; replace hs := Sat.new hs hn; clear hn) | refine ⟨Sat.cs hs (by (repeat (first | exact At.z | apply At.s))) (by rfl), ?_⟩ | (refine ⟨Sat.can hs (by (repeat (first | exact At.z | apply At.s))) (by simp), ?_⟩; intro _ e; replace hs := Sat.wr hs (by (repeat (first | exact At.z | apply At.s))) e; clear e; simp only [put, splice, List.set] at hs))
  refine k3 hm ly _ _ ?_
  replace hs := hs.sl_nil 1 none
  replace hs := Sat.front hs (e := slE _ _ _ 1 (bools _)) (by (repeat (first | exact At.z | apply At.s)))
  replace hs := Sat.front hs (e := slE _ _ _ 1 (ints .i64 _)) (by (repeat (first | exact At.z | apply At.s)))
  replace hs := Sat.front hs (e := matE 32 _ _) (by (repeat (first | exact At.z | apply At.s)))
  replace hs := Sat.front hs (e := blk _ [_, _, _, _, _, _, _, _, _, _, _, _, _, _]) (by (repeat (first | exact At.z | apply At.s)))
  simp only [del] at hs
  exact (chip_make (C := layC c s) (a := a2) (b := b2) (c := c2) (m := (none, 0, 0)) ok hs).sub (by (repeat (first | exact List.Sublist.refl _ | apply List.Sublist.cons_cons | apply List.Sublist.cons)))
end
end Go.Proofs.Ytamfkofcpoglnaa
