/- TokenChecks: what is proved and its parts, laid together by a program of ours: Ch8 Rf3 Rf4 Rf8 La2 La5 Fu3 Fu4 -/
import Derived.Test.YtaglicdidpgkpaaGreatDoorK12
set_option autoImplicit false
set_option linter.all false
/- Contract of chip.Lay. Own work. -/
section
set_option linter.unusedVariables false
namespace Go.Proofs.YtaglicdidpgkpaaGreatDoor
open Go Go.Vc

structure St.lays (c : Cfg) (s : St) : Prop where
 fits : s.fits c
 pos : ∀ n, n ∈ s.erases → 0 ≤ n
def layC (c : Cfg) (s : St) : Cm := ⟨c, s, 0, false, -1, []⟩
theorem layC_ok {c : Cfg} {s : St} (m : c.may) (f : s.lays c) (t : s.typed) : (layC c s).ok :=
 ⟨m, f.fits, t, by simp [layC], by simp [layC], by intro n hn; simp [layC] at hn, by simp [layC], by simp [layC]⟩

section
variable {h0 h : H} {A : List Ent} {i p : Nat} {C : Cm}
theorem contains_neg {p : Option Addr} {l c : Nat} {ns : List Int} {Q : Bool → H → Prop} (hs : Sat h0 A h) (rd : hsv h p 1 l (ints .i64 ns)) (hl : l < 2 ^ 62) (k : Q (ns.any fun n => decide (n < 0)) h) :
  F_slices_ContainsFunc_int_int p l c (.func (.func id_chip_Lay_2) #[] #[]) Q h := by
 unfold F_slices_ContainsFunc_int_int G_slices_ContainsFunc_int_int F_slices_IndexFunc_int_int G_slices_IndexFunc_int_int
 intro J hJ
 have hlen : ns.length = l := by have := rd.1; simpa using this
 refine loop_up l (fun i h' => h' = h ∧ ∀ j (hj : j < ns.length), j < i → 0 ≤ ns[j]) ?_ ?_ 0 _ (by omega) ⟨rfl, fun j _ hj => by omega⟩
 ·rintro i h' hi ⟨rfl, hb⟩ hk
  apply hJ
  rw [ltI_eq, if_pos (by simp; omega)]
  have hin : i < ns.length := by omega
  obtain ⟨q, hq, g⟩ := hsv_get rd (i := i) (v := .int .i64 ns[i]) (by rw [ints_get, List.getElem?_eq_getElem hin]; rfl)
  refine ⟨q, hq, by omega, by omega, _, by simpa using g, ?_⟩
  refine callFn_of R_chip_Lay_2 (by simp) (by simp) (by simp [DV.ok]) ?_
  show F_chip_Lay_2 ns[i] _ h'
  unfold F_chip_Lay_2 G_chip_Lay_2
  refine ⟨_, _, rfl, _, rfl, rfl, ?_⟩
  rw [ltI_eq]
  by_cases hn : ns[i] < 0
  ·rw [if_pos (by simpa using hn)]
   have : (ns.any fun n => decide (n < 0)) = true := by rw [List.any_eq_true]; exact ⟨_, List.getElem_mem hin, by simpa using hn⟩
   rw [this] at k
   simpa using k
  ·rw [if_neg (by simpa using hn), wrap_succ (by omega)]
   refine hk _ ⟨rfl, fun j hj hji => ?_⟩
   by_cases e : j = i
   ·subst e; omega
   ·exact hb j hj (by omega)
 ·rintro h' ⟨rfl, hb⟩
  apply hJ
  rw [ltI_eq, if_neg (by simp)]
  have : (ns.any fun n => decide (n < 0)) = false := by
   rw [List.any_eq_false]
   intro n hn
   obtain ⟨j, hj, rfl⟩ := List.mem_iff_getElem.1 hn
   have := hb j hj (by omega)
   simp; omega
  rw [this] at k
  simpa using k
theorem contains_len {a : Sl} {rows : List (List Int)} {Q : Bool → H → Prop} {b : Nat} {c : Cfg} (hs : Sat h0 A h) (m : At A i (blk b [.int .i64 c.cells, .int .i64 c.slots, .int .i64 c.fuses, .int .i64 c.step, .int .i64 c.keys, .int .i64 c.erases, .int .i64 c.area])) (rd : RdM h 32 a rows) (hl : a.2.1 < 2 ^ 62)
  (k : Q (rows.any fun r => decide ((r.length : Int) ≠ 32 * c.cells)) h) :
  F_slices_ContainsFunc_api_Cell_api_Cell a.1 a.2.1 a.2.2 (.func (.func id_chip_Lay_1) #[] #[.pointer (some ⟨b, 0, none⟩)]) Q h := by
 unfold F_slices_ContainsFunc_api_Cell_api_Cell G_slices_ContainsFunc_api_Cell_api_Cell F_slices_IndexFunc_api_Cell_api_Cell G_slices_IndexFunc_api_Cell_api_Cell
 intro J hJ
 have hlen := rd.len
 refine loop_up a.2.1 (fun i h' => h' = h ∧ ∀ j (hj : j < rows.length), j < i → (rows[j].length : Int) = 32 * c.cells) ?_ ?_ 0 _ (by omega) ⟨rfl, fun j _ hj => by omega⟩
 ·rintro i h' hi ⟨rfl, hb⟩ hk
  apply hJ
  rw [ltI_eq, if_pos (by simp; omega)]
  have hin : i < rows.length := by omega
  obtain ⟨q, x, hq, g, e⟩ := rd.at hin
  have hx : rows[i].length = x.2.1 * 32 := by have := e.1; simpa using this
  refine ⟨q, hq, by omega, by omega, _, _, _, by simpa using g, ?_⟩
  refine callFn_of R_chip_Lay_1 (by simp) (by simp) (by simp [DV.ok]) ?_
  show F_chip_Lay_1 x.1 x.2.1 x.2.2 ⟨b, 0, none⟩ _ h'
  unfold F_chip_Lay_1 G_chip_Lay_1
  refine ⟨_, hs.ld m rfl, ?_⟩
  refine ⟨_, _, rfl, _, rfl, rfl, ?_⟩
  by_cases hn : (rows[i].length : Int) = 32 * c.cells
  ·rw [if_neg (by simp; omega), wrap_succ (by omega)]
   refine hk _ ⟨rfl, fun j hj hji => ?_⟩
   by_cases e : j = i
   ·subst e; omega
   ·exact hb j hj (by omega)
  ·rw [if_pos (by simp; omega)]
   have : (rows.any fun r => decide ((r.length : Int) ≠ 32 * c.cells)) = true := by rw [List.any_eq_true]; exact ⟨_, List.getElem_mem hin, by simpa using hn⟩
   rw [this] at k
   simpa using k
 ·rintro h' ⟨rfl, hb⟩
  apply hJ
  rw [ltI_eq, if_neg (by simp)]
  have : (rows.any fun r => decide ((r.length : Int) ≠ 32 * c.cells)) = false := by
   rw [List.any_eq_false]
   intro n hn
   obtain ⟨j, hj, rfl⟩ := List.mem_iff_getElem.1 hn
   have := hb j hj (by omega)
   simp; omega
  rw [this] at k
  simpa using k
theorem Lay_sp {a b c' : Sl} {s : St} (c : Cfg) {Q : Option Addr → Int → H → Prop} (hs : Sat h0 A h) (rd : ∀ h', Sat h0 A h' → RdS h' a b c' s) (ty : s.typed)
  (k1 : ¬ c.may → ∀ h', Sat h0 A h' → Q none 1 h') (k2 : c.may → ¬ s.lays c → ∀ h', Sat h0 A h' → Q none 5 h')
  (k3 : c.may → s.lays c → ∀ p h', Sat h0 (chipE p (layC c s) :: A) h' → Q (some ⟨p, 0, none⟩) 0 h') :
  F_chip_Lay c.cells c.slots c.fuses c.step c.keys c.erases c.area a.1 a.2.1 a.2.2 b.1 b.2.1 b.2.2 c'.1 c'.2.1 c'.2.2 Q h := by
 unfold F_chip_Lay G_chip_Lay
 try simp only [add_mk, Nat.zero_add]
 intro n1 _ hn; replace hs := Sat.new hs hn; clear hn
 intro n2 _ hn; replace hs := Sat.new hs hn; clear hn
 (repeat first | refine ⟨_, Sat.ld hs (by (repeat (first | exact At.z | apply At.s))) (by rfl), ?_⟩ | refine ⟨_, _, _, Sat.ld hs (by (repeat (first | exact At.z | apply At.s))) (by rfl), ?_⟩ | (intro _ _ hn; replace hs := Sat.new hs hn; clear hn) | refine ⟨Sat.cs hs (by (repeat (first | exact At.z | apply At.s))) (by rfl), ?_⟩ | (refine ⟨Sat.can hs (by (repeat (first | exact At.z | apply At.s))) (by simp), ?_⟩; intro _ e; replace hs := Sat.wr hs (by (repeat (first | exact At.z | apply At.s))) e; clear e; simp only [put, splice, List.set] at hs))
 refine May_sp c hs ?_
 intro h1 hs
 unfold Cfg.may?
 by_cases hm : c.may
 case neg =>
  rw [if_neg hm, if_pos (by decide)]
  exact k1 hm _ hs.drop.drop
 rw [if_pos hm, if_neg (by decide)]
 have hnp := hm.np
 have hnf := hm.nf
 intro J hJ
 have rd0 := rd _ hs.drop.drop
 have l1 := rd0.pg.len
 have l2 : s.erases.length = b.2.1 := by have := rd0.er.1; simpa using this
 have l3 : s.blown.length = c'.2.1 := by have := rd0.bl.1; simpa using this
 have bad : ¬ s.lays c → ∀ h', Sat h0 (blk n2 [a.v, b.v, c'.v] :: blk n1 [.int .i64 c.cells, .int .i64 c.slots, .int .i64 c.fuses, .int .i64 c.step, .int .i64 c.keys, .int .i64 c.erases, .int .i64 c.area] :: A) h' → J [SV.dv (DV.one (.bool true))] h' := by
  intro nf h' hs
  apply hJ
  rw [if_pos rfl]
  exact k2 hm nf _ hs.drop.drop
 (repeat first | refine ⟨_, Sat.ld hs (by (repeat (first | exact At.z | apply At.s))) (by rfl), ?_⟩ | refine ⟨_, _, _, Sat.ld hs (by (repeat (first | exact At.z | apply At.s))) (by rfl), ?_⟩ | (intro _ _ hn; replace hs := Sat.new hs hn; clear hn) | refine ⟨Sat.cs hs (by (repeat (first | exact At.z | apply At.s))) (by rfl), ?_⟩ | (refine ⟨Sat.can hs (by (repeat (first | exact At.z | apply At.s))) (by simp), ?_⟩; intro _ e; replace hs := Sat.wr hs (by (repeat (first | exact At.z | apply At.s))) e; clear e; simp only [put, splice, List.set] at hs))
 refine pages_sp c hm hs ?_
 intro h2 hs
 refine ⟨Sat.cs hs (by (repeat (first | exact At.z | apply At.s))) (by rfl), ?_⟩
 by_cases e1 : (s.pages.length : Int) = c.np
 case neg =>
  rw [if_pos (by simp; omega)]
  exact bad (fun f => e1 f.fits.pages) _ hs
 rw [if_neg (by simp; omega)]
 (repeat first | refine ⟨_, Sat.ld hs (by (repeat (first | exact At.z | apply At.s))) (by rfl), ?_⟩ | refine ⟨_, _, _, Sat.ld hs (by (repeat (first | exact At.z | apply At.s))) (by rfl), ?_⟩ | (intro _ _ hn; replace hs := Sat.new hs hn; clear hn) | refine ⟨Sat.cs hs (by (repeat (first | exact At.z | apply At.s))) (by rfl), ?_⟩ | (refine ⟨Sat.can hs (by (repeat (first | exact At.z | apply At.s))) (by simp), ?_⟩; intro _ e; replace hs := Sat.wr hs (by (repeat (first | exact At.z | apply At.s))) e; clear e; simp only [put, splice, List.set] at hs))
 refine pages_sp c hm hs ?_
 intro h3 hs
 refine ⟨Sat.cs hs (by (repeat (first | exact At.z | apply At.s))) (by rfl), ?_⟩
 by_cases e2 : (s.erases.length : Int) = c.np
 case neg =>
  rw [if_pos (by simp; omega)]
  exact bad (fun f => e2 f.fits.erases) _ hs
 rw [if_neg (by simp; omega)]
 (repeat first | refine ⟨_, Sat.ld hs (by (repeat (first | exact At.z | apply At.s))) (by rfl), ?_⟩ | refine ⟨_, _, _, Sat.ld hs (by (repeat (first | exact At.z | apply At.s))) (by rfl), ?_⟩ | (intro _ _ hn; replace hs := Sat.new hs hn; clear hn) | refine ⟨Sat.cs hs (by (repeat (first | exact At.z | apply At.s))) (by rfl), ?_⟩ | (refine ⟨Sat.can hs (by (repeat (first | exact At.z | apply At.s))) (by simp), ?_⟩; intro _ e; replace hs := Sat.wr hs (by (repeat (first | exact At.z | apply At.s))) e; clear e; simp only [put, splice, List.set] at hs))
 refine fuses_sp c hm hs ?_
 intro h4 hs
 refine ⟨Sat.cs hs (by (repeat (first | exact At.z | apply At.s))) (by rfl), ?_⟩
 by_cases e3 : (s.blown.length : Int) = c.nf
 case neg =>
  rw [if_pos (by simp; omega)]
  exact bad (fun f => e3 f.fits.blown) _ hs
 rw [if_neg (by simp; omega)]
 refine ⟨_, _, _, Sat.ld hs (by (repeat (first | exact At.z | apply At.s))) (by rfl), ?_⟩
 refine contains_len (i := 1) (c := c) hs (.s .z) (rd _ hs.drop.drop).pg (by omega) ?_
 by_cases e4 : ∀ l, l ∈ s.pages → (l.length : Int) = 32 * c.cells
 case neg =>
  rw [if_pos (by
   rw [List.any_eq_true]
   have ⟨l, h5⟩ := Classical.not_forall.1 e4
   have ⟨h6, h7⟩ := Classical.not_imp.1 h5
   exact ⟨l, h6, by simpa using h7⟩)]
  exact bad (fun f => e4 f.fits.cells) _ hs
 rw [if_neg (by
  intro h5
  obtain ⟨l, h6, h7⟩ := List.any_eq_true.1 h5
  have := e4 l h6
  simp at h7; omega)]
 refine ⟨_, _, _, Sat.ld hs (by (repeat (first | exact At.z | apply At.s))) (by rfl), ?_⟩
 refine contains_neg hs (rd _ hs.drop.drop).er (by omega) ?_
 by_cases e5 : ∀ n, n ∈ s.erases → 0 ≤ n
 case neg =>
  have : (s.erases.any fun n => decide (n < 0)) = true := by
   rw [List.any_eq_true]
   have ⟨l, h5⟩ := Classical.not_forall.1 e5
   have ⟨h6, h7⟩ := Classical.not_imp.1 h5
   exact ⟨l, h6, by simp; omega⟩
  rw [this]
  exact bad (fun f => e5 f.pos) _ hs
 have : (s.erases.any fun n => decide (n < 0)) = false := by
  rw [List.any_eq_false]
  intro n hn
  have := e5 n hn
  simp; omega
 rw [this]
 have ly : s.lays c := ⟨⟨e1, e4, e2, e3⟩, e5⟩
 have ok := layC_ok hm ly ty
 apply hJ
 rw [if_neg (by simp)]
 (repeat first | refine ⟨_, Sat.ld hs (by (repeat (first | exact At.z | apply At.s))) (by rfl), ?_⟩ | refine ⟨_, _, _, Sat.ld hs (by (repeat (first | exact At.z | apply At.s))) (by rfl), ?_⟩ | (intro _ _ hn; replace hs := Sat.new hs hn; clear hn) | refine ⟨Sat.cs hs (by (repeat (first | exact At.z | apply At.s))) (by rfl), ?_⟩ | (refine ⟨Sat.can hs (by (repeat (first | exact At.z | apply At.s))) (by simp), ?_⟩; intro _ e; replace hs := Sat.wr hs (by (repeat (first | exact At.z | apply At.s))) e; clear e; simp only [put, splice, List.set] at hs))
 refine copied_sp (a := a) (b := b) (c := c') (s := s) hs (fun h' hs' => rd _ hs'.drop.drop) ok.small ?_
 intro a2 b2 c2 h5 hs
 replace hs : Sat h0 (matE 32 a2 s.pages :: sE b2 1 (ints .i64 s.erases) :: sE c2 1 (bools s.blown) :: blk n2 [a.v, b.v, c'.v] :: blk n1 [.int .i64 c.cells, .int .i64 c.slots, .int .i64 c.fuses, .int .i64 c.step, .int .i64 c.keys, .int .i64 c.erases, .int .i64 c.area] :: A) h5 := hs
 (repeat first | refine ⟨_, Sat.ld hs (by (repeat (first | exact At.z | apply At.s))) (by rfl), ?_⟩ | refine ⟨_, _, _, Sat.ld hs (by (repeat (first | exact At.z | apply At.s))) (by rfl), ?_⟩ | (intro _ _ hn; replace hs := Sat.new hs hn; clear hn) | refine ⟨Sat.cs hs (by (repeat (first | exact At.z | apply At.s))) (by rfl), ?_⟩ | (refine ⟨Sat.can hs (by (repeat (first | exact At.z | apply At.s))) (by simp), ?_⟩; intro _ e; replace hs := Sat.wr hs (by (repeat (first | exact At.z | apply At.s))) e; clear e; simp only [put, splice, List.set] at hs))
 refine k3 hm ly _ _ ?_
 replace hs := hs.sl_nil 1 none
 replace hs := Sat.front hs (e := slE _ _ _ 1 (bools _)) (by (repeat (first | exact At.z | apply At.s)))
 replace hs := Sat.front hs (e := slE _ _ _ 1 (ints .i64 _)) (by (repeat (first | exact At.z | apply At.s)))
 replace hs := Sat.front hs (e := matE 32 _ _) (by (repeat (first | exact At.z | apply At.s)))
 replace hs := Sat.front hs (e := blk _ [_, _, _, _, _, _, _, _, _, _, _, _, _, _]) (by (repeat (first | exact At.z | apply At.s)))
 simp only [del] at hs
 exact (chip_make (C := layC c s) (a := a2) (b := b2) (c := c2) (m := (none, 0, 0)) ok hs).sub (by (repeat (first | exact List.Sublist.refl _ | apply List.Sublist.cons_cons | apply List.Sublist.cons)))
end
end Go.Proofs.YtaglicdidpgkpaaGreatDoor
end

/- Contracts of the document's chip: configs, copies, new ones. Own work. -/
section
set_option linter.unusedVariables false
namespace Go.Proofs.YtaglicdidpgkpaaGreatDoor
open Go Go.Vc

section
variable {h0 h : H} {A : List Ent} {i p : Nat} {C : Cm}
theorem rwithin_iff (n a b : Int) (Q : Bool → H → Prop) (h : H) : F_portcullisref04_within n a b Q h = Q (decide (a ≤ n) && decide (n ≤ b)) h := by
 unfold F_portcullisref04_within G_portcullisref04_within
 by_cases h1 : a ≤ n <;> simp [h1]
theorem rMay_sp (c : Cfg) {Q : Int → H → Prop} (hs : Sat h0 A h) (k : ∀ h', Sat h0 A h' → Q c.may? h') :
  F_portcullisref04_May c.cells c.slots c.fuses c.step c.keys c.erases c.area Q h := by
 unfold F_portcullisref04_May G_portcullisref04_May
 try simp only [add_mk, Nat.zero_add]
 intro n1 h' hn; replace hs := Sat.new hs hn; clear hn
 replace k := k h' hs.drop
 have kb := hs.blkOf .z
 have hc0 := kb.hc
 intro J hJ
 have w3 : 1 ≤ c.slots ∧ c.slots ≤ 8 → IntKind.i64.wrap (c.slots + 3) = c.slots + 3 := by
  intro h1; rw [IntKind.wrap_i64]; omega
 have fin : ∀ r : Bool, (r = true ↔ (1 ≤ c.slots ∧ c.slots ≤ 8) ∧ (c.slots + 3 ≤ c.cells ∧ c.cells ≤ 256) ∧ (1 ≤ c.fuses ∧ c.fuses ≤ 64) ∧ (1 ≤ c.step ∧ c.step ≤ 65536)) → J [SV.dv (DV.one (Value.bool r))] h' := by
  intro r hr
  apply hJ
  simp only [hc0, rwithin_iff, List.getElem?_cons_succ, List.getElem?_cons_zero, Option.some.injEq, Value.int.injEq, true_and, exists_eq_left', Bool.and_eq_true, decide_eq_true_eq]
  have bad : ¬ c.may → Q 1 h' := fun hm => by unfold Cfg.may? at k; rwa [if_neg hm] at k
  have good : c.may → Q 0 h' := fun hm => by unfold Cfg.may? at k; rwa [if_pos hm] at k
  by_cases h4 : 1 ≤ c.keys ∧ c.keys ≤ 64
  case neg => rw [if_neg h4]; split <;> exact bad fun m => h4 m.keys
  rw [if_pos h4]
  by_cases h5 : 0 ≤ c.erases ∧ c.erases ≤ 65536
  case neg => rw [if_neg h5]; split <;> exact bad fun m => h5 m.erases
  rw [if_pos h5]
  cases r with
  | false =>
   have := mt hr.2 (by simp)
   simp only [Bool.not_false, if_true]
   exact bad fun m => this ⟨m.slots, m.cells, m.fuses, m.step⟩
  | true =>
   obtain ⟨a1, a2, a3, a4⟩ := hr.1 rfl
   rw [if_neg (by simp)]
   by_cases h6 : 0 ≤ c.area ∧ c.area ≤ 64
   ·rw [if_neg (by simp; omega)]; exact good ⟨a1, a2, a3, a4, h4, h5, h6⟩
   ·rw [if_pos (by simp; omega)]; exact bad fun m => h6 m.area
 simp only [hc0, rwithin_iff, List.getElem?_cons_succ, List.getElem?_cons_zero, Option.some.injEq, Value.int.injEq, true_and, exists_eq_left', Bool.and_eq_true, decide_eq_true_eq]
 split
 case isFalse h1 => exact fin false (by simp; intro a b; exact absurd ⟨a, b⟩ h1)
 rename_i h1
 rw [w3 h1]
 split
 case isFalse h2 => exact fin false (by simp; intro _ _ a b; exact absurd ⟨a, b⟩ h2)
 rename_i h2
 split
 case isFalse h3 => exact fin false (by simp; intro _ _ _ _ a b; exact absurd ⟨a, b⟩ h3)
 rename_i h3
 refine fin _ ?_
 simp only [Bool.and_eq_true, decide_eq_true_eq]
 exact ⟨fun h4 => ⟨h1, h2, h3, h4⟩, fun m => m.2.2.2⟩

theorem CopyState_sp {a b c : Sl} {s : St} {Q : Option Addr → Nat → Nat → Option Addr → Nat → Nat → Option Addr → Nat → Nat → H → Prop} (hs : Sat h0 A h) (rd : ∀ h', Sat h0 A h' → RdS h' a b c s) (sm : s.small)
  (k : ∀ (a' b' c' : Sl) h', Sat h0 (stL a' b' c' s ++ A) h' → Q a'.1 a'.2.1 a'.2.2 b'.1 b'.2.1 b'.2.2 c'.1 c'.2.1 c'.2.2 h') :
  F_portcullisref04_CopyState a.1 a.2.1 a.2.2 b.1 b.2.1 b.2.2 c.1 c.2.1 c.2.2 Q h := by
 unfold F_portcullisref04_CopyState G_portcullisref04_CopyState
 try simp only [add_mk, Nat.zero_add]
 intro n1 _ hn; replace hs := Sat.new hs hn; clear hn
 intro n2 _ hn; replace hs := Sat.new hs hn; clear hn
 intro J hJ
 have rd0 := rd _ hs.drop.drop
 have l2 : s.erases.length = b.2.1 := by have := rd0.er.1; simpa using this
 have l3 : s.blown.length = c.2.1 := by have := rd0.bl.1; simpa using this
 have s2 := sm.erases
 have s3 := sm.blown
 have fin : ∀ q b2 b3 c2 c3 h', Sat h0 (blk q [.slice none 0 0, .slice b2 b.2.1 b3, .slice c2 c.2.1 c3] :: sE (b2, b.2.1, b3) 1 (ints .i64 s.erases) :: sE (c2, c.2.1, c3) 1 (bools s.blown) ::
   blk n1 [a.v, b.v, c.v] :: blk n2 [.slice none 0 0, .slice none 0 0, .slice none 0 0] :: A) h' → J [SV.dv (DV.addr ⟨q, 0, none⟩)] h' := by
  intro q b2 b3 c2 c3 h' hs
  apply hJ
  intro J2 hJ2
  have hlen := (rd _ hs.drop.drop.drop.drop.drop).pg.len
  replace hs := hs.mat_nil 32 none
  refine loop_up a.2.1 (fun i h => ∃ hd : Sl, hd.2.1 = i ∧ Sat h0 (matE 32 hd (s.pages.take i) :: blk q [hd.v, .slice b2 b.2.1 b3, .slice c2 c.2.1 c3] :: sE (b2, b.2.1, b3) 1 (ints .i64 s.erases) :: sE (c2, c.2.1, c3) 1 (bools s.blown) ::
   blk n1 [a.v, b.v, c.v] :: blk n2 [.slice none 0 0, .slice none 0 0, .slice none 0 0] :: A) h) ?_ ?_ 0 _ (by omega) ⟨_, rfl, hs⟩
  ·rintro i h1 hi ⟨⟨hp, hl, hc⟩, e, hs⟩ hk
   simp only at e; subst e
   apply hJ2
   refine ⟨_, _, _, Sat.ld hs (by (repeat (first | exact At.z | apply At.s))) (by rfl), ?_⟩
   rw [ltI_eq, if_pos (by simp; omega)]
   have hlt : hl < s.pages.length := by omega
   obtain ⟨q', x, e1, e2, e3⟩ := (rd _ hs.drop.drop.drop.drop.drop.drop).pg.at hlt
   refine ⟨_, _, _, Sat.ld hs (by (repeat (first | exact At.z | apply At.s))) (by rfl), ?_⟩
   refine ⟨_, _, _, Sat.ld hs (by (repeat (first | exact At.z | apply At.s))) (by rfl), ?_⟩
   obtain ⟨ap, al, ac⟩ := a
   dsimp only at e1
   subst e1
   refine ⟨_, rfl, by omega, by omega, ?_⟩
   refine ⟨_, _, _, e2, ?_⟩
   intro n36 h37 hn
   have e2' := hcs_one (hc_ext hn.ext e2 (fun x => x))
   have e3' := hsv_ext hn.ext e3 (fun _ _ x => x)
   replace hs := Sat.new hs hn; clear hn
   refine ⟨e2', ?_⟩
   refine ⟨Sat.cs hs (by (repeat (first | exact At.z | apply At.s))) (by rfl), ?_⟩
   refine ⟨Sat.cs hs (by (repeat (first | exact At.z | apply At.s))) (by rfl), ?_⟩
   have hr := sm.rows _ (List.getElem_mem hlt)
   have hx := e3.1
   simp only [ints_length] at hx
   refine ⟨_, e3', Sat.app_new hs e3'.1 (by simp) (ints_one _ _) (by omega) ?_⟩
   intro p' c' h2 hs
   refine ⟨Sat.cs hs (by (repeat (first | exact At.z | apply At.s))) (by rfl), ?_⟩
   (intro _ _ hn; replace hs := Sat.new hs hn; clear hn)
   refine ⟨Sat.cs hs (by (repeat (first | exact At.z | apply At.s))) (by rfl), ?_⟩
   refine ⟨_, Sat.bv hs (.z) (by simp) (by simp), ?_⟩
   replace hs := Sat.front (e := sE (p', x.2.1, c') 32 _) hs (.s .z)
   have hpl := sm.pages
   refine Sat.app_row hs (i := 2) (.s (.s .z)) (by dsimp only; omega) ?_
   intro p2 c2' h4 hs
   simp only [put, del] at hs
   (refine ⟨Sat.can hs (by (repeat (first | exact At.z | apply At.s))) (by simp), ?_⟩; intro _ e; replace hs := Sat.wr hs (by (repeat (first | exact At.z | apply At.s))) e; clear e; simp only [put, splice, List.set] at hs)
   rw [wrap_succ (by omega)]
   refine hk _ ⟨(p2, hl + 1, c2'), rfl, ?_⟩
   rw [List.take_succ_eq_append_getElem hlt]
   exact hs.sub (by (repeat (first | exact List.Sublist.refl _ | apply List.Sublist.cons_cons | apply List.Sublist.cons)))
  ·rintro h1 ⟨⟨hp, hl, hc⟩, e, hs⟩
   simp only at e; subst e
   apply hJ2
   refine ⟨_, _, _, Sat.ld hs (by (repeat (first | exact At.z | apply At.s))) (by rfl), ?_⟩
   rw [ltI_eq, if_neg (by simp)]
   (repeat first | refine ⟨_, Sat.ld hs (by (repeat (first | exact At.z | apply At.s))) (by rfl), ?_⟩ | refine ⟨_, _, _, Sat.ld hs (by (repeat (first | exact At.z | apply At.s))) (by rfl), ?_⟩ | (intro _ _ hn; replace hs := Sat.new hs hn; clear hn) | refine ⟨Sat.cs hs (by (repeat (first | exact At.z | apply At.s))) (by rfl), ?_⟩ | (refine ⟨Sat.can hs (by (repeat (first | exact At.z | apply At.s))) (by simp), ?_⟩; intro _ e; replace hs := Sat.wr hs (by (repeat (first | exact At.z | apply At.s))) e; clear e; simp only [put, splice, List.set] at hs))
   refine k (hp, _, hc) (b2, _, b3) (c2, _, c3) _ ?_
   rw [← hlen, List.take_length] at hs
   replace hs := Sat.front hs (e := blk n2 _) (by (repeat (first | exact At.z | apply At.s)))
   replace hs := Sat.front hs (e := blk n1 _) (by (repeat (first | exact At.z | apply At.s)))
   replace hs := Sat.front hs (e := blk q _) (by (repeat (first | exact At.z | apply At.s)))
   simp only [del] at hs
   have := hs.drop.drop.drop
   rw [hlen] at this
   exact this
 repeat' (first
  | refine ⟨_, Sat.ld hs (by (repeat (first | exact At.z | apply At.s))) (by rfl), ?_⟩
  | refine ⟨_, _, _, Sat.ld hs (by (repeat (first | exact At.z | apply At.s))) (by rfl), ?_⟩
  | (intro _ _ hn; replace hs := Sat.new hs hn; clear hn)
  | refine ⟨Sat.cs hs (by (repeat (first | exact At.z | apply At.s))) (by rfl), ?_⟩
  | (refine ⟨Sat.can hs (by (repeat (first | exact At.z | apply At.s))) (by simp), ?_⟩; intro _ e; replace hs := Sat.wr hs (by (repeat (first | exact At.z | apply At.s))) e; clear e; simp only [put, splice, List.set] at hs)
  | (refine ⟨_, (rd _ (hs.sub (by (repeat (first | exact List.Sublist.refl _ | apply List.Sublist.cons_cons | apply List.Sublist.cons))))).er, Sat.app_new hs (by simp; omega) rfl (ints_one _ _) (by omega) ?_⟩; intro _ _ _ hs)
  | (refine ⟨_, (rd _ (hs.sub (by (repeat (first | exact List.Sublist.refl _ | apply List.Sublist.cons_cons | apply List.Sublist.cons))))).bl, Sat.app_new hs (by simp; omega) rfl (bools_one _) (by omega) ?_⟩; intro _ _ _ hs)
  | refine And.intro ?_ ?_)
 all_goals
  replace hs := Sat.front hs (e := blk n2 _) (by (repeat (first | exact At.z | apply At.s)))
  replace hs := Sat.front hs (e := blk n1 _) (by (repeat (first | exact At.z | apply At.s)))
  replace hs := Sat.front hs (e := slE _ _ _ 1 (bools _)) (by (repeat (first | exact At.z | apply At.s)))
  replace hs := Sat.front hs (e := slE _ _ _ 1 (ints .i64 _)) (by (repeat (first | exact At.z | apply At.s)))
  replace hs := Sat.front hs (e := blk _ [.slice none 0 0, .slice _ b.2.1 _, .slice _ c.2.1 _]) (by (repeat (first | exact At.z | apply At.s)))
  simp only [del] at hs
  exact fin _ _ _ _ _ _ (hs.sub (by (repeat (first | exact List.Sublist.refl _ | apply List.Sublist.cons_cons | apply List.Sublist.cons))))
end
end Go.Proofs.YtaglicdidpgkpaaGreatDoor

/- Contracts of the document's chip: new ones, laid ones, copies. Own work. -/
set_option linter.unusedVariables false
namespace Go.Proofs.YtaglicdidpgkpaaGreatDoor
open Go Go.Vc

section
variable {h0 h : H} {A : List Ent} {i p : Nat} {C : Cm}
theorem wnp {c : Cfg} (m : c.may) : IntKind.i64.wrap (2 + IntKind.i64.wrap (2 * c.area)) = c.np := by
 have := m.area; unfold Cfg.np; simp only [IntKind.wrap_i64]; omega
theorem wnf {c : Cfg} (m : c.may) : IntKind.i64.wrap (IntKind.i64.wrap (c.slots * c.fuses) + c.keys) = c.nf := by
 have h1 := m.slots; have h2 := m.fuses; have h3 := m.keys
 have e1 : 0 ≤ c.slots * c.fuses := Int.mul_nonneg (by omega) (by omega)
 have e2 : c.slots * c.fuses ≤ 8 * 64 := Int.mul_le_mul (by omega) (by omega) (by omega) (by omega)
 unfold Cfg.nf; simp only [IntKind.wrap_i64]; omega
end
end Go.Proofs.YtaglicdidpgkpaaGreatDoor

/- Contracts of the document's chip: its methods. Own work. -/
set_option linter.unusedVariables false
namespace Go.Proofs.YtaglicdidpgkpaaGreatDoor
open Go Go.Vc

structure RefW (C : Cm) (w : Pl × List Int) : Prop where
 ok : C.ok
 b : bytesOk w.2
 l : w.2.length ≤ 2 ^ 47
 m : 0 ≤ C.left → w.2 = C.mask
abbrev refL (p : Nat) (C : Cm) (w : Pl × List Int) : List Ent := [blk p (C.cells w.1.a w.1.b w.1.c w.1.m), matE 32 w.1.a C.s.pages, sE w.1.b 1 (ints .i64 C.s.erases), sE w.1.c 1 (bools C.s.blown), sE w.1.m 1 (ints .u8 w.2)]
def refE (p : Nat) (C : Cm) : Ent := exE 4 (RefW C) (refL p C)

section
variable {h0 h : H} {A : List Ent} {i p : Nat} {C : Cm}
theorem ref_close {C0 : Cm} {a b c m : Sl} {ms : List Int} (ok : C.ok) (mb : bytesOk ms) (ml : ms.length ≤ 2 ^ 47) (me : 0 ≤ C.left → ms = C.mask) (ci : At A i (refE p C0))
  (hs : Sat h0 (blk p (C.cells a b c m) :: matE 32 a C.s.pages :: sE b 1 (ints .i64 C.s.erases) :: sE c 1 (bools C.s.blown) :: sE m 1 (ints .u8 ms) :: del A i) h) : Sat h0 (put A i (refE p C)) h :=
 Sat.back ci (Sat.close (⟨a, b, c, m⟩, ms) ⟨ok, mb, ml, me⟩ hs)
theorem ref_make {a b c m : Sl} {ms : List Int} (ok : C.ok) (mb : bytesOk ms) (ml : ms.length ≤ 2 ^ 47) (me : 0 ≤ C.left → ms = C.mask)
  (hs : Sat h0 (blk p (C.cells a b c m) :: matE 32 a C.s.pages :: sE b 1 (ints .i64 C.s.erases) :: sE c 1 (bools C.s.blown) :: sE m 1 (ints .u8 ms) :: A) h) : Sat h0 (refE p C :: A) h :=
 Sat.close (⟨a, b, c, m⟩, ms) ⟨ok, mb, ml, me⟩ hs
theorem act_b {Q : Bool → H → Prop} {a b c m : Sl} (hs : Sat h0 A h) (ci : At A i (blk p (C.cells a b c m))) (ok : C.ok) (k : ∀ h', Sat h0 (put A i (blk p (C.act.cells a b c m))) h' → Q (decide (C.left = 0)) h') : F_portcullisref04_Chip_act ⟨p, 0, none⟩ Q h := by
 unfold F_portcullisref04_Chip_act G_portcullisref04_Chip_act
 try simp only [add_mk, Nat.zero_add]
 have hl := ok.left
 have hl2 := ok.left2
 have ea : C.act.cells a b c m = [.int .i64 C.cfg.cells, .int .i64 C.cfg.slots, .int .i64 C.cfg.fuses, .int .i64 C.cfg.step, .int .i64 C.cfg.keys, .int .i64 C.cfg.erases, .int .i64 C.cfg.area, a.v, b.v, c.v,
   .int .i64 (w64 (C.acts + 1)), .bool C.act.out, .int .i64 C.act.left, m.v] := by unfold Cm.act; split <;> rfl
 rw [ea] at k
 replace hs := (hs.front ci)
 simp only [Cm.cells] at hs
 (repeat first | refine ⟨_, Sat.ld hs (by (repeat (first | exact At.z | apply At.s))) (by rfl), ?_⟩ | refine ⟨_, _, _, Sat.ld hs (by (repeat (first | exact At.z | apply At.s))) (by rfl), ?_⟩ | (intro _ _ hn; replace hs := Sat.new hs hn; clear hn) | refine ⟨Sat.cs hs (by (repeat (first | exact At.z | apply At.s))) (by rfl), ?_⟩ | (refine ⟨Sat.can hs (by (repeat (first | exact At.z | apply At.s))) (by simp), ?_⟩; intro _ e; replace hs := Sat.wr hs (by (repeat (first | exact At.z | apply At.s))) e; clear e; simp only [put, splice, List.set] at hs))
 have back : ∀ {vs h}, Sat h0 (blk p vs :: del A i) h → Sat h0 (put A i (blk p vs)) h := fun hs => Sat.back ci hs
 by_cases h1 : C.left = 0
 ·rw [if_pos (by simp [h1])]
  (repeat first | refine ⟨_, Sat.ld hs (by (repeat (first | exact At.z | apply At.s))) (by rfl), ?_⟩ | refine ⟨_, _, _, Sat.ld hs (by (repeat (first | exact At.z | apply At.s))) (by rfl), ?_⟩ | (intro _ _ hn; replace hs := Sat.new hs hn; clear hn) | refine ⟨Sat.cs hs (by (repeat (first | exact At.z | apply At.s))) (by rfl), ?_⟩ | (refine ⟨Sat.can hs (by (repeat (first | exact At.z | apply At.s))) (by simp), ?_⟩; intro _ e; replace hs := Sat.wr hs (by (repeat (first | exact At.z | apply At.s))) e; clear e; simp only [put, splice, List.set] at hs))
  have e1 : C.act.out = true := by simp [Cm.act, h1]
  have e2 : C.act.left = -1 := by simp [Cm.act, h1]
  rw [e1, e2] at k
  have := k _ (back hs)
  simpa [h1] using this
 ·rw [if_neg (by simp [h1])]
  (repeat first | refine ⟨_, Sat.ld hs (by (repeat (first | exact At.z | apply At.s))) (by rfl), ?_⟩ | refine ⟨_, _, _, Sat.ld hs (by (repeat (first | exact At.z | apply At.s))) (by rfl), ?_⟩ | (intro _ _ hn; replace hs := Sat.new hs hn; clear hn) | refine ⟨Sat.cs hs (by (repeat (first | exact At.z | apply At.s))) (by rfl), ?_⟩ | (refine ⟨Sat.can hs (by (repeat (first | exact At.z | apply At.s))) (by simp), ?_⟩; intro _ e; replace hs := Sat.wr hs (by (repeat (first | exact At.z | apply At.s))) e; clear e; simp only [put, splice, List.set] at hs))
  have e1 : C.act.out = C.out := by simp [Cm.act, h1]
  have e3 : decide (C.left = 0) = false := by simp [h1]
  rw [e1, e3] at k
  by_cases h2 : 0 < C.left
  ·rw [ltI_eq, if_pos (by simpa using h2)]
   (repeat first | refine ⟨_, Sat.ld hs (by (repeat (first | exact At.z | apply At.s))) (by rfl), ?_⟩ | refine ⟨_, _, _, Sat.ld hs (by (repeat (first | exact At.z | apply At.s))) (by rfl), ?_⟩ | (intro _ _ hn; replace hs := Sat.new hs hn; clear hn) | refine ⟨Sat.cs hs (by (repeat (first | exact At.z | apply At.s))) (by rfl), ?_⟩ | (refine ⟨Sat.can hs (by (repeat (first | exact At.z | apply At.s))) (by simp), ?_⟩; intro _ e; replace hs := Sat.wr hs (by (repeat (first | exact At.z | apply At.s))) e; clear e; simp only [put, splice, List.set] at hs))
   have e2 : C.act.left = C.left - 1 := by simp [Cm.act, h1]; omega
   rw [e2] at k
   rw [show IntKind.i64.wrap (C.left - 1) = C.left - 1 by rw [IntKind.wrap_i64]; omega] at hs
   exact k _ (back hs)
  ·rw [ltI_eq, if_neg (by simpa using h2)]
   have e2 : C.act.left = C.left := by simp [Cm.act, h1]; omega
   rw [e2] at k
   exact k _ (back hs)
theorem bits_b {Q : Int → H → Prop} {j : Nat} {a b c m : Sl} {mask : List Int} (hs : Sat h0 A h) (ci : At A i (blk p (C.cells a b c m))) (mi : At A j (sE m 1 (ints .u8 mask))) (n : Nat) {x : Int} (hx : x = n)
  (k : Q (if mask = [] then 0 else mask.getD (n % mask.length) 0) h) : F_portcullisref04_Chip_bits ⟨p, 0, none⟩ x Q h := by
 unfold F_portcullisref04_Chip_bits G_portcullisref04_Chip_bits
 subst hx
 try simp only [add_mk, Nat.zero_add]
 have hl := hs.sl_len mi
 simp only [ints_length, Nat.mul_one] at hl
 refine ⟨_, _, _, hs.ld ci rfl, ?_⟩
 by_cases h1 : mask = []
 ·rw [if_pos h1] at k
  subst h1
  rw [if_pos (by simp at hl; simp [← hl])]
  exact k
 ·rw [if_neg h1] at k
  have hp : 0 < mask.length := List.length_pos_iff.2 h1
  rw [if_neg (by simp; omega)]
  refine ⟨_, _, _, hs.ld ci rfl, ?_⟩
  refine ⟨_, _, _, hs.ld ci rfl, ?_⟩
  obtain ⟨q, hq⟩ := hs.sl_some mi (by omega)
  obtain ⟨mp, ml, mc⟩ := m
  simp only at hq hl
  subst hq
  have e : (n : Int).tmod (ml : Int) = ((n % ml : Nat) : Int) := by rw [Int.tmod_eq_emod_of_nonneg (by omega)]; omega
  rw [hl] at k
  have hlt : n % ml < ml := Nat.mod_lt _ (by omega)
  refine ⟨by dsimp only; omega, _, rfl, by dsimp only; rw [e]; omega, by dsimp only; rw [e]; omega, _, ?_, k⟩
  dsimp only
  rw [e]
  try simp only [add_mk, Nat.zero_add, Int.toNat_natCast, Nat.mul_one]
  refine hs.sld mi ?_
  rw [ints_get, List.getElem?_eq_getElem (by omega)]
  simp [List.getD, List.getElem?_eq_getElem (show n % ml < mask.length by omega)]
theorem fuse_b {Q : Int → H → Prop} {a b c m : Sl} (hs : Sat h0 A h) (ci : At A i (blk p (C.cells a b c m))) (hl : C.s.blown.length = c.2.1) (j : Int) (k : Q (askedM C j C.s.blown.length) h) : F_portcullisref04_Chip_fuse ⟨p, 0, none⟩ j Q h := by
 unfold F_portcullisref04_Chip_fuse G_portcullisref04_Chip_fuse
 try simp only [add_mk, Nat.zero_add]
 refine ⟨_, hs.ld ci rfl, ?_⟩
 unfold askedM at k
 rw [hl] at k
 simp only [ltI_eq, leI_eq, decide_eq_true_eq]
 split
 ·simpa [*] using k
 ·rename_i h1
  rw [if_neg h1] at k
  split
  ·rename_i h2; rw [if_pos h2] at k; exact k
  ·rename_i h2; rw [if_neg h2] at k
   refine ⟨_, _, _, hs.ld ci rfl, ?_⟩
   split
   ·rename_i h3; rw [if_pos h3] at k; exact k
   ·rename_i h3; rw [if_neg h3] at k; exact k
end
end Go.Proofs.YtaglicdidpgkpaaGreatDoor
end

/- Contracts of the document's chip: Read, Blown, Erases, Restore, Cut, Blow. Own work. -/
section
set_option linter.unusedVariables false
namespace Go.Proofs.YtaglicdidpgkpaaGreatDoor
open Go Go.Vc

section
variable {h0 h : H} {A : List Ent} {i p : Nat} {C : Cm}
theorem rCut_sp {Q : H → Prop} {q : Option Addr} {l c : Nat} {bs : List Int} (hs : Sat h0 A h) (ci : At A i (refE p C)) (n : Int) (hn : n < 2 ^ 63) (rd : ∀ C' h', Sat h0 (put A i (refE p C')) h' → hsv h' q 1 l (ints .u8 bs)) (hb : bytesOk bs) (hl : bs.length ≤ 2 ^ 47)
  (k : ∀ h', Sat h0 (put A i (refE p (cutM C n bs))) h' → Q h') : F_portcullisref04_Chip_Cut ⟨p, 0, none⟩ n q l c Q h := by
 unfold F_portcullisref04_Chip_Cut G_portcullisref04_Chip_Cut
 obtain ⟨⟨w, ms⟩, ⟨ok, mb, ml, me⟩, hs⟩ := (hs.front ci).open_; dsimp only [refL, List.cons_append, List.nil_append, Cm.cells] at hs; dsimp only at mb ml me
 try simp only [add_mk, Nat.zero_add]
 (refine ⟨Sat.can hs (by (repeat (first | exact At.z | apply At.s))) (by simp), ?_⟩; intro _ e; replace hs := Sat.wr hs (by (repeat (first | exact At.z | apply At.s))) e; clear e; simp only [put, splice, List.set] at hs)
 have ok1 : ({ cutM C n ms with acts := C.acts } : Cm).ok := ⟨ok.may, ok.fits, ok.typed, by simp only [cutM]; split <;> omega, by simp only [cutM]; split <;> omega, mb, ok.acts, ml⟩
 have rd1 := rd _ _ (ref_close (C := cutM C n ms) (a := w.a) (b := w.b) (c := w.c) (m := w.m) ok1 mb ml (fun _ => rfl) ci hs)
 intro n1 h1 hn
 have rd2 := hsv_ext hn.ext rd1 (fun _ _ x => x)
 replace hs := Sat.new hs hn; clear hn
 have hlen := rd1.1
 simp only [ints_length, Nat.mul_one] at hlen
 refine ⟨_, rd2, Sat.app_new hs rd2.1 rfl (ints_one _ _) (by omega) ?_⟩
 intro p' c' h2 hs
 (repeat first | refine ⟨_, Sat.ld hs (by (repeat (first | exact At.z | apply At.s))) (by rfl), ?_⟩ | refine ⟨_, _, _, Sat.ld hs (by (repeat (first | exact At.z | apply At.s))) (by rfl), ?_⟩ | (intro _ _ hn; replace hs := Sat.new hs hn; clear hn) | refine ⟨Sat.cs hs (by (repeat (first | exact At.z | apply At.s))) (by rfl), ?_⟩ | (refine ⟨Sat.can hs (by (repeat (first | exact At.z | apply At.s))) (by simp), ?_⟩; intro _ e; replace hs := Sat.wr hs (by (repeat (first | exact At.z | apply At.s))) e; clear e; simp only [put, splice, List.set] at hs))
 have okc : (cutM C n bs).ok := ⟨ok.may, ok.fits, ok.typed, by simp only [cutM]; split <;> omega, by simp only [cutM]; split <;> omega, hb, ok.acts, hl⟩
 refine k _ ?_
 replace hs := Sat.front hs (e := slE p' _ _ 1 (ints .u8 bs)) (by (repeat (first | exact At.z | apply At.s)))
 replace hs := Sat.front hs (e := slE _ _ _ 1 (bools C.s.blown)) (by (repeat (first | exact At.z | apply At.s)))
 replace hs := Sat.front hs (e := slE _ _ _ 1 (ints .i64 C.s.erases)) (by (repeat (first | exact At.z | apply At.s)))
 replace hs := Sat.front hs (e := matE 32 _ _) (by (repeat (first | exact At.z | apply At.s)))
 replace hs := Sat.front hs (e := blk p _) (by (repeat (first | exact At.z | apply At.s)))
 simp only [del] at hs
 exact (ref_close (C := cutM C n bs) (a := w.a) (b := w.b) (c := w.c) (m := (p', l, c')) okc hb hl (fun _ => rfl) ci.s.s hs).drop.drop
theorem act_me {ms : List Int} (ok : C.ok) (me : 0 ≤ C.left → ms = C.mask) : 0 ≤ C.act.left → ms = C.act.mask := by
 have := ok.left
 unfold Cm.act
 split
 ·intro h; dsimp only at h ⊢; exact me (by omega)
 ·intro h; dsimp only at h; omega
theorem maskAt_cut {ms : List Int} (me : 0 ≤ C.left → ms = C.mask) (h : C.left = 0) (n : Nat) : maskAt C n = if ms = [] then 0 else ms.getD (n % ms.length) 0 := by
 rw [me (by omega)]; unfold maskAt; rw [if_neg (by simpa using h)]
theorem maskAt_full (h : ¬ C.left = 0) (n : Nat) : maskAt C n = 255 := by unfold maskAt; rw [if_pos h]
theorem rBlow_sp {Q : Int → H → Prop} (hs : Sat h0 A h) (ci : At A i (refE p C)) (j : Int) (k : ∀ h', Sat h0 (put A i (refE p (blowM C j).1)) h' → Q (blowM C j).2 h') : F_portcullisref04_Chip_Blow ⟨p, 0, none⟩ j Q h := by
 unfold F_portcullisref04_Chip_Blow G_portcullisref04_Chip_Blow
 have hs' := hs
 obtain ⟨⟨w, ms⟩, ⟨ok, mb, ml, me⟩, hs⟩ := (hs.front ci).open_; dsimp only [refL, List.cons_append, List.nil_append, Cm.cells] at hs; dsimp only at mb ml me
 try simp only [add_mk, Nat.zero_add]
 have hl := hs.sl_len (i := 3) (.s (.s (.s .z)))
 simp only [bools_length, Nat.mul_one] at hl
 refine fuse_b (C := C) hs .z hl _ ?_
 unfold blowM at k
 by_cases h1 : askedM C j C.s.blown.length = 0
 case neg =>
  rw [if_pos (by simpa using h1)]
  rw [if_pos (by simpa using h1)] at k
  exact k _ (ci.put_self.symm ▸ hs')
 rw [if_neg (by simpa using h1)]
 rw [if_neg (by simpa using h1)] at k
 obtain ⟨_, h2, h3⟩ := askedM_zero h1
 have hjb : j.toNat < C.s.blown.length := by omega
 refine act_b (C := C) hs .z ok ?_
 intro h5 hs
 simp only [put] at hs
 obtain ⟨q, hq⟩ := hs.sl_some (i := 3) (.s (.s (.s .z))) (by omega)
 obtain ⟨w1, w2, ⟨cp, cl, cc⟩, w4⟩ := w
 simp only at hq hl
 subst hq
 refine ⟨_, _, _, hs.ld .z rfl, ?_⟩
 refine ⟨_, _, _, hs.ld .z rfl, ?_⟩
 refine ⟨_, rfl, h2, by (try dsimp only); omega, ?_⟩
 try simp only [add_mk, Nat.zero_add, Nat.mul_one]
 refine ⟨_, hs.sld (i := 3) (.s (.s (.s .z))) (by rw [bools_get, List.getElem?_eq_getElem hjb]; rfl), ?_⟩
 have eact := ok.act
 have fin : ∀ (b : Bool) h6, (b = (C.s.blown[j.toNat] || !decide (C.left = 0) || (bits .and .u8 (if ms = [] then 0 else ms.getD (0 % ms.length) 0) 1 == 1))) → Sat h0 (blk p (C.act.cells w1 w2 (some ⟨q, 0, none⟩, cl, cc) w4) :: matE 32 w1 C.s.pages :: sE w2 1 (ints .i64 C.s.erases) :: sE (some ⟨q, 0, none⟩, cl, cc) 1 ((bools C.s.blown).set j.toNat (.bool b)) :: sE w4 1 (ints .u8 ms) :: del A i) h6 →
   if decide (C.left = 0) = true then Q 8 h6 else Q 0 h6 := by
  intro b h6 hb hs
  have e6 : (bools C.s.blown).set j.toNat (Value.bool b) = bools (C.s.blown.set j.toNat b) := by simp [bools, List.map_set]
  rw [e6] at hs
  have eb : (if bits .and .u8 (maskAt C 0) 1 = 1 then { C.act with s := { C.s with blown := C.s.blown.set j.toNat true } } else C.act) = { C.act with s := { C.s with blown := C.s.blown.set j.toNat b } } := by
   by_cases hz : C.left = 0
   ·have hb : b = (C.s.blown[j.toNat] || (bits .and .u8 (maskAt C 0) 1 == 1)) := by rw [hb, maskAt_cut me hz]; simp [hz]
    by_cases h7 : bits .and .u8 (maskAt C 0) 1 = 1
    ·rw [if_pos h7]
     have : b = true := by rw [hb]; simp [h7]
     rw [this]
    ·rw [if_neg h7]
     have : b = C.s.blown[j.toNat] := by rw [hb]; simp [h7]
     rw [this, List.set_getElem_self hjb]
     have := act_s C
     conv => rhs; rw [← this]
   ·have : b = true := by rw [hb]; simp [hz]
    rw [this, maskAt_full hz, if_pos (by decide)]
  rw [eb] at k
  have ec : ({ C.act with s := { C.s with blown := C.s.blown.set j.toNat b } } : Cm).ok :=
   ⟨eact.may, ⟨by have := eact.fits.pages; rw [act_s] at this; exact this, by have := eact.fits.cells; rw [act_s] at this; exact this, by have := eact.fits.erases; rw [act_s] at this; exact this,
    by have := eact.fits.blown; rw [act_s] at this; simpa using this⟩, by have := eact.typed; rw [act_s] at this; exact ⟨this.bytes, this.erases⟩, eact.left, eact.left2, eact.mask, eact.acts, eact.mlen⟩
  have hk := k _ (ref_close (C := { C.act with s := { C.s with blown := C.s.blown.set j.toNat b } }) (a := w1) (b := w2) (c := (some ⟨q, 0, none⟩, cl, cc)) (m := w4) ec mb ml (act_me ok me) ci hs)
  unfold errM at hk
  by_cases hz : C.left = 0
  ·simpa [hz] using hk
  ·simpa [hz] using hk
 have put1 : ∀ (b : Bool) h6 (hs6 : h6 = hwr h5 ⟨q, j.toNat, none⟩ [.bool b]), Sat h0 (blk p (C.act.cells w1 w2 (some ⟨q, 0, none⟩, cl, cc) w4) :: matE 32 w1 C.s.pages :: sE w2 1 (ints .i64 C.s.erases) :: sE (some ⟨q, 0, none⟩, cl, cc) 1 ((bools C.s.blown).set j.toNat (.bool b)) :: sE w4 1 (ints .u8 ms) :: del A i) h6 := by
  intro b h6 e6
  exact hs.swr (i := 3) (.s (.s (.s .z))) e6 (by (try dsimp only); omega) (by simp; omega) (by simp)
 have can1 : hcan h5 ⟨q, j.toNat, none⟩ 1 := hs.scan (i := 3) (.s (.s (.s .z))) (by (try dsimp only); omega) (by simp; omega)
 split
 ·rename_i h6
  refine ⟨_, rfl, h2, by (try dsimp only); omega, ?_⟩
  try simp only [add_mk, Nat.zero_add, Nat.mul_one]
  refine ⟨can1, fun h7 e7 => fin true h7 (by simp [h6]) (put1 true h7 e7)⟩
 ·rename_i h6
  split
  ·rename_i h8
   refine ⟨_, rfl, h2, by (try dsimp only); omega, ?_⟩
   try simp only [add_mk, Nat.zero_add, Nat.mul_one]
   refine ⟨can1, fun h7 e7 => fin true h7 (by simpa using Or.inl (Or.inr (by simpa using h8))) (put1 true h7 e7)⟩
  ·rename_i h8
   refine bits_b (C := C.act) hs .z (j := 4) (.s (.s (.s (.s .z)))) 0 rfl ?_
   refine ⟨hcs_one (hs.ld .z rfl), _, rfl, h2, by (try dsimp only); omega, ?_⟩
   try simp only [add_mk, Nat.zero_add, Nat.mul_one]
   refine ⟨can1, fun h7 e7 => fin _ h7 ?_ (put1 _ h7 e7)⟩
   have h9 : C.s.blown[j.toNat] = false := by simpa using h6
   have h10 : (!decide (C.left = 0)) = false := by simpa using h8
   rw [h9, h10]; simp
end
end Go.Proofs.YtaglicdidpgkpaaGreatDoor
end

/- Contracts: equal states are told so. Own work. -/
section
set_option linter.unusedVariables false
namespace Go.Proofs.YtaglicdidpgkpaaGreatDoor
open Go Go.Vc

section
variable {h0 h : H} {A : List Ent} {i p : Nat} {C : Cm}
theorem rdm_row {h : H} {a : Sl} {rows : List (List Int)} (r : RdM h 32 a rows) {j : Nat} (hj : j < rows.length) :
  ∃ q x, a.1 = some q ∧ hc h (q.add (j * 1)) = some (Sl.v x) ∧ rows[j].length = x.2.1 * 32 := by
 obtain ⟨q, x, h1, h2, h3⟩ := r.at hj
 exact ⟨q, x, h1, h2, by have := h3.1; simpa using this⟩
end
end Go.Proofs.YtaglicdidpgkpaaGreatDoor

/- Contracts of the document's chip: Copy, Lay. Own work. -/
set_option linter.unusedVariables false
namespace Go.Proofs.YtaglicdidpgkpaaGreatDoor
open Go Go.Vc

section
variable {h0 h : H} {A : List Ent} {i p : Nat} {C : Cm}
theorem Fits_sp {a b c' : Sl} {s : St} (c : Cfg) (hm : c.may) {Q : Bool → H → Prop} (hs : Sat h0 A h) (rd : ∀ h', Sat h0 A h' → RdS h' a b c' s)
  (k1 : ¬ s.lays c → ∀ h', Sat h0 A h' → Q false h') (k2 : s.lays c → ∀ h', Sat h0 A h' → Q true h') :
  F_portcullisref04_Fits c.cells c.slots c.fuses c.step c.keys c.erases c.area a.1 a.2.1 a.2.2 b.1 b.2.1 b.2.2 c'.1 c'.2.1 c'.2.2 Q h := by
 unfold F_portcullisref04_Fits G_portcullisref04_Fits
 try simp only [add_mk, Nat.zero_add]
 intro n1 _ hn; replace hs := Sat.new hs hn; clear hn
 intro n2 h2 hn; replace hs := Sat.new hs hn; clear hn
 refine ⟨_, Sat.ld hs (by (repeat (first | exact At.z | apply At.s))) (by rfl), ?_⟩
 simp only [wnp hm, wnf hm]
 have hnp := hm.np
 have hnf := hm.nf
 have hcl := hm.cells
 intro J25 hJ25
 have r1 := rd _ hs.drop.drop
 have l1 := r1.pg.len
 have l2 : s.erases.length = b.2.1 := by have := r1.er.1; simpa using this
 have l3 : s.blown.length = c'.2.1 := by have := r1.bl.1; simpa using this
 have bad : ¬ s.lays c → Q false h2 := fun nf => k1 nf _ hs.drop.drop
 refine ⟨_, _, _, Sat.ld hs (by (repeat (first | exact At.z | apply At.s))) (by rfl), ?_⟩
 by_cases e1 : (s.pages.length : Int) = c.np
 case neg => rw [if_pos (by simp; omega)]; exact bad (fun f => e1 f.fits.pages)
 rw [if_neg (by simp; omega)]
 refine ⟨_, _, _, Sat.ld hs (by (repeat (first | exact At.z | apply At.s))) (by rfl), ?_⟩
 by_cases e2 : (s.erases.length : Int) = c.np
 case neg => rw [if_pos (by simp; omega)]; exact bad (fun f => e2 f.fits.erases)
 rw [if_neg (by simp; omega)]
 refine ⟨_, _, _, Sat.ld hs (by (repeat (first | exact At.z | apply At.s))) (by rfl), ?_⟩
 refine ⟨_, Sat.ld hs (by (repeat (first | exact At.z | apply At.s))) (by rfl), ?_⟩
 refine ⟨_, Sat.ld hs (by (repeat (first | exact At.z | apply At.s))) (by rfl), ?_⟩
 refine ⟨_, Sat.ld hs (by (repeat (first | exact At.z | apply At.s))) (by rfl), ?_⟩
 by_cases e3 : (s.blown.length : Int) = c.nf
 case neg => rw [wnf hm, if_pos (by simp; omega)]; exact bad (fun f => e3 f.fits.blown)
 rw [wnf hm, if_neg (by simp; omega)]
 apply hJ25
 intro J27 hJ27
 refine loop_up c.np.toNat (fun i h' => h' = h2 ∧ ∀ j (hj : j < s.pages.length) (hj2 : j < s.erases.length), j < i → (s.pages[j].length : Int) = 32 * c.cells ∧ 0 ≤ s.erases[j]) ?_ ?_ 0 _ (by omega) ⟨rfl, fun j _ _ hj => by omega⟩
 ·rintro j h' hj ⟨rfl, hinv⟩ hk
  apply hJ27
  rw [ltI_eq, if_pos (by simp; omega)]
  have hj1 : j < s.pages.length := by omega
  have hj2 : j < s.erases.length := by omega
  obtain ⟨q1, x1, f1, f2, f3⟩ := rdm_row r1.pg hj1
  obtain ⟨q2, g1, g2⟩ := hsv_get r1.er (i := j) (v := .int .i64 s.erases[j]) (by rw [ints_get, List.getElem?_eq_getElem hj2]; rfl)
  refine ⟨_, _, _, Sat.ld hs (by (repeat (first | exact At.z | apply At.s))) (by rfl), ?_⟩
  refine ⟨_, f1, by omega, by omega, _, _, _, f2, ?_⟩
  refine ⟨_, Sat.ld hs (by (repeat (first | exact At.z | apply At.s))) (by rfl), ?_⟩
  by_cases e4 : (s.pages[j].length : Int) = 32 * c.cells
  case neg => rw [if_pos (by simp; omega)]; exact bad (fun f => e4 (f.fits.cells _ (List.getElem_mem hj1)))
  rw [if_neg (by simp; omega)]
  refine ⟨_, _, _, Sat.ld hs (by (repeat (first | exact At.z | apply At.s))) (by rfl), ?_⟩
  refine ⟨_, g1, by omega, by omega, _, by simpa using g2, ?_⟩
  rw [ltI_eq]
  by_cases e5 : s.erases[j] < 0
  ·rw [if_pos (by simpa using e5)]; exact bad (fun f => by have := f.pos _ (List.getElem_mem hj2); omega)
  ·rw [if_neg (by simpa using e5), wrap_succ (by omega)]
   refine hk _ ⟨rfl, fun m hm1 hm2 hmj => ?_⟩
   by_cases e : m = j
   ·subst e; exact ⟨e4, by omega⟩
   ·exact hinv m hm1 hm2 (by omega)
 ·rintro h' ⟨rfl, hinv⟩
  apply hJ27
  rw [ltI_eq, if_neg (by simp; omega)]
  refine k2 ⟨⟨e1, ?_, e2, e3⟩, ?_⟩ _ hs.drop.drop
  ·intro l hl
   obtain ⟨j, hj, rfl⟩ := List.mem_iff_getElem.1 hl
   exact (hinv j hj (by omega) (by omega)).1
  ·intro n hn
   obtain ⟨j, hj, rfl⟩ := List.mem_iff_getElem.1 hn
   exact (hinv j (by omega) hj (by omega)).2
theorem rLay_sp {a b c' : Sl} {s : St} (c : Cfg) {Q : Option Addr → Int → H → Prop} (hs : Sat h0 A h) (rd : ∀ h', Sat h0 A h' → RdS h' a b c' s) (ty : s.typed)
  (k1 : ¬ c.may → ∀ h', Sat h0 A h' → Q none 1 h') (k2 : c.may → ¬ s.lays c → ∀ h', Sat h0 A h' → Q none 5 h')
  (k3 : c.may → s.lays c → ∀ p h', Sat h0 (refE p (layC c s) :: A) h' → Q (some ⟨p, 0, none⟩) 0 h') :
  F_portcullisref04_Lay c.cells c.slots c.fuses c.step c.keys c.erases c.area a.1 a.2.1 a.2.2 b.1 b.2.1 b.2.2 c'.1 c'.2.1 c'.2.2 Q h := by
 unfold F_portcullisref04_Lay G_portcullisref04_Lay
 try simp only [add_mk, Nat.zero_add]
 intro n1 _ hn; replace hs := Sat.new hs hn; clear hn
 intro n2 _ hn; replace hs := Sat.new hs hn; clear hn
 (repeat first | refine ⟨_, Sat.ld hs (by (repeat (first | exact At.z | apply At.s))) (by rfl), ?_⟩ | refine ⟨_, _, _, Sat.ld hs (by (repeat (first | exact At.z | apply At.s))) (by rfl), ?_⟩ | (intro _ _ hn; replace hs := Sat.new hs hn; clear hn) | refine ⟨Sat.cs hs (by (repeat (first | exact At.z | apply At.s))) (by rfl), ?_⟩ | (refine ⟨Sat.can hs (by (repeat (first | exact At.z | apply At.s))) (by simp), ?_⟩; intro _ e; replace hs := Sat.wr hs (by (repeat (first | exact At.z | apply At.s))) e; clear e; simp only [put, splice, List.set] at hs))
 refine rMay_sp c hs ?_
 intro h1 hs
 unfold Cfg.may?
 by_cases hm : c.may
 case neg =>
  rw [if_neg hm, if_pos (by decide)]
  exact k1 hm _ hs.drop.drop
 rw [if_pos hm, if_neg (by decide)]
 (repeat first | refine ⟨_, Sat.ld hs (by (repeat (first | exact At.z | apply At.s))) (by rfl), ?_⟩ | refine ⟨_, _, _, Sat.ld hs (by (repeat (first | exact At.z | apply At.s))) (by rfl), ?_⟩ | (intro _ _ hn; replace hs := Sat.new hs hn; clear hn) | refine ⟨Sat.cs hs (by (repeat (first | exact At.z | apply At.s))) (by rfl), ?_⟩ | (refine ⟨Sat.can hs (by (repeat (first | exact At.z | apply At.s))) (by simp), ?_⟩; intro _ e; replace hs := Sat.wr hs (by (repeat (first | exact At.z | apply At.s))) e; clear e; simp only [put, splice, List.set] at hs))
 refine Fits_sp (a := a) (b := b) (c' := c') c hm hs (fun h' hs' => rd _ hs'.drop.drop) ?_ ?_
 ·intro nf h2 hs
  rw [if_pos (by decide)]
  exact k2 hm nf _ hs.drop.drop
 intro ly h2 hs
 rw [if_neg (by decide)]
 have ok := layC_ok hm ly ty
 (repeat first | refine ⟨_, Sat.ld hs (by (repeat (first | exact At.z | apply At.s))) (by rfl), ?_⟩ | refine ⟨_, _, _, Sat.ld hs (by (repeat (first | exact At.z | apply At.s))) (by rfl), ?_⟩ | (intro _ _ hn; replace hs := Sat.new hs hn; clear hn) | refine ⟨Sat.cs hs (by (repeat (first | exact At.z | apply At.s))) (by rfl), ?_⟩ | (refine ⟨Sat.can hs (by (repeat (first | exact At.z | apply At.s))) (by simp), ?_⟩; intro _ e; replace hs := Sat.wr hs (by (repeat (first | exact At.z | apply At.s))) e; clear e; simp only [put, splice, List.set] at hs))
 refine CopyState_sp (a := a) (b := b) (c := c') (s := s) hs (fun h' hs' => rd _ hs'.drop.drop) ok.small ?_
 intro a2 b2 c2 h5 hs
 replace hs : Sat h0 (matE 32 a2 s.pages :: sE b2 1 (ints .i64 s.erases) :: sE c2 1 (bools s.blown) :: blk n2 [a.v, b.v, c'.v] :: blk n1 [.int .i64 c.cells, .int .i64 c.slots, .int .i64 c.fuses, .int .i64 c.step, .int .i64 c.keys, .int .i64 c.erases, .int .i64 c.area] :: A) h5 := hs
 (repeat first | refine ⟨_, Sat.ld hs (by (repeat (first | exact At.z | apply At.s))) (by rfl), ?_⟩ | refine ⟨_, _, _, Sat.ld hs (by (repeat (first | exact At.z | apply At.s))) (by rfl), ?_⟩ | (intro _ _ hn; replace hs := Sat.new hs hn; clear hn) | refine ⟨Sat.cs hs (by (repeat (first | exact At.z | apply At.s))) (by rfl), ?_⟩ | (refine ⟨Sat.can hs (by (repeat (first | exact At.z | apply At.s))) (by simp), ?_⟩; intro _ e; replace hs := Sat.wr hs (by (repeat (first | exact At.z | apply At.s))) e; clear e; simp only [put, splice, List.set] at hs))
 refine k3 hm ly _ _ ?_
 replace hs := hs.sl_nil 1 none
 replace hs := Sat.front hs (e := slE _ _ _ 1 (bools _)) (by (repeat (first | exact At.z | apply At.s)))
 replace hs := Sat.front hs (e := slE _ _ _ 1 (ints .i64 _)) (by (repeat (first | exact At.z | apply At.s)))
 replace hs := Sat.front hs (e := matE 32 _ _) (by (repeat (first | exact At.z | apply At.s)))
 replace hs := Sat.front hs (e := blk _ [_, _, _, _, _, _, _, _, _, _, _, _, _, _]) (by (repeat (first | exact At.z | apply At.s)))
 simp only [del] at hs
 exact (ref_make (C := layC c s) (a := a2) (b := b2) (c := c2) (m := (none, 0, 0)) (ms := []) ok (by intro n hn; simp at hn) (by simp) (fun _ => rfl) hs).sub (by (repeat (first | exact List.Sublist.refl _ | apply List.Sublist.cons_cons | apply List.Sublist.cons)))
end
end Go.Proofs.YtaglicdidpgkpaaGreatDoor
end

/- Contracts of the chip's statements: a state is written over. Own work. -/
section
set_option linter.unusedVariables false
namespace Go.Proofs.YtaglicdidpgkpaaGreatDoor
open Go Go.Vc

section
variable {h0 h : H} {A : List Ent} {i p : Nat} {C : Cm}
end
end Go.Proofs.YtaglicdidpgkpaaGreatDoor

/- Contracts of the chip's statements: pairs of chips. Own work. -/
set_option maxRecDepth 100000
set_option linter.unusedVariables false
namespace Go.Proofs.YtaglicdidpgkpaaGreatDoor
open Go Go.Vc

section
variable {h0 h : H} {A : List Ent} {i j p r : Nat} {C : Cm}
theorem chip_ok (hs : Sat h0 A h) (ci : At A i (chipE p C)) : C.ok := by
 obtain ⟨w, ok, _⟩ := (hs.front ci).open_
 exact ok
end
end Go.Proofs.YtaglicdidpgkpaaGreatDoor
end

/- Contracts of the chip's statements: a step. Own work. -/
section
set_option maxRecDepth 100000
set_option linter.unusedVariables false
namespace Go.Proofs.YtaglicdidpgkpaaGreatDoor
open Go Go.Vc

structure Stp where
 kind : Int
 a : Int
 b : Int
 x : List Int
 mask : List Int
structure Stp.ok (s : Stp) : Prop where
 a : -(2 ^ 63) ≤ s.a ∧ s.a < 2 ^ 63
 x : s.x.length = 32
 mb : bytesOk s.mask
 ml : s.mask.length + 4096 ≤ 2 ^ 47
section
variable {h0 h : H} {A : List Ent} {i j p r : Nat} {C : Cm}
end
end Go.Proofs.YtaglicdidpgkpaaGreatDoor

/- Contracts of the chip's statements: games; calls whose answers are fixed. Own work. -/
set_option maxRecDepth 100000
set_option linter.unusedVariables false
namespace Go.Proofs.YtaglicdidpgkpaaGreatDoor
open Go Go.Vc

section
variable {h0 h : H} {A : List Ent} {i j p r : Nat} {C : Cm}
structure ScriptRd (h : H) (p : Option Addr) (l : Nat) (sc : List Stp) : Prop where
 len : sc.length = l
 small : l < 2 ^ 62
 el : ∀ i (hi : i < sc.length), ∃ (q : Addr) (mp : Option Addr) (ml mc : Nat), p = some q ∧ hc h (q.add (i * 36)) = some (.int .i64 sc[i].kind) ∧ hc h ((q.add (i * 36)).add 1) = some (.int .i64 sc[i].a) ∧
  hc h ((q.add (i * 36)).add 2) = some (.int .i64 sc[i].b) ∧ hrow h ((q.add (i * 36)).add 3) .u8 sc[i].x ∧ hc h ((q.add (i * 36)).add 35) = some (.slice mp ml mc) ∧ hsv h mp 1 ml (ints .u8 sc[i].mask) ∧ sc[i].ok
end
end Go.Proofs.YtaglicdidpgkpaaGreatDoor

/- Contracts of the chip's statements: ChipLays. Own work. -/
set_option maxRecDepth 100000
set_option linter.unusedVariables false
namespace Go.Proofs.YtaglicdidpgkpaaGreatDoor
open Go Go.Vc

section
variable {h0 h : H} {A : List Ent} {i j p r : Nat} {C : Cm}
theorem small_lt {s : St} (sm : s.small) : s.pages.length < 2 ^ 62 ∧ s.erases.length < 2 ^ 62 ∧ s.blown.length < 2 ^ 62 ∧ ∀ l, l ∈ s.pages → l.length < 2 ^ 62 := by
 have h1 := sm.pages; have h2 := sm.erases; have h3 := sm.blown
 exact ⟨by omega, by omega, by omega, fun l hl => by have := sm.rows l hl; omega⟩
end
end Go.Proofs.YtaglicdidpgkpaaGreatDoor
end

/- The fuses' model: counts of a row, raising, revoking; laws about numbers alone. Own work. -/
section
set_option maxRecDepth 100000
set_option linter.unusedVariables false
namespace Go.Proofs.YtaglicdidpgkpaaGreatDoor
open Go Go.Vc

theorem loop_st {J : List SV → H → Prop} {σ : Type} (N : Nat) (S : Nat → σ → List SV) (Inv : Nat → σ → H → Prop) (step : ∀ i s h, i < N → Inv i s h → (∀ s' h', Inv (i + 1) s' h' → J (S (i + 1) s') h') → J (S i s) h)
  (exit : ∀ s h, Inv N s h → J (S N s) h) (i : Nat) (s : σ) (h : H) (hi : i ≤ N) (inv : Inv i s h) : J (S i s) h := by
 generalize e : N - i = n
 induction n generalizing i s h with
 | zero =>
  have : i = N := by omega
  subst this; exact exit s h inv
 | succ n ih => exact step i s h (by omega) inv fun s' h' inv' => ih (i + 1) s' h' (by omega) inv' (by omega)

def cnt (bl : List Bool) (a : Nat) : Nat → Nat
 | 0 => 0
 | n + 1 => cnt bl a n + (if bl.getD (a + n) false = true then 1 else 0)
def lst (bl : List Bool) (a : Nat) : Nat → Option Nat
 | 0 => none
 | n + 1 => match lst bl a n with | some k => some k | none => if bl.getD (a + n) false = true then none else some (a + n)
def lstI : Option Nat → Int
 | none => -1
 | some k => k
theorem cnt_le (bl : List Bool) (a n : Nat) : cnt bl a n ≤ n := by
 induction n with
 | zero => exact Nat.le_refl _
 | succ n ih => unfold cnt; split <;> omega
def countM (C : Cm) (slot : Int) : Int × Int :=
 if askedM C slot C.cfg.slots ≠ 0 then (0, askedM C slot C.cfg.slots) else (cnt C.s.blown (slot * C.cfg.fuses).toNat C.cfg.fuses.toNat, 0)
def revokedM (C : Cm) (key : Int) : Bool × Int :=
 if askedM C key C.cfg.keys ≠ 0 then (false, askedM C key C.cfg.keys) else (C.s.blown.getD (C.cfg.slots * C.cfg.fuses + key).toNat false, 0)
theorem askedM_in {C : Cm} {i n : Int} (ho : C.out = false) (h1 : 0 ≤ i) (h2 : i < n) : askedM C i n = 0 := by
 unfold askedM; rw [if_neg (by simp [ho]), if_neg (by omega), if_neg (by omega)]
theorem act_out {C : Cm} (ho : C.out = false) (hl : C.left ≠ 0) : C.act.out = false := by
 unfold Cm.act; rw [if_pos hl]; exact ho
theorem row_in {C : Cm} (ok : C.ok) {slot : Int} (h1 : 0 ≤ slot) (h2 : slot < C.cfg.slots) : ((slot * C.cfg.fuses).toNat : Int) = slot * C.cfg.fuses ∧ (C.cfg.fuses.toNat : Int) = C.cfg.fuses ∧ (slot * C.cfg.fuses).toNat + C.cfg.fuses.toNat ≤ C.s.blown.length ∧
  C.s.blown.length ≤ 576 ∧ (slot * C.cfg.fuses).toNat + C.cfg.fuses.toNat ≤ (C.cfg.slots * C.cfg.fuses).toNat ∧ C.cfg.fuses.toNat ≤ 64 := by
 have hb := ok.fits.blown
 have hf := ok.may.fuses
 have hn := ok.may.nf
 have hk := ok.may.keys
 unfold Cfg.nf at hb hn
 have e1 : 0 ≤ slot * C.cfg.fuses := Int.mul_nonneg h1 (by omega)
 have e2 : (slot + 1) * C.cfg.fuses ≤ C.cfg.slots * C.cfg.fuses := Int.mul_le_mul_of_nonneg_right (by omega) (by omega)
 rw [Int.add_mul] at e2
 omega
structure Raised (a f : Nat) (n : Int) (C D : Cm) (e : Int) : Prop where
 cfg : D.cfg = C.cfg
 len : D.s.blown.length = C.s.blown.length
 same : ∀ k, k < a ∨ a + f ≤ k → D.s.blown.getD k false = C.s.blown.getD k false
 up : ∀ k, C.s.blown.getD k false = true → D.s.blown.getD k false = true
 ge : cnt C.s.blown a f ≤ cnt D.s.blown a f
 le : (cnt D.s.blown a f : Int) ≤ max n (cnt C.s.blown a f)
 good : e = 0 → (cnt D.s.blown a f : Int) = max n (cnt C.s.blown a f)
 on : e = 0 → D.out = false
 bad : e ≠ 0 → e = 8 ∧ 0 ≤ C.left ∧ C.left < n - cnt C.s.blown a f
end Go.Proofs.YtaglicdidpgkpaaGreatDoor

/- Contracts of the fuses' package. Own work. -/
set_option maxRecDepth 100000
set_option linter.unusedVariables false
namespace Go.Proofs.YtaglicdidpgkpaaGreatDoor
open Go Go.Vc

section
variable {h0 h : H} {A : List Ent} {i j p r : Nat} {C : Cm}
theorem fasked_sp {Q : Int → H → Prop} (hs : Sat h0 A h) (ci : At A i (chipE p C)) (n j : Int) (k : Q (askedM C j n) h) : F_fuse_asked ⟨p, 0, none⟩ j n Q h := by
 unfold F_fuse_asked G_fuse_asked
 refine Out_sp hs ci ?_
 unfold askedM at k
 simp only [ltI_eq, leI_eq, decide_eq_true_eq]
 split
 ·simpa [*] using k
 ·split
  ·simpa [*] using k
  ·split <;> simpa [*] using k
abbrev rowS (bl : List Bool) (a : Nat) (n : Nat) : List SV := [.dv (.one (.int .i64 (cnt bl a n : Int))), .dv (.one (.int .i64 (lstI (lst bl a n)))), .dv (.one (.int .i64 (n : Int)))]
theorem lst_succ (bl : List Bool) (a n : Nat) : lst bl a (n + 1) = match lst bl a n with | some k => some k | none => if bl.getD (a + n) false = true then none else some (a + n) := rfl
theorem frow_sp {Q : Int → Int → Int → H → Prop} (hs : Sat h0 A h) (ci : At A i (chipE p C)) (ho : C.out = false) {slot : Int} (h1 : 0 ≤ slot) (h2 : slot < C.cfg.slots)
  (k : ∀ h', Sat h0 A h' → Q (cnt C.s.blown (slot * C.cfg.fuses).toNat C.cfg.fuses.toNat) (lstI (lst C.s.blown (slot * C.cfg.fuses).toNat C.cfg.fuses.toNat)) 0 h') : F_fuse_row ⟨p, 0, none⟩ slot Q h := by
 unfold F_fuse_row G_fuse_row
 refine Config_sp hs ci ?_
 intro h1' hs
 have ok := chip_ok hs ci
 obtain ⟨e1, e2, e3, e4, e5, e6⟩ := row_in ok h1 h2
 have hsl := ok.may.slots
 intro J hJ
 generalize hf : C.cfg.fuses.toNat = f at *
 generalize ha : (slot * C.cfg.fuses).toNat = a at *
 refine loop_st f (fun n (_ : Unit) => rowS C.s.blown a n) (fun _ _ h => Sat h0 A h) ?_ ?_ 0 () _ (by omega) hs
 ·intro n _ h2 hn hs hk
  apply hJ
  rw [ltI_eq, if_pos (by simp; omega)]
  have ew : IntKind.i64.wrap (IntKind.i64.wrap (slot * C.cfg.fuses) + n) = ((a + n : Nat) : Int) := by
   rw [wrap_id (n := slot * C.cfg.fuses) (by omega), wrap_id (by omega)]; omega
  rw [ew]
  have eb : blownM C ((a + n : Nat) : Int) = (C.s.blown.getD (a + n) false, 0) := by
   unfold blownM; rw [askedM_in ho (by omega) (by omega), if_neg (by simp), Int.toNat_natCast]
  refine Blown_sp hs ci _ ?_
  rw [eb]
  rw [if_neg (by simp)]
  have hcl := cnt_le C.s.blown a n
  have hk := hk () _ hs
  have ls := lst_succ C.s.blown a n
  by_cases hb : C.s.blown.getD (a + n) false = true
  ·rw [if_pos (by simpa using hb), wrap_succ (by omega), wrap_succ (by omega)]
   have e7 : cnt C.s.blown a (n + 1) = cnt C.s.blown a n + 1 := by rw [cnt, if_pos hb]
   have e8 : lst C.s.blown a (n + 1) = lst C.s.blown a n := by
    rw [ls]
    cases lst C.s.blown a n with
    | none => exact if_pos hb
    | some k => rfl
   simp only [rowS, e7, e8] at hk
   exact hk
  ·rw [if_neg (by simpa using hb), wrap_succ (by omega)]
   have e7 : cnt C.s.blown a (n + 1) = cnt C.s.blown a n := by rw [cnt, if_neg hb]; rfl
   cases e : lst C.s.blown a n with
   | none =>
    rw [e] at ls
    dsimp only at ls
    rw [if_neg hb] at ls
    rw [ltI_eq, if_pos (by simp [lstI])]
    simp only [rowS, e7, ls, lstI] at hk
    exact hk
   | some x =>
    rw [e] at ls
    dsimp only at ls
    have e10 : ¬ (decide (lstI (some x) < 0) = true) := by
     have : (0 : Int) ≤ (x : Int) := Int.natCast_nonneg x
     rw [decide_eq_true_eq]
     exact Int.not_lt.2 this
    rw [ltI_eq, if_neg e10]
    simp only [rowS, e7, ls, lstI] at hk
    exact hk
 ·intro _ h2 hs
  apply hJ
  rw [ltI_eq, if_neg (by simp; omega)]
  exact k _ hs
theorem Count_sp {Q : Int → Int → H → Prop} (hs : Sat h0 A h) (ci : At A i (chipE p C)) (slot : Int) (k : ∀ h', Sat h0 A h' → Q (countM C slot).1 (countM C slot).2 h') : F_fuse_Count ⟨p, 0, none⟩ slot Q h := by
 unfold F_fuse_Count G_fuse_Count
 refine Config_sp hs ci ?_
 intro h1 hs
 refine fasked_sp hs ci _ _ ?_
 unfold countM at k
 by_cases e : askedM C slot C.cfg.slots = 0
 ·obtain ⟨ho, h1, h2⟩ := askedM_zero e
  rw [if_neg (by simpa using e)] at k ⊢
  exact frow_sp hs ci ho h1 h2 fun h' hs' => k _ hs'
 ·rw [if_pos (by simpa using e)] at k ⊢
  exact k _ hs
theorem key_in (ok : C.ok) {key : Int} (h1 : 0 ≤ key) (h2 : key < C.cfg.keys) : IntKind.i64.wrap (IntKind.i64.wrap (C.cfg.slots * C.cfg.fuses) + key) = C.cfg.slots * C.cfg.fuses + key ∧ 0 ≤ C.cfg.slots * C.cfg.fuses + key ∧ C.cfg.slots * C.cfg.fuses + key < C.s.blown.length := by
 have hb := ok.fits.blown
 have hn := ok.may.nf
 have hk := ok.may.keys
 have hf := ok.may.fuses
 have hsl := ok.may.slots
 unfold Cfg.nf at hb hn
 have e1 : 0 ≤ C.cfg.slots * C.cfg.fuses := Int.mul_nonneg (by omega) (by omega)
 refine ⟨?_, by omega, by omega⟩
 rw [wrap_id (n := C.cfg.slots * C.cfg.fuses) (by omega), wrap_id (by omega)]
theorem of_sp {Q : Int → H → Prop} (hs : Sat h0 A h) (ci : At A i (chipE p C)) (key : Int) (h1 : 0 ≤ key) (h2 : key < C.cfg.keys) (k : ∀ h', Sat h0 A h' → Q (C.cfg.slots * C.cfg.fuses + key) h') : F_fuse_of ⟨p, 0, none⟩ key Q h := by
 unfold F_fuse_of G_fuse_of
 refine Config_sp hs ci ?_
 intro h3 hs
 refine Config_sp hs ci ?_
 intro h4 hs
 rw [(key_in (chip_ok hs ci) h1 h2).1]
 exact k _ hs
theorem Revoked_sp {Q : Bool → Int → H → Prop} (hs : Sat h0 A h) (ci : At A i (chipE p C)) (key : Int) (k : ∀ h', Sat h0 A h' → Q (revokedM C key).1 (revokedM C key).2 h') : F_fuse_Revoked ⟨p, 0, none⟩ key Q h := by
 unfold F_fuse_Revoked G_fuse_Revoked
 refine Config_sp hs ci ?_
 intro h1 hs
 refine fasked_sp hs ci _ _ ?_
 unfold revokedM at k
 by_cases e : askedM C key C.cfg.keys = 0
 case neg =>
  rw [if_pos (by simpa using e)] at k ⊢
  exact k _ hs
 obtain ⟨ho, h1, h2⟩ := askedM_zero e
 rw [if_neg (by simpa using e)] at k ⊢
 refine of_sp hs ci key h1 h2 ?_
 intro h3 hs
 obtain ⟨x1, x2, x3⟩ := key_in (chip_ok hs ci) h1 h2
 refine Blown_sp hs ci _ ?_
 have eb : blownM C (C.cfg.slots * C.cfg.fuses + key) = (C.s.blown.getD (C.cfg.slots * C.cfg.fuses + key).toNat false, 0) := by
  unfold blownM; rw [askedM_in ho x2 x3, if_neg (by simp)]
 rw [eb]
 exact k _ hs
end
end Go.Proofs.YtaglicdidpgkpaaGreatDoor

/- Contracts of the document's fuses. Own work. -/
set_option maxRecDepth 100000
set_option linter.unusedVariables false
namespace Go.Proofs.YtaglicdidpgkpaaGreatDoor
open Go Go.Vc

section
variable {h0 h : H} {A : List Ent} {i j p r : Nat} {C : Cm}
theorem ref_bl (hs : Sat h0 A h) (cj : At A j (refE r C)) : ∃ w : Pl, C.ok ∧ (∀ o v, (C.cells w.a w.b w.c w.m)[o]? = some v → hc h ⟨r, o, none⟩ = some v) ∧ w.c.2.1 = C.s.blown.length ∧
  ∀ k, k < C.s.blown.length → ∃ q, w.c.1 = some ⟨q, 0, none⟩ ∧ hc h ⟨q, k, none⟩ = some (.bool (C.s.blown.getD k false)) := by
 obtain ⟨⟨w, ms⟩, ⟨ok, _, _, _⟩, hs⟩ := (hs.front cj).open_
 dsimp only [refL, List.cons_append, List.nil_append] at hs
 have hl := hs.sl_len (i := 3) (.s (.s (.s .z)))
 simp only [bools_length, Nat.mul_one] at hl
 refine ⟨w, ok, fun o v e => hs.ld .z e, hl.symm, ?_⟩
 intro k hk
 obtain ⟨q, hq⟩ := hs.sl_some (i := 3) (.s (.s (.s .z))) (by omega)
 refine ⟨q, hq, ?_⟩
 obtain ⟨w1, w2, ⟨cp, cl, cc⟩, w4⟩ := w
 simp only at hq hl
 subst hq
 refine hs.sld (i := 3) (.s (.s (.s .z))) ?_
 rw [bools_get, List.getElem?_eq_getElem hk]
 simp [List.getD, List.getElem?_eq_getElem hk]
theorem rmay_sp {Q : Int → H → Prop} (hs : Sat h0 A h) (ci : At A i (refE p C)) (n j : Int) (k : Q (askedM C j n) h) : F_portcullisref07_may ⟨p, 0, none⟩ j n Q h := by
 unfold F_portcullisref07_may G_portcullisref07_may
 try simp only [add_mk, Nat.zero_add]
 obtain ⟨w, ok, ld, hl, el⟩ := ref_bl hs ci
 refine ⟨_, ld 11 _ rfl, ?_⟩
 unfold askedM at k
 simp only [ltI_eq, leI_eq, decide_eq_true_eq]
 split
 ·simpa [*] using k
 ·split
  ·simpa [*] using k
  ·split <;> simpa [*] using k
theorem rCount_sp {Q : Int → Int → H → Prop} (hs : Sat h0 A h) (ci : At A i (refE p C)) (slot : Int) (k : ∀ h', Sat h0 A h' → Q (countM C slot).1 (countM C slot).2 h') : F_portcullisref07_Count ⟨p, 0, none⟩ slot Q h := by
 unfold F_portcullisref07_Count G_portcullisref07_Count
 try simp only [add_mk, Nat.zero_add]
 obtain ⟨w, ok, ld, hl, el⟩ := ref_bl hs ci
 refine ⟨_, ld 1 _ rfl, ?_⟩
 refine rmay_sp hs ci _ _ ?_
 unfold countM at k
 by_cases e : askedM C slot C.cfg.slots = 0
 case neg =>
  rw [if_pos (by simpa using e)] at k ⊢
  exact k _ hs
 obtain ⟨ho, h1, h2⟩ := askedM_zero e
 rw [if_neg (by simpa using e)] at k ⊢
 obtain ⟨e1, e2, e3, e4, e5, e6⟩ := row_in ok h1 h2
 have hsl := ok.may.slots
 clear w ld hl el
 intro J hJ
 generalize hf : C.cfg.fuses.toNat = f at *
 generalize ha : (slot * C.cfg.fuses).toNat = a at *
 refine loop_st f (fun n (_ : Unit) => [.dv (.one (.int .i64 (cnt C.s.blown a n : Int))), .dv (.one (.int .i64 (n : Int)))]) (fun _ _ h => Sat h0 A h) ?_ ?_ 0 () _ (by omega) hs
 ·intro n _ h2 hn hs hk
  apply hJ
  obtain ⟨w, ok, ld, hl, el⟩ := ref_bl hs ci
  refine ⟨_, ld 2 _ rfl, ?_⟩
  rw [ltI_eq, if_pos (by simp; omega)]
  refine ⟨_, _, _, ld 9 _ rfl, ?_⟩
  refine ⟨_, ld 2 _ rfl, ?_⟩
  have ew : IntKind.i64.wrap (IntKind.i64.wrap (slot * C.cfg.fuses) + n) = ((a + n : Nat) : Int) := by
   rw [wrap_id (n := slot * C.cfg.fuses) (by omega), wrap_id (by omega)]; omega
  rw [ew]
  obtain ⟨q, hq, hb⟩ := el (a + n) (by omega)
  refine ⟨_, hq, by omega, by omega, _, by rw [add_mk, Int.toNat_natCast, Nat.mul_one, Nat.zero_add]; exact hb, ?_⟩
  have hcl := cnt_le C.s.blown a n
  have hk := hk () _ hs
  by_cases hb : C.s.blown.getD (a + n) false = true
  ·rw [if_pos (by simpa using hb), wrap_succ (by omega), wrap_succ (by omega)]
   have e7 : cnt C.s.blown a (n + 1) = cnt C.s.blown a n + 1 := by rw [cnt, if_pos hb]
   rw [e7] at hk
   exact hk
  ·rw [if_neg (by simpa using hb), wrap_succ (by omega)]
   have e7 : cnt C.s.blown a (n + 1) = cnt C.s.blown a n := by rw [cnt, if_neg hb]; rfl
   rw [e7] at hk
   exact hk
 ·intro _ h2 hs
  apply hJ
  obtain ⟨w, ok, ld, hl, el⟩ := ref_bl hs ci
  refine ⟨_, ld 2 _ rfl, ?_⟩
  rw [ltI_eq, if_neg (by simp; omega)]
  exact k _ hs
theorem rRevoked_sp {Q : Bool → Int → H → Prop} (hs : Sat h0 A h) (ci : At A i (refE p C)) (key : Int) (k : ∀ h', Sat h0 A h' → Q (revokedM C key).1 (revokedM C key).2 h') : F_portcullisref07_Revoked ⟨p, 0, none⟩ key Q h := by
 unfold F_portcullisref07_Revoked G_portcullisref07_Revoked
 try simp only [add_mk, Nat.zero_add]
 obtain ⟨w, ok, ld, hl, el⟩ := ref_bl hs ci
 refine ⟨_, ld 4 _ rfl, ?_⟩
 refine rmay_sp hs ci _ _ ?_
 unfold revokedM at k
 by_cases e : askedM C key C.cfg.keys = 0
 case neg =>
  rw [if_pos (by simpa using e)] at k ⊢
  exact k _ hs
 obtain ⟨ho, h1, h2⟩ := askedM_zero e
 rw [if_neg (by simpa using e)] at k ⊢
 obtain ⟨x1, x2, x3⟩ := key_in ok h1 h2
 refine ⟨_, _, _, ld 9 _ rfl, _, ld 1 _ rfl, _, ld 2 _ rfl, ?_⟩
 rw [x1]
 obtain ⟨q, hq, hb⟩ := el (C.cfg.slots * C.cfg.fuses + key).toNat (by omega)
 exact ⟨_, hq, by omega, by omega, _, by rw [add_mk, Nat.mul_one, Nat.zero_add]; exact hb, k _ hs⟩
end
end Go.Proofs.YtaglicdidpgkpaaGreatDoor
end

/- Contracts of the fuses' statements: FuseDoes. Own work. -/
section
set_option maxRecDepth 100000
set_option linter.unusedVariables false
namespace Go.Proofs.YtaglicdidpgkpaaGreatDoor
open Go Go.Vc

section
variable {h0 h : H} {A : List Ent} {i j p r : Nat} {C : Cm}
structure Stp7 where
 kind : Int
 a : Int
 n : Int
structure Stp7.ok (s : Stp7) : Prop where
 n : s.n < 2 ^ 63
structure Script7 (h : H) (p : Option Addr) (l : Nat) (sc : List Stp7) : Prop where
 len : sc.length = l
 small : l < 2 ^ 62
 el : ∀ i (hi : i < sc.length), ∃ (q : Addr), p = some q ∧ hc h (q.add (i * 3)) = some (.int .i64 sc[i].kind) ∧ hc h ((q.add (i * 3)).add 1) = some (.int .i64 sc[i].a) ∧
  hc h ((q.add (i * 3)).add 2) = some (.int .i64 sc[i].n) ∧ sc[i].ok
end
end Go.Proofs.YtaglicdidpgkpaaGreatDoor
end
