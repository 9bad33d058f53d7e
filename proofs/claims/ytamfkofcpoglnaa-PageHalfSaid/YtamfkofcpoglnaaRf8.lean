/- Contracts: equal states are told so. Own work. -/
import Derived.Test.YtamfkofcpoglnaaFa3
import Derived.Test.YtamfkofcpoglnaaFa6
import Derived.Test.YtamfkofcpoglnaaRf6
set_option autoImplicit false
set_option linter.all false
set_option linter.unusedVariables false
namespace Go.Proofs.Ytamfkofcpoglnaa
open Go Go.Vc

section
variable {h0 h : H} {A : List Ent} {i p : Nat} {C : Cm}
theorem rdm_row {h : H} {a : Sl} {rows : List (List Int)} (r : RdM h 32 a rows) {j : Nat} (hj : j < rows.length) :
    ∃ q x, a.1 = some q ∧ hc h (q.add (j * 1)) = some (Sl.v x) ∧ rows[j].length = x.2.1 * 32 := by
  obtain ⟨q, x, h1, h2, h3⟩ := r.at hj
  exact ⟨q, x, h1, h2, by have := h3.1; simpa using this⟩
theorem SameState_sp {a b c a2 b2 c2 : Sl} {s : St} {Q : Bool → H → Prop} (hs : Sat h0 A h) (rd1 : ∀ h', Sat h0 A h' → RdS h' a b c s) (rd2 : ∀ h', Sat h0 A h' → RdS h' a2 b2 c2 s)
    (sm1 : s.pages.length < 2 ^ 62) (sm2 : s.erases.length < 2 ^ 62) (sm3 : s.blown.length < 2 ^ 62) (sm4 : ∀ l, l ∈ s.pages → l.length < 2 ^ 62) (k : ∀ h', Sat h0 A h' → Q true h') :
    F_portcullisref04_SameState a.1 a.2.1 a.2.2 b.1 b.2.1 b.2.2 c.1 c.2.1 c.2.2 a2.1 a2.2.1 a2.2.2 b2.1 b2.2.1 b2.2.2 c2.1 c2.2.1 c2.2.2 Q h := by
  unfold F_portcullisref04_SameState G_portcullisref04_SameState
  simp only [add_mk, Nat.zero_add]
  intro n1 _ hn; replace hs := Sat.new hs hn; clear hn
  intro n2 h2 hn; replace hs := Sat.new hs hn; clear hn
  intro J26 hJ26
  have r1 := rd1 _ hs.drop.drop
  have r2 := rd2 _ hs.drop.drop
  have l1 := r1.pg.len; have l2 := r2.pg.len
  have l3 : s.erases.length = b.2.1 := by have := r1.er.1; simpa using this
  have l4 : s.erases.length = b2.2.1 := by have := r2.er.1; simpa using this
  have l5 : s.blown.length = c.2.1 := by have := r1.bl.1; simpa using this
  have l6 : s.blown.length = c2.2.1 := by have := r2.bl.1; simpa using this
  refine ⟨_, _, _, Sat.ld hs (by (repeat (first | exact At.z | apply At.s))) (by rfl), ?_⟩
  refine ⟨_, _, _, Sat.ld hs (by (repeat (first | exact At.z | apply At.s))) (by rfl), ?_⟩
  rw [if_neg (by simp; omega)]
  refine ⟨_, _, _, Sat.ld hs (by (repeat (first | exact At.z | apply At.s))) (by rfl), ?_⟩
  refine ⟨_, _, _, Sat.ld hs (by (repeat (first | exact At.z | apply At.s))) (by rfl), ?_⟩
  rw [if_neg (by simp; omega)]
  refine ⟨_, _, _, Sat.ld hs (by (repeat (first | exact At.z | apply At.s))) (by rfl), ?_⟩
  refine ⟨_, _, _, Sat.ld hs (by (repeat (first | exact At.z | apply At.s))) (by rfl), ?_⟩
  rw [if_neg (by simp; omega)]
  apply hJ26
  intro J28 hJ28
  refine loop_up a.2.1 (fun i h' => h' = h2) ?_ ?_ 0 _ (by omega) rfl
  · rintro j h' hj rfl hk
    apply hJ28
    refine ⟨_, _, _, Sat.ld hs (by (repeat (first | exact At.z | apply At.s))) (by rfl), ?_⟩
    rw [ltI_eq, if_pos (by simp; omega)]
    have hj1 : j < s.pages.length := by omega
    obtain ⟨q1, x1, e1, e2, e3⟩ := rdm_row r1.pg hj1
    obtain ⟨q2, x2, f1, f2, f3⟩ := rdm_row r2.pg hj1
    refine ⟨_, _, _, Sat.ld hs (by (repeat (first | exact At.z | apply At.s))) (by rfl), ?_⟩
    refine ⟨_, e1, by omega, by omega, _, _, _, e2, ?_⟩
    refine ⟨_, _, _, Sat.ld hs (by (repeat (first | exact At.z | apply At.s))) (by rfl), ?_⟩
    refine ⟨_, f1, by omega, by omega, _, _, _, f2, ?_⟩
    have hxl := sm4 _ (List.getElem_mem hj1)
    rw [if_neg (by simp; omega)]
    intro J48 hJ48
    refine loop_up x1.2.1 (fun i h2 => h2 = h') ?_ ?_ 0 _ (by omega) rfl
    · rintro m h2 hm rfl hk2
      apply hJ48
      have hmk : (m + 1) * 32 ≤ s.pages[j].length := by omega
      obtain ⟨u1, y1, v1, g1, g2, g3, g4, g5⟩ := r1.pg.cell hj1 hmk
      obtain ⟨u2, y2, v2, k1, k2, k3, k4, k5⟩ := r2.pg.cell hj1 hmk
      refine ⟨_, _, _, Sat.ld hs (by (repeat (first | exact At.z | apply At.s))) (by rfl), ?_⟩
      refine ⟨_, g1, by omega, by omega, _, _, _, g2, ?_⟩
      rw [ltI_eq, if_pos (by simp; omega)]
      refine ⟨_, _, _, Sat.ld hs (by (repeat (first | exact At.z | apply At.s))) (by rfl), ?_⟩
      refine ⟨_, g1, by omega, by omega, _, _, _, g2, ?_⟩
      refine ⟨_, g4, by omega, by omega, _, cellAt_length hmk, by simpa using g5, ?_⟩
      refine ⟨_, _, _, Sat.ld hs (by (repeat (first | exact At.z | apply At.s))) (by rfl), ?_⟩
      refine ⟨_, k1, by omega, by omega, _, _, _, k2, ?_⟩
      refine ⟨_, k4, by omega, by omega, _, cellAt_length hmk, by simpa using k5, ?_⟩
      rw [if_neg (by simp), wrap_succ (by omega)]
      exact hk2 _ rfl
    · rintro h2 rfl
      apply hJ48
      refine ⟨_, _, _, Sat.ld hs (by (repeat (first | exact At.z | apply At.s))) (by rfl), ?_⟩
      refine ⟨_, e1, by omega, by omega, _, _, _, e2, ?_⟩
      rw [ltI_eq, if_neg (by simp), wrap_succ (by omega)]
      exact hk _ rfl
  · rintro h' rfl
    apply hJ28
    refine ⟨_, _, _, Sat.ld hs (by (repeat (first | exact At.z | apply At.s))) (by rfl), ?_⟩
    rw [ltI_eq, if_neg (by simp)]
    intro J78 hJ78
    refine loop_up b.2.1 (fun i h2 => h2 = h') ?_ ?_ 0 _ (by omega) rfl
    · rintro j h2 hj rfl hk
      apply hJ78
      have hj1 : j < s.erases.length := by omega
      obtain ⟨q1, e1, e2⟩ := hsv_get r1.er (i := j) (v := .int .i64 s.erases[j]) (by rw [ints_get, List.getElem?_eq_getElem hj1]; rfl)
      obtain ⟨q2, f1, f2⟩ := hsv_get r2.er (i := j) (v := .int .i64 s.erases[j]) (by rw [ints_get, List.getElem?_eq_getElem hj1]; rfl)
      refine ⟨_, _, _, Sat.ld hs (by (repeat (first | exact At.z | apply At.s))) (by rfl), ?_⟩
      rw [ltI_eq, if_pos (by simp; omega)]
      refine ⟨_, _, _, Sat.ld hs (by (repeat (first | exact At.z | apply At.s))) (by rfl), ?_⟩
      refine ⟨_, e1, by omega, by omega, _, by simpa using e2, ?_⟩
      refine ⟨_, _, _, Sat.ld hs (by (repeat (first | exact At.z | apply At.s))) (by rfl), ?_⟩
      refine ⟨_, f1, by omega, by omega, _, by simpa using f2, ?_⟩
      rw [if_neg (by simp), wrap_succ (by omega)]
      exact hk _ rfl
    · rintro h2 rfl
      apply hJ78
      refine ⟨_, _, _, Sat.ld hs (by (repeat (first | exact At.z | apply At.s))) (by rfl), ?_⟩
      rw [ltI_eq, if_neg (by simp)]
      intro J94 hJ94
      refine loop_up c.2.1 (fun i h3 => h3 = h2) ?_ ?_ 0 _ (by omega) rfl
      · rintro j h3 hj rfl hk
        apply hJ94
        have hj1 : j < s.blown.length := by omega
        obtain ⟨q1, e1, e2⟩ := hsv_get r1.bl (i := j) (v := .bool s.blown[j]) (by rw [bools_get, List.getElem?_eq_getElem hj1]; rfl)
        obtain ⟨q2, f1, f2⟩ := hsv_get r2.bl (i := j) (v := .bool s.blown[j]) (by rw [bools_get, List.getElem?_eq_getElem hj1]; rfl)
        refine ⟨_, _, _, Sat.ld hs (by (repeat (first | exact At.z | apply At.s))) (by rfl), ?_⟩
        rw [ltI_eq, if_pos (by simp; omega)]
        refine ⟨_, _, _, Sat.ld hs (by (repeat (first | exact At.z | apply At.s))) (by rfl), ?_⟩
        refine ⟨_, e1, by omega, by omega, _, by simpa using e2, ?_⟩
        refine ⟨_, _, _, Sat.ld hs (by (repeat (first | exact At.z | apply At.s))) (by rfl), ?_⟩
        refine ⟨_, f1, by omega, by omega, _, by simpa using f2, ?_⟩
        rw [if_neg (by simp), wrap_succ (by omega)]
        exact hk _ rfl
      · rintro h3 rfl
        apply hJ94
        refine ⟨_, _, _, Sat.ld hs (by (repeat (first | exact At.z | apply At.s))) (by rfl), ?_⟩
        rw [ltI_eq, if_neg (by simp)]
        exact k _ hs.drop.drop
end
end Go.Proofs.Ytamfkofcpoglnaa

/- Contracts of the document's chip: Copy, Lay. Own work. -/
set_option autoImplicit false
set_option linter.unusedVariables false
namespace Go.Proofs.Ytamfkofcpoglnaa
open Go Go.Vc

section
variable {h0 h : H} {A : List Ent} {i p : Nat} {C : Cm}
theorem Fits_sp {a b c' : Sl} {s : St} (c : Cfg) (hm : c.may) {Q : Bool → H → Prop} (hs : Sat h0 A h) (rd : ∀ h', Sat h0 A h' → RdS h' a b c' s)
    (k1 : ¬ s.lays c → ∀ h', Sat h0 A h' → Q false h') (k2 : s.lays c → ∀ h', Sat h0 A h' → Q true h') :
    F_portcullisref04_Fits c.cells c.slots c.fuses c.step c.keys c.erases c.area a.1 a.2.1 a.2.2 b.1 b.2.1 b.2.2 c'.1 c'.2.1 c'.2.2 Q h := by
  unfold F_portcullisref04_Fits G_portcullisref04_Fits
  simp only [add_mk, Nat.zero_add]
  intro n1 _ hn; replace hs := Sat.new hs hn; clear hn
  intro n2 h2 hn; replace hs := Sat.new hs hn; clear hn
  refine ⟨_, Sat.ld hs (by (repeat (first | exact At.z | apply At.s))) (by rfl), ?_⟩
  simp only [wnp hm, wnf hm]
  have hnp := hm.np
  have hnf := hm.nf
  have hcl := hm.cells
  intro J25 hJ25
  have r1 := rd _ hs.drop.drop
  have l1 := r1.pg.len
  have l2 : s.erases.length = b.2.1 := by have := r1.er.1; simpa using this
  have l3 : s.blown.length = c'.2.1 := by have := r1.bl.1; simpa using this
  have bad : ¬ s.lays c → Q false h2 := fun nf => k1 nf _ hs.drop.drop
  refine ⟨_, _, _, Sat.ld hs (by (repeat (first | exact At.z | apply At.s))) (by rfl), ?_⟩
  by_cases e1 : (s.pages.length : Int) = c.np
  case neg => rw [if_pos (by simp; omega)]; exact bad (fun f => e1 f.fits.pages)
  rw [if_neg (by simp; omega)]
  refine ⟨_, _, _, Sat.ld hs (by (repeat (first | exact At.z | apply At.s))) (by rfl), ?_⟩
  by_cases e2 : (s.erases.length : Int) = c.np
  case neg => rw [if_pos (by simp; omega)]; exact bad (fun f => e2 f.fits.erases)
  rw [if_neg (by simp; omega)]
  refine ⟨_, _, _, Sat.ld hs (by (repeat (first | exact At.z | apply At.s))) (by rfl), ?_⟩
  refine ⟨_, Sat.ld hs (by (repeat (first | exact At.z | apply At.s))) (by rfl), ?_⟩
  refine ⟨_, Sat.ld hs (by (repeat (first | exact At.z | apply At.s))) (by rfl), ?_⟩
  refine ⟨_, Sat.ld hs (by (repeat (first | exact At.z | apply At.s))) (by rfl), ?_⟩
  by_cases e3 : (s.blown.length : Int) = c.nf
  case neg => rw [wnf hm, if_pos (by simp; omega)]; exact bad (fun f => e3 f.fits.blown)
  rw [wnf hm, if_neg (by simp; omega)]
  apply hJ25
  intro J27 hJ27
  refine loop_up c.np.toNat (fun i h' => h' = h2 ∧ ∀ j (hj : j < s.pages.length) (hj2 : j < s.erases.length), j < i → (s.pages[j].length : Int) = 32 * c.cells ∧ 0 ≤ s.erases[j]) ?_ ?_ 0 _ (by omega) ⟨rfl, fun j _ _ hj => by omega⟩
  · rintro j h' hj ⟨rfl, hinv⟩ hk
    apply hJ27
    rw [ltI_eq, if_pos (by simp; omega)]
    have hj1 : j < s.pages.length := by omega
    have hj2 : j < s.erases.length := by omega
    obtain ⟨q1, x1, f1, f2, f3⟩ := rdm_row r1.pg hj1
    obtain ⟨q2, g1, g2⟩ := hsv_get r1.er (i := j) (v := .int .i64 s.erases[j]) (by rw [ints_get, List.getElem?_eq_getElem hj2]; rfl)
    refine ⟨_, _, _, Sat.ld hs (by (repeat (first | exact At.z | apply At.s))) (by rfl), ?_⟩
    refine ⟨_, f1, by omega, by omega, _, _, _, f2, ?_⟩
    refine ⟨_, Sat.ld hs (by (repeat (first | exact At.z | apply At.s))) (by rfl), ?_⟩
    by_cases e4 : (s.pages[j].length : Int) = 32 * c.cells
    case neg => rw [if_pos (by simp; omega)]; exact bad (fun f => e4 (f.fits.cells _ (List.getElem_mem hj1)))
    rw [if_neg (by simp; omega)]
    refine ⟨_, _, _, Sat.ld hs (by (repeat (first | exact At.z | apply At.s))) (by rfl), ?_⟩
    refine ⟨_, g1, by omega, by omega, _, by simpa using g2, ?_⟩
    rw [ltI_eq]
    by_cases e5 : s.erases[j] < 0
    · rw [if_pos (by simpa using e5)]; exact bad (fun f => by have := f.pos _ (List.getElem_mem hj2); omega)
    · rw [if_neg (by simpa using e5), wrap_succ (by omega)]
      refine hk _ ⟨rfl, fun m hm1 hm2 hmj => ?_⟩
      by_cases e : m = j
      · subst e; exact ⟨e4, by omega⟩
      · exact hinv m hm1 hm2 (by omega)
  · rintro h' ⟨rfl, hinv⟩
    apply hJ27
    rw [ltI_eq, if_neg (by simp; omega)]
    refine k2 ⟨⟨e1, ?_, e2, e3⟩, ?_⟩ _ hs.drop.drop
    · intro l hl
      obtain ⟨j, hj, rfl⟩ := List.mem_iff_getElem.1 hl
      exact (hinv j hj (by omega) (by omega)).1
    · intro n hn
      obtain ⟨j, hj, rfl⟩ := List.mem_iff_getElem.1 hn
      exact (hinv j (by omega) hj (by omega)).2
theorem rLay_sp {a b c' : Sl} {s : St} (c : Cfg) {Q : Option Addr → Int → H → Prop} (hs : Sat h0 A h) (rd : ∀ h', Sat h0 A h' → RdS h' a b c' s) (ty : s.typed)
    (k1 : ¬ c.may → ∀ h', Sat h0 A h' → Q none 1 h') (k2 : c.may → ¬ s.lays c → ∀ h', Sat h0 A h' → Q none 5 h')
    (k3 : c.may → s.lays c → ∀ p h', Sat h0 (refE p (layC c s) :: A) h' → Q (some ⟨p, 0, none⟩) 0 h') :
    F_portcullisref04_Lay c.cells c.slots c.fuses c.step c.keys c.erases c.area a.1 a.2.1 a.2.2 b.1 b.2.1 b.2.2 c'.1 c'.2.1 c'.2.2 Q h := by
  unfold F_portcullisref04_Lay G_portcullisref04_Lay
  simp only [add_mk, Nat.zero_add]
  intro n1 _ hn; replace hs := Sat.new hs hn; clear hn
  intro n2 _ hn; replace hs := Sat.new hs hn; clear hn
  (repeat first | refine ⟨_, Sat.ld hs (by (repeat (first | exact At.z | apply At.s))) (by rfl), ?_⟩ | refine ⟨_, _, _, Sat.ld hs (by (repeat (first | exact At.z | apply At.s))) (by rfl), ?_⟩ | (intro _ _ hn; replace hs := Sat.new hs hn; clear hn) | refine ⟨Sat.cs hs (by (repeat (first | exact At.z | apply At.s))) (by rfl), ?_⟩ | (refine ⟨Sat.can hs (by (repeat (first | exact At.z | apply At.s))) (by simp), ?_⟩; intro _ e; replace hs := Sat.wr hs (by (repeat (first | exact At.z | apply At.s))) e; clear e; simp only [put, splice, List.set] at hs))
  refine rMay_sp c hs ?_
  intro h1 hs
  unfold Cfg.may?
  by_cases hm : c.may
  case neg =>
    rw [if_neg hm, if_pos (by decide)]
    exact k1 hm _ hs.drop.drop
  rw [if_pos hm, if_neg (by decide)]
  (repeat first | refine ⟨_, Sat.ld hs (by (repeat (first | exact At.z | apply At.s))) (by rfl), ?_⟩ | refine ⟨_, _, _, Sat.ld hs (by (repeat (first | exact At.z | apply At.s))) (by rfl), ?_⟩ | (intro _ _ hn; replace hs := Sat.new hs hn; clear hn) | refine ⟨Sat.cs hs (by (repeat (first | exact At.z | apply At.s))) (by rfl), ?_⟩ | (refine ⟨Sat.can hs (by (repeat (first | exact At.z | apply At.s))) (by simp), ?_⟩; intro _ e; replace hs := Sat.wr hs (by (repeat (first | exact At.z | apply At.s))) e; clear e; simp only [put, splice, List.set] at hs))
  refine Fits_sp (a := a) (b := b) (c' := c') c hm hs (fun h' hs' => rd _ hs'.drop.drop) ?_ ?_
  · intro nf h2 hs
    rw [if_pos (by decide)]
    exact k2 hm nf _ hs.drop.drop
  intro ly h2 hs
  rw [if_neg (by decide)]
  have ok := layC_ok hm ly ty
  (repeat first | refine ⟨_, Sat.ld hs (by (repeat (first | exact At.z | apply At.s))) (by rfl), ?_⟩ | refine ⟨_, _, _, Sat.ld hs (by (repeat (first | exact At.z | apply At.s))) (by rfl), ?_⟩ | (intro _ _ hn; replace hs := Sat.new hs hn; clear hn) | refine ⟨Sat.cs hs (by (repeat (first | exact At.z | apply At.s))) (by rfl), ?_⟩ | (refine ⟨Sat.can hs (by (repeat (first | exact At.z | apply At.s))) (by simp), ?_⟩; intro _ e; replace hs := Sat.wr hs (by (repeat (first | exact At.z | apply At.s))) e; clear e; simp only [put, splice, List.set] at hs))
  refine CopyState_sp (a := a) (b := b) (c := c') (s := s) hs (fun h' hs' => rd _ hs'.drop.drop) ok.small ?_
  intro a2 b2 c2 h5 hs
  replace hs : Sat h0 (matE 32 a2 s.pages :: sE b2 1 (ints .i64 s.erases) :: sE c2 1 (bools s.blown) :: blk n2 [a.v, b.v, c'.v] :: blk n1 [.int .i64 c.cells, .int .i64 c.slots, .int .i64 c.fuses, .int .i64 c.step, .int .i64 c.keys, .int .i64 c.erases, .int .i64 c.area] :: A) h5 := hs
  (repeat first | refine ⟨_, Sat.ld hs (by (repeat (first | exact At.z | apply At.s))) (by rfl), ?_⟩ | refine ⟨_, _, _, Sat.ld hs (by (repeat (first | exact At.z | apply At.s))) (by rfl), ?_⟩ | (intro _ _ hn; replace hs := Sat.new hs hn; clear hn) | refine ⟨Sat.cs hs (by (repeat (first | exact At.z | apply At.s))) (by rfl), ?_⟩ | (refine ⟨Sat.can hs (by (repeat (first | exact At.z | apply At.s))) (by simp), ?_⟩; intro _ e; replace hs := Sat.wr hs (by (repeat (first | exact At.z | apply At.s))) e; clear e; simp only [put, splice, List.set] at hs))
  refine k3 hm ly _ _ ?_
  replace hs := hs.sl_nil 1 none
  replace hs := Sat.front hs (e := slE _ _ _ 1 (bools _)) (by (repeat (first | exact At.z | apply At.s)))
  replace hs := Sat.front hs (e := slE _ _ _ 1 (ints .i64 _)) (by (repeat (first | exact At.z | apply At.s)))
  replace hs := Sat.front hs (e := matE 32 _ _) (by (repeat (first | exact At.z | apply At.s)))
  replace hs := Sat.front hs (e := blk _ [_, _, _, _, _, _, _, _, _, _, _, _, _, _]) (by (repeat (first | exact At.z | apply At.s)))
  simp only [del] at hs
  exact (ref_make (C := layC c s) (a := a2) (b := b2) (c := c2) (m := (none, 0, 0)) (ms := []) ok (by intro n hn; simp at hn) (by simp) (fun _ => rfl) hs).sub (by (repeat (first | exact List.Sublist.refl _ | apply List.Sublist.cons_cons | apply List.Sublist.cons)))
theorem rCopy_sp {Q : Option Addr → H → Prop} (hs : Sat h0 A h) (ci : At A i (refE p C)) (k : ∀ p' h', Sat h0 (refE p' C :: A) h' → Q (some ⟨p', 0, none⟩) h') : F_portcullisref04_Chip_Copy ⟨p, 0, none⟩ Q h := by
  unfold F_portcullisref04_Chip_Copy G_portcullisref04_Chip_Copy
  simp only [add_mk, Nat.zero_add]
  obtain ⟨⟨w, ms⟩, ⟨ok, mb, ml, me⟩, hs⟩ := (hs.front ci).open_; dsimp only [refL, List.cons_append, List.nil_append, Cm.cells] at hs; dsimp only at mb ml me
  repeat (first | refine ⟨_, Sat.ld hs (by (repeat (first | exact At.z | apply At.s))) (by rfl), ?_⟩ | refine ⟨_, _, _, Sat.ld hs (by (repeat (first | exact At.z | apply At.s))) (by rfl), ?_⟩ | refine ⟨_, hs.ld .z rfl, ?_⟩)
  have hml := hs.sl_len (i := 4) (.s (.s (.s (.s .z))))
  simp only [ints_length, Nat.mul_one] at hml
  have fin : ∀ nl (a' b' c' : Sl) p' c2 h', Sat h0 (blk nl (C.cells a' b' c' (p', w.m.2.1, c2)) :: matE 32 a' C.s.pages :: sE b' 1 (ints .i64 C.s.erases) :: sE c' 1 (bools C.s.blown) :: sE (p', w.m.2.1, c2) 1 (ints .u8 ms) ::
      blk p (C.cells w.a w.b w.c w.m) :: matE 32 w.a C.s.pages :: sE w.b 1 (ints .i64 C.s.erases) :: sE w.c 1 (bools C.s.blown) :: sE w.m 1 (ints .u8 ms) :: del A i) h' → Q (some ⟨nl, 0, none⟩) h' := by
    intro nl a' b' c' p' c2 h' hs
    replace hs := ref_make (a := a') (b := b') (c := c') (m := (p', w.m.2.1, c2)) ok mb ml me hs
    replace hs := Sat.front hs (e := slE w.m.1 _ _ 1 (ints .u8 ms)) (by (repeat (first | exact At.z | apply At.s)))
    replace hs := Sat.front hs (e := slE w.c.1 w.c.2.1 w.c.2.2 1 (bools C.s.blown)) (by (repeat (first | exact At.z | apply At.s)))
    replace hs := Sat.front hs (e := slE w.b.1 w.b.2.1 w.b.2.2 1 (ints .i64 C.s.erases)) (by (repeat (first | exact At.z | apply At.s)))
    replace hs := Sat.front hs (e := matE 32 w.a C.s.pages) (by (repeat (first | exact At.z | apply At.s)))
    replace hs := Sat.front hs (e := blk p _) (by (repeat (first | exact At.z | apply At.s)))
    simp only [del] at hs
    have hC := ref_close (a := w.a) (b := w.b) (c := w.c) (m := w.m) ok mb ml me ci.s hs
    simp only [put_succ, ci.put_self] at hC
    exact k _ _ hC
  refine And.intro ?_ ?_
  · refine CopyState_sp (a := w.a) (b := w.b) (c := w.c) (s := C.s) hs (fun h' hs' => sat_rdS hs' (i := 1) (j := 2) (k := 3) (.s .z) (.s (.s .z)) (.s (.s (.s .z)))) ok.small ?_
    intro a' b' c' h' hs
    replace hs : Sat h0 (matE 32 a' C.s.pages :: sE b' 1 (ints .i64 C.s.erases) :: sE c' 1 (bools C.s.blown) :: refL p C (w, ms) ++ del A i) h' := hs
    dsimp only [refL, List.cons_append, List.nil_append, Cm.cells] at hs
    (repeat first | refine ⟨_, Sat.ld hs (by (repeat (first | exact At.z | apply At.s))) (by rfl), ?_⟩ | refine ⟨_, _, _, Sat.ld hs (by (repeat (first | exact At.z | apply At.s))) (by rfl), ?_⟩ | (intro _ _ hn; replace hs := Sat.new hs hn; clear hn) | refine ⟨Sat.cs hs (by (repeat (first | exact At.z | apply At.s))) (by rfl), ?_⟩ | (refine ⟨Sat.can hs (by (repeat (first | exact At.z | apply At.s))) (by simp), ?_⟩; intro _ e; replace hs := Sat.wr hs (by (repeat (first | exact At.z | apply At.s))) e; clear e; simp only [put, splice, List.set] at hs))
    refine ⟨_, hs.sv (i := 8) (.s (.s (.s (.s (.s (.s (.s (.s .z)))))))), Sat.app_new hs (by simp; omega) rfl (ints_one _ _) (by omega) ?_⟩
    intro p' c2 h2 hs
    (repeat first | refine ⟨_, Sat.ld hs (by (repeat (first | exact At.z | apply At.s))) (by rfl), ?_⟩ | refine ⟨_, _, _, Sat.ld hs (by (repeat (first | exact At.z | apply At.s))) (by rfl), ?_⟩ | (intro _ _ hn; replace hs := Sat.new hs hn; clear hn) | refine ⟨Sat.cs hs (by (repeat (first | exact At.z | apply At.s))) (by rfl), ?_⟩ | (refine ⟨Sat.can hs (by (repeat (first | exact At.z | apply At.s))) (by simp), ?_⟩; intro _ e; replace hs := Sat.wr hs (by (repeat (first | exact At.z | apply At.s))) e; clear e; simp only [put, splice, List.set] at hs))
    refine fin _ a' b' c' p' c2 _ ?_
    replace hs := Sat.front hs (e := slE p' _ _ 1 (ints .u8 ms)) (by (repeat (first | exact At.z | apply At.s)))
    replace hs := Sat.front hs (e := slE c'.1 c'.2.1 c'.2.2 1 (bools C.s.blown)) (by (repeat (first | exact At.z | apply At.s)))
    replace hs := Sat.front hs (e := slE b'.1 b'.2.1 b'.2.2 1 (ints .i64 C.s.erases)) (by (repeat (first | exact At.z | apply At.s)))
    replace hs := Sat.front hs (e := matE 32 a' C.s.pages) (by (repeat (first | exact At.z | apply At.s)))
    replace hs := Sat.front hs (e := blk _ [_, _, _, _, _, _, _, _, _, _, _, _, _, _]) (by (repeat (first | exact At.z | apply At.s)))
    simp only [del] at hs
    exact hs.sub (by (repeat (first | exact List.Sublist.refl _ | apply List.Sublist.cons_cons | apply List.Sublist.cons)))
  · (repeat first | refine ⟨_, Sat.ld hs (by (repeat (first | exact At.z | apply At.s))) (by rfl), ?_⟩ | refine ⟨_, _, _, Sat.ld hs (by (repeat (first | exact At.z | apply At.s))) (by rfl), ?_⟩ | (intro _ _ hn; replace hs := Sat.new hs hn; clear hn) | refine ⟨Sat.cs hs (by (repeat (first | exact At.z | apply At.s))) (by rfl), ?_⟩ | (refine ⟨Sat.can hs (by (repeat (first | exact At.z | apply At.s))) (by simp), ?_⟩; intro _ e; replace hs := Sat.wr hs (by (repeat (first | exact At.z | apply At.s))) e; clear e; simp only [put, splice, List.set] at hs))
    refine CopyState_sp (a := w.a) (b := w.b) (c := w.c) (s := C.s) hs (fun h' hs' => sat_rdS hs' (i := 2) (j := 3) (k := 4) (.s (.s .z)) (.s (.s (.s .z))) (.s (.s (.s (.s .z))))) ok.small ?_
    intro a' b' c' h' hs
    have hs : Sat h0 (matE 32 a' C.s.pages :: sE b' 1 (ints .i64 C.s.erases) :: sE c' 1 (bools C.s.blown) :: blk _ [] :: refL p C (w, ms) ++ del A i) h' := hs
    dsimp only [refL, List.cons_append, List.nil_append, Cm.cells] at hs
    (repeat first | refine ⟨_, Sat.ld hs (by (repeat (first | exact At.z | apply At.s))) (by rfl), ?_⟩ | refine ⟨_, _, _, Sat.ld hs (by (repeat (first | exact At.z | apply At.s))) (by rfl), ?_⟩ | (intro _ _ hn; replace hs := Sat.new hs hn; clear hn) | refine ⟨Sat.cs hs (by (repeat (first | exact At.z | apply At.s))) (by rfl), ?_⟩ | (refine ⟨Sat.can hs (by (repeat (first | exact At.z | apply At.s))) (by simp), ?_⟩; intro _ e; replace hs := Sat.wr hs (by (repeat (first | exact At.z | apply At.s))) e; clear e; simp only [put, splice, List.set] at hs))
    refine ⟨_, hs.sv (i := 8) (.s (.s (.s (.s (.s (.s (.s (.s .z)))))))), Sat.app_new hs (by simp; omega) rfl (ints_one _ _) (by omega) ?_⟩
    intro p' c2 h2 hs
    (repeat first | refine ⟨_, Sat.ld hs (by (repeat (first | exact At.z | apply At.s))) (by rfl), ?_⟩ | refine ⟨_, _, _, Sat.ld hs (by (repeat (first | exact At.z | apply At.s))) (by rfl), ?_⟩ | (intro _ _ hn; replace hs := Sat.new hs hn; clear hn) | refine ⟨Sat.cs hs (by (repeat (first | exact At.z | apply At.s))) (by rfl), ?_⟩ | (refine ⟨Sat.can hs (by (repeat (first | exact At.z | apply At.s))) (by simp), ?_⟩; intro _ e; replace hs := Sat.wr hs (by (repeat (first | exact At.z | apply At.s))) e; clear e; simp only [put, splice, List.set] at hs))
    refine fin _ a' b' c' p' c2 _ ?_
    replace hs := Sat.front hs (e := slE p' _ _ 1 (ints .u8 ms)) (by (repeat (first | exact At.z | apply At.s)))
    replace hs := Sat.front hs (e := slE c'.1 c'.2.1 c'.2.2 1 (bools C.s.blown)) (by (repeat (first | exact At.z | apply At.s)))
    replace hs := Sat.front hs (e := slE b'.1 b'.2.1 b'.2.2 1 (ints .i64 C.s.erases)) (by (repeat (first | exact At.z | apply At.s)))
    replace hs := Sat.front hs (e := matE 32 a' C.s.pages) (by (repeat (first | exact At.z | apply At.s)))
    replace hs := Sat.front hs (e := blk _ [_, _, _, _, _, _, _, _, _, _, _, _, _, _]) (by (repeat (first | exact At.z | apply At.s)))
    simp only [del] at hs
    exact hs.sub (by (repeat (first | exact List.Sublist.refl _ | apply List.Sublist.cons_cons | apply List.Sublist.cons)))
end
end Go.Proofs.Ytamfkofcpoglnaa
