/- AreaDoes: what is proved and its parts, laid together by a program of ours: Rf8 La2 La5 Fu3 Fu4 Ce4 Pg2 Pg4 Pg5 Ar1 Ar2 Ar3 Ar4 Ar5 Ar6 -/
import Derived.Test.YtamfkofcpoglnaaK9
set_option autoImplicit false
set_option linter.all false
/- Contracts: equal states are told so. Own work. -/
section
set_option linter.unusedVariables false
namespace Go.Proofs.Ytamfkofcpoglnaa
open Go Go.Vc

section
variable {h0 h : H} {A : List Ent} {i p : Nat} {C : Cm}
theorem rdm_row {h : H} {a : Sl} {rows : List (List Int)} (r : RdM h 32 a rows) {j : Nat} (hj : j < rows.length) :
    ∃ q x, a.1 = some q ∧ hc h (q.add (j * 1)) = some (Sl.v x) ∧ rows[j].length = x.2.1 * 32 := by
  obtain ⟨q, x, h1, h2, h3⟩ := r.at hj
  exact ⟨q, x, h1, h2, by have := h3.1; simpa using this⟩
theorem SameState_sp {a b c a2 b2 c2 : Sl} {s : St} {Q : Bool → H → Prop} (hs : Sat h0 A h) (rd1 : ∀ h', Sat h0 A h' → RdS h' a b c s) (rd2 : ∀ h', Sat h0 A h' → RdS h' a2 b2 c2 s)
    (sm1 : s.pages.length < 2 ^ 62) (sm2 : s.erases.length < 2 ^ 62) (sm3 : s.blown.length < 2 ^ 62) (sm4 : ∀ l, l ∈ s.pages → l.length < 2 ^ 62) (k : ∀ h', Sat h0 A h' → Q true h') :
    F_portcullisref04_SameState a.1 a.2.1 a.2.2 b.1 b.2.1 b.2.2 c.1 c.2.1 c.2.2 a2.1 a2.2.1 a2.2.2 b2.1 b2.2.1 b2.2.2 c2.1 c2.2.1 c2.2.2 Q h := by
  unfold F_portcullisref04_SameState G_portcullisref04_SameState
  simp only [add_mk, Nat.zero_add]
  intro n1 _ hn; replace hs := Sat.new hs hn; clear hn
  intro n2 h2 hn; replace hs := Sat.new hs hn; clear hn
  intro J26 hJ26
  have r1 := rd1 _ hs.drop.drop
  have r2 := rd2 _ hs.drop.drop
  have l1 := r1.pg.len; have l2 := r2.pg.len
  have l3 : s.erases.length = b.2.1 := by have := r1.er.1; simpa using this
  have l4 : s.erases.length = b2.2.1 := by have := r2.er.1; simpa using this
  have l5 : s.blown.length = c.2.1 := by have := r1.bl.1; simpa using this
  have l6 : s.blown.length = c2.2.1 := by have := r2.bl.1; simpa using this
  refine ⟨_, _, _, Sat.ld hs (by (repeat (first | exact At.z | apply At.s))) (by rfl), ?_⟩
  refine ⟨_, _, _, Sat.ld hs (by (repeat (first | exact At.z | apply At.s))) (by rfl), ?_⟩
  rw [if_neg (by simp; omega)]
  refine ⟨_, _, _, Sat.ld hs (by (repeat (first | exact At.z | apply At.s))) (by rfl), ?_⟩
  refine ⟨_, _, _, Sat.ld hs (by (repeat (first | exact At.z | apply At.s))) (by rfl), ?_⟩
  rw [if_neg (by simp; omega)]
  refine ⟨_, _, _, Sat.ld hs (by (repeat (first | exact At.z | apply At.s))) (by rfl), ?_⟩
  refine ⟨_, _, _, Sat.ld hs (by (repeat (first | exact At.z | apply At.s))) (by rfl), ?_⟩
  rw [if_neg (by simp; omega)]
  apply hJ26
  intro J28 hJ28
  refine loop_up a.2.1 (fun i h' => h' = h2) ?_ ?_ 0 _ (by omega) rfl
  · rintro j h' hj rfl hk
    apply hJ28
    refine ⟨_, _, _, Sat.ld hs (by (repeat (first | exact At.z | apply At.s))) (by rfl), ?_⟩
    rw [ltI_eq, if_pos (by simp; omega)]
    have hj1 : j < s.pages.length := by omega
    obtain ⟨q1, x1, e1, e2, e3⟩ := rdm_row r1.pg hj1
    obtain ⟨q2, x2, f1, f2, f3⟩ := rdm_row r2.pg hj1
    refine ⟨_, _, _, Sat.ld hs (by (repeat (first | exact At.z | apply At.s))) (by rfl), ?_⟩
    refine ⟨_, e1, by omega, by omega, _, _, _, e2, ?_⟩
    refine ⟨_, _, _, Sat.ld hs (by (repeat (first | exact At.z | apply At.s))) (by rfl), ?_⟩
    refine ⟨_, f1, by omega, by omega, _, _, _, f2, ?_⟩
    have hxl := sm4 _ (List.getElem_mem hj1)
    rw [if_neg (by simp; omega)]
    intro J48 hJ48
    refine loop_up x1.2.1 (fun i h2 => h2 = h') ?_ ?_ 0 _ (by omega) rfl
    · rintro m h2 hm rfl hk2
      apply hJ48
      have hmk : (m + 1) * 32 ≤ s.pages[j].length := by omega
      obtain ⟨u1, y1, v1, g1, g2, g3, g4, g5⟩ := r1.pg.cell hj1 hmk
      obtain ⟨u2, y2, v2, k1, k2, k3, k4, k5⟩ := r2.pg.cell hj1 hmk
      refine ⟨_, _, _, Sat.ld hs (by (repeat (first | exact At.z | apply At.s))) (by rfl), ?_⟩
      refine ⟨_, g1, by omega, by omega, _, _, _, g2, ?_⟩
      rw [ltI_eq, if_pos (by simp; omega)]
      refine ⟨_, _, _, Sat.ld hs (by (repeat (first | exact At.z | apply At.s))) (by rfl), ?_⟩
      refine ⟨_, g1, by omega, by omega, _, _, _, g2, ?_⟩
      refine ⟨_, g4, by omega, by omega, _, cellAt_length hmk, by simpa using g5, ?_⟩
      refine ⟨_, _, _, Sat.ld hs (by (repeat (first | exact At.z | apply At.s))) (by rfl), ?_⟩
      refine ⟨_, k1, by omega, by omega, _, _, _, k2, ?_⟩
      refine ⟨_, k4, by omega, by omega, _, cellAt_length hmk, by simpa using k5, ?_⟩
      rw [if_neg (by simp), wrap_succ (by omega)]
      exact hk2 _ rfl
    · rintro h2 rfl
      apply hJ48
      refine ⟨_, _, _, Sat.ld hs (by (repeat (first | exact At.z | apply At.s))) (by rfl), ?_⟩
      refine ⟨_, e1, by omega, by omega, _, _, _, e2, ?_⟩
      rw [ltI_eq, if_neg (by simp), wrap_succ (by omega)]
      exact hk _ rfl
  · rintro h' rfl
    apply hJ28
    refine ⟨_, _, _, Sat.ld hs (by (repeat (first | exact At.z | apply At.s))) (by rfl), ?_⟩
    rw [ltI_eq, if_neg (by simp)]
    intro J78 hJ78
    refine loop_up b.2.1 (fun i h2 => h2 = h') ?_ ?_ 0 _ (by omega) rfl
    · rintro j h2 hj rfl hk
      apply hJ78
      have hj1 : j < s.erases.length := by omega
      obtain ⟨q1, e1, e2⟩ := hsv_get r1.er (i := j) (v := .int .i64 s.erases[j]) (by rw [ints_get, List.getElem?_eq_getElem hj1]; rfl)
      obtain ⟨q2, f1, f2⟩ := hsv_get r2.er (i := j) (v := .int .i64 s.erases[j]) (by rw [ints_get, List.getElem?_eq_getElem hj1]; rfl)
      refine ⟨_, _, _, Sat.ld hs (by (repeat (first | exact At.z | apply At.s))) (by rfl), ?_⟩
      rw [ltI_eq, if_pos (by simp; omega)]
      refine ⟨_, _, _, Sat.ld hs (by (repeat (first | exact At.z | apply At.s))) (by rfl), ?_⟩
      refine ⟨_, e1, by omega, by omega, _, by simpa using e2, ?_⟩
      refine ⟨_, _, _, Sat.ld hs (by (repeat (first | exact At.z | apply At.s))) (by rfl), ?_⟩
      refine ⟨_, f1, by omega, by omega, _, by simpa using f2, ?_⟩
      rw [if_neg (by simp), wrap_succ (by omega)]
      exact hk _ rfl
    · rintro h2 rfl
      apply hJ78
      refine ⟨_, _, _, Sat.ld hs (by (repeat (first | exact At.z | apply At.s))) (by rfl), ?_⟩
      rw [ltI_eq, if_neg (by simp)]
      intro J94 hJ94
      refine loop_up c.2.1 (fun i h3 => h3 = h2) ?_ ?_ 0 _ (by omega) rfl
      · rintro j h3 hj rfl hk
        apply hJ94
        have hj1 : j < s.blown.length := by omega
        obtain ⟨q1, e1, e2⟩ := hsv_get r1.bl (i := j) (v := .bool s.blown[j]) (by rw [bools_get, List.getElem?_eq_getElem hj1]; rfl)
        obtain ⟨q2, f1, f2⟩ := hsv_get r2.bl (i := j) (v := .bool s.blown[j]) (by rw [bools_get, List.getElem?_eq_getElem hj1]; rfl)
        refine ⟨_, _, _, Sat.ld hs (by (repeat (first | exact At.z | apply At.s))) (by rfl), ?_⟩
        rw [ltI_eq, if_pos (by simp; omega)]
        refine ⟨_, _, _, Sat.ld hs (by (repeat (first | exact At.z | apply At.s))) (by rfl), ?_⟩
        refine ⟨_, e1, by omega, by omega, _, by simpa using e2, ?_⟩
        refine ⟨_, _, _, Sat.ld hs (by (repeat (first | exact At.z | apply At.s))) (by rfl), ?_⟩
        refine ⟨_, f1, by omega, by omega, _, by simpa using f2, ?_⟩
        rw [if_neg (by simp), wrap_succ (by omega)]
        exact hk _ rfl
      · rintro h3 rfl
        apply hJ94
        refine ⟨_, _, _, Sat.ld hs (by (repeat (first | exact At.z | apply At.s))) (by rfl), ?_⟩
        rw [ltI_eq, if_neg (by simp)]
        exact k _ hs.drop.drop
end
end Go.Proofs.Ytamfkofcpoglnaa

/- Contracts of the document's chip: Copy, Lay. Own work. -/
set_option linter.unusedVariables false
namespace Go.Proofs.Ytamfkofcpoglnaa
open Go Go.Vc

section
variable {h0 h : H} {A : List Ent} {i p : Nat} {C : Cm}
theorem Fits_sp {a b c' : Sl} {s : St} (c : Cfg) (hm : c.may) {Q : Bool → H → Prop} (hs : Sat h0 A h) (rd : ∀ h', Sat h0 A h' → RdS h' a b c' s)
    (k1 : ¬ s.lays c → ∀ h', Sat h0 A h' → Q false h') (k2 : s.lays c → ∀ h', Sat h0 A h' → Q true h') :
    F_portcullisref04_Fits c.cells c.slots c.fuses c.step c.keys c.erases c.area a.1 a.2.1 a.2.2 b.1 b.2.1 b.2.2 c'.1 c'.2.1 c'.2.2 Q h := by
  unfold F_portcullisref04_Fits G_portcullisref04_Fits
  simp only [add_mk, Nat.zero_add]
  intro n1 _ hn; replace hs := Sat.new hs hn; clear hn
  intro n2 h2 hn; replace hs := Sat.new hs hn; clear hn
  refine ⟨_, Sat.ld hs (by (repeat (first | exact At.z | apply At.s))) (by rfl), ?_⟩
  simp only [wnp hm, wnf hm]
  have hnp := hm.np
  have hnf := hm.nf
  have hcl := hm.cells
  intro J25 hJ25
  have r1 := rd _ hs.drop.drop
  have l1 := r1.pg.len
  have l2 : s.erases.length = b.2.1 := by have := r1.er.1; simpa using this
  have l3 : s.blown.length = c'.2.1 := by have := r1.bl.1; simpa using this
  have bad : ¬ s.lays c → Q false h2 := fun nf => k1 nf _ hs.drop.drop
  refine ⟨_, _, _, Sat.ld hs (by (repeat (first | exact At.z | apply At.s))) (by rfl), ?_⟩
  by_cases e1 : (s.pages.length : Int) = c.np
  case neg => rw [if_pos (by simp; omega)]; exact bad (fun f => e1 f.fits.pages)
  rw [if_neg (by simp; omega)]
  refine ⟨_, _, _, Sat.ld hs (by (repeat (first | exact At.z | apply At.s))) (by rfl), ?_⟩
  by_cases e2 : (s.erases.length : Int) = c.np
  case neg => rw [if_pos (by simp; omega)]; exact bad (fun f => e2 f.fits.erases)
  rw [if_neg (by simp; omega)]
  refine ⟨_, _, _, Sat.ld hs (by (repeat (first | exact At.z | apply At.s))) (by rfl), ?_⟩
  refine ⟨_, Sat.ld hs (by (repeat (first | exact At.z | apply At.s))) (by rfl), ?_⟩
  refine ⟨_, Sat.ld hs (by (repeat (first | exact At.z | apply At.s))) (by rfl), ?_⟩
  refine ⟨_, Sat.ld hs (by (repeat (first | exact At.z | apply At.s))) (by rfl), ?_⟩
  by_cases e3 : (s.blown.length : Int) = c.nf
  case neg => rw [wnf hm, if_pos (by simp; omega)]; exact bad (fun f => e3 f.fits.blown)
  rw [wnf hm, if_neg (by simp; omega)]
  apply hJ25
  intro J27 hJ27
  refine loop_up c.np.toNat (fun i h' => h' = h2 ∧ ∀ j (hj : j < s.pages.length) (hj2 : j < s.erases.length), j < i → (s.pages[j].length : Int) = 32 * c.cells ∧ 0 ≤ s.erases[j]) ?_ ?_ 0 _ (by omega) ⟨rfl, fun j _ _ hj => by omega⟩
  · rintro j h' hj ⟨rfl, hinv⟩ hk
    apply hJ27
    rw [ltI_eq, if_pos (by simp; omega)]
    have hj1 : j < s.pages.length := by omega
    have hj2 : j < s.erases.length := by omega
    obtain ⟨q1, x1, f1, f2, f3⟩ := rdm_row r1.pg hj1
    obtain ⟨q2, g1, g2⟩ := hsv_get r1.er (i := j) (v := .int .i64 s.erases[j]) (by rw [ints_get, List.getElem?_eq_getElem hj2]; rfl)
    refine ⟨_, _, _, Sat.ld hs (by (repeat (first | exact At.z | apply At.s))) (by rfl), ?_⟩
    refine ⟨_, f1, by omega, by omega, _, _, _, f2, ?_⟩
    refine ⟨_, Sat.ld hs (by (repeat (first | exact At.z | apply At.s))) (by rfl), ?_⟩
    by_cases e4 : (s.pages[j].length : Int) = 32 * c.cells
    case neg => rw [if_pos (by simp; omega)]; exact bad (fun f => e4 (f.fits.cells _ (List.getElem_mem hj1)))
    rw [if_neg (by simp; omega)]
    refine ⟨_, _, _, Sat.ld hs (by (repeat (first | exact At.z | apply At.s))) (by rfl), ?_⟩
    refine ⟨_, g1, by omega, by omega, _, by simpa using g2, ?_⟩
    rw [ltI_eq]
    by_cases e5 : s.erases[j] < 0
    · rw [if_pos (by simpa using e5)]; exact bad (fun f => by have := f.pos _ (List.getElem_mem hj2); omega)
    · rw [if_neg (by simpa using e5), wrap_succ (by omega)]
      refine hk _ ⟨rfl, fun m hm1 hm2 hmj => ?_⟩
      by_cases e : m = j
      · subst e; exact ⟨e4, by omega⟩
      · exact hinv m hm1 hm2 (by omega)
  · rintro h' ⟨rfl, hinv⟩
    apply hJ27
    rw [ltI_eq, if_neg (by simp; omega)]
    refine k2 ⟨⟨e1, ?_, e2, e3⟩, ?_⟩ _ hs.drop.drop
    · intro l hl
      obtain ⟨j, hj, rfl⟩ := List.mem_iff_getElem.1 hl
      exact (hinv j hj (by omega) (by omega)).1
    · intro n hn
      obtain ⟨j, hj, rfl⟩ := List.mem_iff_getElem.1 hn
      exact (hinv j (by omega) hj (by omega)).2
theorem rLay_sp {a b c' : Sl} {s : St} (c : Cfg) {Q : Option Addr → Int → H → Prop} (hs : Sat h0 A h) (rd : ∀ h', Sat h0 A h' → RdS h' a b c' s) (ty : s.typed)
    (k1 : ¬ c.may → ∀ h', Sat h0 A h' → Q none 1 h') (k2 : c.may → ¬ s.lays c → ∀ h', Sat h0 A h' → Q none 5 h')
    (k3 : c.may → s.lays c → ∀ p h', Sat h0 (refE p (layC c s) :: A) h' → Q (some ⟨p, 0, none⟩) 0 h') :
    F_portcullisref04_Lay c.cells c.slots c.fuses c.step c.keys c.erases c.area a.1 a.2.1 a.2.2 b.1 b.2.1 b.2.2 c'.1 c'.2.1 c'.2.2 Q h := by
  unfold F_portcullisref04_Lay G_portcullisref04_Lay
  simp only [add_mk, Nat.zero_add]
  intro n1 _ hn; replace hs := Sat.new hs hn; clear hn
  intro n2 _ hn; replace hs := Sat.new hs hn; clear hn
  (repeat first | refine ⟨_, Sat.ld hs (by (repeat (first | exact At.z | apply At.s))) (by rfl), ?_⟩ | refine ⟨_, _, _, Sat.ld hs (by (repeat (first | exact At.z | apply At.s))) (by rfl), ?_⟩ | (intro _ _ hn; replace hs := Sat.new hs hn; clear hn) | refine ⟨Sat.cs hs (by (repeat (first | exact At.z | apply At.s))) (by rfl), ?_⟩ | (refine ⟨Sat.can hs (by (repeat (first | exact At.z | apply At.s))) (by simp), ?_⟩; intro _ e; replace hs := Sat.wr hs (by (repeat (first | exact At.z | apply At.s))) e; clear e; simp only [put, splice, List.set] at hs))
  refine rMay_sp c hs ?_
  intro h1 hs
  unfold Cfg.may?
  by_cases hm : c.may
  case neg =>
    rw [if_neg hm, if_pos (by decide)]
    exact k1 hm _ hs.drop.drop
  rw [if_pos hm, if_neg (by decide)]
  (repeat first | refine ⟨_, Sat.ld hs (by (repeat (first | exact At.z | apply At.s))) (by rfl), ?_⟩ | refine ⟨_, _, _, Sat.ld hs (by (repeat (first | exact At.z | apply At.s))) (by rfl), ?_⟩ | (intro _ _ hn; replace hs := Sat.new hs hn; clear hn) | refine ⟨Sat.cs hs (by (repeat (first | exact At.z | apply At.s))) (by rfl), ?_⟩ | (refine ⟨Sat.can hs (by (repeat (first | exact At.z | apply At.s))) (by simp), ?_⟩; intro _ e; replace hs := Sat.wr hs (by (repeat (first | exact At.z | apply At.s))) e; clear e; simp only [put, splice, List.set] at hs))
  refine Fits_sp (a := a) (b := b) (c' := c') c hm hs (fun h' hs' => rd _ hs'.drop.drop) ?_ ?_
  · intro nf h2 hs
    rw [if_pos (by decide)]
    exact k2 hm nf _ hs.drop.drop
  intro ly h2 hs
  rw [if_neg (by decide)]
  have ok := layC_ok hm ly ty
  (repeat first | refine ⟨_, Sat.ld hs (by (repeat (first | exact At.z | apply At.s))) (by rfl), ?_⟩ | refine ⟨_, _, _, Sat.ld hs (by (repeat (first | exact At.z | apply At.s))) (by rfl), ?_⟩ | (intro _ _ hn; replace hs := Sat.new hs hn; clear hn) | refine ⟨Sat.cs hs (by (repeat (first | exact At.z | apply At.s))) (by rfl), ?_⟩ | (refine ⟨Sat.can hs (by (repeat (first | exact At.z | apply At.s))) (by simp), ?_⟩; intro _ e; replace hs := Sat.wr hs (by (repeat (first | exact At.z | apply At.s))) e; clear e; simp only [put, splice, List.set] at hs))
  refine CopyState_sp (a := a) (b := b) (c := c') (s := s) hs (fun h' hs' => rd _ hs'.drop.drop) ok.small ?_
  intro a2 b2 c2 h5 hs
  replace hs : Sat h0 (matE 32 a2 s.pages :: sE b2 1 (ints .i64 s.erases) :: sE c2 1 (bools s.blown) :: blk n2 [a.v, b.v, c'.v] :: blk n1 [.int .i64 c.cells, .int .i64 c.slots, .int .i64 c.fuses, .int .i64 c.step, .int .i64 c.keys, .int .i64 c.erases, .int .i64 c.area] :: A) h5 := hs
  (repeat first | refine ⟨_, Sat.ld hs (by (repeat (first | exact At.z | apply At.s))) (by rfl), ?_⟩ | refine ⟨_, _, _, Sat.ld hs (by (repeat (first | exact At.z | apply At.s))) (by rfl), ?_⟩ | (intro _ _ hn; replace hs := Sat.new hs hn; clear hn) | refine ⟨Sat.cs hs (by (repeat (first | exact At.z | apply At.s))) (by rfl), ?_⟩ | (refine ⟨Sat.can hs (by (repeat (first | exact At.z | apply At.s))) (by simp), ?_⟩; intro _ e; replace hs := Sat.wr hs (by (repeat (first | exact At.z | apply At.s))) e; clear e; simp only [put, splice, List.set] at hs))
  refine k3 hm ly _ _ ?_
  replace hs := hs.sl_nil 1 none
  replace hs := Sat.front hs (e := slE _ _ _ 1 (bools _)) (by (repeat (first | exact At.z | apply At.s)))
  replace hs := Sat.front hs (e := slE _ _ _ 1 (ints .i64 _)) (by (repeat (first | exact At.z | apply At.s)))
  replace hs := Sat.front hs (e := matE 32 _ _) (by (repeat (first | exact At.z | apply At.s)))
  replace hs := Sat.front hs (e := blk _ [_, _, _, _, _, _, _, _, _, _, _, _, _, _]) (by (repeat (first | exact At.z | apply At.s)))
  simp only [del] at hs
  exact (ref_make (C := layC c s) (a := a2) (b := b2) (c := c2) (m := (none, 0, 0)) (ms := []) ok (by intro n hn; simp at hn) (by simp) (fun _ => rfl) hs).sub (by (repeat (first | exact List.Sublist.refl _ | apply List.Sublist.cons_cons | apply List.Sublist.cons)))
end
end Go.Proofs.Ytamfkofcpoglnaa
end

/- Contracts of the chip's statements: a state is written over. Own work. -/
section
set_option linter.unusedVariables false
namespace Go.Proofs.Ytamfkofcpoglnaa
open Go Go.Vc

section
variable {h0 h : H} {A : List Ent} {i p : Nat} {C : Cm}
end
end Go.Proofs.Ytamfkofcpoglnaa

/- Contracts of the chip's statements: pairs of chips. Own work. -/
set_option maxRecDepth 100000
set_option linter.unusedVariables false
namespace Go.Proofs.Ytamfkofcpoglnaa
open Go Go.Vc

section
variable {h0 h : H} {A : List Ent} {i j p r : Nat} {C : Cm}
theorem chip_ok (hs : Sat h0 A h) (ci : At A i (chipE p C)) : C.ok := by
  obtain ⟨w, ok, _⟩ := (hs.front ci).open_
  exact ok
end
end Go.Proofs.Ytamfkofcpoglnaa
end

/- Contracts of the chip's statements: a step. Own work. -/
section
set_option maxRecDepth 100000
set_option linter.unusedVariables false
namespace Go.Proofs.Ytamfkofcpoglnaa
open Go Go.Vc

/-- A step of a script over a chip. -/
structure Stp where
  kind : Int
  a : Int
  b : Int
  x : List Int
  mask : List Int
structure Stp.ok (s : Stp) : Prop where
  a : -(2 ^ 63) ≤ s.a ∧ s.a < 2 ^ 63
  x : s.x.length = 32
  mb : bytesOk s.mask
  ml : s.mask.length + 4096 ≤ 2 ^ 47
section
variable {h0 h : H} {A : List Ent} {i j p r : Nat} {C : Cm}
end
end Go.Proofs.Ytamfkofcpoglnaa

/- Contracts of the chip's statements: games; calls whose answers are fixed. Own work. -/
set_option maxRecDepth 100000
set_option linter.unusedVariables false
namespace Go.Proofs.Ytamfkofcpoglnaa
open Go Go.Vc

section
variable {h0 h : H} {A : List Ent} {i j p r : Nat} {C : Cm}
/-- How a script lies in memory. -/
structure ScriptRd (h : H) (p : Option Addr) (l : Nat) (sc : List Stp) : Prop where
  len : sc.length = l
  small : l < 2 ^ 62
  el : ∀ i (hi : i < sc.length), ∃ (q : Addr) (mp : Option Addr) (ml mc : Nat), p = some q ∧ hc h (q.add (i * 36)) = some (.int .i64 sc[i].kind) ∧ hc h ((q.add (i * 36)).add 1) = some (.int .i64 sc[i].a) ∧
    hc h ((q.add (i * 36)).add 2) = some (.int .i64 sc[i].b) ∧ hrow h ((q.add (i * 36)).add 3) .u8 sc[i].x ∧ hc h ((q.add (i * 36)).add 35) = some (.slice mp ml mc) ∧ hsv h mp 1 ml (ints .u8 sc[i].mask) ∧ sc[i].ok
end
end Go.Proofs.Ytamfkofcpoglnaa

/- Contracts of the chip's statements: ChipLays. Own work. -/
set_option maxRecDepth 100000
set_option linter.unusedVariables false
namespace Go.Proofs.Ytamfkofcpoglnaa
open Go Go.Vc

section
variable {h0 h : H} {A : List Ent} {i j p r : Nat} {C : Cm}
end
end Go.Proofs.Ytamfkofcpoglnaa
end

/- The fuses' model: counts of a row, raising, revoking; laws about numbers alone. Own work. -/
section
set_option maxRecDepth 100000
set_option linter.unusedVariables false
namespace Go.Proofs.Ytamfkofcpoglnaa
open Go Go.Vc

/-- A loop whose slots tell of a state. -/
theorem loop_st {J : List SV → H → Prop} {σ : Type} (N : Nat) (S : Nat → σ → List SV) (Inv : Nat → σ → H → Prop) (step : ∀ i s h, i < N → Inv i s h → (∀ s' h', Inv (i + 1) s' h' → J (S (i + 1) s') h') → J (S i s) h)
    (exit : ∀ s h, Inv N s h → J (S N s) h) (i : Nat) (s : σ) (h : H) (hi : i ≤ N) (inv : Inv i s h) : J (S i s) h := by
  generalize e : N - i = n
  induction n generalizing i s h with
  | zero =>
    have : i = N := by omega
    subst this; exact exit s h inv
  | succ n ih => exact step i s h (by omega) inv fun s' h' inv' => ih (i + 1) s' h' (by omega) inv' (by omega)

def cnt (bl : List Bool) (a : Nat) : Nat → Nat
  | 0 => 0
  | n + 1 => cnt bl a n + (if bl.getD (a + n) false = true then 1 else 0)
theorem askedM_in {C : Cm} {i n : Int} (ho : C.out = false) (h1 : 0 ≤ i) (h2 : i < n) : askedM C i n = 0 := by
  unfold askedM; rw [if_neg (by simp [ho]), if_neg (by omega), if_neg (by omega)]
theorem act_out {C : Cm} (ho : C.out = false) (hl : C.left ≠ 0) : C.act.out = false := by
  unfold Cm.act; rw [if_pos hl]; exact ho
/-- What a Raise does to a row. -/
structure Raised (a f : Nat) (n : Int) (C D : Cm) (e : Int) : Prop where
  cfg : D.cfg = C.cfg
  len : D.s.blown.length = C.s.blown.length
  same : ∀ k, k < a ∨ a + f ≤ k → D.s.blown.getD k false = C.s.blown.getD k false
  up : ∀ k, C.s.blown.getD k false = true → D.s.blown.getD k false = true
  ge : cnt C.s.blown a f ≤ cnt D.s.blown a f
  le : (cnt D.s.blown a f : Int) ≤ max n (cnt C.s.blown a f)
  good : e = 0 → (cnt D.s.blown a f : Int) = max n (cnt C.s.blown a f)
  on : e = 0 → D.out = false
  bad : e ≠ 0 → e = 8 ∧ 0 ≤ C.left ∧ C.left < n - cnt C.s.blown a f
end Go.Proofs.Ytamfkofcpoglnaa

/- Contracts of the fuses' package. Own work. -/
set_option maxRecDepth 100000
set_option linter.unusedVariables false
namespace Go.Proofs.Ytamfkofcpoglnaa
open Go Go.Vc

section
variable {h0 h : H} {A : List Ent} {i j p r : Nat} {C : Cm}
end
end Go.Proofs.Ytamfkofcpoglnaa

/- Contracts of the document's fuses. Own work. -/
set_option maxRecDepth 100000
set_option linter.unusedVariables false
namespace Go.Proofs.Ytamfkofcpoglnaa
open Go Go.Vc

section
variable {h0 h : H} {A : List Ent} {i j p r : Nat} {C : Cm}
theorem ref_bl (hs : Sat h0 A h) (cj : At A j (refE r C)) : ∃ w : Pl, C.ok ∧ (∀ o v, (C.cells w.a w.b w.c w.m)[o]? = some v → hc h ⟨r, o, none⟩ = some v) ∧ w.c.2.1 = C.s.blown.length ∧
    ∀ k, k < C.s.blown.length → ∃ q, w.c.1 = some ⟨q, 0, none⟩ ∧ hc h ⟨q, k, none⟩ = some (.bool (C.s.blown.getD k false)) := by
  obtain ⟨⟨w, ms⟩, ⟨ok, _, _, _⟩, hs⟩ := (hs.front cj).open_
  dsimp only [refL, List.cons_append, List.nil_append] at hs
  have hl := hs.sl_len (i := 3) (.s (.s (.s .z)))
  simp only [bools_length, Nat.mul_one] at hl
  refine ⟨w, ok, fun o v e => hs.ld .z e, hl.symm, ?_⟩
  intro k hk
  obtain ⟨q, hq⟩ := hs.sl_some (i := 3) (.s (.s (.s .z))) (by omega)
  refine ⟨q, hq, ?_⟩
  obtain ⟨w1, w2, ⟨cp, cl, cc⟩, w4⟩ := w
  simp only at hq hl
  subst hq
  refine hs.sld (i := 3) (.s (.s (.s .z))) ?_
  rw [bools_get, List.getElem?_eq_getElem hk]
  simp [List.getD, List.getElem?_eq_getElem hk]
end
end Go.Proofs.Ytamfkofcpoglnaa
end

/- Contracts of the fuses' statements: FuseDoes. Own work. -/
section
set_option maxRecDepth 100000
set_option linter.unusedVariables false
namespace Go.Proofs.Ytamfkofcpoglnaa
open Go Go.Vc

section
variable {h0 h : H} {A : List Ent} {i j p r : Nat} {C : Cm}
structure Stp7 where
  kind : Int
  a : Int
  n : Int
structure Stp7.ok (s : Stp7) : Prop where
  n : s.n < 2 ^ 63
/-- How a script lies in memory. -/
structure Script7 (h : H) (p : Option Addr) (l : Nat) (sc : List Stp7) : Prop where
  len : sc.length = l
  small : l < 2 ^ 62
  el : ∀ i (hi : i < sc.length), ∃ (q : Addr), p = some q ∧ hc h (q.add (i * 3)) = some (.int .i64 sc[i].kind) ∧ hc h ((q.add (i * 3)).add 1) = some (.int .i64 sc[i].a) ∧
    hc h ((q.add (i * 3)).add 2) = some (.int .i64 sc[i].n) ∧ sc[i].ok
end
end Go.Proofs.Ytamfkofcpoglnaa
end

/- Cells' bytes: tables, bytes of numbers, the sum of bytes; laws about numbers alone. Own work. -/
section
set_option maxRecDepth 100000
set_option linter.unusedVariables false
namespace Go.Proofs.Ytamfkofcpoglnaa
open Go Go.Vc

/-- A table of numbers. -/
def tab (n : Nat) (f : Nat → Int) : List Int := (List.range n).map f
@[simp] theorem tab_length (n : Nat) (f : Nat → Int) : (tab n f).length = n := by simp [tab]
theorem tab_get (n : Nat) (f : Nat → Int) (i : Nat) : (tab n f)[i]? = if i < n then some (f i) else none := by
  unfold tab
  rw [List.getElem?_map]
  by_cases h : i < n
  · rw [List.getElem?_range h, if_pos h]; rfl
  · rw [if_neg h, List.getElem?_eq_none (by simpa using h)]; rfl
theorem tab_set (n : Nat) (f : Nat → Int) (k : Nat) (v : Int) : (tab n f).set k v = tab n (fun i => if i = k then v else f i) := by
  apply List.ext_getElem?
  intro i
  rw [List.getElem?_set, tab_get, tab_get]
  by_cases h : k = i
  · subst h; simp
  · rw [if_neg h]; simp only [show (i = k) = False by simp; omega, if_false]
theorem tab_ext {n : Nat} {f g : Nat → Int} (h : ∀ i, i < n → f i = g i) : tab n f = tab n g := by
  apply List.ext_getElem?
  intro i
  rw [tab_get, tab_get]
  split
  · rw [h i (by assumption)]
  · rfl
theorem zeros_tab (n : Nat) : zeros n = tab n fun _ => 0 := by
  apply List.ext_getElem?
  intro i
  rw [tab_get]
  unfold zeros
  by_cases h : i < n
  · rw [List.getElem?_replicate, if_pos h]
    try rw [if_pos h]
  · rw [List.getElem?_replicate, if_neg h]
    try rw [if_neg h]
theorem ints_tab_set (k : IntKind) (n : Nat) (f : Nat → Int) (j : Nat) (v : Int) : splice (ints k (tab n f)) j [.int k v] = ints k (tab n (fun i => if i = j then v else f i)) := by
  rw [splice_cons, splice_nil, ints_set, tab_set]
/-! ### The sum -/
abbrev b32 (x : Int) : BitVec 32 := BitVec.ofInt 32 x
/-! ### Numbers of eight bytes -/
abbrev b64 (x : Int) : BitVec 64 := BitVec.ofInt 64 x
def gotI (l : List Int) : Nat → Int
  | 0 => 0
  | n + 1 => bits .or .i64 (gotI l n) (IntKind.i64.wrap (IntKind.i64.wrap (l.getD n 0) * 2 ^ (8 * n)))
end Go.Proofs.Ytamfkofcpoglnaa

/- Contracts of sums, rails and cells. Own work. -/
set_option maxRecDepth 100000
set_option linter.unusedVariables false
namespace Go.Proofs.Ytamfkofcpoglnaa
open Go Go.Vc

section
variable {h0 h : H} {A : List Ent} {i j p r b : Nat} {C : Cm}
theorem Sat.tab_to {N : Nat} {f g : Nat → Int} {k : IntKind} (hs : Sat h0 (blk b (ints k (tab N f)) :: A) h) (e : ∀ i, i < N → f i = g i) : Sat h0 (blk b (ints k (tab N g)) :: A) h := by
  rw [← tab_ext e]; exact hs
theorem Sat.part (hs : Sat h0 A h) {ms xs : List Int} {k : IntKind} (m : At A i (blk b (ints k ms))) (o : Nat) (e : (ms.drop o).take xs.length = xs) : hsv h (some ⟨b, o, none⟩) 1 xs.length (ints k xs) := by
  refine ⟨by simp, ints_one _ _, Or.inr ⟨_, rfl, hs.cs m ?_⟩⟩
  rw [ints_length]
  unfold ints
  rw [← List.map_drop, ← List.map_take, e]
theorem hsv_int {p : Option Addr} {l : Nat} {k : IntKind} {ns : List Int} {x : Nat} (rd : hsv h p 1 l (ints k ns)) (hx : x < l) : ∃ q, p = some q ∧ hc h (q.add x) = some (.int k (ns.getD x 0)) := by
  have hl : ns.length = l := by have := rd.1; simpa using this
  obtain ⟨q, hq, g⟩ := hsv_get rd (i := x) (v := .int k (ns.getD x 0)) (by rw [ints_get, List.getElem?_eq_getElem (by omega)]; simp [List.getD, List.getElem?_eq_getElem (show x < ns.length by omega)])
  exact ⟨q, hq, g⟩
theorem step8_eq {n : Nat} (h : n < 8) : min (IntKind.i64.wrap (8 * (n : Int))).toNat 64 = 8 * n := by
  rw [wrap_id (by omega)]; omega
theorem tab_bytes {n : Nat} {f : Nat → Int} (h : ∀ k, isByte (f k)) : bytesOk (tab n f) := by
  intro x hx
  simp only [tab, List.mem_map] at hx
  obtain ⟨k, _, rfl⟩ := hx
  exact h k
end
end Go.Proofs.Ytamfkofcpoglnaa

/- Contracts of cells: Head, Value, Blank, Read. Own work. -/
set_option maxRecDepth 100000
set_option linter.unusedVariables false
namespace Go.Proofs.Ytamfkofcpoglnaa
open Go Go.Vc

section
variable {h0 h : H} {A : List Ent} {i j p r b : Nat} {C : Cm}
theorem Sat.whole (hs : Sat h0 A h) {vs : List Value} (m : At A i (blk b vs)) : hcs h ⟨b, 0, none⟩ vs := hs.cs m (by rw [List.drop_zero, List.take_length])
def most : Int := 4611686018427387904
def ffs : List Int := tab 32 fun _ => 255
end
end Go.Proofs.Ytamfkofcpoglnaa

/- Contracts of the document's cells. Own work. -/
set_option maxRecDepth 100000
set_option linter.unusedVariables false
namespace Go.Proofs.Ytamfkofcpoglnaa
open Go Go.Vc

section
variable {h0 h : H} {A : List Ent} {i j p r b : Nat} {C : Cm}
end
end Go.Proofs.Ytamfkofcpoglnaa
end

/- Contracts of pages: what a page tells, in the program and in the document. Own work. -/
section
set_option maxRecDepth 100000
set_option linter.unusedVariables false
namespace Go.Proofs.Ytamfkofcpoglnaa
open Go Go.Vc

/-- What a page tells. -/
structure Inf where
  head : Int
  nums : List Int
  next : Int
  blank : Bool
  torn : Int
theorem set_app (l : List Value) (x y : List Value) (i : Nat) (v : Value) : (l ++ x).set (l.length + i) v = l ++ x.set i v := by
  rw [List.set_append_right _ _ (by omega), Nat.add_sub_cancel_left]
section
variable {h0 h : H} {A : List Ent} {i j p r b : Nat} {C : Cm}
theorem hsv_cell {q : Option Addr} {l k : Nat} {row : List Int} (rd : hsv h q 32 l (ints .u8 row)) (hk : k < l) : ∃ q', q = some q' ∧ (k + 1) * 32 ≤ row.length ∧ hrow h (q'.add (k * 32)) .u8 (cellAt row k) := by
  obtain ⟨e1, e2, e3⟩ := rd
  have hl : row.length = l * 32 := by simpa using e1
  have hk2 : (k + 1) * 32 ≤ row.length := by omega
  rcases e3 with e3 | ⟨q', hq, g⟩
  · have : row.length = 0 := by have := congrArg List.length e3; simpa using this
    omega
  · refine ⟨q', hq, hk2, ?_⟩
    intro i v hv
    have hi : i < 32 := by
      have := (List.getElem?_eq_some_iff.1 hv).1
      rw [ints_length, cellAt_length hk2] at this; exact this
    rw [ints_get, cellAt_get _ _ _ hi] at hv
    have : (q'.add (k * 32)).add i = q'.add (k * 32 + i) := by
      cases q' with | mk b o s => unfold Addr.add; by_cases h1 : k * 32 = 0 <;> by_cases h2 : i = 0 <;> simp [h1, h2, Nat.add_assoc]
    rw [this]
    exact g _ _ (by rw [ints_get]; exact hv)
end
end Go.Proofs.Ytamfkofcpoglnaa

/- Contracts of the document's pages; PageLooks. Own work. -/
set_option maxRecDepth 100000
set_option linter.unusedVariables false
namespace Go.Proofs.Ytamfkofcpoglnaa
open Go Go.Vc

section
variable {h0 h : H} {A : List Ent} {i j p r b : Nat} {C : Cm}
theorem ref_pg (hs : Sat h0 A h) (cj : At A j (refE r C)) : ∃ w : Pl, C.ok ∧ (∀ o v, (C.cells w.a w.b w.c w.m)[o]? = some v → hc h ⟨r, o, none⟩ = some v) ∧ RdM h 32 w.a C.s.pages := by
  obtain ⟨⟨w, ms⟩, ⟨ok, _, _, _⟩, hs⟩ := (hs.front cj).open_
  dsimp only [refL, List.cons_append, List.nil_append] at hs
  exact ⟨w, ok, fun o v e => hs.ld .z e, hs.rdM (.s .z)⟩
end
end Go.Proofs.Ytamfkofcpoglnaa
end

/- PageHalf: what a cut act leaves of a sound page; laws about numbers alone. Own work. -/
section
set_option maxRecDepth 100000
set_option linter.unusedVariables false
namespace Go.Proofs.Ytamfkofcpoglnaa
open Go Go.Vc

theorem byte_eq {x y : Int} (hx : isByte x) (hy : isByte y) (e : b8 x = b8 y) : x = y := by
  have h2 := congrArg BitVec.toNat e
  simp only [BitVec.toNat_ofInt] at h2
  obtain ⟨a1, a2⟩ := hx
  obtain ⟨a3, a4⟩ := hy
  omega
theorem b8_andNot (x y : Int) : b8 (bits .andNot .u8 x y) = b8 x &&& ~~~ b8 y := by rw [bits_andNot8, b8_nat]
theorem b8_255 : b8 255 = BitVec.allOnes 8 := by decide
theorem prog_full (x : Int) (hx : isByte x) : bits .andNot .u8 255 (bits .andNot .u8 255 x) = x := by
  refine byte_eq (byte_bits _ _ _) hx ?_
  rw [b8_andNot, b8_andNot, b8_255]
  ext i hi
  simp only [BitVec.getElem_and, BitVec.getElem_not, BitVec.getElem_allOnes]
  cases (b8 x)[i] <;> rfl

theorem tab_getD {n : Nat} (f : Nat → Int) {k : Nat} (h : k < n) : (tab n f).getD k 0 = f k := by rw [List.getD_eq_getElem?_getD, tab_get, if_pos h]; rfl
theorem getD_byte {x : List Int} (hb : bytesOk x) (k : Nat) : isByte (x.getD k 0) := by
  rw [List.getD_eq_getElem?_getD]
  cases e : x[k]? with
  | none => exact ⟨by decide, by decide⟩
  | some v => exact hb v (List.mem_iff_getElem?.2 ⟨k, e⟩)
def soundM (row : List Int) (l : Nat) : Prop := ∀ i, i < l → ∀ k, k < 16 → bits .or .u8 (row.getD (i * 32 + k) 0) (row.getD (i * 32 + (16 + k)) 0) = 255
instance (row : List Int) (l : Nat) : Decidable (soundM row l) := by unfold soundM; infer_instance
end Go.Proofs.Ytamfkofcpoglnaa
end

/- PageHalf: rows after a cut act; soundness of rows. Own work. -/
section
set_option maxRecDepth 100000
set_option linter.unusedVariables false
namespace Go.Proofs.Ytamfkofcpoglnaa
open Go Go.Vc

theorem ext_getD {x y : List Int} (h : x.length = y.length) (e : ∀ i, i < x.length → x.getD i 0 = y.getD i 0) : x = y := by
  apply List.ext_getElem h
  intro i h1 h2
  have := e i h1
  rw [List.getD_eq_getElem?_getD, List.getD_eq_getElem?_getD, List.getElem?_eq_getElem h1, List.getElem?_eq_getElem h2] at this
  exact this
theorem cellAt_getD (row : List Int) (k i : Nat) (hi : i < 32) : (cellAt row k).getD i 0 = row.getD (k * 32 + i) 0 := by
  rw [List.getD_eq_getElem?_getD, cellAt_get row k i hi, List.getD_eq_getElem?_getD]
theorem mapTo_getD (g : Nat → Int → Int) (n : Nat) (ns : List Int) (j : Nat) (hj : j < ns.length) (hn : j < n) : (mapTo g n ns).getD j 0 = g j (ns.getD j 0) := by
  rw [List.getD_eq_getElem?_getD, mapTo_get, List.getElem?_eq_getElem hj]
  simp [hn, List.getD, List.getElem?_eq_getElem hj]
theorem rowSet_same {row c : List Int} {k : Nat} (hk : (k + 1) * 32 ≤ row.length) (hc : c.length = 32) : cellAt (rowSet row k c) k = c := by
  unfold cellAt rowSet
  rw [List.append_assoc, List.drop_append_of_le_length (by simp; omega), List.drop_eq_nil_of_le (by simp; omega), List.nil_append, List.take_append_of_le_length (by omega), List.take_of_length_le (by omega)]
theorem rowSet_getD {row c : List Int} {k q : Nat} (hk : (k + 1) * 32 ≤ row.length) (hc : c.length = 32) (hq : q < k * 32 ∨ k * 32 + 32 ≤ q) : (rowSet row k c).getD q 0 = row.getD q 0 := by
  unfold rowSet
  rw [List.getD_eq_getElem?_getD, List.getD_eq_getElem?_getD]
  congr 1
  rcases hq with hq | hq
  · rw [List.append_assoc, List.getElem?_append_left (by simp; omega), List.getElem?_take, if_pos hq]
  · rw [List.getElem?_append_right (by simp; omega), List.getElem?_drop]
    congr 1
    simp; omega
theorem rowSet_other {row c : List Int} {k j : Nat} (hk : (k + 1) * 32 ≤ row.length) (hj : (j + 1) * 32 ≤ row.length) (hc : c.length = 32) (h : j ≠ k) : cellAt (rowSet row k c) j = cellAt row j := by
  have l1 : (cellAt (rowSet row k c) j).length = 32 := cellAt_length (by rw [rowSet_length hk hc]; exact hj)
  have l2 : (cellAt row j).length = 32 := cellAt_length hj
  refine ext_getD (l1.trans l2.symm) fun i hi => ?_
  rw [l1] at hi
  rw [cellAt_getD _ _ _ hi, cellAt_getD _ _ _ hi, rowSet_getD hk hc (by omega)]
theorem prog_getD (x : List Int) (f : Nat → Int) (i : Nat) (hi : i < 32) : (progCell blankCell x f).getD i 0 = bits .andNot .u8 255 (bits .andNot .u8 (f i) (x.getD i 0)) := by
  unfold progCell
  rw [mapTo_getD _ _ _ _ (by simpa [blankCell] using hi) hi]
  have : blankCell.getD i 0 = 255 := by
    unfold blankCell
    rw [List.getD_eq_getElem?_getD, List.getElem?_replicate, if_pos hi]; rfl
  rw [this]
theorem progCell_length (old x : List Int) (f : Nat → Int) (h : old.length = 32) : (progCell old x f).length = 32 := by
  unfold progCell mapTo; simpa using h
section
variable {h0 h : H} {A : List Ent} {i j p r b : Nat} {C : Cm}
end
end Go.Proofs.Ytamfkofcpoglnaa
end

/- Contracts of areas: sizes, places, what is used, Worn. Own work. -/
section
set_option maxRecDepth 100000
set_option linter.unusedVariables false
namespace Go.Proofs.Ytamfkofcpoglnaa
open Go Go.Vc

def sizeM (c : Cfg) : Int := if c.may then c.area * c.cells * 32 else 0
theorem size_le {c : Cfg} (m : c.may) : 0 ≤ c.area * c.cells ∧ c.area * c.cells ≤ 16384 := by
  have h1 := m.area; have h2 := m.cells; have h3 := m.slots
  refine ⟨Int.mul_nonneg (by omega) (by omega), ?_⟩
  calc c.area * c.cells ≤ 64 * c.cells := Int.mul_le_mul_of_nonneg_right (by omega) (by omega)
    _ ≤ 16384 := by omega
section
variable {h0 h : H} {A : List Ent} {i j p r b : Nat} {C : Cm}
theorem aSize_sp (c : Cfg) {Q : Int → H → Prop} (hs : Sat h0 A h) (k : ∀ h', Sat h0 A h' → Q (sizeM c) h') : F_area_Size c.cells c.slots c.fuses c.step c.keys c.erases c.area Q h := by
  unfold F_area_Size G_area_Size
  simp only [add_mk, Nat.zero_add]
  intro n1 _ hn; replace hs := Sat.new hs hn; clear hn
  refine ⟨_, Sat.ld hs (by (repeat (first | exact At.z | apply At.s))) (by rfl), ?_⟩
  refine ⟨_, Sat.ld hs (by (repeat (first | exact At.z | apply At.s))) (by rfl), ?_⟩
  refine ⟨_, Sat.ld hs (by (repeat (first | exact At.z | apply At.s))) (by rfl), ?_⟩
  refine ⟨_, Sat.ld hs (by (repeat (first | exact At.z | apply At.s))) (by rfl), ?_⟩
  refine ⟨_, Sat.ld hs (by (repeat (first | exact At.z | apply At.s))) (by rfl), ?_⟩
  refine ⟨_, Sat.ld hs (by (repeat (first | exact At.z | apply At.s))) (by rfl), ?_⟩
  refine ⟨_, Sat.ld hs (by (repeat (first | exact At.z | apply At.s))) (by rfl), ?_⟩
  refine May_sp c hs ?_
  intro h1 hs
  unfold sizeM at k
  unfold Cfg.may?
  by_cases m : c.may
  · rw [if_pos m] at k ⊢
    rw [if_neg (by simp)]
    refine ⟨_, Sat.ld hs (by (repeat (first | exact At.z | apply At.s))) (by rfl), ?_⟩
    refine ⟨_, Sat.ld hs (by (repeat (first | exact At.z | apply At.s))) (by rfl), ?_⟩
    obtain ⟨z1, z2⟩ := size_le m
    rw [wrap_id (n := c.area * c.cells) (by omega), wrap_id (by omega)]
    exact k _ hs.drop
  · rw [if_neg m] at k ⊢
    rw [if_pos (by simp)]
    exact k _ hs.drop
theorem rSize_sp (c : Cfg) {Q : Int → H → Prop} (hs : Sat h0 A h) (k : ∀ h', Sat h0 A h' → Q (sizeM c) h') : F_portcullisref14_Size c.cells c.slots c.fuses c.step c.keys c.erases c.area Q h := by
  unfold F_portcullisref14_Size G_portcullisref14_Size
  simp only [add_mk, Nat.zero_add]
  intro n1 _ hn; replace hs := Sat.new hs hn; clear hn
  refine ⟨_, Sat.ld hs (by (repeat (first | exact At.z | apply At.s))) (by rfl), ?_⟩
  refine ⟨_, Sat.ld hs (by (repeat (first | exact At.z | apply At.s))) (by rfl), ?_⟩
  refine ⟨_, Sat.ld hs (by (repeat (first | exact At.z | apply At.s))) (by rfl), ?_⟩
  refine ⟨_, Sat.ld hs (by (repeat (first | exact At.z | apply At.s))) (by rfl), ?_⟩
  refine ⟨_, Sat.ld hs (by (repeat (first | exact At.z | apply At.s))) (by rfl), ?_⟩
  refine ⟨_, Sat.ld hs (by (repeat (first | exact At.z | apply At.s))) (by rfl), ?_⟩
  refine ⟨_, Sat.ld hs (by (repeat (first | exact At.z | apply At.s))) (by rfl), ?_⟩
  refine rMay_sp c hs ?_
  intro h1 hs
  unfold sizeM at k
  unfold Cfg.may?
  by_cases m : c.may
  · rw [if_pos m] at k ⊢
    rw [if_neg (by simp)]
    refine ⟨_, Sat.ld hs (by (repeat (first | exact At.z | apply At.s))) (by rfl), ?_⟩
    refine ⟨_, Sat.ld hs (by (repeat (first | exact At.z | apply At.s))) (by rfl), ?_⟩
    obtain ⟨z1, z2⟩ := size_le m
    rw [wrap_id (n := c.area * c.cells) (by omega), wrap_id (by omega)]
    exact k _ hs.drop
  · rw [if_neg m] at k ⊢
    rw [if_pos (by simp)]
    exact k _ hs.drop
theorem aasked_sp {Q : Int → H → Prop} (hs : Sat h0 A h) (ci : At A i (chipE p C)) (j : Int) (k : Q (askedM C j 2) h) : F_area_asked ⟨p, 0, none⟩ j Q h := by
  unfold F_area_asked G_area_asked
  refine Out_sp hs ci ?_
  unfold askedM at k
  rw [ltI_eq, ltI_eq]
  by_cases c1 : C.out = true
  · rw [if_pos c1] at k ⊢; exact k
  rw [if_neg c1] at k ⊢
  by_cases c2 : j < 0
  · rw [if_pos c2] at k; rw [if_pos (by simpa using c2)]; exact k
  rw [if_neg c2] at k
  rw [if_neg (by simpa using c2)]
  by_cases c3 : 2 ≤ j
  · rw [if_pos c3] at k; rw [if_pos (by simp; omega)]; exact k
  · rw [if_neg c3] at k; rw [if_neg (by simp; omega)]; exact k
theorem rmay14_sp {Q : Int → H → Prop} (hs : Sat h0 A h) (ci : At A i (refE p C)) (j : Int) (k : Q (askedM C j 2) h) : F_portcullisref14_may ⟨p, 0, none⟩ j Q h := by
  unfold F_portcullisref14_may G_portcullisref14_may
  simp only [add_mk, Nat.zero_add]
  obtain ⟨w, ok, ld, _⟩ := ref_bl hs ci
  refine ⟨_, ld 11 _ rfl, ?_⟩
  unfold askedM at k
  by_cases c1 : C.out = true
  · rw [if_pos c1] at k ⊢; exact k
  rw [if_neg c1] at k ⊢
  by_cases c2 : j = 0
  · rw [if_neg (by omega), if_neg (by omega)] at k
    rw [if_neg (by simpa using c2)]; exact k
  rw [if_pos (by simpa using c2)]
  by_cases c3 : j = 1
  · rw [if_neg (by omega), if_neg (by omega)] at k
    rw [if_neg (by simpa using c3)]; exact k
  rw [if_pos (by simpa using c3)]
  by_cases c4 : j < 0
  · rw [if_pos c4] at k; exact k
  · rw [if_neg c4, if_pos (by omega)] at k; exact k
theorem apages_sp {Q : Int → Int → H → Prop} (hs : Sat h0 A h) (ci : At A i (chipE p C)) (ar : Int) (a1 : 0 ≤ ar) (a2 : ar < 2) (k : ∀ h', Sat h0 A h' → Q (2 + ar * C.cfg.area) (2 + ar * C.cfg.area + C.cfg.area) h') : F_area_pages ⟨p, 0, none⟩ ar Q h := by
  unfold F_area_pages G_area_pages
  refine Config_sp hs ci ?_
  intro h1 hs
  have hm := (chip_ok hs ci).may.area
  have e : (ar + 1) * C.cfg.area = ar * C.cfg.area + C.cfg.area := by rw [Int.add_mul, Int.one_mul]
  have z : 0 ≤ ar * C.cfg.area ∧ ar * C.cfg.area ≤ 64 := by
    have : ar = 0 ∨ ar = 1 := by omega
    rcases this with rfl | rfl <;> omega
  rw [wrap_id (n := ar + 1) (by omega), e, wrap_id (n := ar * C.cfg.area) (by omega), wrap_id (n := ar * C.cfg.area + C.cfg.area) (by omega), wrap_id (by omega), wrap_id (by omega), ← Int.add_assoc]
  exact k _ hs
theorem aplace_sp {Q : Int → Int → H → Prop} (hs : Sat h0 A h) (ci : At A i (chipE p C)) (ar : Int) (a1 : 0 ≤ ar) (a2 : ar < 2) (n : Nat) (hn : n < 2 ^ 40) (k : ∀ h', Sat h0 A h' → Q (2 + ar * C.cfg.area + ((n / C.cfg.cells.toNat : Nat) : Int)) ((n % C.cfg.cells.toNat : Nat) : Int) h') : F_area_place ⟨p, 0, none⟩ ar n Q h := by
  unfold F_area_place G_area_place
  refine apages_sp hs ci ar a1 a2 ?_
  intro h1 hs
  refine Config_sp hs ci ?_
  intro h2 hs
  have hm := (chip_ok hs ci).may.area
  have hc := (chip_ok hs ci).may.cells
  have hsl := (chip_ok hs ci).may.slots
  have z : 0 ≤ ar * C.cfg.area ∧ ar * C.cfg.area ≤ 64 := by
    have : ar = 0 ∨ ar = 1 := by omega
    rcases this with rfl | rfl <;> omega
  have ec : (C.cfg.cells.toNat : Int) = C.cfg.cells := by omega
  have e1 : (n : Int).tdiv C.cfg.cells = ((n / C.cfg.cells.toNat : Nat) : Int) := by
    rw [Int.tdiv_eq_ediv_of_nonneg (by omega), ← ec]; rfl
  have e2 : (n : Int).tmod C.cfg.cells = ((n % C.cfg.cells.toNat : Nat) : Int) := by
    rw [Int.tmod_eq_emod_of_nonneg (by omega), ← ec]; rfl
  have hd : n / C.cfg.cells.toNat ≤ n := Nat.div_le_self _ _
  rw [e1, e2]
  clear e1 e2
  generalize n / C.cfg.cells.toNat = dd at *
  generalize n % C.cfg.cells.toNat = mm at *
  rw [wrap_id (n := (dd : Int)) (by omega), wrap_id (by omega)]
  exact ⟨by omega, by omega, k _ hs⟩
theorem ablank_sp {Q : List Int → H → Prop} (hs : Sat h0 A h) (k : ∀ h', Sat h0 A h' → Q ffs h') : F_area_blank Q h := by
  unfold F_area_blank G_area_blank
  simp only [add_mk, Nat.zero_add, List.append_nil]
  intro n1 _ hn; replace hs := Sat.new hs hn; clear hn
  intro n2 _ hn; replace hs := Sat.new hs hn; clear hn
  rw [zeros_tab] at hs
  intro J hJ
  replace hs := Sat.tab_to (g := fun i => if i < 0 then 255 else 0) hs fun i hi => (if_neg (by omega)).symm
  refine loop_up 32 (fun n h => Sat h0 (blk n2 (ints .u8 (tab 32 fun i => if i < n then 255 else 0)) :: blk n1 (ints .u8 (tab 32 fun _ => 0)) :: A) h) ?_ ?_ 0 _ (by omega) hs
  · intro n h1 hn hs hk
    apply hJ
    rw [ltI_eq, if_pos (by simp; omega)]
    refine ⟨by omega, by omega, ?_⟩
    rw [Int.toNat_natCast, Nat.mul_one]
    refine ⟨hs.can .z (by simp; omega), ?_⟩
    intro h2 e
    replace hs := hs.wr .z e
    rw [put_zero, ints_tab_set] at hs
    rw [wrap_succ (by omega)]
    refine hk _ (Sat.tab_to hs fun i hi => ?_)
    by_cases e : i = n
    · rw [if_pos e, if_pos (by omega)]
    · rw [if_neg e]
      by_cases e2 : i < n
      · rw [if_pos e2, if_pos (by omega)]
      · rw [if_neg e2, if_neg (by omega)]
  · intro h1 hs
    apply hJ
    rw [ltI_eq, if_neg (by simp)]
    replace hs := Sat.tab_to (g := fun _ => 255) hs fun i hi => if_pos hi
    refine ⟨ffs, rfl, hs.row0 .z, ?_⟩
    have hll : ffs.length = 32 := rfl
    (refine ⟨Sat.can hs (by (repeat (first | exact At.z | apply At.s))) (by simp), ?_⟩; intro _ e; replace hs := Sat.wra hs (by (repeat (first | exact At.z | apply At.s))) e (by simp [*]); clear e; simp only [put] at hs)
    refine ⟨_, hll, hs.row0 (by (repeat (first | exact At.z | apply At.s))), ?_⟩
    exact k _ hs.drop.drop
/-- Is there a cell that is not blank? -/
def usedP (C : Cm) (page : Int) (l : Nat) : Prop := ∃ n, n < l ∧ (readM C page n).2 = 0 ∧ (readM C page n).1 ≠ ffs
instance (C : Cm) (page : Int) (l : Nat) : Decidable (usedP C page l) := by unfold usedP; infer_instance
def usedM (C : Cm) (page : Int) : Bool := decide (usedP C page C.cfg.cells.toNat)
theorem readM_len (ok : C.ok) (page cell : Int) : (readM C page cell).1.length = 32 := by
  unfold readM
  split
  · rfl
  · rename_i e
    obtain ⟨_, _, _, _, _, hj, _, hk⟩ := asksCellM_zero ok (by simpa using e)
    have : C.s.pages.getD page.toNat [] = C.s.pages[page.toNat] := by simp [List.getD, List.getElem?_eq_getElem hj]
    rw [this]
    exact cellAt_length hk
theorem used_sp {Q : Bool → H → Prop} (hs : Sat h0 A h) (ci : At A i (chipE p C)) (page : Int) (k : ∀ h', Sat h0 A h' → Q (usedM C page) h') : F_area_used ⟨p, 0, none⟩ page Q h := by
  unfold F_area_used G_area_used
  simp only [add_mk, Nat.zero_add, List.append_nil]
  refine Config_sp hs ci ?_
  intro h1 hs
  have ok := chip_ok hs ci
  have hc := ok.may.cells
  have hsl := ok.may.slots
  intro J hJ
  refine loop_up C.cfg.cells.toNat (fun n h => Sat h0 A h ∧ ¬ usedP C page n) ?_ ?_ 0 _ (by omega) ⟨hs, fun ⟨n, hn, _⟩ => by omega⟩
  · rintro n h2 hn ⟨hs, hu⟩ hk
    apply hJ
    rw [ltI_eq, if_pos (by simp; omega)]
    have hl := readM_len ok page n
    refine Read_sp hs ci page n ?_
    intro h3 hs
    intro n2 _ hn2; replace hs := Sat.new hs hn2; clear hn2
    refine ⟨Sat.can hs (by (repeat (first | exact At.z | apply At.s))) (by simp [hl]), ?_⟩
    intro _ e; replace hs := Sat.wra hs (by (repeat (first | exact At.z | apply At.s))) e (by rw [ints_length, ints_length, hl]; rfl); clear e; simp only [put] at hs
    have next : ¬ ((readM C page n).2 = 0 ∧ (readM C page n).1 ≠ ffs) → ¬ usedP C page (n + 1) := by
      rintro hnn ⟨m, hm, e1, e2⟩
      by_cases e : m = n
      · subst e; exact hnn ⟨e1, e2⟩
      · exact hu ⟨m, by omega, e1, e2⟩
    by_cases c1 : (readM C page n).2 = 0
    case neg =>
      rw [if_neg (by rw [beq_iff_eq]; exact c1), wrap_succ (by omega)]
      exact hk _ ⟨hs.drop, next fun y => c1 y.1⟩
    rw [if_pos (by rw [beq_iff_eq]; exact c1)]
    refine ⟨_, hl, hs.row0 .z, ?_⟩
    refine ablank_sp hs ?_
    intro h4 hs
    refine ⟨Sat.whole hs .z, ?_⟩
    by_cases c2 : (readM C page n).1 = ffs
    · rw [if_neg (by rw [c2]; simp), wrap_succ (by omega)]
      exact hk _ ⟨hs.drop, next fun y => y.2 c2⟩
    · rw [if_pos (by simpa using c2)]
      have := k _ hs.drop
      unfold usedM at this
      rw [decide_eq_true ⟨n, hn, c1, c2⟩] at this
      exact this
  · rintro h2 ⟨hs, hu⟩
    apply hJ
    rw [ltI_eq, if_neg (by simp; omega)]
    have := k _ hs
    unfold usedM at this
    rw [decide_eq_false hu] at this
    exact this
/-- Is a used page of the area worn out? -/
def wornP (C : Cm) (ar : Int) (l : Nat) : Prop := ∃ n : Nat, n < l ∧ (erasesM C (2 + ar * C.cfg.area + n)).2 = 0 ∧ C.cfg.erases ≤ (erasesM C (2 + ar * C.cfg.area + n)).1 ∧ usedM C (2 + ar * C.cfg.area + n) = true
instance (C : Cm) (ar : Int) (l : Nat) : Decidable (wornP C ar l) := by unfold wornP; infer_instance
def wornM (C : Cm) (ar : Int) : Bool × Int := if askedM C ar 2 ≠ 0 then (false, askedM C ar 2) else (decide (wornP C ar C.cfg.area.toNat), 0)
theorem Worn_sp {Q : Bool → Int → H → Prop} (hs : Sat h0 A h) (ci : At A i (chipE p C)) (ar : Int) (k : ∀ h', Sat h0 A h' → Q (wornM C ar).1 (wornM C ar).2 h') : F_area_Worn ⟨p, 0, none⟩ ar Q h := by
  unfold F_area_Worn G_area_Worn
  refine aasked_sp hs ci ar ?_
  unfold wornM at k
  by_cases e : askedM C ar 2 = 0
  case neg =>
    rw [if_pos (by simpa using e)] at k ⊢
    exact k _ hs
  rw [if_neg (by simpa using e)] at k ⊢
  obtain ⟨ho, a1, a2⟩ := askedM_zero e
  refine apages_sp hs ci ar a1 a2 ?_
  intro h1 hs
  have ok := chip_ok hs ci
  have hm := ok.may.area
  have z : 0 ≤ ar * C.cfg.area ∧ ar * C.cfg.area ≤ 64 := by
    have : ar = 0 ∨ ar = 1 := by omega
    rcases this with rfl | rfl <;> omega
  intro J hJ
  have key := loop_st (J := J) C.cfg.area.toNat (fun n (_ : Unit) => [.dv (.one (.int .i64 (2 + ar * C.cfg.area + (n : Int))))]) (fun n _ h => Sat h0 A h ∧ ¬ wornP C ar n) ?_ ?_ 0 () _ (by omega) ⟨hs, fun ⟨n, hn, _⟩ => by omega⟩
  · simpa using key
  · rintro n _ h2 hn ⟨hs, hu⟩ hk
    apply hJ
    rw [ltI_eq, if_pos (by simp; omega)]
    have ew : IntKind.i64.wrap (2 + ar * C.cfg.area + (n : Int) + 1) = 2 + ar * C.cfg.area + ((n + 1 : Nat) : Int) := by rw [wrap_id (by omega)]; omega
    rw [ew]
    have next : ¬ ((erasesM C (2 + ar * C.cfg.area + n)).2 = 0 ∧ C.cfg.erases ≤ (erasesM C (2 + ar * C.cfg.area + n)).1 ∧ usedM C (2 + ar * C.cfg.area + n) = true) → ¬ wornP C ar (n + 1) := by
      rintro hnn ⟨m, hm, e1, e2⟩
      by_cases e : m = n
      · subst e; exact hnn ⟨e1, e2⟩
      · exact hu ⟨m, by omega, e1, e2⟩
    refine Erases_sp hs ci _ ?_
    by_cases c1 : (erasesM C (2 + ar * C.cfg.area + n)).2 = 0
    case neg =>
      rw [if_neg (by rw [beq_iff_eq]; exact c1)]
      exact hk () _ ⟨hs, next fun y => c1 y.1⟩
    rw [if_pos (by rw [beq_iff_eq]; exact c1)]
    refine Config_sp hs ci ?_
    intro h3 hs
    by_cases c2 : C.cfg.erases ≤ (erasesM C (2 + ar * C.cfg.area + n)).1
    case neg =>
      rw [leI_eq, if_neg (by rw [decide_eq_true_eq]; exact c2)]
      exact hk () _ ⟨hs, next fun y => c2 y.2.1⟩
    rw [leI_eq, if_pos (by rw [decide_eq_true_eq]; exact c2)]
    refine used_sp hs ci _ ?_
    intro h4 hs
    by_cases c3 : usedM C (2 + ar * C.cfg.area + n) = true
    · rw [if_pos c3]
      have := k _ hs
      rw [decide_eq_true ⟨n, hn, c1, c2, c3⟩] at this
      exact this
    · rw [if_neg c3]
      exact hk () _ ⟨hs, next fun y => c3 y.2.2⟩
  · rintro _ h2 ⟨hs, hu⟩
    apply hJ
    rw [ltI_eq, if_neg (by simp; omega)]
    have := k _ hs
    rw [decide_eq_false hu] at this
    exact this
end
end Go.Proofs.Ytamfkofcpoglnaa
end

/- Contracts of the document's areas: blank, Worn; what is filled. Own work. -/
section
set_option maxRecDepth 100000
set_option linter.unusedVariables false
namespace Go.Proofs.Ytamfkofcpoglnaa
open Go Go.Vc

def blankP (row : List Int) (l : Nat) : Prop := ∀ n, n < l → cellAt row n = ffs
instance (row : List Int) (l : Nat) : Decidable (blankP row l) := by unfold blankP; infer_instance
theorem blankCell_ffs : blankCell = ffs := by decide
section
variable {h0 h : H} {A : List Ent} {i j p r b : Nat} {C : Cm}
theorem rblank14_sp {Q : Bool → H → Prop} {q : Option Addr} {l c : Nat} {row : List Int} (hs : Sat h0 A h) (rd : ∀ h', Sat h0 A h' → hsv h' q 32 l (ints .u8 row)) (hl : l < 2 ^ 60) (k : ∀ h', Sat h0 A h' → Q (decide (blankP row l)) h') : F_portcullisref14_blank q l c Q h := by
  unfold F_portcullisref14_blank G_portcullisref14_blank
  simp only [List.append_nil]
  intro J hJ
  refine loop_up l (fun n h => Sat h0 A h ∧ blankP row n) ?_ ?_ 0 _ (by omega) ⟨hs, fun i hi => by omega⟩
  · rintro n h1 hn ⟨hs, hm⟩ hk
    apply hJ
    rw [ltI_eq, if_pos (by simp; omega)]
    obtain ⟨q', hq, hk2, hr⟩ := hsv_cell (rd _ hs) hn
    refine ⟨_, hq, by omega, by omega, _, cellAt_length hk2, by rw [Int.toNat_natCast]; exact hr, ?_⟩
    refine rBlank_sp hs ?_
    intro h2 hs
    obtain ⟨q2, hq2, _, hr2⟩ := hsv_cell (rd _ hs) hn
    rw [hq] at hq2
    injection hq2 with hq2
    subst hq2
    refine ⟨by rw [Int.toNat_natCast]; exact hr2, ?_⟩
    rw [blankCell_ffs]
    by_cases c : cellAt row n = ffs
    · rw [if_neg (by rw [c]; simp), wrap_succ (by omega)]
      refine hk _ ⟨hs, fun m hm2 => ?_⟩
      by_cases e : m = n
      · rw [e]; exact c
      · exact hm m (by omega)
    · rw [if_pos (by simpa using c)]
      have := k _ hs
      rw [decide_eq_false (fun y => c (y n hn))] at this
      exact this
  · rintro h1 ⟨hs, hm⟩
    apply hJ
    rw [ltI_eq, if_neg (by simp)]
    have := k _ hs
    rw [decide_eq_true hm] at this
    exact this
theorem ref_all (hs : Sat h0 A h) (cj : At A j (refE r C)) : ∃ w : Pl, C.ok ∧ (∀ o v, (C.cells w.a w.b w.c w.m)[o]? = some v → hc h ⟨r, o, none⟩ = some v) ∧ RdM h 32 w.a C.s.pages ∧ hsv h w.b.1 1 w.b.2.1 (ints .i64 C.s.erases) := by
  obtain ⟨⟨w, ms⟩, ⟨ok, _, _, _⟩, hs⟩ := (hs.front cj).open_
  dsimp only [refL, List.cons_append, List.nil_append] at hs
  exact ⟨w, ok, fun o v e => hs.ld .z e, hs.rdM (.s .z), hs.sv (.s (.s .z))⟩
theorem used_row (ok : C.ok) (ho : C.out = false) {page : Int} (p1 : 0 ≤ page) (p2 : page < C.s.pages.length) : usedM C page = !decide (blankP (C.s.pages.getD page.toNat []) C.cfg.cells.toNat) := by
  have hc := ok.may.cells
  have hsl := ok.may.slots
  have er : ∀ n : Nat, n < C.cfg.cells.toNat → readM C page n = (cellAt (C.s.pages.getD page.toNat []) n, 0) := by
    intro n hn
    have ec : asksCellM C page n = 0 := by
      unfold asksCellM
      rw [askedM_in ho p1 p2, if_neg (by simp), askedM_in ho (by omega) (by omega)]
    unfold readM
    rw [ec, if_neg (by simp), Int.toNat_natCast]
  unfold usedM
  by_cases e : blankP (C.s.pages.getD page.toNat []) C.cfg.cells.toNat
  · rw [decide_eq_true e, decide_eq_false]
    · rfl
    · rintro ⟨n, hn, _, e2⟩
      rw [er n hn] at e2
      exact e2 (e n hn)
  · rw [decide_eq_false e]
    have : usedP C page C.cfg.cells.toNat := by
      apply Classical.byContradiction
      intro hn
      refine e fun n hn2 => ?_
      apply Classical.byContradiction
      intro hn3
      exact hn ⟨n, hn2, by rw [er n hn2], by rw [er n hn2]; exact hn3⟩
    rw [decide_eq_true this]; rfl
/-- A page of the document's chip is looked at: is it blank? -/
theorem rpage_blank {Q : Bool → H → Prop} (hs : Sat h0 A h) (ci : At A i (refE p C)) (ho : C.out = false) {page : Int} (p1 : 0 ≤ page) (p2 : page < C.s.pages.length) (k : ∀ h', Sat h0 A h' → Q (!usedM C page) h') :
    ∃ o n m, hc h ⟨p, 7, none⟩ = some (.slice o n m) ∧ ∃ q, o = some q ∧ 0 ≤ page ∧ page < (n : Int) ∧ ∃ o2 n2 m2, hc h (q.add (page.toNat * 1)) = some (.slice o2 n2 m2) ∧ F_portcullisref14_blank o2 n2 m2 Q h := by
  obtain ⟨w, ok, ld, rdp, _⟩ := ref_all hs ci
  have hc := ok.may.cells
  have hsl := ok.may.slots
  have hj : page.toNat < C.s.pages.length := by omega
  have hplen := rdp.len
  obtain ⟨q, x, hq, hx, hrow⟩ := rdp.at hj
  have hrl := ok.fits.cells _ (List.getElem_mem hj)
  have exl : x.2.1 = C.cfg.cells.toNat := by
    have := hrow.1
    rw [ints_length] at this; omega
  refine ⟨_, _, _, ld 7 _ rfl, _, hq, p1, by omega, _, _, _, hx, ?_⟩
  refine rblank14_sp (A := []) (Sat.init _) (fun h' hs' => hsv_ext hs'.ex hrow (fun _ _ y => y)) (by omega) ?_
  intro h2 hs2
  have := k _ (hs.ext hs2.ex)
  rw [used_row ok ho p1 p2, Bool.not_not] at this
  have er : C.s.pages.getD page.toNat [] = C.s.pages[page.toNat] := by simp [List.getD, List.getElem?_eq_getElem hj]
  rw [er] at this
  rw [exl]
  exact this
theorem rWorn_sp {Q : Bool → Int → H → Prop} (hs : Sat h0 A h) (ci : At A i (refE p C)) (ar : Int) (k : ∀ h', Sat h0 A h' → Q (wornM C ar).1 (wornM C ar).2 h') : F_portcullisref14_Worn ⟨p, 0, none⟩ ar Q h := by
  unfold F_portcullisref14_Worn G_portcullisref14_Worn
  simp only [add_mk, Nat.zero_add]
  refine rmay14_sp hs ci ar ?_
  unfold wornM at k
  by_cases e : askedM C ar 2 = 0
  case neg =>
    rw [if_pos (by simpa using e)] at k ⊢
    exact k _ hs
  rw [if_neg (by simpa using e)] at k ⊢
  obtain ⟨ho, a1, a2⟩ := askedM_zero e
  obtain ⟨_, ok, _⟩ := ref_all hs ci
  have hm := ok.may.area
  have hpg := ok.fits.pages
  have her := ok.fits.erases
  have hnp : C.cfg.np = 2 + 2 * C.cfg.area := rfl
  have z : 0 ≤ ar * C.cfg.area ∧ ar * C.cfg.area ≤ C.cfg.area ∧ C.cfg.area ≤ 64 := by
    have : ar = 0 ∨ ar = 1 := by omega
    rcases this with rfl | rfl <;> omega
  intro J hJ
  refine loop_st C.cfg.area.toNat (fun n (_ : Unit) => [.dv (.one (.int .i64 (n : Int)))]) (fun n _ h => Sat h0 A h ∧ ¬ wornP C ar n) ?_ ?_ 0 () _ (by omega) ⟨hs, fun ⟨n, hn, _⟩ => by omega⟩
  · rintro n _ h2 hn ⟨hs, hu⟩ hk
    apply hJ
    obtain ⟨w, _, ld, _⟩ := ref_all hs ci
    refine ⟨_, ld 6 _ rfl, ?_⟩
    rw [ltI_eq, if_pos (by simp; omega)]
    refine ⟨_, ld 6 _ rfl, ?_⟩
    have ew : IntKind.i64.wrap (IntKind.i64.wrap (2 + IntKind.i64.wrap (ar * C.cfg.area)) + (n : Int)) = 2 + ar * C.cfg.area + n := by
      rw [wrap_id (n := ar * C.cfg.area) (by omega), wrap_id (n := 2 + ar * C.cfg.area) (by omega), wrap_id (by omega)]
    rw [ew]
    have p1 : 0 ≤ 2 + ar * C.cfg.area + (n : Int) := by omega
    have p2 : 2 + ar * C.cfg.area + (n : Int) < C.s.pages.length := by omega
    have next : ¬ ((erasesM C (2 + ar * C.cfg.area + n)).2 = 0 ∧ C.cfg.erases ≤ (erasesM C (2 + ar * C.cfg.area + n)).1 ∧ usedM C (2 + ar * C.cfg.area + n) = true) → ¬ wornP C ar (n + 1) := by
      rintro hnn ⟨m, hm, e1, e2⟩
      by_cases e : m = n
      · subst e; exact hnn ⟨e1, e2⟩
      · exact hu ⟨m, by omega, e1, e2⟩
    have ee : erasesM C (2 + ar * C.cfg.area + n) = (C.s.erases.getD (2 + ar * C.cfg.area + (n : Int)).toNat 0, 0) := by unfold erasesM; rw [askedM_in ho p1 p2, if_neg (by simp)]
    rw [ee] at next
    refine rpage_blank hs ci ho p1 p2 ?_
    intro h3 hs
    rw [wrap_succ (by omega)]
    by_cases c3 : usedM C (2 + ar * C.cfg.area + n) = true
    case neg =>
      rw [if_neg (by simpa using c3)]
      exact hk () _ ⟨hs, next fun y => c3 y.2.2⟩
    rw [if_pos (by simpa using c3)]
    obtain ⟨w, _, ld, _, rde⟩ := ref_all hs ci
    have hel : C.s.erases.length = w.b.2.1 := by have := rde.1; simpa using this
    have hje : (2 + ar * C.cfg.area + (n : Int)).toNat < w.b.2.1 := by omega
    obtain ⟨q, hq, g⟩ := hsv_int rde hje
    refine ⟨_, _, _, ld 8 _ rfl, _, hq, p1, by omega, _, by rw [Nat.mul_one]; exact g, _, ld 5 _ rfl, ?_⟩
    by_cases c2 : C.cfg.erases ≤ C.s.erases.getD (2 + ar * C.cfg.area + (n : Int)).toNat 0
    · rw [leI_eq, if_pos (by rw [decide_eq_true_eq]; exact c2)]
      have := k _ hs
      rw [decide_eq_true ⟨n, hn, by rw [ee], by rw [ee]; exact c2, c3⟩] at this
      exact this
    · rw [leI_eq, if_neg (by rw [decide_eq_true_eq]; exact c2)]
      exact hk () _ ⟨hs, next fun y => c2 y.2.1⟩
  · rintro _ h2 ⟨hs, hu⟩
    apply hJ
    obtain ⟨w, _, ld, _⟩ := ref_all hs ci
    refine ⟨_, ld 6 _ rfl, ?_⟩
    rw [ltI_eq, if_neg (by simp; omega)]
    have := k _ hs
    rw [decide_eq_false hu] at this
    exact this
end
end Go.Proofs.Ytamfkofcpoglnaa
end

/- Contracts of areas: Write. Own work. -/
section
set_option maxRecDepth 100000
set_option linter.unusedVariables false
namespace Go.Proofs.Ytamfkofcpoglnaa
open Go Go.Vc

/-- The bytes of a cell of an area. -/
def cellM (bs : List Int) (n : Nat) : List Int := tab 32 fun k => if n * 32 + k < bs.length then bs.getD (n * 32 + k) 0 else 255
theorem cellM_length (bs : List Int) (n : Nat) : (cellM bs n).length = 32 := rfl
section
variable {h0 h : H} {A : List Ent} {i j p r b : Nat} {C : Cm}
theorem add_add (q : Addr) (a b : Nat) : (q.add a).add b = q.add (a + b) := by
  cases q with | mk b' o s => unfold Addr.add; by_cases h1 : a = 0 <;> by_cases h2 : b = 0 <;> simp [h1, h2, Nat.add_assoc]
theorem filled_sp {Q : List Int → H → Prop} {q : Option Addr} {l c : Nat} {bs : List Int} (n : Nat) (hs : Sat h0 A h) (rd : ∀ h', Sat h0 A h' → hsv h' q 1 l (ints .u8 bs)) (hl : l < 2 ^ 60) (hlc : l ≤ c) (hn : n * 32 < l)
    (k : ∀ h', Sat h0 A h' → Q (cellM bs n) h') : F_area_filled q l c n Q h := by
  unfold F_area_filled G_area_filled
  simp only [List.append_nil]
  intro n1 _ hn1; replace hs := Sat.new hs hn1; clear hn1
  have ew : IntKind.i64.wrap ((n : Int) * 32) = ((n * 32 : Nat) : Int) := by rw [wrap_id (by omega)]; omega
  rw [ew]
  simp only [Int.toNat_natCast]
  have hbl : bs.length = l := by have := (rd _ hs.drop).1; simpa using this
  obtain ⟨q', hq, _⟩ := hsv_int (rd _ hs.drop) (x := 0) (by omega)
  subst hq
  have e1 : subAddr (some q') (n * 32) c 1 = some (q'.add (n * 32)) := by
    unfold subAddr
    rw [if_neg (by omega), Nat.mul_one]; rfl
  have hcs : ∀ h', Sat h0 A h' → ∀ x, x < l → hc h' (q'.add x) = some (.int .u8 (bs.getD x 0)) := by
    intro h' hs' x hx
    obtain ⟨q2, hq2, g⟩ := hsv_int (rd _ hs') hx
    injection hq2 with hq2
    subst hq2
    exact g
  refine ⟨by omega, by omega, ?_⟩
  rw [e1]
  have hll := cellM_length bs n
  by_cases c1 : 32 ≤ l - n * 32
  · rw [leI_eq, if_pos (by simp; omega)]
    have e2 : subAddr (some (q'.add (n * 32))) 0 (c - n * 32) 1 = some (q'.add (n * 32)) := by
      unfold subAddr
      rw [if_neg (by omega)]
      simp only [Option.map_some, add_add, Nat.zero_mul, Nat.add_zero]
    rw [e2]
    refine ⟨by decide, by omega, _, rfl, Nat.le_refl _, cellM bs n, hll, ?_, ?_⟩
    · intro x v hv
      have hx : x < 32 := by
        have := (List.getElem?_eq_some_iff.1 hv).1
        rw [ints_length, hll] at this; exact this
      rw [ints_get] at hv
      unfold cellM at hv
      rw [tab_get, if_pos hx] at hv
      rw [if_pos (by omega)] at hv
      simp only [Option.map_some, Option.some.injEq] at hv
      rw [← hv, add_add]
      exact hcs _ hs.drop _ (by omega)
    · (refine ⟨Sat.can hs (by (repeat (first | exact At.z | apply At.s))) (by simp), ?_⟩; intro _ e; replace hs := Sat.wra hs (by (repeat (first | exact At.z | apply At.s))) e (by simp [*]); clear e; simp only [put] at hs)
      refine ⟨_, hll, hs.row0 (by (repeat (first | exact At.z | apply At.s))), ?_⟩
      exact k _ hs.drop
  · rw [leI_eq, if_neg (by simp; omega)]
    refine ablank_sp hs ?_
    intro h2 hs
    intro n2 _ hn2; replace hs := Sat.new hs hn2; clear hn2
    have hf : ffs.length = 32 := rfl
    (refine ⟨Sat.can hs (by (repeat (first | exact At.z | apply At.s))) (by simp), ?_⟩; intro _ e; replace hs := Sat.wra hs (by (repeat (first | exact At.z | apply At.s))) e (by simp [*]); clear e; simp only [put] at hs)
    have em : (l - n * 32).min 32 = l - n * 32 := Nat.min_eq_left (by omega)
    rw [em]
    have e3 : subAddr (some ⟨n2, 0, none⟩) 0 32 1 = some ⟨n2, 0, none⟩ := rfl
    rw [e3]
    refine ⟨ints .u8 ((bs.drop (n * 32)).take (l - n * 32)), ⟨by simp; omega, ints_one _ _, Or.inr ⟨_, rfl, ?_⟩⟩, Or.inr ⟨_, rfl, hs.can .z (by simp [hf]; omega)⟩, ?_⟩
    · intro x v hv
      have hx : x < l - n * 32 := by
        have := (List.getElem?_eq_some_iff.1 hv).1
        simp at this; omega
      rw [ints_get, List.getElem?_take, if_pos hx, List.getElem?_drop, List.getElem?_eq_getElem (by omega)] at hv
      simp only [Option.map_some, Option.some.injEq] at hv
      rw [← hv, add_add, hcs _ hs.drop.drop _ (by omega)]
      simp [List.getD, List.getElem?_eq_getElem (show n * 32 + x < bs.length by omega)]
    · intro h3 e
      replace hs := hs.wr .z e
      have es : splice (ints .u8 ffs) 0 (ints .u8 ((bs.drop (n * 32)).take (l - n * 32))) = ints .u8 (cellM bs n) := by
        apply List.ext_getElem?
        intro x
        rw [splice_get, ints_get, ints_get, ints_get]
        unfold cellM ffs
        rw [tab_get, tab_get]
        simp only [ints_length, tab_length, Nat.zero_add, Nat.zero_le, true_and, Nat.sub_zero]
        have el : ((bs.drop (n * 32)).take (l - n * 32)).length = l - n * 32 := by simp; omega
        rw [el]
        by_cases c2 : x < l - n * 32
        · rw [if_pos ⟨c2, by omega⟩, if_pos (show x < 32 by omega), if_pos (show n * 32 + x < bs.length by omega), List.getElem?_take, if_pos c2, List.getElem?_drop, List.getElem?_eq_getElem (by omega)]
          simp [List.getD, List.getElem?_eq_getElem (show n * 32 + x < bs.length by omega)]
        · rw [if_neg (fun y => c2 y.1)]
          by_cases c3 : x < 32
          · rw [if_pos c3, if_pos c3, if_neg (by omega)]
          · rw [if_neg c3, if_neg c3]
      rw [es, put_zero] at hs
      refine ⟨_, hll, hs.row0 .z, ?_⟩
      (refine ⟨Sat.can hs (by (repeat (first | exact At.z | apply At.s))) (by simp), ?_⟩; intro _ e; replace hs := Sat.wra hs (by (repeat (first | exact At.z | apply At.s))) e (by simp [*]); clear e; simp only [put] at hs)
      refine ⟨_, hll, hs.row0 (by (repeat (first | exact At.z | apply At.s))), ?_⟩
      exact k _ hs.drop.drop
def eraseL (base : Int) : Nat → Nat → Cm → Cm × Int
  | 0, _, C => (C, 0)
  | m + 1, j, C => if usedM C (base + j) = true then (if (eraseM C (base + j)).2 ≠ 0 then eraseM C (base + j) else eraseL base m (j + 1) (eraseM C (base + j)).1) else eraseL base m (j + 1) C
def progL (base : Int) (cells : Nat) (bs : List Int) (n : Nat) : Nat → Nat → Cm → Cm × Int
  | 0, _, C => (C, 0)
  | m + 1, k, C =>
    if (programM C (base + (((k + 1) % n / cells : Nat) : Int)) (((k + 1) % n % cells : Nat) : Int) (cellM bs ((k + 1) % n))).2 ≠ 0 then programM C (base + (((k + 1) % n / cells : Nat) : Int)) (((k + 1) % n % cells : Nat) : Int) (cellM bs ((k + 1) % n))
    else progL base cells bs n m (k + 1) (programM C (base + (((k + 1) % n / cells : Nat) : Int)) (((k + 1) % n % cells : Nat) : Int) (cellM bs ((k + 1) % n))).1
def writeM (C : Cm) (ar : Int) (bs : List Int) : Cm × Int :=
  if (wornM C ar).2 ≠ 0 then (C, (wornM C ar).2) else if bs.length = 0 then (C, 1) else if sizeM C.cfg < bs.length then (C, 4) else if (wornM C ar).1 = true then (C, 9)
  else if (eraseL (2 + ar * C.cfg.area) C.cfg.area.toNat 0 C).2 ≠ 0 then eraseL (2 + ar * C.cfg.area) C.cfg.area.toNat 0 C
  else progL (2 + ar * C.cfg.area) C.cfg.cells.toNat bs ((bs.length + 31) / 32) ((bs.length + 31) / 32) 0 (eraseL (2 + ar * C.cfg.area) C.cfg.area.toNat 0 C).1
theorem erase_cfg (C : Cm) (page : Int) : (eraseM C page).1.cfg = C.cfg := by
  unfold eraseM
  split
  · rfl
  · split
    · rfl
    · exact act_cfg C
theorem program_cfg (C : Cm) (page cell : Int) (x : List Int) : (programM C page cell x).1.cfg = C.cfg := by
  unfold programM
  split
  · rfl
  · exact act_cfg C
theorem sizeM_le (c : Cfg) : sizeM c ≤ 524288 := by
  unfold sizeM
  split
  · rename_i m
    have h1 := m.area
    have h2 := m.cells
    have h3 := m.slots
    have h4 : c.area * c.cells ≤ 64 * c.cells := Int.mul_le_mul_of_nonneg_right h1.2 (by omega)
    omega
  · decide
theorem aWrite_sp {Q : Int → H → Prop} {q : Option Addr} {l c : Nat} {bs : List Int} (hs : Sat h0 A h) (ci : At A i (chipE p C)) (ar : Int) (rd : ∀ D h', Sat h0 (put A i (chipE p D)) h' → hsv h' q 1 l (ints .u8 bs)) (hl : l < 2 ^ 50) (hlc : l ≤ c)
    (k : ∀ h', Sat h0 (put A i (chipE p (writeM C ar bs).1)) h' → Q (writeM C ar bs).2 h') : F_area_Write ⟨p, 0, none⟩ ar q l c Q h := by
  unfold F_area_Write G_area_Write
  have hbl : bs.length = l := by have := (rd C h (by rw [ci.put_self]; exact hs)).1; simpa using this
  refine Worn_sp hs ci ar ?_
  intro h1 hs
  unfold writeM at k
  by_cases c1 : (wornM C ar).2 = 0
  case neg =>
    rw [if_pos (by simpa using c1)] at k ⊢
    exact k _ (by rw [ci.put_self]; exact hs)
  rw [if_neg (by simpa using c1)] at k ⊢
  by_cases c2 : bs.length = 0
  · rw [if_pos c2] at k
    rw [if_pos (by rw [beq_iff_eq]; omega)]
    exact k _ (by rw [ci.put_self]; exact hs)
  rw [if_neg c2] at k
  rw [if_neg (by rw [beq_iff_eq]; omega)]
  refine Config_sp hs ci ?_
  intro h2 hs
  refine aSize_sp C.cfg hs ?_
  intro h3 hs
  by_cases c3 : sizeM C.cfg < bs.length
  · rw [if_pos c3] at k
    rw [ltI_eq, if_pos (by simp; omega)]
    exact k _ (by rw [ci.put_self]; exact hs)
  rw [if_neg c3] at k
  rw [ltI_eq, if_neg (by simp; omega)]
  have hsle := sizeM_le C.cfg
  by_cases c4 : (wornM C ar).1 = true
  · rw [if_pos c4] at k ⊢
    exact k _ (by rw [ci.put_self]; exact hs)
  rw [if_neg c4] at k ⊢
  have hask : askedM C ar 2 = 0 := by
    unfold wornM at c1
    by_cases y : askedM C ar 2 = 0
    · exact y
    · rw [if_pos (by simpa using y)] at c1; exact absurd c1 y
  obtain ⟨ho, a1, a2⟩ := askedM_zero hask
  have ok := chip_ok hs ci
  have hm := ok.may.area
  have hcl := ok.may.cells
  have hsl := ok.may.slots
  have z : 0 ≤ ar * C.cfg.area ∧ ar * C.cfg.area ≤ 64 := by
    have : ar = 0 ∨ ar = 1 := by omega
    rcases this with rfl | rfl <;> omega
  refine apages_sp hs ci ar a1 a2 ?_
  intro h4 hs
  intro J hJ
  generalize hE : eraseL (2 + ar * C.cfg.area) C.cfg.area.toNat 0 C = E at k
  have hs0 : ∃ D : Cm, Sat h0 (put A i (chipE p D)) h4 ∧ D.cfg = C.cfg ∧ eraseL (2 + ar * C.cfg.area) (C.cfg.area.toNat - 0) 0 D = E := ⟨C, by rw [ci.put_self]; exact hs, rfl, hE⟩
  have key := loop_st (J := J) C.cfg.area.toNat (fun n (_ : Unit) => [.dv (.one (.int .i64 (2 + ar * C.cfg.area + (n : Int))))]) (fun n _ h => ∃ D : Cm, Sat h0 (put A i (chipE p D)) h ∧ D.cfg = C.cfg ∧ eraseL (2 + ar * C.cfg.area) (C.cfg.area.toNat - n) n D = E) ?_ ?_ 0 () _ (by omega) hs0
  · simpa using key
  · rintro n _ h5 hn ⟨D, hs, hcf, hL⟩ hk
    apply hJ
    rw [ltI_eq, if_pos (by simp; omega)]
    have ew : IntKind.i64.wrap (2 + ar * C.cfg.area + (n : Int) + 1) = 2 + ar * C.cfg.area + ((n + 1 : Nat) : Int) := by rw [wrap_id (by omega)]; omega
    rw [ew]
    obtain ⟨m, hm2⟩ : ∃ m, C.cfg.area.toNat - n = m + 1 := ⟨C.cfg.area.toNat - n - 1, by omega⟩
    rw [hm2] at hL
    unfold eraseL at hL
    refine used_sp hs (ci.put _) _ ?_
    intro h6 hs
    by_cases u : usedM D (2 + ar * C.cfg.area + (n : Int)) = true
    case neg =>
      rw [if_neg u] at hL
      rw [if_pos (by simpa using u)]
      exact hk () _ ⟨D, hs, hcf, by rw [show C.cfg.area.toNat - (n + 1) = m by omega]; exact hL⟩
    rw [if_pos u] at hL
    rw [if_neg (by rw [u]; simp)]
    refine Erase_sp hs (ci.put _) _ ?_
    intro h7 hs
    rw [put_put] at hs
    by_cases e : (eraseM D (2 + ar * C.cfg.area + (n : Int))).2 = 0
    · rw [if_neg (by simpa using e)] at hL ⊢
      exact hk () _ ⟨_, hs, (erase_cfg D _).trans hcf, by rw [show C.cfg.area.toNat - (n + 1) = m by omega]; exact hL⟩
    · rw [if_pos (by simpa using e)] at hL ⊢
      rw [← hL, if_pos (by simpa using e)] at k
      exact k _ hs
  · rintro _ h5 ⟨D, hs, hcf, hL⟩
    apply hJ
    rw [ltI_eq, if_neg (by simp; omega)]
    refine ⟨by decide, ?_⟩
    clear hJ J
    intro J hJ
    rw [Nat.sub_self] at hL
    unfold eraseL at hL
    rw [← hL, if_neg (by simp)] at k
    dsimp only at k
    obtain ⟨n, hn⟩ : ∃ n, n = (bs.length + 31) / 32 := ⟨_, rfl⟩
    rw [← hn] at k
    have en : IntKind.i64.wrap ((IntKind.i64.wrap (IntKind.i64.wrap ((l : Int) + 32) - 1)).tdiv 32) = (n : Int) := by
      rw [wrap_id (n := (l : Int) + 32) (by omega), wrap_id (n := (l : Int) + 32 - 1) (by omega), Int.tdiv_eq_ediv_of_nonneg (by omega), wrap_id (by omega)]; omega
    generalize hP : progL (2 + ar * C.cfg.area) C.cfg.cells.toNat bs n n 0 D = P at k
    have hs1 : ∃ D : Cm, Sat h0 (put A i (chipE p D)) h5 ∧ D.cfg = C.cfg ∧ progL (2 + ar * C.cfg.area) C.cfg.cells.toNat bs n (n - 0) 0 D = P := ⟨D, hs, hcf, hP⟩
    refine loop_up n (fun t h => ∃ D : Cm, Sat h0 (put A i (chipE p D)) h ∧ D.cfg = C.cfg ∧ progL (2 + ar * C.cfg.area) C.cfg.cells.toNat bs n (n - t) t D = P) ?_ ?_ 0 _ (by omega) hs1
    · rintro t h6 ht ⟨D, hs, hcf, hL⟩ hk
      apply hJ
      rw [en, ltI_eq, if_pos (by simp; omega)]
      have ei : (IntKind.i64.wrap ((t : Int) + 1)).tmod (n : Int) = (((t + 1) % n : Nat) : Int) := by
        rw [wrap_succ (by omega), Int.tmod_eq_emod_of_nonneg (by omega)]; rfl
      rw [ei]
      have hin : (t + 1) % n < n := Nat.mod_lt _ (by omega)
      obtain ⟨m, hm2⟩ : ∃ m, n - t = m + 1 := ⟨n - t - 1, by omega⟩
      rw [hm2] at hL
      unfold progL at hL
      refine ⟨by omega, ?_⟩
      refine aplace_sp hs (ci.put _) ar a1 a2 ((t + 1) % n) (by omega) ?_
      intro h7 hs
      rw [hcf]
      refine filled_sp (bs := bs) ((t + 1) % n) hs (fun h' hs' => rd _ h' hs') (by omega) hlc (by omega) ?_
      intro h8 hs
      refine Program_sp hs (ci.put _) _ _ _ (cellM_length _ _) ?_
      intro h9 hs
      rw [put_put] at hs
      generalize hX : programM D (2 + ar * C.cfg.area + (((t + 1) % n / C.cfg.cells.toNat : Nat) : Int)) (((t + 1) % n % C.cfg.cells.toNat : Nat) : Int) (cellM bs ((t + 1) % n)) = X at *
      have hXc : X.1.cfg = D.cfg := by rw [← hX]; exact program_cfg _ _ _ _
      by_cases e : X.2 = 0
      · rw [if_neg (by simpa using e)] at hL ⊢
        rw [wrap_succ (by omega)]
        exact hk _ ⟨_, hs, hXc.trans hcf, by rw [show n - (t + 1) = m by omega]; exact hL⟩
      · rw [if_pos (by simpa using e)] at hL ⊢
        rw [← hL] at k
        exact k _ hs
    · rintro h6 ⟨D, hs, hcf, hL⟩
      apply hJ
      rw [en, ltI_eq, if_neg (by simp)]
      rw [Nat.sub_self] at hL
      unfold progL at hL
      rw [← hL] at k
      exact k _ hs
end
end Go.Proofs.Ytamfkofcpoglnaa
end

/- Contracts of the document's areas: Write. Own work. -/
section
set_option maxRecDepth 100000
set_option linter.unusedVariables false
namespace Go.Proofs.Ytamfkofcpoglnaa
open Go Go.Vc

section
variable {h0 h : H} {A : List Ent} {i j p r b : Nat} {C : Cm}
theorem rlay_sp {Q : Int → H → Prop} {q : Option Addr} {l c : Nat} {bs : List Int} (hs : Sat h0 A h) (ci : At A i (refE p C)) (ar : Int) (a1 : 0 ≤ ar) (a2 : ar < 2) (n : Nat) (rd : ∀ h', Sat h0 A h' → hsv h' q 1 l (ints .u8 bs)) (hl : l < 2 ^ 50) (hn : n * 32 < l)
    (k : ∀ h', Sat h0 (put A i (refE p (programM C (2 + ar * C.cfg.area + ((n / C.cfg.cells.toNat : Nat) : Int)) ((n % C.cfg.cells.toNat : Nat) : Int) (cellM bs n)).1)) h' → Q (programM C (2 + ar * C.cfg.area + ((n / C.cfg.cells.toNat : Nat) : Int)) ((n % C.cfg.cells.toNat : Nat) : Int) (cellM bs n)).2 h') :
    F_portcullisref14_lay ⟨p, 0, none⟩ ar q l c n Q h := by
  unfold F_portcullisref14_lay G_portcullisref14_lay
  simp only [add_mk, Nat.zero_add, List.append_nil]
  have hbl : bs.length = l := by have := (rd _ hs).1; simpa using this
  obtain ⟨_, ok, _⟩ := ref_all hs ci
  have hm := ok.may.area
  have hcl := ok.may.cells
  have hsl := ok.may.slots
  have z : 0 ≤ ar * C.cfg.area ∧ ar * C.cfg.area ≤ 64 := by
    have : ar = 0 ∨ ar = 1 := by omega
    rcases this with rfl | rfl <;> omega
  refine rBlank_sp hs ?_
  intro h1 hs
  rw [blankCell_ffs]
  intro n12 _ hn12; replace hs := Sat.new hs hn12; clear hn12
  have hf : ffs.length = 32 := rfl
  (refine ⟨Sat.can hs (by (repeat (first | exact At.z | apply At.s))) (by simp), ?_⟩; intro _ e; replace hs := Sat.wra hs (by (repeat (first | exact At.z | apply At.s))) e (by simp [*]); clear e; simp only [put] at hs)
  intro J hJ
  have last : ∀ h2, Sat h0 (blk n12 (ints .u8 (cellM bs n)) :: A) h2 → J [] h2 := by
    intro h2 hs
    apply hJ
    obtain ⟨w, _, ld, _⟩ := ref_all hs ci.s
    refine ⟨_, ld 6 _ rfl, _, ld 0 _ rfl, by omega, _, ld 0 _ rfl, by omega, _, cellM_length bs n, hs.row0 .z, ?_⟩
    have ec : (C.cfg.cells.toNat : Int) = C.cfg.cells := by omega
    have e1 : (n : Int).tdiv C.cfg.cells = ((n / C.cfg.cells.toNat : Nat) : Int) := by
      rw [Int.tdiv_eq_ediv_of_nonneg (by omega), ← ec]; rfl
    have e2 : (n : Int).tmod C.cfg.cells = ((n % C.cfg.cells.toNat : Nat) : Int) := by
      rw [Int.tmod_eq_emod_of_nonneg (by omega), ← ec]; rfl
    have hd : n / C.cfg.cells.toNat ≤ n := Nat.div_le_self _ _
    rw [e1, e2]
    clear e1 e2
    generalize n / C.cfg.cells.toNat = dd at *
    generalize n % C.cfg.cells.toNat = mm at *
    rw [wrap_id (n := (dd : Int)) (by omega), wrap_id (n := ar * C.cfg.area) (by omega), wrap_id (n := 2 + ar * C.cfg.area) (by omega), wrap_id (by omega)]
    refine rProgram_sp hs ci.s _ _ _ (cellM_length bs n) ?_
    intro h3 hs
    exact k _ hs.drop
  intro J2 hJ2
  have hs1 := Sat.tab_to (g := fun x => if x < 0 ∧ n * 32 + x < bs.length then bs.getD (n * 32 + x) 0 else 255) hs fun i hi => (if_neg (by omega)).symm
  refine loop_up 32 (fun t h => Sat h0 (blk n12 (ints .u8 (tab 32 fun x => if x < t ∧ n * 32 + x < bs.length then bs.getD (n * 32 + x) 0 else 255)) :: A) h) ?_ ?_ 0 _ (by omega) hs1
  · intro t h3 ht hs hk
    apply hJ2
    rw [ltI_eq, if_pos (by simp; omega)]
    have ew : IntKind.i64.wrap (IntKind.i64.wrap (32 * (n : Int)) + (t : Int)) = ((n * 32 + t : Nat) : Int) := by
      rw [wrap_id (n := 32 * (n : Int)) (by omega), wrap_id (by omega)]; omega
    rw [ew]
    by_cases c1 : n * 32 + t < l
    · rw [ltI_eq, if_pos (by simp; omega)]
      obtain ⟨q', hq, g⟩ := hsv_int (rd _ hs.drop) c1
      refine ⟨_, hq, by omega, by omega, _, by rw [Int.toNat_natCast, Nat.mul_one]; exact g, by omega, by omega, ?_⟩
      rw [Int.toNat_natCast, Nat.mul_one]
      refine ⟨hs.can .z (by simp; omega), ?_⟩
      intro h4 e
      replace hs := hs.wr .z e
      rw [put_zero, ints_tab_set] at hs
      rw [wrap_succ (by omega)]
      refine hk _ (Sat.tab_to hs fun x hx => ?_)
      by_cases e : x = t
      · rw [if_pos e, if_pos (by omega), e]
      · rw [if_neg e]
        by_cases e2 : x < t ∧ n * 32 + x < bs.length
        · rw [if_pos e2, if_pos (by omega)]
        · rw [if_neg e2, if_neg (by omega)]
    · rw [ltI_eq, if_neg (by simp; omega)]
      refine last _ (Sat.tab_to hs fun x hx => ?_)
      by_cases e2 : n * 32 + x < bs.length
      · rw [if_pos (by omega), if_pos e2]
      · rw [if_neg (by omega), if_neg e2]
  · intro h3 hs
    apply hJ2
    rw [ltI_eq, if_neg (by simp)]
    refine last _ (Sat.tab_to hs fun x hx => ?_)
    by_cases e2 : n * 32 + x < bs.length
    · rw [if_pos ⟨hx, e2⟩, if_pos e2]
    · rw [if_neg (fun y => e2 y.2), if_neg e2]
theorem erase_out {C : Cm} {page : Int} (ho : C.out = false) (e : (eraseM C page).2 = 0) : (eraseM C page).1.out = false := by
  unfold eraseM at *
  split
  · exact ho
  · rename_i h1
    rw [if_neg h1] at e
    split
    · exact ho
    · rename_i h2
      rw [if_neg h2] at e
      show C.act.out = false
      refine act_out ho ?_
      unfold errM at e
      intro hl
      rw [if_neg (by simpa using hl)] at e
      simp at e
theorem rWrite_sp {Q : Int → H → Prop} {q : Option Addr} {l c : Nat} {bs : List Int} (hs : Sat h0 A h) (ci : At A i (refE p C)) (ar : Int) (rd : ∀ D h', Sat h0 (put A i (refE p D)) h' → hsv h' q 1 l (ints .u8 bs)) (hl : l < 2 ^ 50)
    (k : ∀ h', Sat h0 (put A i (refE p (writeM C ar bs).1)) h' → Q (writeM C ar bs).2 h') : F_portcullisref14_Write ⟨p, 0, none⟩ ar q l c Q h := by
  unfold F_portcullisref14_Write G_portcullisref14_Write
  simp only [add_mk, Nat.zero_add]
  have hbl : bs.length = l := by have := (rd C h (by rw [ci.put_self]; exact hs)).1; simpa using this
  refine rWorn_sp hs ci ar ?_
  intro h1 hs
  unfold writeM at k
  by_cases c1 : (wornM C ar).2 = 0
  case neg =>
    rw [if_pos (by simpa using c1)] at k ⊢
    exact k _ (by rw [ci.put_self]; exact hs)
  rw [if_neg (by simpa using c1)] at k ⊢
  by_cases c2 : bs.length = 0
  · rw [if_pos c2] at k
    rw [if_pos (by rw [beq_iff_eq]; omega)]
    exact k _ (by rw [ci.put_self]; exact hs)
  rw [if_neg c2] at k
  rw [if_neg (by rw [beq_iff_eq]; omega)]
  obtain ⟨w, ok, ld, _⟩ := ref_all hs ci
  refine ⟨_, ld 0 _ rfl, _, ld 1 _ rfl, _, ld 2 _ rfl, _, ld 3 _ rfl, _, ld 4 _ rfl, _, ld 5 _ rfl, _, ld 6 _ rfl, ?_⟩
  refine rSize_sp C.cfg hs ?_
  intro h3 hs
  by_cases c3 : sizeM C.cfg < bs.length
  · rw [if_pos c3] at k
    rw [ltI_eq, if_pos (by simp; omega)]
    exact k _ (by rw [ci.put_self]; exact hs)
  rw [if_neg c3] at k
  rw [ltI_eq, if_neg (by simp; omega)]
  by_cases c4 : (wornM C ar).1 = true
  · rw [if_pos c4] at k ⊢
    exact k _ (by rw [ci.put_self]; exact hs)
  rw [if_neg c4] at k ⊢
  have hask : askedM C ar 2 = 0 := by
    unfold wornM at c1
    by_cases y : askedM C ar 2 = 0
    · exact y
    · rw [if_pos (by simpa using y)] at c1; exact absurd c1 y
  obtain ⟨ho, a1, a2⟩ := askedM_zero hask
  have hm := ok.may.area
  have hcl := ok.may.cells
  have hsl := ok.may.slots
  have hnp : C.cfg.np = 2 + 2 * C.cfg.area := rfl
  have z : 0 ≤ ar * C.cfg.area ∧ ar * C.cfg.area ≤ C.cfg.area ∧ C.cfg.area ≤ 64 := by
    have : ar = 0 ∨ ar = 1 := by omega
    rcases this with rfl | rfl <;> omega
  intro J hJ
  generalize hE : eraseL (2 + ar * C.cfg.area) C.cfg.area.toNat 0 C = E at k
  have hs0 : ∃ D : Cm, Sat h0 (put A i (refE p D)) h3 ∧ D.cfg = C.cfg ∧ D.out = false ∧ eraseL (2 + ar * C.cfg.area) (C.cfg.area.toNat - 0) 0 D = E := ⟨C, by rw [ci.put_self]; exact hs, rfl, ho, hE⟩
  refine loop_st C.cfg.area.toNat (fun n (_ : Unit) => [.dv (.one (.int .i64 (n : Int)))]) (fun n _ h => ∃ D : Cm, Sat h0 (put A i (refE p D)) h ∧ D.cfg = C.cfg ∧ D.out = false ∧ eraseL (2 + ar * C.cfg.area) (C.cfg.area.toNat - n) n D = E) ?_ ?_ 0 () _ (by omega) hs0
  · rintro n _ h5 hn ⟨D, hs, hcf, hDo, hL⟩ hk
    apply hJ
    obtain ⟨w, okD, ld, _⟩ := ref_all hs (ci.put _)
    have hpg := okD.fits.pages
    rw [hcf] at hpg
    refine ⟨_, ld 6 _ rfl, ?_⟩
    rw [hcf, ltI_eq, if_pos (by simp; omega)]
    refine ⟨_, ld 6 _ rfl, ?_⟩
    have ew : IntKind.i64.wrap (IntKind.i64.wrap (2 + IntKind.i64.wrap (ar * C.cfg.area)) + (n : Int)) = 2 + ar * C.cfg.area + n := by
      rw [wrap_id (n := ar * C.cfg.area) (by omega), wrap_id (n := 2 + ar * C.cfg.area) (by omega), wrap_id (by omega)]
    rw [hcf, ew]
    have p1 : 0 ≤ 2 + ar * C.cfg.area + (n : Int) := by omega
    have p2 : 2 + ar * C.cfg.area + (n : Int) < D.s.pages.length := by omega
    obtain ⟨m, hm2⟩ : ∃ m, C.cfg.area.toNat - n = m + 1 := ⟨C.cfg.area.toNat - n - 1, by omega⟩
    rw [hm2] at hL
    unfold eraseL at hL
    refine rpage_blank hs (ci.put _) hDo p1 p2 ?_
    intro h6 hs
    rw [wrap_succ (by omega)]
    by_cases u : usedM D (2 + ar * C.cfg.area + (n : Int)) = true
    case neg =>
      rw [if_neg u] at hL
      rw [if_pos (by simpa using u)]
      exact hk () _ ⟨D, hs, hcf, hDo, by rw [show C.cfg.area.toNat - (n + 1) = m by omega]; exact hL⟩
    rw [if_pos u] at hL
    rw [if_neg (by rw [u]; simp)]
    refine rErase_sp hs (ci.put _) _ ?_
    intro h7 hs
    rw [put_put] at hs
    by_cases e : (eraseM D (2 + ar * C.cfg.area + (n : Int))).2 = 0
    · rw [if_neg (by simpa using e)] at hL ⊢
      exact hk () _ ⟨_, hs, (erase_cfg D _).trans hcf, erase_out hDo e, by rw [show C.cfg.area.toNat - (n + 1) = m by omega]; exact hL⟩
    · rw [if_pos (by simpa using e)] at hL ⊢
      rw [← hL, if_pos (by simpa using e)] at k
      exact k _ hs
  · rintro _ h5 ⟨D, hs, hcf, hDo, hL⟩
    apply hJ
    obtain ⟨w, okD, ld, _⟩ := ref_all hs (ci.put _)
    refine ⟨_, ld 6 _ rfl, ?_⟩
    rw [hcf, ltI_eq, if_neg (by simp; omega)]
    clear hJ J
    intro J hJ
    rw [Nat.sub_self] at hL
    unfold eraseL at hL
    rw [← hL, if_neg (by simp)] at k
    dsimp only at k
    obtain ⟨n, hn⟩ : ∃ n, n = (bs.length + 31) / 32 := ⟨_, rfl⟩
    rw [← hn] at k
    generalize hP : progL (2 + ar * C.cfg.area) C.cfg.cells.toNat bs n n 0 D = P at k
    have hs1 : ∃ D : Cm, Sat h0 (put A i (refE p D)) h5 ∧ D.cfg = C.cfg ∧ progL (2 + ar * C.cfg.area) C.cfg.cells.toNat bs n (n - 0) 0 D = P := ⟨D, hs, hcf, hP⟩
    have one : ∀ (t : Nat) (D : Cm) (h6 : H) (K : Int → H → Prop), t < n → D.cfg = C.cfg → Sat h0 (put A i (refE p D)) h6 → progL (2 + ar * C.cfg.area) C.cfg.cells.toNat bs n (n - t) t D = P →
        (∀ e h', e ≠ 0 → Q e h' → K e h') → (∀ D' h', Sat h0 (put A i (refE p D')) h' → D'.cfg = C.cfg → progL (2 + ar * C.cfg.area) C.cfg.cells.toNat bs n (n - (t + 1)) (t + 1) D' = P → K 0 h') →
        F_portcullisref14_lay ⟨p, 0, none⟩ ar q l c (((t + 1) % n : Nat) : Int) K h6 := by
      intro t D h6 K ht hcf hs hL kb kg
      have hin : (t + 1) % n < n := Nat.mod_lt _ (by omega)
      obtain ⟨m, hm2⟩ : ∃ m, n - t = m + 1 := ⟨n - t - 1, by omega⟩
      rw [hm2] at hL
      unfold progL at hL
      refine rlay_sp (bs := bs) hs (ci.put _) ar a1 a2 ((t + 1) % n) (fun h' hs' => rd _ h' hs') hl (by omega) ?_
      intro h9 hs
      rw [put_put] at hs
      rw [hcf] at hs ⊢
      generalize hX : programM D (2 + ar * C.cfg.area + (((t + 1) % n / C.cfg.cells.toNat : Nat) : Int)) (((t + 1) % n % C.cfg.cells.toNat : Nat) : Int) (cellM bs ((t + 1) % n)) = X at *
      have hXc : X.1.cfg = D.cfg := by rw [← hX]; exact program_cfg _ _ _ _
      by_cases e : X.2 = 0
      · rw [if_neg (by simpa using e)] at hL
        rw [e]
        exact kg _ _ hs (hXc.trans hcf) (by rw [show n - (t + 1) = m by omega]; exact hL)
      · rw [if_pos (by simpa using e)] at hL
        rw [← hL] at k
        exact kb _ _ e (k _ hs)
    have key := loop_st (J := J) (n - 1) (fun t (_ : Unit) => [.dv (.one (.int .i64 ((t + 1 : Nat) : Int)))]) (fun t _ h => ∃ D : Cm, Sat h0 (put A i (refE p D)) h ∧ D.cfg = C.cfg ∧ progL (2 + ar * C.cfg.area) C.cfg.cells.toNat bs n (n - t) t D = P) ?_ ?_ 0 () _ (by omega) hs1
    · exact key
    · rintro t _ h6 ht ⟨D, hs, hcf, hL⟩ hk
      apply hJ
      have ew : IntKind.i64.wrap (32 * ((t + 1 : Nat) : Int)) = ((32 * (t + 1) : Nat) : Int) := by rw [wrap_id (by omega)]; omega
      rw [ew, ltI_eq, if_pos (by simp; omega)]
      have ei : ((t + 1 : Nat) : Int) = (((t + 1) % n : Nat) : Int) := by rw [Nat.mod_eq_of_lt (by omega)]
      have := one t D h6 (fun i43 h44 => if (i43 != 0) = true then Q i43 h44 else J [.dv (.one (.int .i64 (IntKind.i64.wrap (((t + 1 : Nat) : Int) + 1))))] h44) (by omega) hcf hs hL (fun e h' he hq => by
        rw [if_pos (by simpa using he)]; exact hq) (fun D' h' hs' hc' hL' => by
        rw [if_neg (by simp), wrap_succ (by omega)]
        exact hk () _ ⟨D', hs', hc', hL'⟩)
      rw [← ei] at this
      exact this
    · rintro _ h6 ⟨D, hs, hcf, hL⟩
      apply hJ
      have ew : IntKind.i64.wrap (32 * ((n - 1 + 1 : Nat) : Int)) = ((32 * (n - 1 + 1) : Nat) : Int) := by rw [wrap_id (by omega)]; omega
      rw [ew, ltI_eq, if_neg (by simp; omega)]
      have ei : (0 : Int) = (((n - 1 + 1) % n : Nat) : Int) := by rw [show n - 1 + 1 = n by omega, Nat.mod_self]; rfl
      have := one (n - 1) D h6 (fun i45 h46 => Q i45 h46) (by omega) hcf hs hL (fun e h' he hq => hq) (fun D' h' hs' hc' hL' => by
        rw [show n - (n - 1 + 1) = 0 by omega] at hL'
        unfold progL at hL'
        rw [← hL'] at k
        exact k _ hs')
      rw [← ei] at this
      exact this
end
end Go.Proofs.Ytamfkofcpoglnaa
end

/- Contracts of areas: bytes that are read. Own work. -/
section
set_option maxRecDepth 100000
set_option linter.unusedVariables false
namespace Go.Proofs.Ytamfkofcpoglnaa
open Go Go.Vc

/-- The bytes of an area's first cells. -/
def areaB (C : Cm) (ar : Int) : Nat → List Int
  | 0 => []
  | n + 1 => areaB C ar n ++ (readM C (2 + ar * C.cfg.area + ((n / C.cfg.cells.toNat : Nat) : Int)) ((n % C.cfg.cells.toNat : Nat) : Int)).1
section
variable {h0 h : H} {A : List Ent} {i j p r b : Nat} {C : Cm}
theorem read_in (ok : C.ok) (ho : C.out = false) {ar : Int} (a1 : 0 ≤ ar) (a2 : ar < 2) {n : Nat} (hn : n < C.cfg.area.toNat * C.cfg.cells.toNat) : (readM C (2 + ar * C.cfg.area + ((n / C.cfg.cells.toNat : Nat) : Int)) ((n % C.cfg.cells.toNat : Nat) : Int)).2 = 0 := by
  have hm := ok.may.area
  have hcl := ok.may.cells
  have hsl := ok.may.slots
  have hpg := ok.fits.pages
  have hnp : C.cfg.np = 2 + 2 * C.cfg.area := rfl
  have z : 0 ≤ ar * C.cfg.area ∧ ar * C.cfg.area ≤ C.cfg.area ∧ C.cfg.area ≤ 64 := by
    have : ar = 0 ∨ ar = 1 := by omega
    rcases this with rfl | rfl <;> omega
  have h1 : n / C.cfg.cells.toNat < C.cfg.area.toNat := (Nat.div_lt_iff_lt_mul (by omega)).2 hn
  have h2 : n % C.cfg.cells.toNat < C.cfg.cells.toNat := Nat.mod_lt _ (by omega)
  generalize n / C.cfg.cells.toNat = dd at *
  generalize n % C.cfg.cells.toNat = mm at *
  have ec : asksCellM C (2 + ar * C.cfg.area + (dd : Int)) (mm : Int) = 0 := by
    unfold asksCellM
    rw [askedM_in ho (by omega) (by omega), if_neg (by simp), askedM_in ho (by omega) (by omega)]
  unfold readM
  rw [ec, if_neg (by simp)]
theorem sl_cap (hs : Sat h0 A h) {q : Option Addr} {l c sz : Nat} {vs : List Value} (m : At A i (slE q l c sz vs)) : l ≤ c := by
  obtain ⟨f, hp, _⟩ := hs.take m
  obtain ⟨bs, ⟨_, h2, _⟩, _⟩ := slE_P.1 hp
  exact h2
theorem abytes_sp {Q : Option Addr → Nat → Nat → Int → H → Prop} (hs : Sat h0 A h) (ci : At A i (chipE p C)) (ho : C.out = false) (ar : Int) (a1 : 0 ≤ ar) (a2 : ar < 2) (n : Nat) (hn : n ≤ 32 * (C.cfg.area.toNat * C.cfg.cells.toNat)) (hn0 : 0 < n)
    (k : ∀ (o : Option Addr) (c m : Nat) (h' : H), m = (n + 31) / 32 → Sat h0 (slE o (32 * m) c 1 (ints .u8 (areaB C ar m)) :: A) h' → n ≤ 32 * m → Q (subAddr o 0 n 1) n n 0 h') : F_area_bytes ⟨p, 0, none⟩ ar n Q h := by
  unfold F_area_bytes G_area_bytes
  simp only [add_mk, Nat.zero_add, List.append_nil]
  have ok := chip_ok hs ci
  have hm := ok.may.area
  have hcl := ok.may.cells
  have hsl := ok.may.slots
  have hsz : C.cfg.area.toNat * C.cfg.cells.toNat ≤ 16384 := by
    calc C.cfg.area.toNat * C.cfg.cells.toNat ≤ 64 * C.cfg.cells.toNat := Nat.mul_le_mul_right _ (by omega)
      _ ≤ 16384 := by omega
  intro J hJ
  obtain ⟨M, hM⟩ : ∃ M, M = (n + 31) / 32 := ⟨_, rfl⟩
  replace hs := hs.sl_nil 1 none
  refine loop_st M (fun m (s : Option Addr × Nat) => [.dv (.one (.slice s.1 (32 * m) s.2)), .dv (.one (.int .i64 (m : Int)))]) (fun m s h => Sat h0 (slE s.1 (32 * m) s.2 1 (ints .u8 (areaB C ar m)) :: A) h) ?_ ?_ 0 (none, 0) _ (by omega) hs
  · rintro m ⟨o, c⟩ h1 hm2 hs hk
    apply hJ
    rw [ltI_eq, if_pos (by simp; omega)]
    refine aplace_sp hs ci.s ar a1 a2 m (by omega) ?_
    intro h2 hs
    have hri := read_in ok ho a1 a2 (n := m) (by omega)
    have hrl := readM_len ok (2 + ar * C.cfg.area + ((m / C.cfg.cells.toNat : Nat) : Int)) ((m % C.cfg.cells.toNat : Nat) : Int)
    refine Read_sp hs ci.s _ _ ?_
    intro h3 hs
    have hB : areaB C ar (m + 1) = areaB C ar m ++ (readM C (2 + ar * C.cfg.area + ((m / C.cfg.cells.toNat : Nat) : Int)) ((m % C.cfg.cells.toNat : Nat) : Int)).1 := rfl
    generalize readM C (2 + ar * C.cfg.area + ((m / C.cfg.cells.toNat : Nat) : Int)) ((m % C.cfg.cells.toNat : Nat) : Int) = X at *
    intro n2 _ hn2; replace hs := Sat.new hs hn2; clear hn2
    refine ⟨Sat.can hs (by (repeat (first | exact At.z | apply At.s))) (by simp [hrl]), ?_⟩
    intro _ e; replace hs := Sat.wra hs (by (repeat (first | exact At.z | apply At.s))) e (by rw [ints_length, ints_length, hrl]; rfl); clear e; simp only [put] at hs
    rw [if_neg (by rw [hri]; simp)]
    rw [show subAddr (some ⟨n2, 0, none⟩) 0 32 1 = some ⟨n2, 0, none⟩ from rfl]
    refine ⟨_, hs.bv .z (by rw [ints_length, hrl]) (ints_one _ _), ?_⟩
    refine Sat.app hs (.s .z) (by rw [ints_length, hrl]) rfl (ints_one _ _) (by omega) ?_
    intro p' c' h4 hs
    rw [put_succ, put_zero] at hs
    rw [wrap_succ (by omega)]
    have hs' := hs.drop
    have el : 32 * m + 32 = 32 * (m + 1) := by omega
    rw [el] at hs' ⊢
    have ea : ints .u8 (areaB C ar m) ++ ints .u8 X.1 = ints .u8 (areaB C ar (m + 1)) := by rw [hB]; simp [ints]
    rw [ea] at hs'
    exact hk (p', c') _ hs'
  · rintro ⟨o, c⟩ h1 hs
    have hc0 := sl_cap hs .z
    apply hJ
    rw [ltI_eq, if_neg (by simp; omega)]
    dsimp only at hs hc0 ⊢
    refine ⟨by omega, by omega, by omega, ?_⟩
    have := k o c M h1 (by omega) hs (by omega)
    simpa using this
end
end Go.Proofs.Ytamfkofcpoglnaa
end

/- Contracts of the areas' statements: bytes that are no image; calls whose answers are fixed. Own work. -/
section
set_option maxRecDepth 100000
set_option linter.unusedVariables false
namespace Go.Proofs.Ytamfkofcpoglnaa
open Go Go.Vc

section
variable {h0 h : H} {A : List Ent} {i j p r b : Nat} {C : Cm}
/-- Bytes that begin otherwise are no image. -/
theorem Parse_bad {Q : Int → Int → Int → Option Addr → Nat → Nat → List Int → Value → H → Prop} {q : Option Addr} {l c : Nat} {bs : List Int} (hs : Sat h0 A h) (rd : ∀ h', Sat h0 A h' → hsv h' q 1 l (ints .u8 bs)) (hl0 : 0 < l) (hl : l ≤ 524288) (hb : bs.getD 0 0 ≠ 80)
    (k : ∀ i1 i2 i3 o n m (x : List Int) v h', x.length = 32 → isIfc v = true → isNilI v = false → Sat h0 A h' → Q i1 i2 i3 o n m x v h') : F_image_Parse q l c Q h := by
  unfold F_image_Parse G_image_Parse
  simp only [add_mk, Nat.zero_add, List.append_nil]
  intro n7 _ hn; replace hs := Sat.new hs hn; clear hn
  rw [ltI_eq, if_neg (by simp; omega)]
  intro J hJ
  apply hJ
  rw [ltI_eq, if_pos (by simp), if_neg (by rw [beq_iff_eq]; omega)]
  obtain ⟨q', hq, g⟩ := hsv_int (rd _ hs.drop) hl0
  refine ⟨_, hq, by omega, by omega, _, by simpa using g, ?_⟩
  unfold F_image_may G_image_may
  rw [ltI_eq, if_pos (by simp)]
  refine ⟨by decide, by decide, ?_⟩
  have e80 : (((ByteArray.mk #[80, 67, 85, 76]).data.toList.getD (0 : Int).toNat 0).toNat : Int) = 80 := by decide
  rw [e80]
  dsimp only
  rw [if_pos (by simpa using hb)]
  intro n41 _ hn; replace hs := Sat.new hs hn; clear hn
  (refine ⟨Sat.can hs (by (repeat (first | exact At.z | apply At.s))) (by simp), ?_⟩; intro _ e; replace hs := Sat.wra hs (by (repeat (first | exact At.z | apply At.s))) e (by simp [*]); clear e; simp only [put] at hs)
  refine ⟨_, Sat.ld hs (by (repeat (first | exact At.z | apply At.s))) (by rfl), ?_⟩
  refine ⟨_, Sat.ld hs (by (repeat (first | exact At.z | apply At.s))) (by rfl), ?_⟩
  refine ⟨_, Sat.ld hs (by (repeat (first | exact At.z | apply At.s))) (by rfl), ?_⟩
  refine ⟨_, _, _, Sat.ld hs (by (repeat (first | exact At.z | apply At.s))) (by rfl), ?_⟩
  refine ⟨zeros 32, rfl, Sat.row hs (i := 1) (.s .z) (o := 4) (by
    intro x hx
    rw [show 4 + x = x + 1 + 1 + 1 + 1 by omega]
    simp only [List.getElem?_cons_succ, ints_get]), ?_⟩
  exact k _ _ _ _ _ _ _ _ _ rfl rfl rfl hs.drop.drop
abbrev fix14C : Cm := freshC ⟨4, 1, 1, 1, 1, 1, 1⟩
abbrev fix14D : Cm := (writeM fix14C 0 (zeros 33)).1
theorem fix14_w : (writeM fix14C 0 (zeros 33)).2 = 0 := by decide +kernel
theorem fix14_o : fix14D.out = false := by decide +kernel
theorem eraseL_cfg (base : Int) : ∀ (m j : Nat) (C : Cm), (eraseL base m j C).1.cfg = C.cfg := by
  intro m
  induction m with
  | zero => intro j C; rfl
  | succ m ih =>
    intro j C
    unfold eraseL
    split
    · split
      · exact erase_cfg C _
      · rw [ih]; exact erase_cfg C _
    · exact ih _ _
theorem progL_cfg (base : Int) (cells : Nat) (bs : List Int) (n : Nat) : ∀ (m k : Nat) (C : Cm), (progL base cells bs n m k C).1.cfg = C.cfg := by
  intro m
  induction m with
  | zero => intro j C; rfl
  | succ m ih =>
    intro j C
    unfold progL
    split
    · exact program_cfg C _ _ _
    · rw [ih]; exact program_cfg C _ _ _
theorem write_cfg (C : Cm) (ar : Int) (bs : List Int) : (writeM C ar bs).1.cfg = C.cfg := by
  unfold writeM
  split
  · rfl
  · split
    · rfl
    · split
      · rfl
      · split
        · rfl
        · split
          · exact eraseL_cfg _ _ _ _
          · rw [progL_cfg, eraseL_cfg]
theorem fix14_c : fix14D.cfg = ⟨4, 1, 1, 1, 1, 1, 1⟩ := write_cfg _ _ _
theorem fix14_b : (areaB fix14D 0 2).getD 0 0 = 0 ∧ (areaB fix14D 0 2).getD 12 0 = 0 ∧ (areaB fix14D 0 2).getD 13 0 = 0 ∧ (areaB fix14D 0 2).getD 14 0 = 0 ∧ (areaB fix14D 0 2).getD 15 0 = 0 := by decide +kernel
theorem fix14_r : (readM fix14D 2 1).2 = 0 ∧ (readM fix14D 2 1).1.getD 0 0 = 0 ∧ (readM fix14D 2 1).1.getD 1 0 = 255 := by decide +kernel
theorem fix14_a : fix14D.acts = 2 := by decide +kernel
theorem small14_sp {Q : Int → Int → Int → Int → Int → Int → Int → H → Prop} (hs : Sat h0 A h) (k : ∀ h', Sat h0 A h' → Q 4 1 1 1 1 1 1 h') : F_portcullislaw14_small Q h := by
  unfold F_portcullislaw14_small G_portcullislaw14_small
  simp only [add_mk, Nat.zero_add]
  intro n1 _ hn; replace hs := Sat.new hs hn; clear hn
  (refine ⟨Sat.can hs (by (repeat (first | exact At.z | apply At.s))) (by simp), ?_⟩; intro _ e; replace hs := Sat.wr hs (by (repeat (first | exact At.z | apply At.s))) e; clear e; simp only [put, splice, List.set] at hs)
  refine ⟨_, Sat.ld hs (by (repeat (first | exact At.z | apply At.s))) (by rfl), ?_⟩
  refine ⟨_, Sat.ld hs (by (repeat (first | exact At.z | apply At.s))) (by rfl), ?_⟩
  refine ⟨_, Sat.ld hs (by (repeat (first | exact At.z | apply At.s))) (by rfl), ?_⟩
  refine ⟨_, Sat.ld hs (by (repeat (first | exact At.z | apply At.s))) (by rfl), ?_⟩
  refine ⟨_, Sat.ld hs (by (repeat (first | exact At.z | apply At.s))) (by rfl), ?_⟩
  refine ⟨_, Sat.ld hs (by (repeat (first | exact At.z | apply At.s))) (by rfl), ?_⟩
  refine ⟨_, Sat.ld hs (by (repeat (first | exact At.z | apply At.s))) (by rfl), ?_⟩
  exact k _ hs.drop
/-- The first bytes of an owned slice. -/
theorem sub_sv (hs : Sat h0 A h) {q : Option Addr} {l c n : Nat} {bs : List Int} (m : At A i (slE q l c 1 (ints .u8 bs))) (hn : n ≤ l) (hn0 : 0 < n) : ∃ q', subAddr q 0 n 1 = some q' ∧ hsv h (some q') 1 n (ints .u8 (bs.take n)) := by
  have sv := hs.sv m
  have hbl : bs.length = l := by have := sv.1; simpa using this
  obtain ⟨q', hq⟩ := hs.sl_some m (by omega)
  subst hq
  refine ⟨⟨q', 0, none⟩, ?_, ?_⟩
  · unfold subAddr
    rw [if_neg (by omega)]
    simp
  · obtain ⟨_, _, e3⟩ := sv
    rcases e3 with e3 | ⟨q2, hq2, g⟩
    · have e4 := congrArg List.length e3
      rw [ints_length, List.length_nil] at e4; omega
    · injection hq2 with hq2
      subst hq2
      refine ⟨by simp; omega, ints_one _ _, Or.inr ⟨_, rfl, ?_⟩⟩
      intro x v hv
      refine g x v ?_
      rw [ints_get] at hv ⊢
      rw [List.getElem?_take] at hv
      split at hv
      · exact hv
      · simp at hv
theorem fixed14_sp {Q : Bool → H → Prop} (hs : Sat h0 A h) (k : ∀ h', Sat h0 A h' → Q true h') : F_portcullislaw14_fixed Q h := by
  unfold F_portcullislaw14_fixed G_portcullislaw14_fixed
  simp only [add_mk, Nat.zero_add, List.append_nil]
  refine small14_sp hs ?_
  intro h1 hs
  refine New_sp ⟨4, 1, 1, 1, 1, 1, 1⟩ hs (fun nm => absurd (show Cfg.may ⟨4, 1, 1, 1, 1, 1, 1⟩ by decide) nm) ?_
  intro _ p h2 hs
  intro J hJ
  rw [if_neg (by simp), if_neg (by simp)]
  apply hJ
  refine ⟨by decide, by decide, by decide, by decide, ?_⟩
  intro n22 _ hn; replace hs := Sat.new hs hn; clear hn
  replace hs : Sat h0 (blk n22 (ints .u8 (zeros 33)) :: chipE p fix14C :: A) _ := hs
  refine ⟨_, rfl, ?_⟩
  refine aWrite_sp (bs := zeros 33) hs (.s .z) 0 (fun D h' hs' => Sat.bv (i := 0) hs' .z rfl (ints_one _ _)) (by decide) (by decide) ?_
  intro h3 hs
  replace hs : Sat h0 (blk n22 (ints .u8 (zeros 33)) :: chipE p fix14D :: A) h3 := hs
  rw [fix14_w]
  have ho := fix14_o
  have hcf := fix14_c
  have hb := fix14_b
  have hr := fix14_r
  have ha := fix14_a
  have hask : askedM fix14D 0 2 = 0 := askedM_in ho (by decide) (by decide)
  generalize fix14D = D at *
  refine ⟨_, rfl, ?_⟩
  have rest : ∀ h4, Sat h0 (chipE p D :: A) h4 → (∃ p34, (some ⟨p, 0, none⟩ : Option Addr) = some p34 ∧ F_chip_Chip_Read p34 2 1 (fun l35 i36 h37 => ∀ (n38 : Nat) (h39 : H), hnew h37 n38 (ints .u8 (zeros 32)) h39 → hcan h39 ⟨n38, 0, none⟩ 32 ∧ ∀ h41, h41 = hwr h39 ⟨n38, 0, none⟩ (ints .u8 l35) →
      F_portcullislaw14_small (fun i43 i44 i45 i46 i47 i48 i49 h50 => F_area_Size i43 i44 i45 i46 i47 i48 i49 (fun i51 h52 => if (i51 == 128) = true then if ((0 : Int) == 0) = true then if ((5 : Int) == 5) = true then if (i36 == 0) = true then (0 : Int) ≤ 0 ∧ (0 : Int) < ((32 : Nat) : Int) ∧ ∃ i53, hc h52 ⟨n38, 0, none⟩ = some (.int .u8 i53) ∧
        if (i53 == 0) = true then (0 : Int) ≤ 1 ∧ (1 : Int) < ((32 : Nat) : Int) ∧ ∃ i54, hc h52 ⟨n38, 1, none⟩ = some (.int .u8 i54) ∧ if (i54 == 255) = true then ∃ p55, (some ⟨p, 0, none⟩ : Option Addr) = some p55 ∧ F_chip_Chip_Acts p55 (fun i56 h57 => Q (i56 == 2) h57) h52 else Q false h52 else Q false h52 else Q false h52 else Q false h52 else Q false h52 else Q false h52) h50) h41) h4) := by
    intro h4 hs
    refine ⟨_, rfl, ?_⟩
    have hl := readM_len (chip_ok hs .z) 2 1
    refine Read_sp hs .z 2 1 ?_
    intro h5 hs
    intro n38 _ hn; replace hs := Sat.new hs hn; clear hn
    generalize readM D 2 1 = X at *
    refine ⟨Sat.can hs (by (repeat (first | exact At.z | apply At.s))) (by simp), ?_⟩
    intro _ e; replace hs := Sat.wra hs (by (repeat (first | exact At.z | apply At.s))) e (by rw [ints_length, ints_length, hl]; rfl); clear e; simp only [put] at hs
    refine small14_sp hs ?_
    intro h6 hs
    refine aSize_sp ⟨4, 1, 1, 1, 1, 1, 1⟩ hs ?_
    intro h7 hs
    have es : sizeM ⟨4, 1, 1, 1, 1, 1, 1⟩ = 128 := by decide
    rw [es, if_pos (by decide), if_pos (by decide), if_pos (by decide), hr.1, if_pos (by decide)]
    have gx : ∀ x, x < 32 → (ints .u8 X.1)[x]? = some (.int .u8 (X.1.getD x 0)) := by
      intro x hx
      rw [ints_get, List.getElem?_eq_getElem (by omega)]; simp [List.getD, List.getElem?_eq_getElem (show x < X.1.length by omega)]
    refine ⟨by decide, by decide, _, hs.ld .z (gx 0 (by decide)), ?_⟩
    rw [hr.2.1, if_pos (by decide)]
    refine ⟨by decide, by decide, _, hs.ld .z (gx 1 (by decide)), ?_⟩
    rw [hr.2.2, if_pos (by decide)]
    refine ⟨_, rfl, ?_⟩
    refine Acts_sp hs (i := 1) (.s .z) ?_
    rw [ha]
    exact k _ hs.drop.drop
  unfold F_area_Read G_area_Read
  simp only [add_mk, Nat.zero_add, List.append_nil]
  refine aasked_sp hs (.s .z) 0 ?_
  rw [hask, if_neg (by simp)]
  refine Config_sp hs (.s .z) ?_
  intro h4 hs
  refine aSize_sp D.cfg hs ?_
  intro h5 hs
  have es : sizeM D.cfg = 128 := by rw [hcf]; decide
  rw [es, ltI_eq, if_neg (by decide)]
  refine abytes_sp hs (.s .z) ho 0 (by decide) (by decide) 48 (by rw [hcf]; decide) (by decide) ?_
  intro o c m h6 hm hs hm2
  have hm : m = 2 := hm
  subst hm
  rw [if_neg (by simp)]
  obtain ⟨q', hq, sv⟩ := sub_sv hs .z (n := 48) (by decide) (by decide)
  have el : ∀ x, x < 48 → ((areaB D 0 2).take 48).getD x 0 = (areaB D 0 2).getD x 0 := by
    intro x hx
    rw [List.getD_eq_getElem?_getD, List.getD_eq_getElem?_getD, List.getElem?_take, if_pos hx]
  have ld : ∀ x, x < 48 → hc h6 (q'.add x) = some (.int .u8 ((areaB D 0 2).getD x 0)) := by
    intro x hx
    obtain ⟨q2, hq2, g⟩ := hsv_int sv hx
    injection hq2 with hq2
    subst hq2
    rw [el x hx] at g
    exact g
  refine ⟨_, hq, by decide, by decide, _, ld 12 (by decide), _, hq, by decide, by decide, _, ld 13 (by decide), by decide, _, hq, by decide, by decide, _, ld 14 (by decide), by decide, _, hq, by decide, by decide, _, ld 15 (by decide), by decide, ?_⟩
  rw [hb.2.1, hb.2.2.1, hb.2.2.2.1, hb.2.2.2.2]
  have e48 : IntKind.i64.wrap (48 + bits .or .i64 (bits .or .i64 (bits .or .i64 (IntKind.i64.wrap 0) (IntKind.i64.wrap (IntKind.i64.wrap 0 * 2 ^ 8))) (IntKind.i64.wrap (IntKind.i64.wrap 0 * 2 ^ 16))) (IntKind.i64.wrap (IntKind.i64.wrap 0 * 2 ^ 24))) = 48 := by decide +kernel
  have e48' : IntKind.i64.wrap (48 + bits .or .i64 (bits .or .i64 (bits .or .i64 (IntKind.i64.wrap 0) (IntKind.i64.wrap (IntKind.i64.wrap 0 * 2 ^ min (Int.toNat 8) IntKind.i64.bits))) (IntKind.i64.wrap (IntKind.i64.wrap 0 * 2 ^ min (Int.toNat 16) IntKind.i64.bits))) (IntKind.i64.wrap (IntKind.i64.wrap 0 * 2 ^ min (Int.toNat 24) IntKind.i64.bits))) = 48 := by decide +kernel
  rw [e48', ltI_eq, if_neg (by decide), e48]
  refine abytes_sp hs (.s (.s .z)) ho 0 (by decide) (by decide) 48 (by rw [hcf]; decide) (by decide) ?_
  intro o c m h7 hm hs hm2
  have hm : m = 2 := hm
  subst hm
  rw [if_neg (by simp)]
  obtain ⟨q', hq, sv⟩ := sub_sv hs .z (n := 48) (by decide) (by decide)
  rw [hq]
  refine Parse_bad (A := []) (bs := (areaB D 0 2).take 48) (Sat.init _) (fun h' hs' => hsv_ext hs'.ex sv (fun _ _ y => y)) (by decide) (by decide) (by rw [el 0 (by decide), hb.1]; decide) ?_
  intro i1 i2 i3 o2 n2 m2 x v h8 hx hv1 hv2 hs2
  replace hs := hs.ext hs2.ex
  intro n48 _ hn; replace hs := Sat.new hs hn; clear hn
  refine ⟨Sat.can hs (by (repeat (first | exact At.z | apply At.s))) (by decide), ?_⟩
  intro _ e
  replace hs := Sat.wra hs (by (repeat (first | exact At.z | apply At.s))) e (by simp [hx])
  clear e
  simp only [put] at hs
  refine ⟨hv1, ?_⟩
  rw [hv2, if_pos (by simp)]
  exact rest _ (hs.drop.drop.drop.drop)
end
end Go.Proofs.Ytamfkofcpoglnaa
end
