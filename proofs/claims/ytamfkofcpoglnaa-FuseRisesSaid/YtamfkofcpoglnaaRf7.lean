/- Contracts: equal states are told so. Own work. -/
import Derived.Test.YtamfkofcpoglnaaFa3
import Derived.Test.YtamfkofcpoglnaaRf6
set_option autoImplicit false
set_option linter.all false
set_option linter.unusedVariables false
namespace Go.Proofs.Ytamfkofcpoglnaa
open Go Go.Vc

section
variable {h0 h : H} {A : List Ent} {i p : Nat} {C : Cm}
theorem rdm_row {h : H} {a : Sl} {rows : List (List Int)} (r : RdM h 32 a rows) {j : Nat} (hj : j < rows.length) :
    ∃ q x, a.1 = some q ∧ hc h (q.add (j * 1)) = some (Sl.v x) ∧ rows[j].length = x.2.1 * 32 := by
  obtain ⟨q, x, h1, h2, h3⟩ := r.at hj
  exact ⟨q, x, h1, h2, by have := h3.1; simpa using this⟩
theorem SameState_sp {a b c a2 b2 c2 : Sl} {s : St} {Q : Bool → H → Prop} (hs : Sat h0 A h) (rd1 : ∀ h', Sat h0 A h' → RdS h' a b c s) (rd2 : ∀ h', Sat h0 A h' → RdS h' a2 b2 c2 s)
    (sm1 : s.pages.length < 2 ^ 62) (sm2 : s.erases.length < 2 ^ 62) (sm3 : s.blown.length < 2 ^ 62) (sm4 : ∀ l, l ∈ s.pages → l.length < 2 ^ 62) (k : ∀ h', Sat h0 A h' → Q true h') :
    F_portcullisref04_SameState a.1 a.2.1 a.2.2 b.1 b.2.1 b.2.2 c.1 c.2.1 c.2.2 a2.1 a2.2.1 a2.2.2 b2.1 b2.2.1 b2.2.2 c2.1 c2.2.1 c2.2.2 Q h := by
  unfold F_portcullisref04_SameState G_portcullisref04_SameState
  simp only [add_mk, Nat.zero_add]
  intro n1 _ hn; replace hs := Sat.new hs hn; clear hn
  intro n2 h2 hn; replace hs := Sat.new hs hn; clear hn
  intro J26 hJ26
  have r1 := rd1 _ hs.drop.drop
  have r2 := rd2 _ hs.drop.drop
  have l1 := r1.pg.len; have l2 := r2.pg.len
  have l3 : s.erases.length = b.2.1 := by have := r1.er.1; simpa using this
  have l4 : s.erases.length = b2.2.1 := by have := r2.er.1; simpa using this
  have l5 : s.blown.length = c.2.1 := by have := r1.bl.1; simpa using this
  have l6 : s.blown.length = c2.2.1 := by have := r2.bl.1; simpa using this
  refine ⟨_, _, _, Sat.ld hs (by (repeat (first | exact At.z | apply At.s))) (by rfl), ?_⟩
  refine ⟨_, _, _, Sat.ld hs (by (repeat (first | exact At.z | apply At.s))) (by rfl), ?_⟩
  rw [if_neg (by simp; omega)]
  refine ⟨_, _, _, Sat.ld hs (by (repeat (first | exact At.z | apply At.s))) (by rfl), ?_⟩
  refine ⟨_, _, _, Sat.ld hs (by (repeat (first | exact At.z | apply At.s))) (by rfl), ?_⟩
  rw [if_neg (by simp; omega)]
  refine ⟨_, _, _, Sat.ld hs (by (repeat (first | exact At.z | apply At.s))) (by rfl), ?_⟩
  refine ⟨_, _, _, Sat.ld hs (by (repeat (first | exact At.z | apply At.s))) (by rfl), ?_⟩
  rw [if_neg (by simp; omega)]
  apply hJ26
  intro J28 hJ28
  refine loop_up a.2.1 (fun i h' => h' = h2) ?_ ?_ 0 _ (by omega) rfl
  · rintro j h' hj rfl hk
    apply hJ28
    refine ⟨_, _, _, Sat.ld hs (by (repeat (first | exact At.z | apply At.s))) (by rfl), ?_⟩
    rw [ltI_eq, if_pos (by simp; omega)]
    have hj1 : j < s.pages.length := by omega
    obtain ⟨q1, x1, e1, e2, e3⟩ := rdm_row r1.pg hj1
    obtain ⟨q2, x2, f1, f2, f3⟩ := rdm_row r2.pg hj1
    refine ⟨_, _, _, Sat.ld hs (by (repeat (first | exact At.z | apply At.s))) (by rfl), ?_⟩
    refine ⟨_, e1, by omega, by omega, _, _, _, e2, ?_⟩
    refine ⟨_, _, _, Sat.ld hs (by (repeat (first | exact At.z | apply At.s))) (by rfl), ?_⟩
    refine ⟨_, f1, by omega, by omega, _, _, _, f2, ?_⟩
    have hxl := sm4 _ (List.getElem_mem hj1)
    rw [if_neg (by simp; omega)]
    intro J48 hJ48
    refine loop_up x1.2.1 (fun i h2 => h2 = h') ?_ ?_ 0 _ (by omega) rfl
    · rintro m h2 hm rfl hk2
      apply hJ48
      have hmk : (m + 1) * 32 ≤ s.pages[j].length := by omega
      obtain ⟨u1, y1, v1, g1, g2, g3, g4, g5⟩ := r1.pg.cell hj1 hmk
      obtain ⟨u2, y2, v2, k1, k2, k3, k4, k5⟩ := r2.pg.cell hj1 hmk
      refine ⟨_, _, _, Sat.ld hs (by (repeat (first | exact At.z | apply At.s))) (by rfl), ?_⟩
      refine ⟨_, g1, by omega, by omega, _, _, _, g2, ?_⟩
      rw [ltI_eq, if_pos (by simp; omega)]
      refine ⟨_, _, _, Sat.ld hs (by (repeat (first | exact At.z | apply At.s))) (by rfl), ?_⟩
      refine ⟨_, g1, by omega, by omega, _, _, _, g2, ?_⟩
      refine ⟨_, g4, by omega, by omega, _, cellAt_length hmk, by simpa using g5, ?_⟩
      refine ⟨_, _, _, Sat.ld hs (by (repeat (first | exact At.z | apply At.s))) (by rfl), ?_⟩
      refine ⟨_, k1, by omega, by omega, _, _, _, k2, ?_⟩
      refine ⟨_, k4, by omega, by omega, _, cellAt_length hmk, by simpa using k5, ?_⟩
      rw [if_neg (by simp), wrap_succ (by omega)]
      exact hk2 _ rfl
    · rintro h2 rfl
      apply hJ48
      refine ⟨_, _, _, Sat.ld hs (by (repeat (first | exact At.z | apply At.s))) (by rfl), ?_⟩
      refine ⟨_, e1, by omega, by omega, _, _, _, e2, ?_⟩
      rw [ltI_eq, if_neg (by simp), wrap_succ (by omega)]
      exact hk _ rfl
  · rintro h' rfl
    apply hJ28
    refine ⟨_, _, _, Sat.ld hs (by (repeat (first | exact At.z | apply At.s))) (by rfl), ?_⟩
    rw [ltI_eq, if_neg (by simp)]
    intro J78 hJ78
    refine loop_up b.2.1 (fun i h2 => h2 = h') ?_ ?_ 0 _ (by omega) rfl
    · rintro j h2 hj rfl hk
      apply hJ78
      have hj1 : j < s.erases.length := by omega
      obtain ⟨q1, e1, e2⟩ := hsv_get r1.er (i := j) (v := .int .i64 s.erases[j]) (by rw [ints_get, List.getElem?_eq_getElem hj1]; rfl)
      obtain ⟨q2, f1, f2⟩ := hsv_get r2.er (i := j) (v := .int .i64 s.erases[j]) (by rw [ints_get, List.getElem?_eq_getElem hj1]; rfl)
      refine ⟨_, _, _, Sat.ld hs (by (repeat (first | exact At.z | apply At.s))) (by rfl), ?_⟩
      rw [ltI_eq, if_pos (by simp; omega)]
      refine ⟨_, _, _, Sat.ld hs (by (repeat (first | exact At.z | apply At.s))) (by rfl), ?_⟩
      refine ⟨_, e1, by omega, by omega, _, by simpa using e2, ?_⟩
      refine ⟨_, _, _, Sat.ld hs (by (repeat (first | exact At.z | apply At.s))) (by rfl), ?_⟩
      refine ⟨_, f1, by omega, by omega, _, by simpa using f2, ?_⟩
      rw [if_neg (by simp), wrap_succ (by omega)]
      exact hk _ rfl
    · rintro h2 rfl
      apply hJ78
      refine ⟨_, _, _, Sat.ld hs (by (repeat (first | exact At.z | apply At.s))) (by rfl), ?_⟩
      rw [ltI_eq, if_neg (by simp)]
      intro J94 hJ94
      refine loop_up c.2.1 (fun i h3 => h3 = h2) ?_ ?_ 0 _ (by omega) rfl
      · rintro j h3 hj rfl hk
        apply hJ94
        have hj1 : j < s.blown.length := by omega
        obtain ⟨q1, e1, e2⟩ := hsv_get r1.bl (i := j) (v := .bool s.blown[j]) (by rw [bools_get, List.getElem?_eq_getElem hj1]; rfl)
        obtain ⟨q2, f1, f2⟩ := hsv_get r2.bl (i := j) (v := .bool s.blown[j]) (by rw [bools_get, List.getElem?_eq_getElem hj1]; rfl)
        refine ⟨_, _, _, Sat.ld hs (by (repeat (first | exact At.z | apply At.s))) (by rfl), ?_⟩
        rw [ltI_eq, if_pos (by simp; omega)]
        refine ⟨_, _, _, Sat.ld hs (by (repeat (first | exact At.z | apply At.s))) (by rfl), ?_⟩
        refine ⟨_, e1, by omega, by omega, _, by simpa using e2, ?_⟩
        refine ⟨_, _, _, Sat.ld hs (by (repeat (first | exact At.z | apply At.s))) (by rfl), ?_⟩
        refine ⟨_, f1, by omega, by omega, _, by simpa using f2, ?_⟩
        rw [if_neg (by simp), wrap_succ (by omega)]
        exact hk _ rfl
      · rintro h3 rfl
        apply hJ94
        refine ⟨_, _, _, Sat.ld hs (by (repeat (first | exact At.z | apply At.s))) (by rfl), ?_⟩
        rw [ltI_eq, if_neg (by simp)]
        exact k _ hs.drop.drop
end
end Go.Proofs.Ytamfkofcpoglnaa
