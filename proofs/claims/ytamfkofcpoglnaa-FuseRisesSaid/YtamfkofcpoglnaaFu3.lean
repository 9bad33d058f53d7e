/- Contracts of the document's fuses. Own work. -/
import Derived.Test.YtamfkofcpoglnaaFa7
import Derived.Test.YtamfkofcpoglnaaFu2
set_option autoImplicit false
set_option linter.all false
set_option maxRecDepth 100000
set_option linter.unusedVariables false
namespace Go.Proofs.Ytamfkofcpoglnaa
open Go Go.Vc

section
variable {h0 h : H} {A : List Ent} {i j p r : Nat} {C : Cm}
theorem ref_bl (hs : Sat h0 A h) (cj : At A j (refE r C)) : ∃ w : Pl, C.ok ∧ (∀ o v, (C.cells w.a w.b w.c w.m)[o]? = some v → hc h ⟨r, o, none⟩ = some v) ∧ w.c.2.1 = C.s.blown.length ∧
    ∀ k, k < C.s.blown.length → ∃ q, w.c.1 = some ⟨q, 0, none⟩ ∧ hc h ⟨q, k, none⟩ = some (.bool (C.s.blown.getD k false)) := by
  obtain ⟨⟨w, ms⟩, ⟨ok, _, _, _⟩, hs⟩ := (hs.front cj).open_
  dsimp only [refL, List.cons_append, List.nil_append] at hs
  have hl := hs.sl_len (i := 3) (.s (.s (.s .z)))
  simp only [bools_length, Nat.mul_one] at hl
  refine ⟨w, ok, fun o v e => hs.ld .z e, hl.symm, ?_⟩
  intro k hk
  obtain ⟨q, hq⟩ := hs.sl_some (i := 3) (.s (.s (.s .z))) (by omega)
  refine ⟨q, hq, ?_⟩
  obtain ⟨w1, w2, ⟨cp, cl, cc⟩, w4⟩ := w
  simp only at hq hl
  subst hq
  refine hs.sld (i := 3) (.s (.s (.s .z))) ?_
  rw [bools_get, List.getElem?_eq_getElem hk]
  simp [List.getD, List.getElem?_eq_getElem hk]
theorem rmay_sp {Q : Int → H → Prop} (hs : Sat h0 A h) (ci : At A i (refE p C)) (n j : Int) (k : Q (askedM C j n) h) : F_portcullisref07_may ⟨p, 0, none⟩ j n Q h := by
  unfold F_portcullisref07_may G_portcullisref07_may
  simp only [add_mk, Nat.zero_add]
  obtain ⟨w, ok, ld, hl, el⟩ := ref_bl hs ci
  refine ⟨_, ld 11 _ rfl, ?_⟩
  unfold askedM at k
  simp only [ltI_eq, leI_eq, decide_eq_true_eq]
  split
  · simpa [*] using k
  · split
    · simpa [*] using k
    · split <;> simpa [*] using k
theorem rCount_sp {Q : Int → Int → H → Prop} (hs : Sat h0 A h) (ci : At A i (refE p C)) (slot : Int) (k : ∀ h', Sat h0 A h' → Q (countM C slot).1 (countM C slot).2 h') : F_portcullisref07_Count ⟨p, 0, none⟩ slot Q h := by
  unfold F_portcullisref07_Count G_portcullisref07_Count
  simp only [add_mk, Nat.zero_add]
  obtain ⟨w, ok, ld, hl, el⟩ := ref_bl hs ci
  refine ⟨_, ld 1 _ rfl, ?_⟩
  refine rmay_sp hs ci _ _ ?_
  unfold countM at k
  by_cases e : askedM C slot C.cfg.slots = 0
  case neg =>
    rw [if_pos (by simpa using e)] at k ⊢
    exact k _ hs
  obtain ⟨ho, h1, h2⟩ := askedM_zero e
  rw [if_neg (by simpa using e)] at k ⊢
  obtain ⟨e1, e2, e3, e4, e5, e6⟩ := row_in ok h1 h2
  have hsl := ok.may.slots
  clear w ld hl el
  intro J hJ
  generalize hf : C.cfg.fuses.toNat = f at *
  generalize ha : (slot * C.cfg.fuses).toNat = a at *
  refine loop_st f (fun n (_ : Unit) => [.dv (.one (.int .i64 (cnt C.s.blown a n : Int))), .dv (.one (.int .i64 (n : Int)))]) (fun _ _ h => Sat h0 A h) ?_ ?_ 0 () _ (by omega) hs
  · intro n _ h2 hn hs hk
    apply hJ
    obtain ⟨w, ok, ld, hl, el⟩ := ref_bl hs ci
    refine ⟨_, ld 2 _ rfl, ?_⟩
    rw [ltI_eq, if_pos (by simp; omega)]
    refine ⟨_, _, _, ld 9 _ rfl, ?_⟩
    refine ⟨_, ld 2 _ rfl, ?_⟩
    have ew : IntKind.i64.wrap (IntKind.i64.wrap (slot * C.cfg.fuses) + n) = ((a + n : Nat) : Int) := by
      rw [wrap_id (n := slot * C.cfg.fuses) (by omega), wrap_id (by omega)]; omega
    rw [ew]
    obtain ⟨q, hq, hb⟩ := el (a + n) (by omega)
    refine ⟨_, hq, by omega, by omega, _, by rw [add_mk, Int.toNat_natCast, Nat.mul_one, Nat.zero_add]; exact hb, ?_⟩
    have hcl := cnt_le C.s.blown a n
    have hk := hk () _ hs
    by_cases hb : C.s.blown.getD (a + n) false = true
    · rw [if_pos (by simpa using hb), wrap_succ (by omega), wrap_succ (by omega)]
      have e7 : cnt C.s.blown a (n + 1) = cnt C.s.blown a n + 1 := by rw [cnt, if_pos hb]
      rw [e7] at hk
      exact hk
    · rw [if_neg (by simpa using hb), wrap_succ (by omega)]
      have e7 : cnt C.s.blown a (n + 1) = cnt C.s.blown a n := by rw [cnt, if_neg hb]; rfl
      rw [e7] at hk
      exact hk
  · intro _ h2 hs
    apply hJ
    obtain ⟨w, ok, ld, hl, el⟩ := ref_bl hs ci
    refine ⟨_, ld 2 _ rfl, ?_⟩
    rw [ltI_eq, if_neg (by simp; omega)]
    exact k _ hs
theorem raiseL_done {C : Cm} {a f : Nat} {n : Int} (h : n ≤ cnt C.s.blown a f) (m : Nat) : raiseL a f n m C = (C, 0) := by
  cases m with
  | zero => rfl
  | succ m => unfold raiseL; rw [if_pos h]
/-- The loop of the document's Raise. -/
def RaiseI (C0 : Cm) (a f : Nat) (n : Int) (R : Cm × Int) (x : Nat) (D : Cm) (k e : Int) : Prop :=
  (e = 0 ∧ k = cnt D.s.blown a f ∧ D.out = false ∧ D.cfg = C0.cfg ∧ a + f ≤ D.s.blown.length ∧ (∀ j, j < x → D.s.blown.getD (a + j) false = true) ∧ ∃ m : Nat, n - cnt D.s.blown a f ≤ m ∧ raiseL a f n m D = R) ∨ (e ≠ 0 ∧ D.cfg = C0.cfg ∧ R = (D, e))
theorem rRaise_sp {Q : Int → H → Prop} (hs : Sat h0 A h) (ci : At A i (refE p C)) (slot n : Int) (k : ∀ h', Sat h0 (put A i (refE p (raiseM C slot n).1)) h' → Q (raiseM C slot n).2 h') : F_portcullisref07_Raise ⟨p, 0, none⟩ slot n Q h := by
  unfold F_portcullisref07_Raise G_portcullisref07_Raise
  simp only [add_mk, Nat.zero_add]
  refine rCount_sp hs ci _ ?_
  intro h1 hs
  intro J hJ
  unfold raiseM at k
  by_cases e : askedM C slot C.cfg.slots = 0
  case neg =>
    rw [if_pos (by simpa using e)] at k
    have ec : countM C slot = (0, askedM C slot C.cfg.slots) := by unfold countM; rw [if_pos (by simpa using e)]
    rw [ec] at hJ ⊢
    rw [if_neg (by simpa using e)]
    apply hJ
    intro J2 hJ2
    apply hJ2
    intro J3 hJ3
    clear hJ3
    obtain ⟨w, ok, ld, hl, el⟩ := ref_bl hs ci
    refine ⟨_, ld 2 _ rfl, ?_⟩
    have kk := k _ (show Sat h0 (put A i (refE p C)) h1 by rw [ci.put_self]; exact hs)
    split
    · split
      · rw [if_neg (by simpa using e)]; exact kk
      · exact kk
    · exact kk
  obtain ⟨ho, h1', h2⟩ := askedM_zero e
  rw [if_neg (by simpa using e)] at k
  have ec : countM C slot = (((cnt C.s.blown (slot * C.cfg.fuses).toNat C.cfg.fuses.toNat : Nat) : Int), 0) := by unfold countM; rw [if_neg (by simpa using e)]
  rw [ec] at hJ ⊢
  rw [if_pos (by simp)]
  have range : ∀ (hr : Q 2 h1), J [.dv (.one (.int .i64 2))] h1 := by
    intro hr
    apply hJ
    intro J2 hJ2
    apply hJ2
    intro J3 hJ3
    clear hJ3
    obtain ⟨w, ok, ld, hl, el⟩ := ref_bl hs ci
    refine ⟨_, ld 2 _ rfl, ?_⟩
    split
    · split
      · rw [if_neg (by simp)]; exact hr
      · exact hr
    · exact hr
  by_cases hn : n < 0
  · rw [if_pos hn] at k
    rw [ltI_eq, if_pos (by simpa using hn)]
    exact range (k _ (by rw [ci.put_self]; exact hs))
  rw [if_neg hn] at k
  rw [ltI_eq, if_neg (by simpa using hn)]
  obtain ⟨w, ok, ld, hl, el⟩ := ref_bl hs ci
  refine ⟨_, ld 2 _ rfl, ?_⟩
  by_cases hf : C.cfg.fuses < n
  · rw [if_pos hf] at k
    rw [ltI_eq, if_pos (by simpa using hf)]
    exact range (k _ (by rw [ci.put_self]; exact hs))
  rw [if_neg hf] at k
  rw [ltI_eq, if_neg (by simpa using hf)]
  clear range
  obtain ⟨e1, e2, e3, e4, e5, e6⟩ := row_in ok h1' h2
  have hsl := ok.may.slots
  have hlen : C.s.blown.length ≤ 576 := e4
  clear w ld hl el
  apply hJ
  clear hJ J
  intro J hJ
  generalize hff : C.cfg.fuses.toNat = f at *
  generalize ha : (slot * C.cfg.fuses).toNat = a at *
  generalize hR : raiseL a f n f C = R at *
  have h00 : ∃ D : Cm, Sat h0 (put A i (refE p D)) h1 ∧ RaiseI C a f n R 0 D (cnt C.s.blown a f) 0 := ⟨C, by rw [ci.put_self]; exact hs, Or.inl ⟨rfl, rfl, ho, rfl, e3, fun j hj => by omega, f, by omega, hR⟩⟩
  refine loop_st f (fun x (s : Int × Int) => [.dv (.one (.int .i64 s.1)), .dv (.one (.int .i64 s.2)), .dv (.one (.int .i64 (x : Int)))]) (fun x s h => ∃ D : Cm, Sat h0 (put A i (refE p D)) h ∧ RaiseI C a f n R x D s.1 s.2) ?_ ?_ 0 ((cnt C.s.blown a f : Int), (0 : Int)) _ (by omega) h00
  · rintro x ⟨kk, ee⟩ h2' hx ⟨D, hs, inv⟩ hk
    apply hJ
    intro J3 hJ3
    have hcf : D.cfg = C.cfg := by rcases inv with inv | inv; exact inv.2.2.2.1; exact inv.2.1
    obtain ⟨w, ok, ld, hl, el⟩ := ref_bl hs (ci.put _)
    refine ⟨_, ld 2 _ rfl, ?_⟩
    rw [hcf]
    rw [ltI_eq, if_pos (by simp; omega)]
    dsimp only at inv ⊢
    by_cases hkn : kk < n
    case neg =>
      rw [ltI_eq, if_neg (by simpa using hkn)]
      rcases inv with ⟨i1, i2, i3, i4, i5, i6, m, i7, i8⟩ | ⟨i1, i2, i3⟩
      · rw [raiseL_done (by omega)] at i8
        rw [← i8] at k
        rw [i1]
        exact k _ hs
      · rw [i3] at k; exact k _ hs
    rw [ltI_eq, if_pos (by simpa using hkn)]
    rcases inv with ⟨i1, i2, i3, i4, i5, i6, m, i7, i8⟩ | ⟨i1, i2, i3⟩
    case inr => rw [if_neg (by simpa using i1)]; rw [i3] at k; exact k _ hs
    rw [if_pos (by simpa using i1)]
    apply hJ3
    refine ⟨_, _, _, ld 9 _ rfl, ?_⟩
    refine ⟨_, ld 2 _ rfl, ?_⟩
    rw [hcf]
    have hl6 : D.s.blown.length ≤ 576 := by
      have h3 := ok.fits.blown
      have h4 := ok.may.nf
      omega
    have ew : IntKind.i64.wrap (IntKind.i64.wrap (slot * C.cfg.fuses) + x) = ((a + x : Nat) : Int) := by
      rw [wrap_id (n := slot * C.cfg.fuses) (by omega), wrap_id (by omega)]; omega
    rw [ew]
    obtain ⟨q, hq, hb⟩ := el (a + x) (by omega)
    refine ⟨_, hq, by omega, by omega, _, by rw [add_mk, Int.toNat_natCast, Nat.mul_one, Nat.zero_add]; exact hb, ?_⟩
    have hcl := cnt_le D.s.blown a f
    by_cases hbx : D.s.blown.getD (a + x) false = true
    · rw [if_neg (by simpa using hbx), wrap_succ (by omega)]
      refine hk (kk, ee) _ ⟨D, hs, Or.inl ⟨i1, i2, i3, i4, i5, ?_, m, i7, i8⟩⟩
      intro j hj
      by_cases e : j = x
      · rw [e]; exact hbx
      · exact i6 j (by omega)
    · rw [if_pos (by simpa using hbx)]
      refine ⟨_, ld 2 _ rfl, ?_⟩
      rw [hcf, ew]
      have hls := lst_of (n := f) hx i6 (by simpa using hbx)
      have hbf : D.s.blown.getD (a + x) false = false := by simpa using hbx
      refine rBlow_sp hs (ci.put _) _ ?_
      intro h3 hs
      rw [put_put] at hs
      rw [wrap_succ (by omega)]
      cases m with
      | zero => omega
      | succ m =>
        unfold raiseL at i8
        rw [if_neg (by omega), hls] at i8
        dsimp only at i8
        by_cases hl0 : D.left = 0
        · obtain ⟨b1, b2, b3⟩ := blow_cut i3 (show a + x < D.s.blown.length by omega) hl0
          rw [if_pos (by rw [b1]; simp)] at i8
          exact hk (IntKind.i64.wrap (kk + 1), _) _ ⟨_, hs, Or.inr ⟨fun h9 => absurd (b1.symm.trans h9) (by decide), b2.trans hcf, i8.symm⟩⟩
        · have bg := blow_good i3 (show a + x < D.s.blown.length by omega) hl0
          rw [bg] at i8 hs ⊢
          dsimp only at i8 hs ⊢
          rw [if_neg (by simp)] at i8
          have hc := cnt_set (a := a) f (show a + x < D.s.blown.length by omega) hbf
          rw [if_pos ⟨by omega, by omega⟩] at hc
          refine hk (IntKind.i64.wrap (kk + 1), 0) _ ⟨_, hs, Or.inl ⟨rfl, ?_, act_out i3 hl0, (act_cfg D).trans hcf, by simpa using i5, ?_, m, by dsimp only; rw [hc]; omega, i8⟩⟩
          · dsimp only; rw [hc, i2, wrap_succ (by omega)]
          · intro j hj
            by_cases e : j = x
            · subst e; simp [List.getD, show a + j < D.s.blown.length by omega]
            · exact set_up (i6 j (by omega))
  · rintro ⟨kk, ee⟩ h2' ⟨D, hs, inv⟩
    apply hJ
    intro J3 hJ3
    clear hJ3
    have hcf : D.cfg = C.cfg := by rcases inv with inv | inv; exact inv.2.2.2.1; exact inv.2.1
    obtain ⟨w, ok, ld, hl, el⟩ := ref_bl hs (ci.put _)
    refine ⟨_, ld 2 _ rfl, ?_⟩
    rw [hcf]
    rw [ltI_eq, if_neg (by simp; omega)]
    dsimp only at inv ⊢
    rcases inv with ⟨i1, i2, i3, i4, i5, i6, m, i7, i8⟩ | ⟨i1, i2, i3⟩
    · rw [raiseL_done (by rw [cnt_all i6]; omega)] at i8
      rw [← i8] at k
      rw [i1]
      exact k _ hs
    · rw [i3] at k; exact k _ hs
theorem rRevoked_sp {Q : Bool → Int → H → Prop} (hs : Sat h0 A h) (ci : At A i (refE p C)) (key : Int) (k : ∀ h', Sat h0 A h' → Q (revokedM C key).1 (revokedM C key).2 h') : F_portcullisref07_Revoked ⟨p, 0, none⟩ key Q h := by
  unfold F_portcullisref07_Revoked G_portcullisref07_Revoked
  simp only [add_mk, Nat.zero_add]
  obtain ⟨w, ok, ld, hl, el⟩ := ref_bl hs ci
  refine ⟨_, ld 4 _ rfl, ?_⟩
  refine rmay_sp hs ci _ _ ?_
  unfold revokedM at k
  by_cases e : askedM C key C.cfg.keys = 0
  case neg =>
    rw [if_pos (by simpa using e)] at k ⊢
    exact k _ hs
  obtain ⟨ho, h1, h2⟩ := askedM_zero e
  rw [if_neg (by simpa using e)] at k ⊢
  obtain ⟨x1, x2, x3⟩ := key_in ok h1 h2
  refine ⟨_, _, _, ld 9 _ rfl, _, ld 1 _ rfl, _, ld 2 _ rfl, ?_⟩
  rw [x1]
  obtain ⟨q, hq, hb⟩ := el (C.cfg.slots * C.cfg.fuses + key).toNat (by omega)
  exact ⟨_, hq, by omega, by omega, _, by rw [add_mk, Nat.mul_one, Nat.zero_add]; exact hb, k _ hs⟩
theorem rRevoke_sp {Q : Int → H → Prop} (hs : Sat h0 A h) (ci : At A i (refE p C)) (key : Int) (k : ∀ h', Sat h0 (put A i (refE p (revokeM C key).1)) h' → Q (revokeM C key).2 h') : F_portcullisref07_Revoke ⟨p, 0, none⟩ key Q h := by
  unfold F_portcullisref07_Revoke G_portcullisref07_Revoke
  simp only [add_mk, Nat.zero_add]
  refine rRevoked_sp hs ci key ?_
  intro h1 hs
  unfold revokeM at k
  by_cases e : (revokedM C key).2 = 0
  case neg =>
    rw [if_pos (by simpa using e)] at k ⊢
    exact k _ (by rw [ci.put_self]; exact hs)
  obtain ⟨h1, h2⟩ := revoked_ok e
  rw [if_neg (by simpa using e)] at k ⊢
  by_cases e2 : (revokedM C key).1 = true
  · rw [if_pos e2] at k ⊢
    exact k _ (by rw [ci.put_self]; exact hs)
  rw [if_neg e2] at k ⊢
  obtain ⟨w, ok, ld, hl, el⟩ := ref_bl hs ci
  refine ⟨_, ld 1 _ rfl, _, ld 2 _ rfl, ?_⟩
  rw [(key_in ok h1 h2).1]
  exact rBlow_sp hs ci _ fun h' hs' => k _ hs'
end
end Go.Proofs.Ytamfkofcpoglnaa
