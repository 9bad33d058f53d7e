/- Contracts of the fuses' package. Own work. -/
import Derived.Test.YtamfkofcpoglnaaFa1
import Derived.Test.YtamfkofcpoglnaaFa6
import Derived.Test.YtamfkofcpoglnaaFa7
import Derived.Test.YtamfkofcpoglnaaFu1
set_option autoImplicit false
set_option linter.all false
set_option maxRecDepth 100000
set_option linter.unusedVariables false
namespace Go.Proofs.Ytamfkofcpoglnaa
open Go Go.Vc

section
variable {h0 h : H} {A : List Ent} {i j p r : Nat} {C : Cm}
theorem fasked_sp {Q : Int → H → Prop} (hs : Sat h0 A h) (ci : At A i (chipE p C)) (n j : Int) (k : Q (askedM C j n) h) : F_fuse_asked ⟨p, 0, none⟩ j n Q h := by
  unfold F_fuse_asked G_fuse_asked
  refine Out_sp hs ci ?_
  unfold askedM at k
  simp only [ltI_eq, leI_eq, decide_eq_true_eq]
  split
  · simpa [*] using k
  · split
    · simpa [*] using k
    · split <;> simpa [*] using k
abbrev rowS (bl : List Bool) (a : Nat) (n : Nat) : List SV := [.dv (.one (.int .i64 (cnt bl a n : Int))), .dv (.one (.int .i64 (lstI (lst bl a n)))), .dv (.one (.int .i64 (n : Int)))]
theorem lst_succ (bl : List Bool) (a n : Nat) : lst bl a (n + 1) = match lst bl a n with | some k => some k | none => if bl.getD (a + n) false = true then none else some (a + n) := rfl
theorem frow_sp {Q : Int → Int → Int → H → Prop} (hs : Sat h0 A h) (ci : At A i (chipE p C)) (ho : C.out = false) {slot : Int} (h1 : 0 ≤ slot) (h2 : slot < C.cfg.slots)
    (k : ∀ h', Sat h0 A h' → Q (cnt C.s.blown (slot * C.cfg.fuses).toNat C.cfg.fuses.toNat) (lstI (lst C.s.blown (slot * C.cfg.fuses).toNat C.cfg.fuses.toNat)) 0 h') : F_fuse_row ⟨p, 0, none⟩ slot Q h := by
  unfold F_fuse_row G_fuse_row
  refine Config_sp hs ci ?_
  intro h1' hs
  have ok := chip_ok hs ci
  obtain ⟨e1, e2, e3, e4, e5, e6⟩ := row_in ok h1 h2
  have hsl := ok.may.slots
  intro J hJ
  generalize hf : C.cfg.fuses.toNat = f at *
  generalize ha : (slot * C.cfg.fuses).toNat = a at *
  refine loop_st f (fun n (_ : Unit) => rowS C.s.blown a n) (fun _ _ h => Sat h0 A h) ?_ ?_ 0 () _ (by omega) hs
  · intro n _ h2 hn hs hk
    apply hJ
    rw [ltI_eq, if_pos (by simp; omega)]
    have ew : IntKind.i64.wrap (IntKind.i64.wrap (slot * C.cfg.fuses) + n) = ((a + n : Nat) : Int) := by
      rw [wrap_id (n := slot * C.cfg.fuses) (by omega), wrap_id (by omega)]; omega
    rw [ew]
    have eb : blownM C ((a + n : Nat) : Int) = (C.s.blown.getD (a + n) false, 0) := by
      unfold blownM; rw [askedM_in ho (by omega) (by omega), if_neg (by simp), Int.toNat_natCast]
    refine Blown_sp hs ci _ ?_
    rw [eb]
    rw [if_neg (by simp)]
    have hcl := cnt_le C.s.blown a n
    have hk := hk () _ hs
    have ls := lst_succ C.s.blown a n
    by_cases hb : C.s.blown.getD (a + n) false = true
    · rw [if_pos (by simpa using hb), wrap_succ (by omega), wrap_succ (by omega)]
      have e7 : cnt C.s.blown a (n + 1) = cnt C.s.blown a n + 1 := by rw [cnt, if_pos hb]
      have e8 : lst C.s.blown a (n + 1) = lst C.s.blown a n := by
        rw [ls]
        cases lst C.s.blown a n with
        | none => exact if_pos hb
        | some k => rfl
      simp only [rowS, e7, e8] at hk
      exact hk
    · rw [if_neg (by simpa using hb), wrap_succ (by omega)]
      have e7 : cnt C.s.blown a (n + 1) = cnt C.s.blown a n := by rw [cnt, if_neg hb]; rfl
      cases e : lst C.s.blown a n with
      | none =>
        rw [e] at ls
        dsimp only at ls
        rw [if_neg hb] at ls
        rw [ltI_eq, if_pos (by simp [lstI])]
        simp only [rowS, e7, ls, lstI] at hk
        exact hk
      | some x =>
        rw [e] at ls
        dsimp only at ls
        have e10 : ¬ (decide (lstI (some x) < 0) = true) := by
          have : (0 : Int) ≤ (x : Int) := Int.natCast_nonneg x
          rw [decide_eq_true_eq]
          exact Int.not_lt.2 this
        rw [ltI_eq, if_neg e10]
        simp only [rowS, e7, ls, lstI] at hk
        exact hk
  · intro _ h2 hs
    apply hJ
    rw [ltI_eq, if_neg (by simp; omega)]
    exact k _ hs
theorem Count_sp {Q : Int → Int → H → Prop} (hs : Sat h0 A h) (ci : At A i (chipE p C)) (slot : Int) (k : ∀ h', Sat h0 A h' → Q (countM C slot).1 (countM C slot).2 h') : F_fuse_Count ⟨p, 0, none⟩ slot Q h := by
  unfold F_fuse_Count G_fuse_Count
  refine Config_sp hs ci ?_
  intro h1 hs
  refine fasked_sp hs ci _ _ ?_
  unfold countM at k
  by_cases e : askedM C slot C.cfg.slots = 0
  · obtain ⟨ho, h1, h2⟩ := askedM_zero e
    rw [if_neg (by simpa using e)] at k ⊢
    exact frow_sp hs ci ho h1 h2 fun h' hs' => k _ hs'
  · rw [if_pos (by simpa using e)] at k ⊢
    exact k _ hs
theorem raise_loop {Q : Int → H → Prop} {slot n : Int} (a f : Nat) (n2 : n ≤ f) : ∀ (m : Nat) (C : Cm) (h : H) (A : List Ent) (ci : At A i (chipE p C)) (hs : Sat h0 A h) (ho : C.out = false) (h1 : 0 ≤ slot) (h2 : slot < C.cfg.slots) (ea : (slot * C.cfg.fuses).toNat = a) (ef : C.cfg.fuses.toNat = f) (hm : n - cnt C.s.blown a f ≤ m)
    (k : ∀ h', Sat h0 (put A i (chipE p (raiseL a f n m C).1)) h' → Q (raiseL a f n m C).2 h') (J : List SV → H → Prop)
    (hJ : ∀ h, F_fuse_row ⟨p, 0, none⟩ slot (fun x y e h => if (e != 0) = true then Q e h else if leI n x = true then Q e h else F_chip_Chip_Blow ⟨p, 0, none⟩ y (fun e h => if (e != 0) = true then Q e h else J [] h) h) h → J [] h), J [] h := by
  intro m
  induction m with
  | zero =>
    intro C h A ci hs ho h1 h2 ea ef hm k J hJ
    apply hJ
    refine frow_sp hs ci ho h1 h2 ?_
    intro h3 hs
    rw [ea, ef]
    rw [if_neg (by simp), leI_eq, if_pos (by simp; omega)]
    exact k _ (by unfold raiseL; rw [ci.put_self]; exact hs)
  | succ m ih =>
    intro C h A ci hs ho h1 h2 ea ef hm k J hJ
    have ok := chip_ok hs ci
    obtain ⟨e1, e2, e3, e4, e5, e6⟩ := row_in ok h1 h2
    apply hJ
    refine frow_sp hs ci ho h1 h2 ?_
    intro h3 hs
    rw [ea, ef]
    rw [ea, ef] at e3
    rw [ea] at e1
    rw [ef] at e2
    unfold raiseL at k
    by_cases hn : n ≤ cnt C.s.blown a f
    · rw [if_pos hn] at k
      rw [if_neg (by simp), leI_eq, if_pos (by simpa using hn)]
      exact k _ (by rw [ci.put_self]; exact hs)
    · rw [if_neg hn] at k
      rw [if_neg (by simp), leI_eq, if_neg (by simpa using hn)]
      cases e : lst C.s.blown a f with
      | none => have := lst_none e; omega
      | some x =>
        rw [e] at k
        dsimp only at k
        obtain ⟨k1, k2, k3⟩ := lst_some e
        refine Blow_sp hs ci _ ?_
        intro h4 hs
        dsimp only [lstI]
        dsimp only [lstI] at hs
        by_cases hl : C.left = 0
        · obtain ⟨b1, b2, b3⟩ := blow_cut ho (show x < C.s.blown.length by omega) hl
          rw [if_pos (by rw [b1]; simp)] at k ⊢
          exact k _ hs
        · rw [blow_good ho (show x < C.s.blown.length by omega) hl] at k hs ⊢
          dsimp only at k hs ⊢
          rw [if_neg (by simp)] at k ⊢
          have hc := cnt_set (a := a) f (show x < C.s.blown.length by omega) k3
          rw [if_pos ⟨k1, k2⟩] at hc
          refine ih _ _ _ (ci.put _) hs (act_out ho hl) h1 (by dsimp only; rw [act_cfg]; exact h2) (by dsimp only; rw [act_cfg]; exact ea) (by dsimp only; rw [act_cfg]; exact ef) (by dsimp only; rw [hc]; omega) ?_ J hJ
          intro h5 hs
          rw [put_put] at hs
          exact k _ hs
theorem Raise_sp {Q : Int → H → Prop} (hs : Sat h0 A h) (ci : At A i (chipE p C)) (slot n : Int) (k : ∀ h', Sat h0 (put A i (chipE p (raiseM C slot n).1)) h' → Q (raiseM C slot n).2 h') : F_fuse_Raise ⟨p, 0, none⟩ slot n Q h := by
  unfold F_fuse_Raise G_fuse_Raise
  refine Config_sp hs ci ?_
  intro h1 hs
  refine fasked_sp hs ci _ _ ?_
  unfold raiseM at k
  by_cases e : askedM C slot C.cfg.slots = 0
  case neg =>
    rw [if_pos (by simpa using e)] at k ⊢
    exact k _ (by rw [ci.put_self]; exact hs)
  obtain ⟨ho, h1, h2⟩ := askedM_zero e
  rw [if_neg (by simpa using e)] at k ⊢
  intro J hJ
  by_cases hn : n < 0
  · rw [if_pos hn] at k
    rw [ltI_eq, if_pos (by simpa using hn)]
    exact k _ (by rw [ci.put_self]; exact hs)
  rw [if_neg hn] at k
  rw [ltI_eq, if_neg (by simpa using hn)]
  refine Config_sp hs ci ?_
  intro h3 hs
  by_cases hf : C.cfg.fuses < n
  · rw [if_pos hf] at k
    rw [ltI_eq, if_pos (by simpa using hf)]
    exact k _ (by rw [ci.put_self]; exact hs)
  rw [if_neg hf] at k
  rw [ltI_eq, if_neg (by simpa using hf)]
  apply hJ
  intro J2 hJ2
  exact raise_loop _ _ (by omega) _ C h3 A ci hs ho h1 h2 rfl rfl (by omega) k J2 hJ2
theorem key_in (ok : C.ok) {key : Int} (h1 : 0 ≤ key) (h2 : key < C.cfg.keys) : IntKind.i64.wrap (IntKind.i64.wrap (C.cfg.slots * C.cfg.fuses) + key) = C.cfg.slots * C.cfg.fuses + key ∧ 0 ≤ C.cfg.slots * C.cfg.fuses + key ∧ C.cfg.slots * C.cfg.fuses + key < C.s.blown.length := by
  have hb := ok.fits.blown
  have hn := ok.may.nf
  have hk := ok.may.keys
  have hf := ok.may.fuses
  have hsl := ok.may.slots
  unfold Cfg.nf at hb hn
  have e1 : 0 ≤ C.cfg.slots * C.cfg.fuses := Int.mul_nonneg (by omega) (by omega)
  refine ⟨?_, by omega, by omega⟩
  rw [wrap_id (n := C.cfg.slots * C.cfg.fuses) (by omega), wrap_id (by omega)]
theorem of_sp {Q : Int → H → Prop} (hs : Sat h0 A h) (ci : At A i (chipE p C)) (key : Int) (h1 : 0 ≤ key) (h2 : key < C.cfg.keys) (k : ∀ h', Sat h0 A h' → Q (C.cfg.slots * C.cfg.fuses + key) h') : F_fuse_of ⟨p, 0, none⟩ key Q h := by
  unfold F_fuse_of G_fuse_of
  refine Config_sp hs ci ?_
  intro h3 hs
  refine Config_sp hs ci ?_
  intro h4 hs
  rw [(key_in (chip_ok hs ci) h1 h2).1]
  exact k _ hs
theorem Revoked_sp {Q : Bool → Int → H → Prop} (hs : Sat h0 A h) (ci : At A i (chipE p C)) (key : Int) (k : ∀ h', Sat h0 A h' → Q (revokedM C key).1 (revokedM C key).2 h') : F_fuse_Revoked ⟨p, 0, none⟩ key Q h := by
  unfold F_fuse_Revoked G_fuse_Revoked
  refine Config_sp hs ci ?_
  intro h1 hs
  refine fasked_sp hs ci _ _ ?_
  unfold revokedM at k
  by_cases e : askedM C key C.cfg.keys = 0
  case neg =>
    rw [if_pos (by simpa using e)] at k ⊢
    exact k _ hs
  obtain ⟨ho, h1, h2⟩ := askedM_zero e
  rw [if_neg (by simpa using e)] at k ⊢
  refine of_sp hs ci key h1 h2 ?_
  intro h3 hs
  obtain ⟨x1, x2, x3⟩ := key_in (chip_ok hs ci) h1 h2
  refine Blown_sp hs ci _ ?_
  have eb : blownM C (C.cfg.slots * C.cfg.fuses + key) = (C.s.blown.getD (C.cfg.slots * C.cfg.fuses + key).toNat false, 0) := by
    unfold blownM; rw [askedM_in ho x2 x3, if_neg (by simp)]
  rw [eb]
  exact k _ hs
theorem revoked_ok {key : Int} (e : (revokedM C key).2 = 0) : 0 ≤ key ∧ key < C.cfg.keys := by
  unfold revokedM at e
  split at e
  · rename_i h1; exact absurd e h1
  · rename_i h1
    obtain ⟨_, h2, h3⟩ := askedM_zero (show askedM C key C.cfg.keys = 0 by simpa using h1)
    exact ⟨h2, h3⟩
theorem Revoke_sp {Q : Int → H → Prop} (hs : Sat h0 A h) (ci : At A i (chipE p C)) (key : Int) (k : ∀ h', Sat h0 (put A i (chipE p (revokeM C key).1)) h' → Q (revokeM C key).2 h') : F_fuse_Revoke ⟨p, 0, none⟩ key Q h := by
  unfold F_fuse_Revoke G_fuse_Revoke
  refine Revoked_sp hs ci key ?_
  intro h1 hs
  unfold revokeM at k
  by_cases e : (revokedM C key).2 = 0
  case neg =>
    rw [if_pos (by simpa using e)] at k ⊢
    exact k _ (by rw [ci.put_self]; exact hs)
  obtain ⟨h1, h2⟩ := revoked_ok e
  rw [if_neg (by simpa using e)] at k ⊢
  by_cases e2 : (revokedM C key).1 = true
  · rw [if_pos e2] at k ⊢
    exact k _ (by rw [ci.put_self]; exact hs)
  rw [if_neg e2] at k ⊢
  refine of_sp hs ci key h1 h2 ?_
  intro h3 hs
  exact Blow_sp hs ci _ fun h' hs' => k _ hs'
end
end Go.Proofs.Ytamfkofcpoglnaa
