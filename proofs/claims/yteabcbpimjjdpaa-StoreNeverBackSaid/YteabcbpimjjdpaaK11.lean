/- StoreNeverBack: what is proved and its parts, laid together by a program of ours: St1 St2 St5 St6 ScO St7 St8 St3 St9 StA Lx1 Lw4 Lx3 StB StC RwStoreNeverBack -/
import Derived.Test.YteabcbpimjjdpaaK10
set_option autoImplicit false
set_option linter.all false
/- The store: contracts of the program's. Own work. -/
section
set_option maxRecDepth 100000
set_option linter.unusedVariables false
namespace Go.Proofs.Yteabcbpimjjdpaa
open Go Go.Vc

abbrev storeE (s p r : Nat) : Ent := blk s [.pointer (some ⟨p, 0, none⟩), .pointer (some ⟨r, 0, none⟩)]
def lastM (c : Cfg) : Int := c.step * c.fuses + c.step - 1
theorem lastM_in {c : Cfg} (m : c.may) : 0 ≤ lastM c ∧ lastM c ≤ 4259839 ∧ c.step * c.fuses ≤ 4194304 ∧ 0 ≤ c.step * c.fuses := by
  have h1 := m.step
  have h2 := m.fuses
  have a : c.step * c.fuses ≤ 65536 * 64 := Int.mul_le_mul h1.2 h2.2 (by omega) (by decide)
  have b : 0 ≤ c.step * c.fuses := Int.mul_nonneg (by omega) (by omega)
  unfold lastM
  omega
def valS (C : Cm) (slot : Int) : Int := if (countM C slot).1 * C.cfg.step < numOf C slot.toNat then numOf C slot.toNat else (countM C slot).1 * C.cfg.step
def sRead (C : Cm) (slot : Int) : Int × Int := if askedM C slot C.cfg.slots ≠ 0 then (0, askedM C slot C.cfg.slots) else (valS C slot, 0)
def sBumpTo (C : Cm) (slot v : Int) : Cm × Int :=
  if (sRead C slot).2 ≠ 0 then (C, (sRead C slot).2) else if v < 0 then (C, 2) else if v ≤ (sRead C slot).1 then (C, 0) else if lastM C.cfg < v then (C, 10)
  else if (layL C slot v).2 ≠ 0 then layL C slot v else raiseM (layL C slot v).1 slot (v.tdiv C.cfg.step)
def sBump (C : Cm) (slot : Int) : (Int × Int) × Cm :=
  if (sRead C slot).2 ≠ 0 then ((0, (sRead C slot).2), C)
  else if (sBumpTo C slot ((sRead C slot).1 + 1)).2 ≠ 0 then ((0, (sBumpTo C slot ((sRead C slot).1 + 1)).2), (sBumpTo C slot ((sRead C slot).1 + 1)).1)
  else (((sRead C slot).1 + 1, 0), (sBumpTo C slot ((sRead C slot).1 + 1)).1)
theorem count_in {C : Cm} (ok : C.ok) (slot : Int) : 0 ≤ (countM C slot).1 ∧ (countM C slot).1 ≤ C.cfg.fuses := by
  have h2 := ok.may.fuses
  unfold countM
  split
  · exact ⟨Int.le_refl 0, by show (0 : Int) ≤ _; omega⟩
  · have := cnt_le C.s.blown (slot * C.cfg.fuses).toNat C.cfg.fuses.toNat
    dsimp only
    omega
theorem valS_in {C : Cm} (ok : C.ok) (slot : Int) : 0 ≤ (countM C slot).1 * C.cfg.step ∧ (countM C slot).1 * C.cfg.step ≤ 4194304 ∧ 0 ≤ valS C slot ∧ valS C slot ≤ most := by
  have h1 := ok.may.step
  have h2 := ok.may.fuses
  obtain ⟨c0, c1⟩ := count_in ok slot
  have a : (countM C slot).1 * C.cfg.step ≤ 64 * 65536 := Int.mul_le_mul (by omega) h1.2 (by omega) (by decide)
  have b : 0 ≤ (countM C slot).1 * C.cfg.step := Int.mul_nonneg c0 (by omega)
  have d := (infoM_ok ok).nums slot.toNat
  have hm := most_val
  refine ⟨b, by omega, ?_⟩
  unfold valS
  split
  · exact d
  · omega
theorem sRead_in {C : Cm} (ok : C.ok) (slot : Int) : 0 ≤ (sRead C slot).1 ∧ (sRead C slot).1 ≤ most := by
  have hm := most_val
  unfold sRead
  split
  · exact ⟨Int.le_refl 0, by show (0 : Int) ≤ most; decide⟩
  · exact (valS_in ok slot).2.2
section
variable {h0 h : H} {A : List Ent} {i j p r b s m : Nat} {C : Cm}
theorem sMount_sp {Q : Option Addr → Int → H → Prop} (hs : Sat h0 A h) (ci : At A i (chipE p C)) (k1 : C.out = true → Q none 8 h) (k2 : C.out = false → ∀ s l h', Sat h0 (storeE s p l :: logE l p :: A) h' → Q (some ⟨s, 0, none⟩) 0 h') : F_store_Mount ⟨p, 0, none⟩ Q h := by
  unfold F_store_Mount G_store_Mount
  refine Mount_sp hs ci ?_ ?_
  · intro ho
    rw [if_pos (by simp)]
    exact k1 ho
  · intro ho l h1 hs
    rw [if_neg (by simp)]
    intro n7 _ hn; replace hs := Sat.new hs hn; clear hn
    exact k2 ho n7 l _ hs
theorem sLast_sp {Q : Int → H → Prop} (hs : Sat h0 A h) (ci : At A i (chipE p C)) (st : At A m (storeE s p r)) (k : ∀ h', Sat h0 A h' → Q (lastM C.cfg) h') : F_store_Store_Last ⟨s, 0, none⟩ Q h := by
  unfold F_store_Store_Last G_store_Store_Last
  try simp only [add_mk, Nat.zero_add]
  have ok := chip_ok hs ci
  obtain ⟨l0, l1, l2, l3⟩ := lastM_in ok.may
  have h1 := ok.may.step
  refine ⟨_, hs.ld st rfl, _, rfl, ?_⟩
  refine Config_sp hs ci ?_
  intro h1 hs
  intro n14 _ hn; replace hs := Sat.new hs hn; clear hn
  refine ⟨Sat.can hs (i := 0) .z (by decide), ?_⟩
  intro h2 e
  replace hs := Sat.wra hs (i := 0) .z e rfl
  clear e
  simp only [put] at hs
  refine ⟨_, hs.ld (i := 0) .z rfl, _, hs.ld (i := 0) .z rfl, _, hs.ld (i := 0) .z rfl, ?_⟩
  rw [wrap_id (n := C.cfg.step * C.cfg.fuses) (by omega), wrap_id (n := C.cfg.step * C.cfg.fuses + C.cfg.step) (by omega), wrap_id (by unfold lastM at l0 l1; omega)]
  exact k _ hs.drop
theorem sAsked_sp {Q : Int → H → Prop} (hs : Sat h0 A h) (ci : At A i (chipE p C)) (st : At A m (storeE s p r)) (x n : Int) (k : Q (askedM C x n) h) : F_store_Store_asked ⟨s, 0, none⟩ x n Q h := by
  unfold F_store_Store_asked G_store_Store_asked
  refine ⟨_, hs.ld st rfl, _, rfl, ?_⟩
  refine Out_sp hs ci ?_
  unfold askedM at k
  by_cases ho : C.out = true
  · rw [if_pos ho] at k; rw [if_pos ho]; exact k
  rw [if_neg ho] at k; rw [if_neg ho]
  by_cases g1 : x < 0
  · rw [if_pos g1] at k; rw [ltI_eq, if_pos (by simpa using g1)]; exact k
  rw [if_neg g1] at k; rw [ltI_eq, if_neg (by simpa using g1)]
  by_cases g2 : n ≤ x
  · rw [if_pos g2] at k; rw [leI_eq, if_pos (by simpa using g2)]; exact k
  rw [if_neg g2] at k; rw [leI_eq, if_neg (by simpa using g2)]; exact k
theorem sRead_sp {Q : Int → Int → H → Prop} (hs : Sat h0 A h) (ci : At A i (chipE p C)) (cl : At A j (logE r p)) (st : At A m (storeE s p r)) (slot : Int) (k : ∀ h', Sat h0 A h' → Q (sRead C slot).1 (sRead C slot).2 h') : F_store_Store_Read ⟨s, 0, none⟩ slot Q h := by
  unfold F_store_Store_Read G_store_Store_Read
  try simp only [add_mk, Nat.zero_add, List.append_nil]
  have ok := chip_ok hs ci
  refine ⟨_, hs.ld st rfl, _, rfl, ?_⟩
  refine Config_sp hs ci ?_
  intro h1 hs
  refine sAsked_sp hs ci st _ _ ?_
  unfold sRead at k
  by_cases ha : askedM C slot C.cfg.slots = 0
  case neg =>
    rw [if_pos (by simpa using ha)]
    rw [if_pos ha] at k
    exact k _ hs
  rw [if_neg (fun y => y ha)] at k
  rw [if_neg (by simpa using ha)]
  obtain ⟨ho, g0, g1⟩ := askedM_zero ha
  refine ⟨_, hs.ld st rfl, _, rfl, ?_⟩
  refine Count_sp hs ci slot ?_
  intro h2 hs
  have ec : (countM C slot).2 = 0 := by unfold countM; rw [if_neg (fun y => y ha)]
  rw [ec, if_neg (by simp)]
  refine ⟨_, hs.ld st rfl, _, rfl, ?_⟩
  refine Number_sp hs ci cl slot ?_
  intro h3 hs
  have en : numberM C slot = (numOf C slot.toNat, 0) := by
    unfold numberM
    rw [if_neg (by simp [ho]), if_neg (fun y => y ⟨g0, by omega⟩)]
  rw [en, if_neg (by simp)]
  refine ⟨_, hs.ld st rfl, _, rfl, ?_⟩
  refine Config_sp hs ci ?_
  intro h4 hs
  obtain ⟨v0, v1, _⟩ := valS_in ok slot
  rw [wrap_id (by omega)]
  intro n40 _ hn; replace hs := Sat.new hs hn; clear hn
  refine ⟨Sat.can hs (i := 0) .z (by simp [zeros]), ?_⟩
  intro h5 e
  replace hs := Sat.wra hs (i := 0) .z e (by simp [zeros])
  clear e
  simp only [put] at hs
  refine ⟨by decide, by decide, _, hs.ld (i := 0) .z rfl, by decide, by decide, _, hs.ld (i := 0) .z rfl, ?_⟩
  exact k _ hs.drop
theorem sMay_sp {Q : Int → H → Prop} {nn ns : Nat} {now v : Int} (hs : Sat h0 A h) (ci : At A i (chipE p C)) (st : At A m (storeE s p r)) {x y : Nat} (tn : At A x (blk nn [.int .i64 now])) (ts : At A y (blk ns [.pointer (some ⟨s, 0, none⟩)]))
    (k : ∀ h', Sat h0 A h' → Q (if v < 0 then 2 else if now < v then (if lastM C.cfg < v then 10 else 0) else 0) h') : F_store_Store_BumpTo_1 v ⟨nn, 0, none⟩ ⟨ns, 0, none⟩ Q h := by
  unfold F_store_Store_BumpTo_1 G_store_Store_BumpTo_1
  by_cases g1 : v < 0
  · rw [if_pos g1] at k; rw [ltI_eq, if_pos (by simpa using g1)]; exact k _ hs
  rw [if_neg g1] at k; rw [ltI_eq, if_neg (by simpa using g1)]
  refine ⟨_, hs.ld tn rfl, ?_⟩
  by_cases g2 : now < v
  · rw [if_pos g2] at k; rw [ltI_eq, if_pos (by simpa using g2)]
    refine ⟨_, hs.ld ts rfl, _, rfl, ?_⟩
    refine sLast_sp hs ci st ?_
    intro h1 hs
    by_cases g3 : lastM C.cfg < v
    · rw [if_pos g3] at k; rw [ltI_eq, if_pos (by simpa using g3)]; exact k _ hs
    · rw [if_neg g3] at k; rw [ltI_eq, if_neg (by simpa using g3)]; exact k _ hs
  · rw [if_neg g2] at k; rw [ltI_eq, if_neg (by simpa using g2)]; exact k _ hs
theorem layL_cfg (ok : C.ok) (slot n : Int) : (layL C slot n).1.cfg = C.cfg := by
  have ep : ∀ (t : Int) (nums : List Int) (m x a : Nat) (D : Cm), (turnP t nums m x a D).1.cfg = D.cfg := by
    intro t nums m
    induction m with
    | zero => intro x a D; rfl
    | succ m ih =>
      intro x a D
      unfold turnP
      split
      · exact ih _ _ _
      · split
        · exact program_cfg _ _ _ _
        · exact (ih _ _ _).trans (program_cfg _ _ _ _)
  have ea : ∀ (g t : Int) (nums : List Int) (m : Nat) (D : Cm), (turnA g t nums m D).1.cfg = D.cfg := by
    intro g t nums m D
    unfold turnA
    split
    · exact ep _ _ _ _ _ _
    · exact (program_cfg _ _ _ _).trans (ep _ _ _ _ _ _)
  unfold layL
  (repeat' split) <;> first | rfl | exact program_cfg _ _ _ _ | skip
  unfold turnL
  split
  · exact ea _ _ _ _ _
  · split
    · exact erase_cfg _ _
    · exact (ea _ _ _ _ _).trans (erase_cfg _ _)
theorem sBumpTo_sp {Q : Int → H → Prop} (hs : Sat h0 A h) (ci : At A i (chipE p C)) (cl : At A j (logE r p)) (st : At A m (storeE s p r)) (hij : j ≠ i) (him : m ≠ i) (slot v : Int)
    (k : ∀ h', Sat h0 (put A i (chipE p (sBumpTo C slot v).1)) h' → Q (sBumpTo C slot v).2 h') : F_store_Store_BumpTo ⟨s, 0, none⟩ slot v Q h := by
  unfold F_store_Store_BumpTo G_store_Store_BumpTo
  try simp only [add_mk, Nat.zero_add, List.append_nil]
  have ok := chip_ok hs ci
  have hst := ok.may.step
  intro n10 _ hn; replace hs := Sat.new hs hn; clear hn
  refine ⟨_, hs.ld (i := 0) .z rfl, _, rfl, ?_⟩
  refine sRead_sp hs ci.s cl.s st.s slot ?_
  intro h1 hs
  intro n18 _ hn; replace hs := Sat.new hs hn; clear hn
  refine ⟨Sat.can hs (i := 0) .z (by decide), ?_⟩
  intro h2 e
  replace hs := Sat.wra hs (i := 0) .z e rfl
  clear e
  simp only [put] at hs
  unfold sBumpTo at k
  by_cases ge : (sRead C slot).2 = 0
  case neg =>
    rw [if_pos ge] at k
    rw [if_pos (by simpa using ge)]
    exact k _ (by rw [ci.put_self]; exact hs.drop.drop)
  rw [if_neg (fun y => y ge)] at k
  rw [if_neg (by simpa using ge)]
  intro J hJ
  refine sMay_sp hs ci.s.s st.s.s (x := 0) (y := 1) .z (.s .z) ?_
  intro h3 hs
  by_cases g1 : v < 0
  · rw [if_pos g1] at k
    rw [if_pos g1, if_pos (by simp)]
    exact k _ (by rw [ci.put_self]; exact hs.drop.drop)
  rw [if_neg g1] at k
  rw [if_neg g1]
  by_cases g2 : v ≤ (sRead C slot).1
  · rw [if_pos g2] at k
    rw [if_neg (show ¬ (sRead C slot).1 < v by omega), if_neg (by simp)]
    refine ⟨_, hs.ld (i := 0) .z rfl, ?_⟩
    rw [leI_eq, if_pos (by simpa using g2)]
    exact k _ (by rw [ci.put_self]; exact hs.drop.drop)
  rw [if_neg g2] at k
  rw [if_pos (show (sRead C slot).1 < v by omega)]
  by_cases g3 : lastM C.cfg < v
  · rw [if_pos g3] at k
    rw [if_pos g3, if_pos (by simp)]
    exact k _ (by rw [ci.put_self]; exact hs.drop.drop)
  rw [if_neg g3] at k
  rw [if_neg g3, if_neg (by simp)]
  refine ⟨_, hs.ld (i := 0) .z rfl, ?_⟩
  rw [leI_eq, if_neg (by simpa using g2)]
  apply hJ
  clear hJ J
  refine ⟨_, hs.ld (i := 1) (.s .z) rfl, _, rfl, _, hs.ld st.s.s rfl, _, rfl, ?_⟩
  refine Lay9_sp hs ci.s.s cl.s.s (by omega) slot v ?_
  intro h4 hs
  simp only [put_succ] at hs
  have ecf := layL_cfg ok slot v
  generalize layL C slot v = X at *
  by_cases gx : X.2 = 0
  case neg =>
    rw [if_pos gx] at k
    rw [if_pos (by simpa using gx)]
    exact k _ hs.drop.drop
  rw [if_neg (fun y => y gx)] at k
  rw [if_neg (by simpa using gx)]
  refine ⟨_, hs.ld (i := 1) (.s .z) rfl, _, rfl, _, hs.ld (st.put_ne him (chipE p X.1)).s.s rfl, _, hs.ld (i := 1) (.s .z) rfl, _, rfl, _, hs.ld (st.put_ne him (chipE p X.1)).s.s rfl, _, rfl, ?_⟩
  refine Config_sp hs (ci.put (chipE p X.1)).s.s ?_
  intro h5 hs
  rw [ecf]
  refine ⟨hcs_one (hs.ld (st.put_ne him (chipE p X.1)).s.s rfl), hcs_one (hs.ld (i := 1) (.s .z) rfl), by omega, _, rfl, ?_⟩
  have hl := lastM_in ok.may
  have hd0 : 0 ≤ v.tdiv C.cfg.step := Int.tdiv_nonneg (by omega) (by omega)
  have hd1 : v.tdiv C.cfg.step ≤ v := by
    rw [Int.tdiv_eq_ediv_of_nonneg (by omega)]
    exact Int.ediv_le_self _ (by omega)
  rw [wrap_id (by omega)]
  refine Raise_sp hs (ci.put (chipE p X.1)).s.s slot (v.tdiv C.cfg.step) ?_
  intro h6 hs
  simp only [put_succ, put_put] at hs
  exact k _ hs.drop.drop
theorem sBump_sp {Q : Int → Int → H → Prop} (hs : Sat h0 A h) (ci : At A i (chipE p C)) (cl : At A j (logE r p)) (st : At A m (storeE s p r)) (hij : j ≠ i) (him : m ≠ i) (slot : Int)
    (k : ∀ h', Sat h0 (put A i (chipE p (sBump C slot).2)) h' → Q (sBump C slot).1.1 (sBump C slot).1.2 h') : F_store_Store_Bump ⟨s, 0, none⟩ slot Q h := by
  unfold F_store_Store_Bump G_store_Store_Bump
  have ok := chip_ok hs ci
  have hm := most_val
  refine sRead_sp hs ci cl st slot ?_
  intro h1 hs
  unfold sBump at k
  by_cases ge : (sRead C slot).2 = 0
  case neg =>
    rw [if_pos ge] at k
    rw [if_pos (by simpa using ge)]
    exact k _ (by rw [ci.put_self]; exact hs)
  rw [if_neg (fun y => y ge)] at k
  rw [if_neg (by simpa using ge)]
  have hb := sRead_in ok slot
  rw [show IntKind.i64.wrap ((sRead C slot).1 + 1) = (sRead C slot).1 + 1 by rw [IntKind.wrap_i64]; omega]
  refine sBumpTo_sp hs ci cl st hij him slot _ ?_
  intro h2 hs
  by_cases gx : (sBumpTo C slot ((sRead C slot).1 + 1)).2 = 0
  · rw [if_neg (fun y => y gx)] at k
    rw [if_neg (by simpa using gx)]
    exact k _ hs
  · rw [if_pos gx] at k
    rw [if_pos (by simpa using gx)]
    exact k _ hs
theorem sRevoke_sp {Q : Int → H → Prop} (hs : Sat h0 A h) (ci : At A i (chipE p C)) (st : At A m (storeE s p r)) (key : Int)
    (k : ∀ h', Sat h0 (put A i (chipE p (revokeM C key).1)) h' → Q (revokeM C key).2 h') : F_store_Store_Revoke ⟨s, 0, none⟩ key Q h := by
  unfold F_store_Store_Revoke G_store_Store_Revoke
  refine ⟨_, hs.ld st rfl, _, rfl, ?_⟩
  refine Config_sp hs ci ?_
  intro h1 hs
  refine sAsked_sp hs ci st _ _ ?_
  by_cases ha : askedM C key C.cfg.keys = 0
  case neg =>
    rw [if_pos (by simpa using ha)]
    have e : revokeM C key = (C, askedM C key C.cfg.keys) := by
      have e1 : (revokedM C key).2 = askedM C key C.cfg.keys := by unfold revokedM; rw [if_pos ha]
      unfold revokeM
      rw [e1, if_pos ha]
    rw [e] at k
    exact k _ (by rw [ci.put_self]; exact hs)
  rw [if_neg (by simpa using ha)]
  refine ⟨_, hs.ld st rfl, _, rfl, ?_⟩
  exact Revoke_sp hs ci key k
theorem sRevoked_sp {Q : Bool → Int → H → Prop} (hs : Sat h0 A h) (ci : At A i (chipE p C)) (st : At A m (storeE s p r)) (key : Int)
    (k : ∀ h', Sat h0 A h' → Q (revokedM C key).1 (revokedM C key).2 h') : F_store_Store_Revoked ⟨s, 0, none⟩ key Q h := by
  unfold F_store_Store_Revoked G_store_Store_Revoked
  refine ⟨_, hs.ld st rfl, _, rfl, ?_⟩
  refine Config_sp hs ci ?_
  intro h1 hs
  refine sAsked_sp hs ci st _ _ ?_
  by_cases ha : askedM C key C.cfg.keys = 0
  case neg =>
    rw [if_pos (by simpa using ha)]
    have e1 : revokedM C key = (false, askedM C key C.cfg.keys) := by unfold revokedM; rw [if_pos ha]
    rw [e1] at k
    exact k _ hs
  rw [if_neg (by simpa using ha)]
  refine ⟨_, hs.ld st rfl, _, rfl, ?_⟩
  exact Revoked_sp hs ci key k
end
end Go.Proofs.Yteabcbpimjjdpaa
end

/- The store's laws: awake, StoreNames. Own work. -/
section
set_option maxRecDepth 100000
set_option linter.unusedVariables false
namespace Go.Proofs.Yteabcbpimjjdpaa
open Go Go.Vc

abbrev fix10A : Cm := freshC ⟨8, 1, 2, 3, 4, 0, 0⟩
abbrev fix10B : Cm := (sBump fix10A 0).2
def fix10ok : Bool := (sBump fix10A 0).1.1 == 1 && (sBump fix10A 0).1.2 == 0 && (sRead fix10B 0).1 == 1 && (sRead fix10B 0).2 == 0 && fix10B.acts == 2 && lastM fix10B.cfg == 8 && (sBumpTo fix10B 0 9).2 == 10
theorem fix10 : fix10ok = true := by decide +kernel
section
variable {h0 h : H} {A : List Ent}
theorem awake_sp {Q : Bool → H → Prop} (hs : Sat h0 A h) (k : ∀ h', Sat h0 A h' → Q true h') : F_portcullislaw10_awake Q h := by
  unfold F_portcullislaw10_awake G_portcullislaw10_awake
  have hf := fix10
  unfold fix10ok at hf
  simp only [Bool.and_eq_true, beq_iff_eq] at hf
  obtain ⟨⟨⟨⟨⟨⟨f1, f2⟩, f3⟩, f4⟩, f5⟩, f6⟩, f7⟩ := hf
  refine New_sp ⟨8, 1, 2, 3, 4, 0, 0⟩ hs (fun nm => absurd (show Cfg.may ⟨8, 1, 2, 3, 4, 0, 0⟩ by decide) nm) ?_
  intro _ p h1 hs J hJ
  rw [if_neg (by simp), if_neg (by simp)]
  apply hJ
  clear hJ J
  refine ⟨_, rfl, ?_⟩
  refine sMount_sp hs (i := 0) .z (fun y => absurd y (by decide)) ?_
  intro _ s l h2 hs J hJ
  rw [if_neg (by simp), if_neg (by simp)]
  apply hJ
  clear hJ J
  refine ⟨_, rfl, ?_⟩
  refine sBump_sp hs (i := 2) (j := 1) (m := 0) (.s (.s .z)) (.s .z) .z (by decide) (by decide) 0 ?_
  intro h3 hs
  replace hs : Sat h0 (storeE s p l :: logE l p :: chipE p fix10B :: A) h3 := hs
  refine ⟨_, rfl, ?_⟩
  refine sRead_sp hs (i := 2) (j := 1) (m := 0) (.s (.s .z)) (.s .z) .z 0 ?_
  intro h4 hs
  rw [f1, f2, f3, f4, if_pos (by simp), if_pos (by simp), if_pos (by simp), if_pos (by simp)]
  refine ⟨_, rfl, ?_⟩
  refine Acts_sp hs (i := 2) (.s (.s .z)) ?_
  rw [f5, if_pos (by simp)]
  refine ⟨_, rfl, ?_⟩
  refine sLast_sp hs (i := 2) (m := 0) (.s (.s .z)) .z ?_
  intro h5 hs
  rw [f6, if_pos (by simp)]
  refine ⟨_, rfl, ?_⟩
  refine sBumpTo_sp hs (i := 2) (j := 1) (m := 0) (.s (.s .z)) (.s .z) .z (by decide) (by decide) 0 9 ?_
  intro h6 hs
  rw [f7]
  simp only [put_succ, put_zero] at hs
  exact k _ hs.drop.drop.drop
end
end Go.Proofs.Yteabcbpimjjdpaa
end

/- StoreDoes: the world and its steps. Own work. -/
section
set_option maxRecDepth 100000
set_option linter.unusedVariables false
namespace Go.Proofs.Yteabcbpimjjdpaa
open Go Go.Vc

abbrev wld (w px pr : Nat) (x : Value) : Ent := blk w [.pointer (some ⟨px, 0, none⟩), x, .pointer (some ⟨pr, 0, none⟩)]
abbrev wld2 (w px pr s l : Nat) (C : Cm) (B : List Ent) : List Ent := wld w px pr (.pointer (some ⟨s, 0, none⟩)) :: storeE s px l :: logE l px :: chipE px C :: refE pr C :: B
def Wst (h0 : H) (w px pr : Nat) (C : Cm) (B : List Ent) (h : H) : Prop :=
  Sat h0 (wld w px pr (.pointer none) :: chipE px C :: refE pr C :: B) h ∨ ∃ s l, Sat h0 (wld2 w px pr s l C B) h
/-- A call of a script. -/
structure OpE where
  kind : Int
  n : Int
  v : Int
  mask : List Int
structure OpE.ok (s : OpE) : Prop where
  n : s.n < 2 ^ 63
  mb : bytesOk s.mask
  ml : s.mask.length + 4096 ≤ 2 ^ 47
section
variable {h0 h : H} {A B : List Ent} {i j p r b w px pr s m : Nat} {C : Cm}
theorem Wst.any (W : Wst h0 w px pr C B h) : ∃ x, Sat h0 (wld w px pr x :: chipE px C :: refE pr C :: B) h := by
  rcases W with hs | ⟨s, l, hs⟩
  · exact ⟨_, hs⟩
  · exact ⟨_, hs.sub (by (repeat (first | exact List.Sublist.refl _ | apply List.Sublist.cons_cons | apply List.Sublist.cons)))⟩
end
end Go.Proofs.Yteabcbpimjjdpaa
end

/- StoreDoes: how it begins; scripts. Own work. -/
section
set_option maxRecDepth 100000
set_option linter.unusedVariables false
namespace Go.Proofs.Yteabcbpimjjdpaa
open Go Go.Vc

section
variable {h0 h : H} {A : List Ent}
end
structure ScriptO (h : H) (p : Option Addr) (l : Nat) (sc : List OpE) : Prop where
  len : sc.length = l
  lt : l < 2 ^ 50
  at_ : ∀ i (hi : i < sc.length), ∃ q mp ml mc, p = some q ∧ hc h (q.add (i * 4)) = some (.int .i64 sc[i].kind) ∧ hc h ((q.add (i * 4)).add 1) = some (.int .i64 sc[i].n) ∧ hc h ((q.add (i * 4)).add 2) = some (.int .i64 sc[i].v) ∧
    hc h ((q.add (i * 4)).add 3) = some (.slice mp ml mc) ∧ hsv h mp 1 ml (ints .u8 sc[i].mask) ∧ sc[i].ok
end Go.Proofs.Yteabcbpimjjdpaa
end

/- How scripts over stores came in. Own work. -/
section
set_option maxRecDepth 100000
set_option linter.unusedVariables false
namespace Go.Proofs.Yteabcbpimjjdpaa
open Go Go.Vc Go.ChangeShapes Go.WideShapes Go.ChangeAt Go.RowKit

theorem xOpE : xsh PP 8 86 = some [.int .i64, .int .i64, .int .i64, .slc 5] := by kernel_rfl
theorem scriptO_of {D : Type} {enc : TypeId × Value → D} {W : World} {p : Option Addr} {l c : Nat} (h : Sli enc PP W 86 p l c) : ∃ sc : List OpE, ScriptO W.heap p l sc := by
  have hb : Try.prog.bytesOf 86 = 48 := by kernel_rfl
  have hc : Try.prog.cellsOf 86 = 4 := by kernel_rfl
  obtain ⟨ess, h1, h2, _, h4⟩ := h.els xOpE
  have hlc := h.1
  have hr := h.2.1
  rw [hb] at hr
  unfold reachBytes at hr
  have key : ∀ es, es ∈ ess → ∃ (s : OpE) (mp : Option Addr) (ml mc : Nat), s.ok ∧ es = [.int .i64 s.kind, .int .i64 s.n, .int .i64 s.v, .slice mp ml mc] ∧ hsv W.heap mp 1 ml (ints .u8 s.mask) := by
    intro es hes
    obtain ⟨k, _, rfl, _, a, _, rfl, ha, b, _, rfl, hb, mp, ml, mc, _, rfl, hm, hr⟩ := (h2 es hes).2
    simp only [XM] at hr
    subst hr
    obtain ⟨ms, m1, m2, m3⟩ := bytes_of hm
    exact ⟨⟨k, a, b, ms⟩, mp, ml, mc, ⟨(has_i64 ha).2, m2, m3⟩, rfl, m1⟩
  have key2 : ∀ ess : List (List Value), (∀ es, es ∈ ess → ∃ (s : OpE) (mp : Option Addr) (ml mc : Nat), s.ok ∧ es = [.int .i64 s.kind, .int .i64 s.n, .int .i64 s.v, .slice mp ml mc] ∧ hsv W.heap mp 1 ml (ints .u8 s.mask)) →
      ∃ sc : List OpE, sc.length = ess.length ∧ ∀ i (hi : i < sc.length) (hi2 : i < ess.length), ∃ (mp : Option Addr) (ml mc : Nat), sc[i].ok ∧ ess[i] = [.int .i64 sc[i].kind, .int .i64 sc[i].n, .int .i64 sc[i].v, .slice mp ml mc] ∧ hsv W.heap mp 1 ml (ints .u8 sc[i].mask) := by
    intro ess
    induction ess with
    | nil => intro _; exact ⟨[], rfl, fun i hi => by simp at hi⟩
    | cons y r ih =>
      intro h
      obtain ⟨sc, e1, e2⟩ := ih fun es hes => h es (by simp [hes])
      obtain ⟨s, hs⟩ := h y (by simp)
      refine ⟨s :: sc, by simp [e1], ?_⟩
      intro i hi hi2
      cases i with
      | zero => exact hs
      | succ i => exact e2 i (by simpa using hi) (by simpa using hi2)
  obtain ⟨sc, e1, e2⟩ := key2 ess key
  refine ⟨sc, by omega, by omega, ?_⟩
  intro i hi
  obtain ⟨mp, ml, mc, ok, e3, e4⟩ := e2 i hi (by omega)
  obtain ⟨q, hq, hc2⟩ := h4 i (by omega)
  rw [hc, e3] at hc2
  refine ⟨q, mp, ml, mc, hq, ?_, hc2 1 _ rfl, hc2 2 _ rfl, hc2 3 _ rfl, e4, ok⟩
  have := hc2 0 _ rfl; simpa [Addr.add] using this
end Go.Proofs.Yteabcbpimjjdpaa
end

/- The store's laws, plain: what a BumpTo leaves. Own work. -/
section
set_option maxRecDepth 100000
set_option linter.unusedVariables false
namespace Go.Proofs.Yteabcbpimjjdpaa
open Go Go.Vc

theorem program_blown (C : Cm) (t q : Int) (x : List Int) : (programM C t q x).1.s.blown = C.s.blown := by
  unfold programM
  split
  · rfl
  · show C.act.s.blown = _; rw [act_s]
theorem erase_blown (C : Cm) (t : Int) : (eraseM C t).1.s.blown = C.s.blown := by
  unfold eraseM
  split
  · rfl
  · split
    · rfl
    · show C.act.s.blown = _; rw [act_s]
theorem layL_blown (C : Cm) (slot n : Int) : (layL C slot n).1.s.blown = C.s.blown := by
  have ep : ∀ (t : Int) (nums : List Int) (m x a : Nat) (D : Cm), (turnP t nums m x a D).1.s.blown = D.s.blown := by
    intro t nums m
    induction m with
    | zero => intro x a D; rfl
    | succ m ih =>
      intro x a D
      unfold turnP
      split
      · exact ih _ _ _
      · split
        · exact program_blown _ _ _ _
        · exact (ih _ _ _).trans (program_blown _ _ _ _)
  have ea : ∀ (g t : Int) (nums : List Int) (m : Nat) (D : Cm), (turnA g t nums m D).1.s.blown = D.s.blown := by
    intro g t nums m D
    unfold turnA
    split
    · exact ep _ _ _ _ _ _
    · exact (program_blown _ _ _ _).trans (ep _ _ _ _ _ _)
  unfold layL
  (repeat' split) <;> first | rfl | exact program_blown _ _ _ _ | skip
  unfold turnL
  split
  · exact ea _ _ _ _ _
  · split
    · exact erase_blown _ _
    · exact (ea _ _ _ _ _).trans (erase_blown _ _)
theorem blow_pages (C : Cm) (k : Int) : (blowM C k).1.s.pages = C.s.pages ∧ (blowM C k).1.s.erases = C.s.erases ∧ (blowM C k).1.cfg = C.cfg := by
  unfold blowM
  split
  · exact ⟨rfl, rfl, rfl⟩
  · dsimp only
    split
    · exact ⟨rfl, rfl, act_cfg C⟩
    · rw [act_s]; exact ⟨rfl, rfl, act_cfg C⟩
theorem raise_pages (a f : Nat) (n : Int) : ∀ (m : Nat) (C : Cm), (raiseL a f n m C).1.s.pages = C.s.pages ∧ (raiseL a f n m C).1.cfg = C.cfg
  | 0, C => ⟨rfl, rfl⟩
  | m + 1, C => by
    unfold raiseL
    split
    · exact ⟨rfl, rfl⟩
    · split
      · exact ⟨rfl, rfl⟩
      · rename_i k _
        have b := blow_pages C k
        split
        · exact ⟨b.1, b.2.2⟩
        · have r := raise_pages a f n m (blowM C k).1
          exact ⟨r.1.trans b.1, r.2.trans b.2.2⟩
/-- A slot's value, with power or without. -/
def cntB (C : Cm) (k : Nat) : Nat := cnt C.s.blown (((k : Nat) : Int) * C.cfg.fuses).toNat C.cfg.fuses.toNat
def valB (C : Cm) (k : Nat) : Int := if (cntB C k : Int) * C.cfg.step < numOf C k then numOf C k else (cntB C k : Int) * C.cfg.step
theorem valS_B {C : Cm} (ho : C.out = false) {k : Nat} (hk : (k : Int) < C.cfg.slots) : valS C (k : Int) = valB C k := by
  have e : countM C (k : Int) = (((cnt C.s.blown (((k : Nat) : Int) * C.cfg.fuses).toNat C.cfg.fuses.toNat : Nat) : Int), 0) := by
    unfold countM
    rw [askedM_in ho (by omega) hk, if_neg (by simp)]
  unfold valS valB cntB
  rw [e, Int.toNat_natCast]
theorem numOf_pages {C D : Cm} (hc : D.cfg = C.cfg) (hp : D.s.pages = C.s.pages) (k : Nat) : numOf D k = numOf C k := by
  have e : ∀ t, pI D t = pI C t := fun t => by unfold pI Cm.pg; rw [hc, hp]
  unfold numOf infoM presM
  rw [e, e, e]
/-- What a BumpTo leaves. -/
structure Bumped (C D : Cm) (slot : Nat) (v e : Int) : Prop where
  cfg : D.cfg = C.cfg
  snd : sndM D
  keys : ∀ q : Nat, C.cfg.slots * C.cfg.fuses ≤ (q : Int) → D.s.blown.getD q false = C.s.blown.getD q false
  other : ∀ k : Nat, (k : Int) < C.cfg.slots → k ≠ slot → valB D k = valB C k
  me : valB D slot = valB C slot ∨ (valB D slot = v ∧ valB C slot < v)
  done : e = 0 → valB D slot = max v (valB C slot)
  bad : e ≠ 0 → e ≠ 8 → D = C
theorem cnt_congr {x y : List Bool} {a : Nat} : ∀ {n : Nat}, (∀ k, a ≤ k → k < a + n → x.getD k false = y.getD k false) → cnt x a n = cnt y a n
  | 0, _ => rfl
  | n + 1, h => by
    unfold cnt
    rw [cnt_congr (n := n) fun k h1 h2 => h k h1 (by omega), h (a + n) (by omega) (by omega)]
theorem bump_law {C : Cm} (ok : C.ok) (ho : C.out = false) (snd : sndM C) {slot : Nat} (hs : (slot : Int) < C.cfg.slots) (v : Int) :
    Bumped C (sBumpTo C (slot : Int) v).1 slot v (sBumpTo C (slot : Int) v).2 := by
  have hms := ok.may.slots
  have hst := ok.may.step
  have hfu := ok.may.fuses
  have hr : sRead C (slot : Int) = (valB C slot, 0) := by
    unfold sRead
    rw [askedM_in ho (by omega) hs, if_neg (by simp), valS_B ho hs]
  have hmv := most_val
  have hlast := lastM_in ok.may
  unfold sBumpTo
  rw [hr]
  dsimp only
  rw [if_neg (by simp)]
  have idle : ∀ e, (e = 0 → v ≤ valB C slot) → Bumped C C slot v e := fun e he =>
    ⟨rfl, snd, fun _ _ => rfl, fun _ _ _ => rfl, Or.inl rfl, fun y => by have := he y; omega, fun _ _ => rfl⟩
  by_cases g1 : v < 0
  · rw [if_pos g1]; exact idle 2 (fun y => absurd y (by decide))
  rw [if_neg g1]
  by_cases g2 : v ≤ valB C slot
  · rw [if_pos g2]; exact idle 0 (fun _ => g2)
  rw [if_neg g2]
  by_cases g3 : lastM C.cfg < v
  · rw [if_pos g3]; exact idle 10 (fun y => absurd y (by decide))
  rw [if_neg g3]
  have hnum : numOf C slot ≤ valB C slot := by unfold valB; split <;> omega
  have hcnt : (cntB C slot : Int) * C.cfg.step ≤ valB C slot := by unfold valB; split <;> omega
  have hc0 : 0 ≤ (cntB C slot : Int) * C.cfg.step := Int.mul_nonneg (by omega) (by omega)
  obtain ⟨D, e, hL, L⟩ := lay_law (u := false) ok ho snd (slot := slot) (n := v) (by omega) (by omega) (by omega) (by omega)
  have hbl := layL_blown C (slot : Int) v
  rw [hL] at hbl ⊢
  dsimp only at hbl ⊢
  have cD : ∀ k, cntB D k = cntB C k := fun k => by unfold cntB; rw [hbl, L.cfg]
  have vD : ∀ k : Nat, (k : Int) < C.cfg.slots → k ≠ slot → valB D k = valB C k := fun k h1 h2 => by
    unfold valB
    rw [cD, L.cfg, L.other k (by omega) h2]
  by_cases ge : e = 0
  case neg =>
    rw [if_pos ge]
    refine ⟨L.cfg, L.snd, fun q _ => by rw [hbl], vD, ?_, fun y => absurd y ge, fun _ h8 => L.e9 (by have := L.ec; omega)⟩
    rcases L.me with y | y
    · left; unfold valB; rw [cD, L.cfg, y]
    · right
      refine ⟨?_, by omega⟩
      unfold valB
      rw [cD, L.cfg, y, if_pos (by omega)]
  rw [if_neg (fun y => y ge)]
  have okD := L.ok
  have hoD := L.out0 ge
  have hn := L.done ge
  have hsD : (slot : Int) < D.cfg.slots := by rw [L.cfg]; exact hs
  obtain ⟨r1, r2, r3, r4, r5, r6⟩ := row_in okD (slot := (slot : Int)) (by omega) hsD
  have hd0 : 0 ≤ v.tdiv C.cfg.step := Int.tdiv_nonneg (by omega) (by omega)
  have hdq : v.tdiv C.cfg.step * C.cfg.step ≤ v := by
    rw [Int.tdiv_eq_ediv_of_nonneg (by omega)]
    exact Int.ediv_mul_le v (by omega)
  have hdf : v.tdiv C.cfg.step ≤ C.cfg.fuses := by
    rw [Int.tdiv_eq_ediv_of_nonneg (by omega)]
    have : v / C.cfg.step < C.cfg.fuses + 1 := Int.ediv_lt_of_lt_mul (by omega) (by
      rw [Int.add_mul, Int.one_mul, Int.mul_comm]
      unfold lastM at g3
      omega)
    omega
  unfold raiseM
  rw [askedM_in hoD (by omega) hsD, if_neg (by simp), if_neg (by omega), if_neg (by rw [L.cfg]; omega)]
  have R := raised ((slot : Int) * D.cfg.fuses).toNat D.cfg.fuses.toNat (v.tdiv C.cfg.step) (by rw [L.cfg]; rw [L.cfg] at r2; omega) D.cfg.fuses.toNat D hoD okD.left r3 (by
    have := Int.natCast_nonneg (cnt D.s.blown ((slot : Int) * D.cfg.fuses).toNat D.cfg.fuses.toNat)
    rw [L.cfg] at r2 ⊢
    omega)
  have P := raise_pages ((slot : Int) * D.cfg.fuses).toNat D.cfg.fuses.toNat (v.tdiv C.cfg.step) D.cfg.fuses.toNat D
  generalize raiseL ((slot : Int) * D.cfg.fuses).toNat D.cfg.fuses.toNat (v.tdiv C.cfg.step) D.cfg.fuses.toNat D = X at *
  have cX : X.1.cfg = C.cfg := R.cfg.trans L.cfg
  have nX : ∀ k, numOf X.1 k = numOf D k := fun k => numOf_pages R.cfg P.1 k
  have sX : sndM X.1 := by
    intro x hx
    have := L.snd x hx
    unfold Cm.pg at this ⊢
    rw [P.1, R.cfg]
    exact this
  have hfm : (C.cfg.fuses.toNat : Int) = C.cfg.fuses := by omega
  have cXme : ((cntB X.1 slot : Nat) : Int) * C.cfg.step ≤ v := by
    have := R.le
    have e1 : cnt D.s.blown ((slot : Int) * D.cfg.fuses).toNat D.cfg.fuses.toNat = cntB C slot := (show cntB D slot = _ from cD slot)
    have e2 : cnt X.1.s.blown ((slot : Int) * D.cfg.fuses).toNat D.cfg.fuses.toNat = cntB X.1 slot := by unfold cntB; rw [R.cfg]
    rw [e1, e2] at this
    rcases Int.le_total (v.tdiv C.cfg.step) (cntB C slot : Int) with y | y
    · have z : ((cntB X.1 slot : Nat) : Int) ≤ (cntB C slot : Int) := by omega
      have := Int.mul_le_mul_of_nonneg_right z (show 0 ≤ C.cfg.step by omega)
      omega
    · have z : ((cntB X.1 slot : Nat) : Int) ≤ v.tdiv C.cfg.step := by omega
      have := Int.mul_le_mul_of_nonneg_right z (show 0 ≤ C.cfg.step by omega)
      omega
  have vme : valB X.1 slot = v := by
    unfold valB
    rw [nX, hn, cX]
    split <;> omega
  refine ⟨cX, sX, ?_, ?_, Or.inr ⟨vme, by omega⟩, fun _ => by rw [vme]; omega, fun h1 h2 => absurd (R.bad h1).1 h2⟩
  · intro q hq
    rw [← hbl]
    refine R.same q (Or.inr ?_)
    have : ((slot : Int) + 1) * C.cfg.fuses ≤ C.cfg.slots * C.cfg.fuses := Int.mul_le_mul_of_nonneg_right (by omega) (by omega)
    rw [Int.add_mul, Int.one_mul] at this
    rw [L.cfg] at r1 r2 ⊢
    omega
  · intro k hk hne
    rw [← vD k hk hne]
    have hce : cntB X.1 k = cntB D k := by
      unfold cntB
      rw [R.cfg]
      refine cnt_congr fun q h1 h2 => R.same q ?_
      rw [L.cfg] at h1 h2 r1 r2 ⊢
      have k0 : 0 ≤ (k : Int) * C.cfg.fuses := Int.mul_nonneg (by omega) (by omega)
      rcases Nat.lt_or_ge k slot with y | y
      · left
        have : ((k : Int) + 1) * C.cfg.fuses ≤ (slot : Int) * C.cfg.fuses := Int.mul_le_mul_of_nonneg_right (by omega) (by omega)
        rw [Int.add_mul, Int.one_mul] at this
        omega
      · right
        have : ((slot : Int) + 1) * C.cfg.fuses ≤ (k : Int) * C.cfg.fuses := Int.mul_le_mul_of_nonneg_right (by omega) (by omega)
        rw [Int.add_mul, Int.one_mul] at this
        omega
    unfold valB
    rw [hce, nX, R.cfg]
end Go.Proofs.Yteabcbpimjjdpaa
end

/- The store's laws, plain: what a Revoke leaves. Own work. -/
section
set_option maxRecDepth 100000
set_option linter.unusedVariables false
namespace Go.Proofs.Yteabcbpimjjdpaa
open Go Go.Vc

/-- A key's bit. -/
def keyB (C : Cm) (k : Nat) : Bool := C.s.blown.getD (C.cfg.slots * C.cfg.fuses + (k : Int)).toNat false
structure RevokedL (C D : Cm) (key : Nat) (e : Int) : Prop where
  cfg : D.cfg = C.cfg
  snd : sndM D
  vals : ∀ k : Nat, (k : Int) < C.cfg.slots → valB D k = valB C k
  other : ∀ k : Nat, k ≠ key → keyB D k = keyB C k
  up : keyB C key = true → keyB D key = true
  done : e = 0 → keyB D key = true
  bad : e ≠ 0 → e ≠ 8 → D = C
theorem revoke_law {C : Cm} (ok : C.ok) (ho : C.out = false) (snd : sndM C) {key : Nat} (hk : (key : Int) < C.cfg.keys) : RevokedL C (revokeM C (key : Int)).1 key (revokeM C (key : Int)).2 := by
  have hms := ok.may.slots
  have hfu := ok.may.fuses
  have h0 : 0 ≤ C.cfg.slots * C.cfg.fuses := Int.mul_nonneg (by omega) (by omega)
  have hbl := ok.fits.blown
  have hnf : C.cfg.nf = C.cfg.slots * C.cfg.fuses + C.cfg.keys := rfl
  have er : revokedM C (key : Int) = (keyB C key, 0) := by
    unfold revokedM
    rw [askedM_in ho (by omega) hk, if_neg (by simp)]; rfl
  unfold revokeM
  rw [er]
  dsimp only
  rw [if_neg (by simp)]
  by_cases g : keyB C key = true
  · rw [if_pos g]
    exact ⟨rfl, snd, fun _ _ => rfl, fun _ _ => rfl, fun y => y, fun _ => g, fun y => absurd rfl y⟩
  rw [if_neg g]
  obtain ⟨q, hq⟩ : ∃ q : Nat, C.cfg.slots * C.cfg.fuses + (key : Int) = (q : Int) := Int.eq_ofNat_of_zero_le (by omega)
  rw [hq]
  have hql : q < C.s.blown.length := by omega
  have B := blow_pages C (q : Int)
  have hb : (blowM C (q : Int)).1.s.blown = C.s.blown ∨ (blowM C (q : Int)).1.s.blown = C.s.blown.set q true := by
    by_cases hl : C.left = 0
    · exact (blow_cut ho hql hl).2.2
    · right; rw [blow_good ho hql hl]
  have he : (blowM C (q : Int)).2 = 0 → (blowM C (q : Int)).1.s.blown = C.s.blown.set q true := by
    intro y
    by_cases hl : C.left = 0
    · rw [(blow_cut ho hql hl).1] at y; exact absurd y (by decide)
    · rw [blow_good ho hql hl]
  have hbad : (blowM C (q : Int)).2 = 0 ∨ (blowM C (q : Int)).2 = 8 := by
    by_cases hl : C.left = 0
    · exact Or.inr (blow_cut ho hql hl).1
    · left; rw [blow_good ho hql hl]
  generalize blowM C (q : Int) = X at *
  obtain ⟨b1, _, b3⟩ := B
  have same : ∀ k, k ≠ q → X.1.s.blown.getD k false = C.s.blown.getD k false := by
    intro k hne
    rcases hb with y | y
    · rw [y]
    · rw [y]; simp only [List.getD, List.getElem?_set_ne (Ne.symm hne)]
  refine ⟨b3, ?_, ?_, ?_, fun y => absurd y g, ?_, fun h1 h2 => by rcases hbad with y | y; exact absurd y h1; exact absurd y h2⟩
  · intro x hx
    have := snd x hx
    unfold Cm.pg at this ⊢
    rw [b1, b3]
    exact this
  · intro k hk2
    have k0 : 0 ≤ (k : Int) * C.cfg.fuses := Int.mul_nonneg (by omega) (by omega)
    have k1 : ((k : Int) + 1) * C.cfg.fuses ≤ C.cfg.slots * C.cfg.fuses := Int.mul_le_mul_of_nonneg_right (by omega) (by omega)
    rw [Int.add_mul, Int.one_mul] at k1
    have hce : cntB X.1 k = cntB C k := by
      unfold cntB
      rw [b3]
      refine cnt_congr fun z h1 h2 => same z ?_
      omega
    unfold valB
    rw [hce, numOf_pages b3 b1, b3]
  · intro k hne
    unfold keyB
    rw [b3]
    exact same _ (by omega)
  · intro y
    unfold keyB
    rw [b3, hq, Int.toNat_natCast, he y]
    simp [List.getD, hql]
end Go.Proofs.Yteabcbpimjjdpaa
end

/- The store's laws: StoreFuses. Own work. -/
section
set_option maxRecDepth 100000
set_option linter.unusedVariables false
namespace Go.Proofs.Yteabcbpimjjdpaa
open Go Go.Vc

def valL (C : Cm) : List Int := tab C.cfg.slots.toNat (fun k => valS C (k : Int))
section
variable {h0 h : H} {A : List Ent} {i j p r b s m : Nat} {C : Cm}
theorem values_sp {Q : Option Addr → Nat → Nat → Bool → H → Prop} (hs : Sat h0 A h) (ci : At A i (chipE p C)) (cl : At A j (logE r p)) (st : At A m (storeE s p r)) (ho : C.out = false) {sl : Int} (es : C.cfg.slots = sl)
    (k : ∀ b c h', Sat h0 (slE (some ⟨b, 0, none⟩) sl.toNat c 1 (ints .i64 (valL C)) :: A) h' → Q (some ⟨b, 0, none⟩) sl.toNat c true h') : F_portcullislaw10_values ⟨s, 0, none⟩ sl Q h := by
  subst es
  unfold F_portcullislaw10_values G_portcullislaw10_values
  have ok := chip_ok hs ci
  have hsl := ok.may.slots
  intro n5 _ hn; replace hs := Sat.new hs hn; clear hn
  replace hs := (hs.drop).sl_nil 1 (some ⟨n5, 0, none⟩)
  intro J hJ
  obtain ⟨M, hM⟩ : ∃ M, M = C.cfg.slots.toNat := ⟨_, rfl⟩
  refine loop_st M (fun m (q : Option Addr × Nat) => [.dv (.one (.slice q.1 m q.2)), si m]) (fun m q h => Sat h0 (slE q.1 m q.2 1 (ints .i64 (tab m (fun k => valS C (k : Int)))) :: A) h) ?_ ?_ 0 (some ⟨n5, 0, none⟩, 0) _ (by omega) hs
  · rintro m ⟨o, c⟩ h1 hm hs hk
    dsimp only at hs
    apply hJ
    rw [ltI_eq, if_pos (by simp; omega)]
    refine sRead_sp hs ci.s cl.s st.s (m : Int) ?_
    intro h2 hs
    have e : sRead C (m : Int) = (valS C (m : Int), 0) := by
      unfold sRead
      rw [askedM_in ho (by omega) (by omega), if_neg (by simp)]
    rw [e, if_neg (by simp)]
    intro n17 _ hn; replace hs := Sat.new hs hn; clear hn
    have hr := hs.bv (i := 0) (l := 1) (sz := 1) .z rfl (by intro v hv; simp at hv; rw [hv]; rfl)
    refine ⟨_, hr, ?_⟩
    refine Sat.app hs (i := 1) (vs := [.int .i64 (valS C (m : Int))]) (.s .z) rfl rfl (by intro v hv; simp at hv; rw [hv]; rfl) (by omega) ?_
    intro p' c' h4 hs
    rw [put_succ, put_zero] at hs
    rw [wrap_succ (by omega)]
    have ea : ints .i64 (tab m (fun k => valS C (k : Int))) ++ [.int .i64 (valS C (m : Int))] = ints .i64 (tab (m + 1) (fun k => valS C (k : Int))) := by rw [tab_succ]; simp [ints]
    rw [ea] at hs
    exact hk (p', c') _ hs.drop
  · rintro ⟨o, c⟩ h1 hs
    dsimp only at hs
    apply hJ
    rw [ltI_eq, if_neg (by simp; omega)]
    rw [hM] at hs ⊢
    obtain ⟨b, rfl⟩ := hs.sl_some (i := 0) .z (by omega)
    exact k _ _ _ hs
theorem val_ld (hs : Sat h0 A h) {b l c : Nat} (m : At A i (slE (some ⟨b, 0, none⟩) l c 1 (ints .i64 (valL C)))) {k : Nat} (hk : (k : Int) < C.cfg.slots) : hc h ⟨b, k, none⟩ = some (.int .i64 (valS C (k : Int))) := by
  refine hs.sld m ?_
  unfold valL; rw [ints_get, tab_get, if_pos (by omega)]; rfl
end
end Go.Proofs.Yteabcbpimjjdpaa
end

/- StoreNeverBack: holds. Own work. -/
section
set_option maxRecDepth 100000
set_option linter.unusedVariables false
namespace Go.Proofs.Yteabcbpimjjdpaa
open Go Go.Vc

theorem ints_at {l : List Int} {k : Nat} (h : k < l.length) : (ints .i64 l)[k]? = some (.int .i64 (l.getD k 0)) := by
  rw [ints_get, List.getElem?_eq_getElem h]; simp [List.getD, List.getElem?_eq_getElem h]
theorem bools_at {l : List Bool} {k : Nat} (h : k < l.length) : (bools l)[k]? = some (.bool (l.getD k false)) := by
  rw [bools_get, List.getElem?_eq_getElem h]; simp [List.getD, List.getElem?_eq_getElem h]
theorem bools_put (l : List Bool) (k : Nat) (b : Bool) : splice (bools l) k [.bool b] = bools (l.set k b) := by
  show (bools l).set k (.bool b) = _
  unfold bools
  rw [List.map_set]
theorem ints_put (l : List Int) (k : Nat) (v : Int) : splice (ints .i64 l) k [.int .i64 v] = ints .i64 (l.set k v) := by
  show (ints .i64 l).set k (.int .i64 v) = _
  rw [ints_set]
abbrev hldL (hb ln mn rn yn S K : Nat) (le mo : List Int) (re ma : List Bool) (R : List Ent) : List Ent :=
  blk hb [.slice (some ⟨ln, 0, none⟩) S S, .slice (some ⟨mn, 0, none⟩) S S, .slice (some ⟨rn, 0, none⟩) K K] :: blk ln (ints .i64 le) :: blk mn (ints .i64 mo) :: blk rn (bools re) :: blk yn (bools ma) :: R
theorem bget_set (l : List Bool) (j k : Nat) (v : Bool) : (l.set j v).getD k false = if j = k ∧ k < l.length then v else l.getD k false := by
  rw [List.getD_eq_getElem?_getD, List.getElem?_set]
  by_cases c : j = k
  · subst c
    by_cases d : j < l.length
    · simp [d]
    · simp [d]
  · simp [c]
section
variable {h0 h : H} {B : List Ent} {hb ln mn rn yn S K s px l : Nat} {C : Cm}
theorem holds_sp {Q : Bool → H → Prop} {le mo : List Int} {re ma : List Bool} (eS : (S : Int) = C.cfg.slots) (eK : (K : Int) = C.cfg.keys) (ho : C.out = false)
    (hs : Sat h0 (hldL hb ln mn rn yn S K le mo re ma (storeE s px l :: logE l px :: chipE px C :: B)) h) (l1 : le.length = S) (l2 : mo.length = S) (l3 : re.length = K) (l4 : ma.length = K)
    (c1 : ∀ k, k < S → le.getD k 0 ≤ valB C k ∧ (valB C k = le.getD k 0 ∨ valB C k = mo.getD k 0))
    (c2 : ∀ k, k < K → (re.getD k false = true → keyB C k = true) ∧ (keyB C k = true → re.getD k false = true ∨ ma.getD k false = true))
    (k : ∀ (le mo : List Int) (re ma : List Bool) h', le.length = S → mo.length = S → re.length = K → ma.length = K → (∀ k, k < S → le.getD k 0 = valB C k ∧ mo.getD k 0 = valB C k) → (∀ k, k < K → re.getD k false = keyB C k ∧ ma.getD k false = false) →
      Sat h0 (hldL hb ln mn rn yn S K le mo re ma (storeE s px l :: logE l px :: chipE px C :: B)) h' → Q true h') :
    F_portcullislaw10_held_holds ⟨hb, 0, none⟩ C.cfg.cells C.cfg.slots C.cfg.fuses C.cfg.step C.cfg.keys C.cfg.erases C.cfg.area ⟨s, 0, none⟩ (some ⟨yn, 0, none⟩) K K Q h := by
  unfold F_portcullislaw10_held_holds G_portcullislaw10_held_holds
  try simp only [add_mk, Nat.zero_add, List.append_nil]
  have ok := chip_ok hs (i := 7) (by (repeat (first | exact At.z | apply At.s)))
  have hms := ok.may.slots
  have hmk := ok.may.keys
  intro n16 _ hn; replace hs := Sat.new hs hn; clear hn
  refine ⟨_, hs.ld (i := 0) .z rfl, ?_⟩
  refine values_sp hs (i := 8) (j := 7) (m := 6) (by (repeat (first | exact At.z | apply At.s))) (by (repeat (first | exact At.z | apply At.s))) (by (repeat (first | exact At.z | apply At.s))) ho rfl ?_
  intro vb vc h1 hs
  have eS2 : C.cfg.slots.toNat = S := by omega
  rw [eS2] at hs ⊢
  rw [if_neg (by simp)]
  intro J hJ
  refine loop_up S (fun i h => ∃ le mo : List Int, le.length = S ∧ mo.length = S ∧ (∀ k, k < i → le.getD k 0 = valB C k ∧ mo.getD k 0 = valB C k) ∧ (∀ k, i ≤ k → k < S → le.getD k 0 ≤ valB C k ∧ (valB C k = le.getD k 0 ∨ valB C k = mo.getD k 0)) ∧
    Sat h0 (slE (some ⟨vb, 0, none⟩) S vc 1 (ints .i64 (valL C)) :: blk n16 [.int .i64 C.cfg.cells, .int .i64 C.cfg.slots, .int .i64 C.cfg.fuses, .int .i64 C.cfg.step, .int .i64 C.cfg.keys, .int .i64 C.cfg.erases, .int .i64 C.cfg.area] :: hldL hb ln mn rn yn S K le mo re ma (storeE s px l :: logE l px :: chipE px C :: B)) h) ?_ ?_ 0 _ (by omega)
    ⟨le, mo, l1, l2, fun k hk => absurd hk (by omega), fun k _ hk => c1 k hk, hs⟩
  · rintro i h2 hi ⟨le, mo, l1, l2, d1, d2, hs⟩ hk
    apply hJ
    refine ⟨_, hs.ld (i := 1) (.s .z) rfl, ?_⟩
    rw [ltI_eq, if_pos (by simp; omega)]
    have gV := val_ld hs (i := 0) .z (k := i) (by omega)
    rw [valS_B ho (by omega)] at gV
    have gL := hs.ld (i := 3) (b := ln) (by (repeat (first | exact At.z | apply At.s))) (ints_at (l := le) (k := i) (by omega))
    have gM := hs.ld (i := 4) (b := mn) (by (repeat (first | exact At.z | apply At.s))) (ints_at (l := mo) (k := i) (by omega))
    have gH0 := hs.ld (i := 2) (b := hb) (o := 0) (by (repeat (first | exact At.z | apply At.s))) rfl
    have gH1 := hs.ld (i := 2) (b := hb) (o := 1) (by (repeat (first | exact At.z | apply At.s))) rfl
    obtain ⟨e1, e2⟩ := d2 i (Nat.le_refl _) hi
    intro J29 hJ29
    have way : J29 [] h2 := by
      apply hJ29
      clear hJ29 J29
      refine ⟨_, _, _, gH0, _, rfl, by omega, by omega, ?_⟩
      simp only [Int.toNat_natCast, Nat.mul_one, add_mk, Nat.zero_add]
      refine ⟨_, gV, _, rfl, by omega, by omega, ?_⟩
      simp only [Int.toNat_natCast, Nat.mul_one, add_mk, Nat.zero_add]
      refine ⟨Sat.can hs (i := 3) (b := ln) (by (repeat (first | exact At.z | apply At.s))) (by simp; omega), ?_⟩
      intro h3 e
      replace hs := Sat.wr hs (i := 3) (b := ln) (by (repeat (first | exact At.z | apply At.s))) e
      clear e
      rw [ints_put] at hs
      simp only [put_succ, put_zero] at hs
      refine ⟨_, _, _, hs.ld (i := 2) (b := hb) (by (repeat (first | exact At.z | apply At.s))) rfl, _, rfl, by omega, by omega, ?_⟩
      simp only [Int.toNat_natCast, Nat.mul_one, add_mk, Nat.zero_add]
      have gV := val_ld hs (i := 0) .z (k := i) (by omega)
      rw [valS_B ho (by omega)] at gV
      refine ⟨_, gV, _, rfl, by omega, by omega, ?_⟩
      simp only [Int.toNat_natCast, Nat.mul_one, add_mk, Nat.zero_add]
      refine ⟨Sat.can hs (i := 4) (b := mn) (by (repeat (first | exact At.z | apply At.s))) (by simp; omega), ?_⟩
      intro h4 e
      replace hs := Sat.wr hs (i := 4) (b := mn) (by (repeat (first | exact At.z | apply At.s))) e
      clear e
      rw [ints_put] at hs
      simp only [put_succ, put_zero] at hs
      rw [wrap_succ (by omega)]
      refine hk _ ⟨_, _, by rw [List.length_set]; exact l1, by rw [List.length_set]; exact l2, ?_, ?_, hs⟩
      · intro k hk
        rw [set_getD, set_getD]
        by_cases c : i = k
        · rw [if_pos ⟨c, by omega⟩, if_pos ⟨c, by omega⟩, c]; exact ⟨rfl, rfl⟩
        · rw [if_neg (fun y => c y.1), if_neg (fun y => c y.1)]; exact d1 k (by omega)
      · intro k h1 h2
        rw [set_getD, set_getD, if_neg (by omega), if_neg (by omega)]
        exact d2 k (by omega) h2
    refine ⟨_, rfl, by omega, by omega, ?_⟩
    simp only [Int.toNat_natCast, Nat.mul_one, add_mk, Nat.zero_add]
    refine ⟨_, gV, _, _, _, gH0, _, rfl, by omega, by omega, ?_⟩
    simp only [Int.toNat_natCast, Nat.mul_one, add_mk, Nat.zero_add]
    refine ⟨_, gL, ?_⟩
    by_cases g : valB C i = le.getD i 0
    · rw [if_neg (by rw [bne_iff_ne]; exact fun y => y g)]
      refine ⟨_, rfl, by omega, by omega, ?_⟩
      simp only [Int.toNat_natCast, Nat.mul_one, add_mk, Nat.zero_add]
      refine ⟨_, gV, _, _, _, gH0, _, rfl, by omega, by omega, ?_⟩
      simp only [Int.toNat_natCast, Nat.mul_one, add_mk, Nat.zero_add]
      refine ⟨_, gL, ?_⟩
      rw [ltI_eq, if_neg (by rw [decide_eq_true_iff]; omega)]
      exact way
    · rw [if_pos (by rw [bne_iff_ne]; exact g)]
      have g2 : valB C i = mo.getD i 0 := by
        rcases e2 with y | y
        · exact absurd y g
        · exact y
      refine ⟨_, rfl, by omega, by omega, ?_⟩
      simp only [Int.toNat_natCast, Nat.mul_one, add_mk, Nat.zero_add]
      refine ⟨_, gV, _, _, _, gH1, _, rfl, by omega, by omega, ?_⟩
      simp only [Int.toNat_natCast, Nat.mul_one, add_mk, Nat.zero_add]
      refine ⟨_, gM, ?_⟩
      rw [if_neg (by rw [bne_iff_ne]; exact fun y => y g2)]
      refine ⟨_, rfl, by omega, by omega, ?_⟩
      simp only [Int.toNat_natCast, Nat.mul_one, add_mk, Nat.zero_add]
      refine ⟨_, gV, _, _, _, gH0, _, rfl, by omega, by omega, ?_⟩
      simp only [Int.toNat_natCast, Nat.mul_one, add_mk, Nat.zero_add]
      refine ⟨_, gL, ?_⟩
      rw [ltI_eq, if_neg (by rw [decide_eq_true_iff]; omega)]
      exact way
  · rintro h2 ⟨le, mo, l1, l2, d1, _, hs⟩
    apply hJ
    refine ⟨_, hs.ld (i := 1) (.s .z) rfl, ?_⟩
    rw [ltI_eq, if_neg (by simp; omega)]
    clear hJ
    intro J hJ
    refine loop_up K (fun i h => ∃ re ma : List Bool, re.length = K ∧ ma.length = K ∧ (∀ k, k < i → re.getD k false = keyB C k ∧ ma.getD k false = false) ∧ (∀ k, i ≤ k → k < K → (re.getD k false = true → keyB C k = true) ∧ (keyB C k = true → re.getD k false = true ∨ ma.getD k false = true)) ∧
      Sat h0 (slE (some ⟨vb, 0, none⟩) S vc 1 (ints .i64 (valL C)) :: blk n16 [.int .i64 C.cfg.cells, .int .i64 C.cfg.slots, .int .i64 C.cfg.fuses, .int .i64 C.cfg.step, .int .i64 C.cfg.keys, .int .i64 C.cfg.erases, .int .i64 C.cfg.area] :: hldL hb ln mn rn yn S K le mo re ma (storeE s px l :: logE l px :: chipE px C :: B)) h) ?_ ?_ 0 _ (by omega)
      ⟨re, ma, l3, l4, fun k hk => absurd hk (by omega), fun k _ hk => c2 k hk, hs⟩
    · rintro i h3 hi ⟨re, ma, l3, l4, d3, d4, hs⟩ hk
      apply hJ
      refine ⟨_, hs.ld (i := 1) (.s .z) rfl, ?_⟩
      rw [ltI_eq, if_pos (by simp; omega)]
      refine sRevoked_sp hs (i := 9) (m := 7) (by (repeat (first | exact At.z | apply At.s))) (by (repeat (first | exact At.z | apply At.s))) (i : Int) ?_
      intro h4 hs
      have er : revokedM C (i : Int) = (keyB C i, 0) := by
        unfold revokedM
        rw [askedM_in ho (by omega) (by omega), if_neg (by simp)]; rfl
      rw [er]
      have gR := hs.ld (i := 5) (b := rn) (by (repeat (first | exact At.z | apply At.s))) (bools_at (l := re) (k := i) (by omega))
      have gY := hs.ld (i := 6) (b := yn) (by (repeat (first | exact At.z | apply At.s))) (bools_at (l := ma) (k := i) (by omega))
      have gH2 := hs.ld (i := 2) (b := hb) (o := 2) (by (repeat (first | exact At.z | apply At.s))) rfl
      obtain ⟨e1, e2⟩ := d4 i (Nat.le_refl _) hi
      intro J84 hJ84
      have way : J84 [] h4 := by
        apply hJ84
        clear hJ84 J84
        refine ⟨_, _, _, gH2, _, rfl, by omega, by omega, ?_⟩
        simp only [Int.toNat_natCast, Nat.mul_one, add_mk, Nat.zero_add]
        refine ⟨Sat.can hs (i := 5) (b := rn) (by (repeat (first | exact At.z | apply At.s))) (by simp; omega), ?_⟩
        intro h5 e
        replace hs := Sat.wr hs (i := 5) (b := rn) (by (repeat (first | exact At.z | apply At.s))) e
        clear e
        rw [bools_put] at hs
        simp only [put_succ, put_zero] at hs
        refine ⟨_, rfl, by omega, by omega, ?_⟩
        simp only [Int.toNat_natCast, Nat.mul_one, add_mk, Nat.zero_add]
        refine ⟨Sat.can hs (i := 6) (b := yn) (by (repeat (first | exact At.z | apply At.s))) (by simp; omega), ?_⟩
        intro h6 e
        replace hs := Sat.wr hs (i := 6) (b := yn) (by (repeat (first | exact At.z | apply At.s))) e
        clear e
        rw [bools_put] at hs
        simp only [put_succ, put_zero] at hs
        rw [wrap_succ (by omega)]
        refine hk _ ⟨_, _, by rw [List.length_set]; exact l3, by rw [List.length_set]; exact l4, ?_, ?_, hs⟩
        · intro k hk
          rw [bget_set, bget_set]
          by_cases c : i = k
          · rw [if_pos ⟨c, by omega⟩, if_pos ⟨c, by omega⟩, c]; exact ⟨rfl, rfl⟩
          · rw [if_neg (fun y => c y.1), if_neg (fun y => c y.1)]; exact d3 k (by omega)
        · intro k h1 h2
          rw [bget_set, bget_set, if_neg (by omega), if_neg (by omega)]
          exact d4 k (by omega) h2
      rw [if_neg (by simp)]
      refine ⟨_, _, _, gH2, _, rfl, by omega, by omega, ?_⟩
      simp only [Int.toNat_natCast, Nat.mul_one, add_mk, Nat.zero_add]
      refine ⟨_, gR, ?_⟩
      try dsimp only
      have tail : ∀ (g : keyB C i = true), ∃ (o : Option Addr) (n m : Nat), hc h4 ⟨hb, 2, none⟩ = some (.slice o n m) ∧ ∃ p : Addr, o = some p ∧ 0 ≤ (i : Int) ∧ (i : Int) < n ∧ ∃ b : Bool, hc h4 (p.add i) = some (.bool b) ∧
          if (!b) = true then ∃ p2 : Addr, some (⟨yn, 0, none⟩ : Addr) = some p2 ∧ 0 ≤ (i : Int) ∧ (i : Int) < (K : Int) ∧ ∃ b2 : Bool, hc h4 (p2.add i) = some (.bool b2) ∧ if (!b2) = true then Q false h4 else J84 [] h4
          else J84 [] h4 := by
        intro g
        refine ⟨_, _, _, gH2, _, rfl, by omega, by omega, ?_⟩
        simp only [Int.toNat_natCast, Nat.mul_one, add_mk, Nat.zero_add]
        refine ⟨_, gR, ?_⟩
        by_cases r : re.getD i false = true
        · rw [if_neg (by rw [r]; decide)]; exact way
        · have r' : re.getD i false = false := by simpa using r
          rw [if_pos (by rw [r']; decide)]
          refine ⟨_, rfl, by omega, by omega, ?_⟩
          simp only [Int.toNat_natCast, Nat.mul_one, add_mk, Nat.zero_add]
          refine ⟨_, gY, ?_⟩
          have : ma.getD i false = true := by
            rcases e2 g with y | y
            · exact absurd y r
            · exact y
          rw [if_neg (by rw [this]; decide)]
          exact way
      by_cases r : re.getD i false = true
      · rw [if_pos r, if_neg (by rw [e1 r]; decide), if_pos (e1 r)]
        exact tail (e1 r)
      · rw [if_neg r]
        by_cases g : keyB C i = true
        · rw [if_pos g]
          exact tail g
        · rw [if_neg g]
          exact way
    · rintro h3 ⟨re, ma, l3, l4, d3, _, hs⟩
      apply hJ
      refine ⟨_, hs.ld (i := 1) (.s .z) rfl, ?_⟩
      rw [ltI_eq, if_neg (by simp; omega)]
      exact k le mo re ma _ l1 l2 l3 l4 d1 d3 hs.drop.drop
end
end Go.Proofs.Yteabcbpimjjdpaa
end

/- StoreNeverBack: bumped. Own work. -/
section
set_option maxRecDepth 100000
set_option linter.unusedVariables false
namespace Go.Proofs.Yteabcbpimjjdpaa
open Go Go.Vc

/-- The lists behind a bump. -/
structure BumpL (C D : Cm) (S : Nat) (le mo : List Int) : Prop where
  ok : D.cfg = C.cfg
  snd : sndM D
  l1 : le.length = S
  l2 : mo.length = S
  c1 : ∀ k, k < S → le.getD k 0 ≤ valB D k ∧ (valB D k = le.getD k 0 ∨ valB D k = mo.getD k 0)
  keys : ∀ k : Nat, keyB D k = keyB C k
section
variable {h0 h : H} {B : List Ent} {hb ln mn rn yn S K s px l : Nat} {C : Cm}
theorem bumpL_of {C D : Cm} {slot : Nat} {v e : Int} {S : Nat} {le mo : List Int} (ok : C.ok) (eS : (S : Int) = C.cfg.slots) (b : Bumped C D slot v e) (hslot : slot < S) (l1 : le.length = S) (l2 : mo.length = S) (d1 : ∀ k, k < S → le.getD k 0 = valB C k ∧ mo.getD k 0 = valB C k) {x y : Int}
    (hx : x = if e = 0 then max v (valB C slot) else valB C slot) (hy : e = 0 ∨ e = 8 → y = max v (valB C slot)) : BumpL C D S (le.set slot x) (mo.set slot y) := by
  have h0 : 0 ≤ C.cfg.slots * C.cfg.fuses := Int.mul_nonneg (by have := ok.may.slots; omega) (by have := ok.may.fuses; omega)
  refine ⟨b.cfg, b.snd, by rw [List.length_set]; exact l1, by rw [List.length_set]; exact l2, ?_, ?_⟩
  · intro k hk
    rw [set_getD, set_getD]
    by_cases c : slot = k
    · subst c
      rw [if_pos ⟨rfl, by omega⟩, if_pos ⟨rfl, by omega⟩]
      by_cases e0 : e = 0
      · rw [if_pos e0] at hx
        have := b.done e0
        exact ⟨by omega, Or.inl (by omega)⟩
      rw [if_neg e0] at hx
      rcases b.me with y' | ⟨y1, y2⟩
      · exact ⟨by omega, Or.inl (by omega)⟩
      · by_cases e8 : e = 8
        · have := hy (Or.inr e8)
          exact ⟨by omega, Or.inr (by omega)⟩
        · have := b.bad e0 e8
          rw [this] at y1
          exact ⟨by omega, Or.inl (by omega)⟩
    · rw [if_neg (fun y => c y.1), if_neg (fun y => c y.1), b.other k (by omega) (fun y => c y.symm)]
      have := d1 k hk
      exact ⟨by omega, Or.inl (by omega)⟩
  · intro k
    unfold keyB
    rw [b.cfg]
    exact b.keys _ (by omega)
theorem set_same (l : List Int) (k : Nat) : l.set k (l.getD k 0) = l := by
  apply List.ext_getElem?
  intro j
  rw [List.getElem?_set]
  by_cases c : k = j
  · subst c
    by_cases d : k < l.length
    · simp [d, List.getD, List.getElem?_eq_getElem d]
    · simp [d]
  · simp [c]
theorem bumped_sp {Q : H → Prop} {le mo : List Int} {re ma : List Bool} {mp : Option Addr} {ml mc : Nat} (eS : (S : Int) = C.cfg.slots) (ho : C.out = false) (snd : sndM C) (kind n v : Int)
    (hs : Sat h0 (hldL hb ln mn rn yn S K le mo re ma (storeE s px l :: logE l px :: chipE px C :: B)) h) (l1 : le.length = S) (l2 : mo.length = S) (d1 : ∀ k, k < S → le.getD k 0 = valB C k ∧ mo.getD k 0 = valB C k)
    (k : ∀ (D : Cm) (le mo : List Int) h', BumpL C D S le mo → Sat h0 (hldL hb ln mn rn yn S K le mo re ma (storeE s px l :: logE l px :: chipE px D :: B)) h' → Q h') :
    F_portcullislaw10_held_bumped ⟨hb, 0, none⟩ C.cfg.cells C.cfg.slots C.cfg.fuses C.cfg.step C.cfg.keys C.cfg.erases C.cfg.area ⟨s, 0, none⟩ kind n v mp ml mc Q h := by
  unfold F_portcullislaw10_held_bumped G_portcullislaw10_held_bumped
  try simp only [add_mk, Nat.zero_add, List.append_nil]
  have ok := chip_ok hs (i := 7) (by (repeat (first | exact At.z | apply At.s)))
  have hms := ok.may.slots
  have hmv := most_val
  intro n19 _ hn; replace hs := Sat.new hs hn; clear hn
  intro n22 _ hn; replace hs := Sat.new hs hn; clear hn
  refine ⟨_, hs.ld (i := 0) .z rfl, ?_⟩
  intro J26 hJ26
  obtain ⟨cb, hcb⟩ : ∃ cb, cb = blk n19 [.int .i64 C.cfg.cells, .int .i64 C.cfg.slots, .int .i64 C.cfg.fuses, .int .i64 C.cfg.step, .int .i64 C.cfg.keys, .int .i64 C.cfg.erases, .int .i64 C.cfg.area] := ⟨_, rfl⟩
  have still : BumpL C C S le mo := ⟨rfl, snd, l1, l2, fun k hk => by have := d1 k hk; exact ⟨by omega, Or.inl (by omega)⟩, fun _ => rfl⟩
  -- behind the call
  have way : ∀ (D : Cm) (e w : Int) h', (∀ slot : Nat, n = (slot : Int) → slot < S → Bumped C D slot w e) → ((n < 0 ∨ C.cfg.slots ≤ n) → D = C) →
      Sat h0 (blk n22 [.int .i64 kind, .int .i64 n, .int .i64 v, .slice mp ml mc] :: blk n19 [.int .i64 C.cfg.cells, .int .i64 C.cfg.slots, .int .i64 C.cfg.fuses, .int .i64 C.cfg.step, .int .i64 C.cfg.keys, .int .i64 C.cfg.erases, .int .i64 C.cfg.area] :: hldL hb ln mn rn yn S K le mo re ma (storeE s px l :: logE l px :: chipE px D :: B)) h' →
      J26 [.dv (.one (.int .i64 e)), .dv (.one (.int .i64 w))] h' := by
    intro D e w h' hB hC hs
    apply hJ26
    intro J30 hJ30
    refine ⟨_, hs.ld (i := 0) .z rfl, ?_⟩
    by_cases g0 : n < 0
    · rw [ltI_eq, if_pos (by simpa using g0)]
      have := hC (Or.inl g0)
      subst this
      exact k _ _ _ _ still hs.drop.drop
    rw [ltI_eq, if_neg (by simpa using g0)]
    refine ⟨_, hs.ld (i := 0) .z rfl, _, hs.ld (i := 1) (.s .z) rfl, ?_⟩
    by_cases g1 : C.cfg.slots ≤ n
    · rw [leI_eq, if_pos (by simpa using g1)]
      have := hC (Or.inr g1)
      subst this
      exact k _ _ _ _ still hs.drop.drop
    rw [leI_eq, if_neg (by simpa using g1)]
    obtain ⟨slot, rfl⟩ := Int.eq_ofNat_of_zero_le (show 0 ≤ n by omega)
    have hsl : slot < S := by omega
    have b := hB slot rfl hsl
    obtain ⟨dl, dm⟩ := d1 slot hsl
    apply hJ30
    clear hJ30 J30
    intro J32 hJ32
    have gL := hs.ld (i := 3) (b := ln) (by (repeat (first | exact At.z | apply At.s))) (ints_at (l := le) (k := slot) (by omega))
    have gM := hs.ld (i := 4) (b := mn) (by (repeat (first | exact At.z | apply At.s))) (ints_at (l := mo) (k := slot) (by omega))
    have gH0 := hs.ld (i := 2) (b := hb) (o := 0) (by (repeat (first | exact At.z | apply At.s))) rfl
    have gH1 := hs.ld (i := 2) (b := hb) (o := 1) (by (repeat (first | exact At.z | apply At.s))) rfl
    have gN := hs.ld (i := 0) (b := n22) (o := 1) .z rfl
    by_cases e0 : e = 0
    · rw [if_pos (by simpa using e0)]
      refine ⟨_, _, _, gH1, _, gN, _, _, _, gH1, _, gN, _, rfl, by omega, by omega, ?_⟩
      simp only [Int.toNat_natCast, Nat.mul_one, add_mk, Nat.zero_add]
      refine ⟨_, gM, _, rfl, by omega, by omega, ?_⟩
      simp only [Int.toNat_natCast, Nat.mul_one, add_mk, Nat.zero_add]
      refine ⟨Sat.can hs (i := 4) (b := mn) (by (repeat (first | exact At.z | apply At.s))) (by simp; omega), ?_⟩
      intro h3 e3
      replace hs := Sat.wr hs (i := 4) (b := mn) (by (repeat (first | exact At.z | apply At.s))) e3
      clear e3
      rw [ints_put] at hs
      simp only [put_succ, put_zero] at hs
      apply hJ32
      rw [if_pos (by simpa using e0)]
      have gL := hs.ld (i := 3) (b := ln) (by (repeat (first | exact At.z | apply At.s))) (ints_at (l := le) (k := slot) (by omega))
      have gH0 := hs.ld (i := 2) (b := hb) (o := 0) (by (repeat (first | exact At.z | apply At.s))) rfl
      have gN := hs.ld (i := 0) (b := n22) (o := 1) .z rfl
      refine ⟨_, _, _, gH0, _, gN, _, _, _, gH0, _, gN, _, rfl, by omega, by omega, ?_⟩
      simp only [Int.toNat_natCast, Nat.mul_one, add_mk, Nat.zero_add]
      refine ⟨_, gL, _, rfl, by omega, by omega, ?_⟩
      simp only [Int.toNat_natCast, Nat.mul_one, add_mk, Nat.zero_add]
      refine ⟨Sat.can hs (i := 3) (b := ln) (by (repeat (first | exact At.z | apply At.s))) (by simp; omega), ?_⟩
      intro h4 e4
      replace hs := Sat.wr hs (i := 3) (b := ln) (by (repeat (first | exact At.z | apply At.s))) e4
      clear e4
      rw [ints_put] at hs
      simp only [put_succ, put_zero] at hs
      refine k _ _ _ _ (bumpL_of ok eS b hsl l1 l2 d1 ?_ ?_) hs.drop.drop
      · rw [if_pos e0]; split <;> omega
      · intro _; split <;> omega
    rw [if_neg (by simpa using e0)]
    by_cases e8 : e = 8
    · rw [if_pos (by simpa using e8)]
      refine ⟨_, _, _, gH1, _, gN, _, _, _, gH1, _, gN, _, rfl, by omega, by omega, ?_⟩
      simp only [Int.toNat_natCast, Nat.mul_one, add_mk, Nat.zero_add]
      refine ⟨_, gM, _, rfl, by omega, by omega, ?_⟩
      simp only [Int.toNat_natCast, Nat.mul_one, add_mk, Nat.zero_add]
      refine ⟨Sat.can hs (i := 4) (b := mn) (by (repeat (first | exact At.z | apply At.s))) (by simp; omega), ?_⟩
      intro h3 e3
      replace hs := Sat.wr hs (i := 4) (b := mn) (by (repeat (first | exact At.z | apply At.s))) e3
      clear e3
      rw [ints_put] at hs
      simp only [put_succ, put_zero] at hs
      apply hJ32
      rw [if_neg (by simpa using e0)]
      have := bumpL_of (x := le.getD slot 0) (y := if w > mo.getD slot 0 then w else mo.getD slot 0) ok eS b hsl l1 l2 d1 (by rw [if_neg e0]; exact dl) (fun _ => by split <;> omega)
      rw [set_same] at this
      exact k _ _ _ _ this hs.drop.drop
    · rw [if_neg (by simpa using e8)]
      apply hJ32
      rw [if_neg (by simpa using e0)]
      have := bumpL_of (x := le.getD slot 0) (y := mo.getD slot 0) ok eS b hsl l1 l2 d1 (by rw [if_neg e0]; exact dl) (fun y => by omega)
      rw [set_same, set_same] at this
      exact k _ _ _ _ this hs.drop.drop
  have hout : (n < 0 ∨ C.cfg.slots ≤ n) → sRead C n = (0, 2) := by
    intro y
    have : askedM C n C.cfg.slots = 2 := by
      rcases y with y | y
      · exact askedM_neg ho y
      · exact askedM_hi ho y
    unfold sRead
    rw [this, if_pos (by decide)]
  have hin : ∀ slot : Nat, slot < S → sRead C (slot : Int) = (valB C slot, 0) := by
    intro slot hsl
    unfold sRead
    rw [askedM_in ho (by omega) (by omega), if_neg (by simp), valS_B ho (by omega)]
  refine ⟨_, hs.ld (i := 0) .z rfl, ?_⟩
  by_cases k2 : kind = 2
  · rw [if_pos (by simpa using k2)]
    refine ⟨_, hs.ld (i := 0) .z rfl, ?_⟩
    refine sBump_sp hs (i := 9) (j := 8) (m := 7) (by (repeat (first | exact At.z | apply At.s))) (by (repeat (first | exact At.z | apply At.s))) (by (repeat (first | exact At.z | apply At.s))) (by decide) (by decide) n ?_
    intro h1 hs
    simp only [put_succ, put_zero] at hs
    intro J87 hJ87
    by_cases gin : n < 0 ∨ C.cfg.slots ≤ n
    · have e : sBump C n = ((0, 2), C) := by unfold sBump; rw [hout gin, if_pos (by decide)]
      rw [e] at hs ⊢
      dsimp only at hs ⊢
      have fin : J87 [.dv (.one (.bool false))] h1 := by
        apply hJ87
        rw [if_neg (by decide)]
        rw [e]
        exact way C 2 0 _ (fun slot y1 y2 => by omega) (fun _ => rfl) hs
      rw [if_pos (by decide)]
      refine ⟨_, hs.ld (i := 0) .z rfl, ?_⟩
      rw [leI_eq]
      by_cases g : 0 ≤ n
      · rw [if_pos (by simpa using g)]
        refine ⟨_, hs.ld (i := 0) .z rfl, _, hs.ld (i := 1) (.s .z) rfl, ?_⟩
        rw [ltI_eq, decide_eq_false (by omega)]
        exact fin
      · rw [if_neg (by simpa using g)]
        exact fin
    · obtain ⟨slot, rfl⟩ := Int.eq_ofNat_of_zero_le (show 0 ≤ n by omega)
      have hsl : slot < S := by omega
      have hbm := bump_law ok ho snd (slot := slot) (by omega) (valB C slot + 1)
      have hvb := valS_in ok (slot : Int)
      rw [valS_B ho (by omega)] at hvb
      have eB : sBump C (slot : Int) = if (sBumpTo C (slot : Int) (valB C slot + 1)).2 ≠ 0 then ((0, (sBumpTo C (slot : Int) (valB C slot + 1)).2), (sBumpTo C (slot : Int) (valB C slot + 1)).1) else ((valB C slot + 1, 0), (sBumpTo C (slot : Int) (valB C slot + 1)).1) := by
        unfold sBump; rw [hin slot hsl, if_neg (by simp)]
      generalize sBumpTo C (slot : Int) (valB C slot + 1) = X at *
      by_cases gx : X.2 = 0
      · rw [if_neg (fun y => y gx)] at eB
        rw [eB] at hs ⊢
        dsimp only at hs ⊢
        rw [if_neg (by decide)]
        apply hJ87
        rw [if_neg (by decide)]
        rw [gx] at hbm
        rw [eB]
        exact way X.1 0 _ _ (fun sl y1 y2 => by have : sl = slot := by omega
                                                rw [this]; exact hbm) (fun y => by omega) hs
      · rw [if_pos gx] at eB
        rw [eB] at hs ⊢
        dsimp only at hs ⊢
        rw [if_pos (by simpa using gx)]
        refine ⟨_, hs.ld (i := 0) .z rfl, ?_⟩
        rw [leI_eq, if_pos (by simp)]
        refine ⟨_, hs.ld (i := 0) .z rfl, _, hs.ld (i := 1) (.s .z) rfl, ?_⟩
        rw [ltI_eq, decide_eq_true (by omega)]
        apply hJ87
        rw [if_pos (by decide)]
        have gM := hs.ld (i := 4) (b := mn) (by (repeat (first | exact At.z | apply At.s))) (ints_at (l := mo) (k := slot) (by omega))
        rw [(d1 slot hsl).2] at gM
        refine ⟨_, _, _, hs.ld (i := 2) (b := hb) (o := 1) (by (repeat (first | exact At.z | apply At.s))) rfl, _, hs.ld (i := 0) (b := n22) (o := 1) .z rfl, _, rfl, by omega, by omega, ?_⟩
        simp only [Int.toNat_natCast, Nat.mul_one, add_mk, Nat.zero_add]
        refine ⟨_, gM, ?_⟩
        rw [show IntKind.i64.wrap (valB C slot + 1) = valB C slot + 1 by rw [IntKind.wrap_i64]; omega]
        rw [eB]
        exact way X.1 X.2 _ _ (fun sl y1 y2 => by have : sl = slot := by omega
                                                  rw [this]; exact hbm) (fun y => by omega) hs
  · rw [if_neg (by simpa using k2)]
    refine ⟨_, hs.ld (i := 0) .z rfl, ?_⟩
    refine sBumpTo_sp hs (i := 9) (j := 8) (m := 7) (by (repeat (first | exact At.z | apply At.s))) (by (repeat (first | exact At.z | apply At.s))) (by (repeat (first | exact At.z | apply At.s))) (by decide) (by decide) n v ?_
    intro h1 hs
    simp only [put_succ, put_zero] at hs
    refine way _ _ _ _ ?_ ?_ hs
    · intro slot y1 y2
      rw [y1]
      exact bump_law ok ho snd (by omega) v
    · intro y
      unfold sBumpTo
      rw [hout y, if_pos (by decide)]
end
end Go.Proofs.Yteabcbpimjjdpaa
end

/- The log's laws: round, numbers, fixed; LogWhole. Own work. -/
section
set_option maxRecDepth 100000
set_option linter.unusedVariables false
namespace Go.Proofs.Yteabcbpimjjdpaa
open Go Go.Vc

section
variable {h0 h : H} {A : List Ent} {i j p r b : Nat} {C : Cm}
end

/-- A lay of a script. -/
structure LyE where
  slot : Int
  over : Int
  at_ : Int
  mask : List Int
structure LyE.ok (s : LyE) : Prop where
  at_ : s.at_ < 2 ^ 63
  mb : bytesOk s.mask
  ml : s.mask.length + 4096 ≤ 2 ^ 47
structure ScriptL (h : H) (p : Option Addr) (l : Nat) (sc : List LyE) : Prop where
  len : sc.length = l
  lt : l < 2 ^ 50
  at_ : ∀ i (hi : i < sc.length), ∃ q mp ml mc, p = some q ∧ hc h (q.add (i * 4)) = some (.int .i64 sc[i].slot) ∧ hc h ((q.add (i * 4)).add 1) = some (.int .i64 sc[i].over) ∧ hc h ((q.add (i * 4)).add 2) = some (.int .i64 sc[i].at_) ∧
    hc h ((q.add (i * 4)).add 3) = some (.slice mp ml mc) ∧ hsv h mp 1 ml (ints .u8 sc[i].mask) ∧ sc[i].ok
end Go.Proofs.Yteabcbpimjjdpaa
end

/- The log's laws, plain: how lays wear the pages. Own work. -/
section
set_option maxRecDepth 100000
set_option linter.unusedVariables false
namespace Go.Proofs.Yteabcbpimjjdpaa
open Go Go.Vc

def bet (C : Cm) (t : Nat) : Int := if (pI C t).blank = true then 1 else 0
def kap (C : Cm) : Int := if presM C = 0 then 1 else 0
structure Wear (C : Cm) (cuts : Int) : Prop where
  inv : ∃ x y : Int, 0 ≤ x ∧ 0 ≤ y ∧ x + y ≤ cuts ∧ C.er 0 - C.er 1 = kap C + (bet C 0 - bet C 1) + (x - y)
  e0 : 0 ≤ C.er 0 ∧ C.er 0 ≤ C.cfg.erases
  e1 : 0 ≤ C.er 1 ∧ C.er 1 ≤ C.cfg.erases
theorem blank_cells {C : Cm} {t : Nat} (h : ∀ k, k < lOf C → (rk (C.pg t) k).1 = 0) : pI C t = { inf0 with blank := true } := by
  unfold pI pageI
  have : ofM (C.pg t) C.cfg.cells.toNat = inf0 := blank_inf h
  rw [this]; rfl
end Go.Proofs.Yteabcbpimjjdpaa
end

/- The log's laws: LogWears. Own work. -/
section
set_option maxRecDepth 100000
set_option linter.unusedVariables false
namespace Go.Proofs.Yteabcbpimjjdpaa
open Go Go.Vc

theorem fresh_row (c : Cfg) : blankRow c = List.replicate (c.cells.toNat * 32) 255 := by
  unfold blankRow blankCell
  rw [List.flatten_replicate_replicate]
theorem fresh_pg {c : Cfg} (hm : c.may) {t : Nat} (ht : t < 2) : (freshC c).pg t = blankRow c := by
  have h := hm.area
  have hnp : c.np = 2 + 2 * c.area := rfl
  show (List.replicate c.np.toNat (blankRow c)).getD t [] = _
  rw [List.getD_eq_getElem?_getD, List.getElem?_replicate, if_pos (by omega)]; rfl
theorem rep_getD (n j : Nat) (h : j < n) : (List.replicate n (255 : Int)).getD j 0 = 255 := by
  rw [List.getD_eq_getElem?_getD, List.getElem?_replicate, if_pos h]; rfl
theorem fresh_snd {c : Cfg} (hm : c.may) : sndM (freshC c) := by
  intro x hx
  rw [fresh_pg hm hx, fresh_row]
  intro i hi k hk
  have hi' : i < c.cells.toNat := hi
  rw [rep_getD _ _ (by omega), rep_getD _ _ (by omega)]
  decide
theorem fresh_rk {c : Cfg} (hm : c.may) {t : Nat} (ht : t < 2) : ∀ k, k < lOf (freshC c) → (rk ((freshC c).pg t) k).1 = 0 := by
  intro k hk
  have hk' : k < c.cells.toNat := hk
  rw [fresh_pg hm ht, fresh_row]
  have e : cellAt (List.replicate (c.cells.toNat * 32) (255 : Int)) k = blankCell := by
    have hl : (k + 1) * 32 ≤ (List.replicate (c.cells.toNat * 32) (255 : Int)).length := by rw [List.length_replicate]; omega
    refine ext_getD ((cellAt_length hl).trans (by simp [blankCell])) fun i hi => ?_
    rw [cellAt_length hl] at hi
    rw [cellAt_getD _ _ _ hi, rep_getD _ _ (by omega)]
    unfold blankCell
    rw [rep_getD _ _ hi]
  unfold rk
  rw [e, rec_blank]
end Go.Proofs.Yteabcbpimjjdpaa
end

/- StoreNeverBack: a blank chip's values. Own work. -/
section
set_option maxRecDepth 100000
set_option linter.unusedVariables false
namespace Go.Proofs.Yteabcbpimjjdpaa
open Go Go.Vc

theorem fresh_blown (c : Cfg) (q : Nat) : (freshC c).s.blown.getD q false = false := by
  show (List.replicate c.nf.toNat false).getD q false = false
  rw [List.getD_eq_getElem?_getD, List.getElem?_replicate]; split <;> rfl
theorem cnt_none {bl : List Bool} {a : Nat} (h : ∀ k, bl.getD k false = false) : ∀ n, cnt bl a n = 0
  | 0 => rfl
  | n + 1 => by
    unfold cnt
    rw [cnt_none h n, h, if_neg (by decide)]
theorem fresh_num {c : Cfg} (hm : c.may) (k : Nat) : numOf (freshC c) k = 0 := by
  have p0 := blank_cells (fresh_rk hm (t := 0) (by decide))
  have p1 := blank_cells (fresh_rk hm (t := 1) (by decide))
  have e : presM (freshC c) = -1 := by unfold presM; rw [p0, p1]; rfl
  unfold numOf infoM
  rw [e, if_pos (by decide)]
  show (zeros 9).getD k 0 = 0
  rw [List.getD_eq_getElem?_getD]
  unfold zeros
  rw [List.getElem?_replicate]; split <;> rfl
theorem fresh_val {c : Cfg} (hm : c.may) (k : Nat) : valB (freshC c) k = 0 := by
  have e : cntB (freshC c) k = 0 := cnt_none (fresh_blown c) _
  unfold valB
  rw [e, fresh_num hm]
  simp
theorem fresh_key (c : Cfg) (k : Nat) : keyB (freshC c) k = false := fresh_blown c _
end Go.Proofs.Yteabcbpimjjdpaa
end

/- StoreNeverBack: the law's loop. Own work. -/
section
set_option maxRecDepth 100000
set_option linter.unusedVariables false
namespace Go.Proofs.Yteabcbpimjjdpaa
open Go Go.Vc

theorem flat_i (n : Nat) : (List.replicate n [Value.int .i64 0]).flatten = ints .i64 (List.replicate n 0) := by
  unfold ints
  induction n with
  | zero => rfl
  | succ n ih => rw [List.replicate_succ, List.replicate_succ, List.flatten_cons, List.map_cons, ih]; rfl
theorem flat_b (n : Nat) : (List.replicate n [Value.bool false]).flatten = bools (List.replicate n false) := by
  unfold bools
  induction n with
  | zero => rfl
  | succ n ih => rw [List.replicate_succ, List.replicate_succ, List.flatten_cons, List.map_cons, ih]; rfl
theorem repI (n k : Nat) : (List.replicate n (0 : Int)).getD k 0 = 0 := by
  rw [List.getD_eq_getElem?_getD, List.getElem?_replicate]; split <;> rfl
theorem repB (n k : Nat) : (List.replicate n false).getD k false = false := by
  rw [List.getD_eq_getElem?_getD, List.getElem?_replicate]; split <;> rfl
section
variable {a b c : Ent} {R : List Ent}
theorem p6a : (a :: b :: c :: R).Perm (a :: b :: c :: R) := List.Perm.refl _
theorem p6b : (a :: b :: c :: R).Perm (a :: c :: b :: R) := (List.Perm.swap _ _ _).cons _
theorem p6c : (a :: b :: c :: R).Perm (b :: a :: c :: R) := List.Perm.swap _ _ _
theorem p6d : (a :: b :: c :: R).Perm (b :: c :: a :: R) := (List.Perm.swap _ _ _).trans ((List.Perm.swap _ _ _).cons _)
theorem p6e : (a :: b :: c :: R).Perm (c :: a :: b :: R) := ((List.Perm.swap _ _ _).cons _).trans (List.Perm.swap _ _ _)
theorem p6f : (a :: b :: c :: R).Perm (c :: b :: a :: R) := ((List.Perm.swap _ _ _).trans ((List.Perm.swap _ _ _).cons _)).trans (List.Perm.swap _ _ _)
end
abbrev cfgE (n : Nat) (c : Cfg) : Ent := blk n [.int .i64 c.cells, .int .i64 c.slots, .int .i64 c.fuses, .int .i64 c.step, .int .i64 c.keys, .int .i64 c.erases, .int .i64 c.area]
theorem revoke_out {C : Cm} (ho : C.out = false) {n : Int} (h : n < 0 ∨ C.cfg.keys ≤ n) : (revokeM C n).1 = C := by
  have e : revokedM C n = (false, 2) := by
    unfold revokedM
    rcases h with h | h
    · rw [askedM_neg ho h, if_pos (by decide)]
    · rw [askedM_hi ho h, if_pos (by decide)]
  unfold revokeM
  rw [e, if_pos (by decide)]
theorem StoreNeverBack_sp {h0 : H} {Q : Bool → H → Prop} {mp : Option Addr} {ml mc : Nat} (c : Cfg) (sc : List OpE) (rd : ScriptO h0 mp ml sc) (k : ∀ h', Ext none_ h0 h' → Q true h') :
    F_portcullislaw10_StoreNeverBack c.cells c.slots c.fuses c.step c.keys c.erases c.area mp ml mc Q h0 := by
  unfold F_portcullislaw10_StoreNeverBack G_portcullislaw10_StoreNeverBack
  have hs := Sat.init h0
  try simp only [add_mk, Nat.zero_add, List.append_nil]
  intro n22 _ hn; replace hs := Sat.new hs hn; clear hn
  have hl := rd.len
  have hlt := rd.lt
  refine awake_sp hs ?_
  intro h1 hs
  rw [if_neg (by simp)]
  (repeat first | refine ⟨_, Sat.ld hs (by (repeat (first | exact At.z | apply At.s))) (by rfl), ?_⟩ | refine ⟨_, _, _, Sat.ld hs (by (repeat (first | exact At.z | apply At.s))) (by rfl), ?_⟩ | (intro _ _ hn; replace hs := Sat.new hs hn; clear hn) | refine ⟨Sat.cs hs (by (repeat (first | exact At.z | apply At.s))) (by rfl), ?_⟩ | (refine ⟨Sat.can hs (by (repeat (first | exact At.z | apply At.s))) (by simp), ?_⟩; intro _ e; replace hs := Sat.wr hs (by (repeat (first | exact At.z | apply At.s))) e; clear e; simp only [put, splice, List.set] at hs))
  refine rMay_sp c hs ?_
  intro h2 hs
  by_cases m : c.may
  case neg =>
    have e : c.may? = 1 := by unfold Cfg.may?; rw [if_neg m]
    rw [e, if_pos (by simp)]
    (repeat first | refine ⟨_, Sat.ld hs (by (repeat (first | exact At.z | apply At.s))) (by rfl), ?_⟩ | refine ⟨_, _, _, Sat.ld hs (by (repeat (first | exact At.z | apply At.s))) (by rfl), ?_⟩ | (intro _ _ hn; replace hs := Sat.new hs hn; clear hn) | refine ⟨Sat.cs hs (by (repeat (first | exact At.z | apply At.s))) (by rfl), ?_⟩ | (refine ⟨Sat.can hs (by (repeat (first | exact At.z | apply At.s))) (by simp), ?_⟩; intro _ e; replace hs := Sat.wr hs (by (repeat (first | exact At.z | apply At.s))) e; clear e; simp only [put, splice, List.set] at hs))
    refine New_sp c hs ?_ (fun y => absurd y m)
    intro _ h3 hs
    rw [if_pos (by simp)]
    have := k _ hs.ex
    simpa using this
  have e : c.may? = 0 := by unfold Cfg.may?; rw [if_pos m]
  rw [e, if_neg (by simp)]
  (repeat first | refine ⟨_, Sat.ld hs (by (repeat (first | exact At.z | apply At.s))) (by rfl), ?_⟩ | refine ⟨_, _, _, Sat.ld hs (by (repeat (first | exact At.z | apply At.s))) (by rfl), ?_⟩ | (intro _ _ hn; replace hs := Sat.new hs hn; clear hn) | refine ⟨Sat.cs hs (by (repeat (first | exact At.z | apply At.s))) (by rfl), ?_⟩ | (refine ⟨Sat.can hs (by (repeat (first | exact At.z | apply At.s))) (by simp), ?_⟩; intro _ e; replace hs := Sat.wr hs (by (repeat (first | exact At.z | apply At.s))) e; clear e; simp only [put, splice, List.set] at hs))
  refine New_sp c hs (fun y => absurd m y) ?_
  intro _ px h3 hs J hJ
  rw [if_neg (by simp), if_neg (by simp)]
  apply hJ
  clear hJ J
  refine ⟨_, rfl, ?_⟩
  refine sMount_sp hs (i := 0) .z (fun y => absurd y (by show ¬ (false = true); decide)) ?_
  intro _ s0 l0 h4 hs J hJ
  rw [if_neg (by simp), if_neg (by simp)]
  apply hJ
  clear hJ J
  have hms := m.slots
  have hmk := m.keys
  intro J hJ
  have way : ∀ hb ln mn rn h', Sat h0 (blk hb [.slice (some ⟨ln, 0, none⟩) c.slots.toNat c.slots.toNat, .slice (some ⟨mn, 0, none⟩) c.slots.toNat c.slots.toNat, .slice (some ⟨rn, 0, none⟩) c.keys.toNat c.keys.toNat] :: blk ln (List.replicate c.slots.toNat [Value.int .i64 0]).flatten :: blk mn (List.replicate c.slots.toNat [Value.int .i64 0]).flatten :: blk rn (List.replicate c.keys.toNat [Value.bool false]).flatten ::
      storeE s0 px l0 :: logE l0 px :: chipE px (freshC c) :: [cfgE n22 c]) h' → J [.dv (.one (.pointer (some ⟨hb, 0, none⟩)))] h' := by
    intro hb ln mn rn h5 hs
    apply hJ
    clear hJ J
    refine ⟨_, hs.ld (i := 7) (by (repeat (first | exact At.z | apply At.s))) rfl, by omega, by omega, by omega, by omega, ?_⟩
    intro yn _ hn; replace hs := Sat.new hs hn; clear hn
    rw [flat_i, flat_b] at hs
    obtain ⟨S, hS⟩ : ∃ S, S = c.slots.toNat := ⟨_, rfl⟩
    obtain ⟨K, hK⟩ : ∃ K, K = c.keys.toNat := ⟨_, rfl⟩
    rw [← hS, ← hK] at hs
    rw [← hK]
    have eS : (S : Int) = c.slots := by omega
    have eK : (K : Int) = c.keys := by omega
    clear hS hK
    replace hs : Sat h0 (hldL hb ln mn rn yn S K (List.replicate S 0) (List.replicate S 0) (List.replicate K false) (List.replicate K false) (storeE s0 px l0 :: logE l0 px :: chipE px (freshC c) :: [cfgE n22 c])) _ := hs.perm (by
      refine (List.Perm.swap _ _ _).trans (List.Perm.cons _ ?_)
      refine (List.Perm.swap _ _ _).trans (List.Perm.cons _ ?_)
      refine (List.Perm.swap _ _ _).trans (List.Perm.cons _ ?_)
      exact List.Perm.swap _ _ _)
    intro J hJ
    refine loop_st ml (fun i (s : Nat) => [.dv (.one (.pointer (some ⟨s, 0, none⟩))), si i])
      (fun i s h => ∃ (C : Cm) (l : Nat) (le mo : List Int) (re ma : List Bool), C.cfg = c ∧ C.out = false ∧ sndM C ∧ le.length = S ∧ mo.length = S ∧ re.length = K ∧ ma.length = K ∧ (∀ k, k < S → le.getD k 0 = valB C k ∧ mo.getD k 0 = valB C k) ∧ (∀ k, k < K → re.getD k false = keyB C k ∧ ma.getD k false = false) ∧
        Sat h0 (hldL hb ln mn rn yn S K le mo re ma (storeE s px l :: logE l px :: chipE px C :: [cfgE n22 c])) h) ?_ ?_ 0 s0 _ (by omega)
      ⟨freshC c, l0, _, _, _, _, rfl, rfl, fresh_snd m, List.length_replicate, List.length_replicate, List.length_replicate, List.length_replicate, fun k _ => by rw [repI, fresh_val m]; exact ⟨rfl, rfl⟩, fun k _ => by rw [repB, fresh_key]; exact ⟨rfl, rfl⟩, hs⟩
    · rintro i s h6 hi ⟨C, l, le, mo, re, ma, ec, ho, snd, z1, z2, z3, z4, d1, d2, hs⟩ hk
      apply hJ
      rw [ltI_eq, if_pos (by simp; omega)]
      have ok := chip_ok hs (i := 7) (by (repeat (first | exact At.z | apply At.s)))
      obtain ⟨q2, mp2, ml2, mc2, hq2, e0, e1, e2, e3, hrd, hok⟩ := rd.at_ i (by omega)
      obtain ⟨X, hX⟩ : ∃ X, X = sc[i] := ⟨_, rfl⟩
      rw [← hX] at e0 e1 e2 hrd hok
      refine ⟨_, hq2, by omega, by omega, ?_⟩
      simp only [Int.toNat_natCast]
      refine ⟨_, hc_ext hs.ex e0 (fun y => y), _, hc_ext hs.ex e1 (fun y => y), _, hc_ext hs.ex e2 (fun y => y), _, _, _, hc_ext hs.ex e3 (fun y => y), ?_⟩
      have hex := hs.ex
      intro on _ hn; replace hs := Sat.new hs hn; clear hn
      refine ⟨Sat.can hs (i := 0) .z (by simp), ?_⟩
      intro h7 e
      replace hs := Sat.wr hs (i := 0) .z e
      clear e
      replace hs : Sat h0 (blk on [.int .i64 X.kind, .int .i64 X.n, .int .i64 X.v, .slice mp2 ml2 mc2] :: hldL hb ln mn rn yn S K le mo re ma (storeE s px l :: logE l px :: chipE px C :: [cfgE n22 c])) h7 := hs
      subst ec
      intro J87 hJ87
      have hml : X.mask.length = ml2 := by have := hrd.1; simpa using this
      have hmm := hok.ml
      -- behind the act
      have out : ∀ (D : Cm) (le mo : List Int) (re ma : List Bool) h', D.cfg = C.cfg → sndM D → le.length = S → mo.length = S → re.length = K → ma.length = K →
          (∀ k, k < S → le.getD k 0 ≤ valB D k ∧ (valB D k = le.getD k 0 ∨ valB D k = mo.getD k 0)) →
          (∀ k, k < K → (re.getD k false = true → keyB D k = true) ∧ (keyB D k = true → re.getD k false = true ∨ ma.getD k false = true)) →
          Sat h0 (blk on [.int .i64 X.kind, .int .i64 X.n, .int .i64 X.v, .slice mp2 ml2 mc2] :: hldL hb ln mn rn yn S K le mo re ma (storeE s px l :: logE l px :: chipE px D :: [cfgE n22 C.cfg])) h' → J87 [] h' := by
        intro D le mo re ma h8 ec snd z1 z2 z3 z4 c1 c2 hs
        apply hJ87
        clear hJ87 J87
        refine ⟨_, rfl, ?_⟩
        refine Out_sp hs (i := 8) (by (repeat (first | exact At.z | apply At.s))) ?_
        by_cases go : D.out = true
        · rw [if_pos go]
          refine ⟨_, rfl, ?_⟩
          refine Restore_sp hs (i := 8) (by (repeat (first | exact At.z | apply At.s))) ?_
          intro h9 hs
          simp only [put_succ, put_zero] at hs
          refine ⟨_, rfl, ?_⟩
          refine sMount_sp hs (i := 8) (by (repeat (first | exact At.z | apply At.s))) (fun y => absurd y (by show ¬ (false = true); decide)) ?_
          intro _ s' l' h10 hs
          rw [if_neg (by simp), if_neg (by simp)]
          obtain ⟨E, hE⟩ : ∃ E : Cm, E = { D with out := false } := ⟨_, rfl⟩
          rw [← hE] at hs
          have eE : E.cfg = C.cfg := by rw [hE]; exact ec
          have oE : E.out = false := by rw [hE]
          have sE : sndM E := by rw [hE]; exact snd
          have vE : ∀ k, valB E k = valB D k := fun k => by rw [hE]; rfl
          have kE : ∀ k, keyB E k = keyB D k := fun k => by rw [hE]; rfl
          refine ⟨_, hs.ld (i := 11) (by (repeat (first | exact At.z | apply At.s))) rfl, _, hs.ld (i := 11) (by (repeat (first | exact At.z | apply At.s))) rfl, _, hs.ld (i := 11) (by (repeat (first | exact At.z | apply At.s))) rfl, _, hs.ld (i := 11) (by (repeat (first | exact At.z | apply At.s))) rfl, _, hs.ld (i := 11) (by (repeat (first | exact At.z | apply At.s))) rfl, _, hs.ld (i := 11) (by (repeat (first | exact At.z | apply At.s))) rfl, _, hs.ld (i := 11) (by (repeat (first | exact At.z | apply At.s))) rfl, _, rfl, _, rfl, ?_⟩
          replace hs := Sat.front hs (e := chipE px E) (by (repeat (first | exact At.z | apply At.s)))
          replace hs := Sat.front hs (e := logE l' px) (by (repeat (first | exact At.z | apply At.s)))
          replace hs := Sat.front hs (e := storeE s' px l') (by (repeat (first | exact At.z | apply At.s)))
          replace hs := Sat.front hs (e := blk yn _) (by (repeat (first | exact At.z | apply At.s)))
          replace hs := Sat.front hs (e := blk rn _) (by (repeat (first | exact At.z | apply At.s)))
          replace hs := Sat.front hs (e := blk mn _) (by (repeat (first | exact At.z | apply At.s)))
          replace hs := Sat.front hs (e := blk ln _) (by (repeat (first | exact At.z | apply At.s)))
          replace hs := Sat.front hs (e := blk hb _) (by (repeat (first | exact At.z | apply At.s)))
          simp only [del] at hs
          rw [← eE]
          refine holds_sp (by rw [eE]; exact eS) (by rw [eE]; exact eK) oE hs z1 z2 z3 z4 (fun k hk => by rw [vE]; exact c1 k hk) (fun k hk => by rw [kE]; exact c2 k hk) ?_
          intro le mo re ma h11 z1 z2 z3 z4 d1 d2 hs
          rw [if_neg (by simp), wrap_succ (by omega)]
          refine hk _ _ ⟨E, l', le, mo, re, ma, eE, oE, sE, z1, z2, z3, z4, d1, d2, ?_⟩
          exact hs.sub (by (repeat (first | exact List.Sublist.refl _ | apply List.Sublist.cons_cons | apply List.Sublist.cons)))
        · rw [if_neg go]
          have go' : D.out = false := by simpa using go
          refine ⟨_, hs.ld (i := 9) (by (repeat (first | exact At.z | apply At.s))) rfl, _, hs.ld (i := 9) (by (repeat (first | exact At.z | apply At.s))) rfl, _, hs.ld (i := 9) (by (repeat (first | exact At.z | apply At.s))) rfl, _, hs.ld (i := 9) (by (repeat (first | exact At.z | apply At.s))) rfl, _, hs.ld (i := 9) (by (repeat (first | exact At.z | apply At.s))) rfl, _, hs.ld (i := 9) (by (repeat (first | exact At.z | apply At.s))) rfl, _, hs.ld (i := 9) (by (repeat (first | exact At.z | apply At.s))) rfl, _, rfl, _, rfl, ?_⟩
          rw [← ec]
          refine holds_sp (by rw [ec]; exact eS) (by rw [ec]; exact eK) go' hs.drop z1 z2 z3 z4 c1 c2 ?_
          intro le mo re ma h11 z1 z2 z3 z4 d1 d2 hs
          rw [if_neg (by simp), wrap_succ (by omega)]
          refine hk _ _ ⟨D, l, le, mo, re, ma, ec, go', snd, z1, z2, z3, z4, d1, d2, ?_⟩
          exact hs
      have still : J87 [] h7 := by
        refine out C le mo re ma _ rfl snd z1 z2 z3 z4 (fun k hk => ?_) (fun k hk => ?_) hs
        · have := d1 k hk
          exact ⟨by omega, Or.inl (by omega)⟩
        · have := (d2 k hk).1
          rw [this]
          exact ⟨fun y => y, fun y => Or.inl y⟩
      refine ⟨_, hs.ld (i := 0) .z rfl, ?_⟩
      by_cases k9 : X.kind = 9
      · rw [if_pos (by simpa using k9)]
        refine ⟨_, hs.ld (i := 0) .z rfl, _, _, _, hs.ld (i := 0) .z rfl, ?_⟩
        intro bn _ hn; replace hs := Sat.new hs hn; clear hn
        refine ⟨hcs_one (hs.ld (i := 1) (.s .z) rfl), hcs_one (hs.ld (i := 1) (.s .z) rfl), _, hsv_ext hs.ex hrd (fun _ _ y => y), ?_⟩
        replace hs := (hs.drop).sl_nil 1 (some ⟨bn, 0, none⟩)
        dsimp only [sE] at hs
        refine Sat.app hs (i := 0) (vs := ints .u8 X.mask) .z (by simp [hml]) rfl (ints_one _ _) (by omega) ?_
        intro p' c' h8 hs
        rw [put_zero] at hs
        simp only [List.nil_append, Nat.zero_add] at hs ⊢
        refine ⟨hcs_one (hs.ld (i := 1) (.s .z) rfl), _, rfl, ?_⟩
        refine Cut_sp hs (i := 9) (by (repeat (first | exact At.z | apply At.s))) X.n hok.n (hs.sv (i := 0) .z) hok.mb (by omega) ?_
        intro h9 hs
        simp only [put_succ, put_zero] at hs
        rw [wrap_succ (by omega)]
        exact hk _ _ ⟨cutM C X.n X.mask, l, le, mo, re, ma, rfl, ho, snd, z1, z2, z3, z4, d1, d2, hs.drop.drop⟩
      rw [if_neg (by simpa using k9)]
      intro J137 hJ137
      have bump : J137 [.dv (.one (.bool true))] h7 := by
        apply hJ137
        clear hJ137 J137
        rw [if_pos rfl]
        refine ⟨_, hs.ld (i := 9) (by (repeat (first | exact At.z | apply At.s))) rfl, _, hs.ld (i := 9) (by (repeat (first | exact At.z | apply At.s))) rfl, _, hs.ld (i := 9) (by (repeat (first | exact At.z | apply At.s))) rfl, _, hs.ld (i := 9) (by (repeat (first | exact At.z | apply At.s))) rfl, _, hs.ld (i := 9) (by (repeat (first | exact At.z | apply At.s))) rfl, _, hs.ld (i := 9) (by (repeat (first | exact At.z | apply At.s))) rfl, _, hs.ld (i := 9) (by (repeat (first | exact At.z | apply At.s))) rfl, _, hs.ld (i := 0) .z rfl, _, hs.ld (i := 0) .z rfl, _, hs.ld (i := 0) .z rfl, _, _, _, hs.ld (i := 0) .z rfl, _, rfl, _, rfl, ?_⟩
        have hs2 := hs.perm (List.Perm.refl _)
        replace hs := Sat.front hs (e := cfgE n22 C.cfg) (by (repeat (first | exact At.z | apply At.s)))
        replace hs := Sat.front hs (e := chipE px C) (by (repeat (first | exact At.z | apply At.s)))
        replace hs := Sat.front hs (e := logE l px) (by (repeat (first | exact At.z | apply At.s)))
        replace hs := Sat.front hs (e := storeE s px l) (by (repeat (first | exact At.z | apply At.s)))
        replace hs := Sat.front hs (e := blk yn _) (by (repeat (first | exact At.z | apply At.s)))
        replace hs := Sat.front hs (e := blk rn _) (by (repeat (first | exact At.z | apply At.s)))
        replace hs := Sat.front hs (e := blk mn _) (by (repeat (first | exact At.z | apply At.s)))
        replace hs := Sat.front hs (e := blk ln _) (by (repeat (first | exact At.z | apply At.s)))
        replace hs := Sat.front hs (e := blk hb _) (by (repeat (first | exact At.z | apply At.s)))
        simp only [del] at hs
        refine bumped_sp eS ho snd X.kind X.n X.v hs z1 z2 d1 ?_
        intro D le mo h9 B hs
        refine out D le mo re ma _ B.ok B.snd B.l1 B.l2 z3 z4 B.c1 (fun k hk => ?_) ?_
        · have := (d2 k hk).1
          rw [B.keys, this]
          exact ⟨fun y => y, fun y => Or.inl y⟩
        · exact hs.front (i := 9) (by (repeat (first | exact At.z | apply At.s)))
      by_cases k2 : X.kind = 2
      · rw [if_pos (by simpa using k2)]
        rw [show (X.kind == 2) = true by simpa using k2]
        exact bump
      rw [if_neg (by simpa using k2)]
      by_cases k3 : X.kind = 3
      · rw [show (X.kind == 3) = true by simpa using k3]
        exact bump
      rw [show (X.kind == 3) = false by simpa using k3]
      apply hJ137
      clear bump hJ137 J137
      rw [if_neg (by decide)]
      by_cases k4 : X.kind = 4
      case neg =>
        rw [if_neg (by simpa using k4)]
        exact still
      rw [if_pos (by simpa using k4)]
      clear still
      refine ⟨_, hs.ld (i := 0) .z rfl, _, rfl, ?_⟩
      refine sRevoke_sp hs (i := 8) (m := 6) (by (repeat (first | exact At.z | apply At.s))) (by (repeat (first | exact At.z | apply At.s))) X.n ?_
      intro h8 hs
      simp only [put_succ, put_zero] at hs
      intro J160 hJ160
      have skip : (X.n < 0 ∨ C.cfg.keys ≤ X.n) → J160 [.dv (.one (.bool false))] h8 := by
        intro g
        apply hJ160
        rw [if_neg (by decide)]
        rw [revoke_out ho g] at hs
        refine out C le mo re ma _ rfl snd z1 z2 z3 z4 (fun k hk => ?_) (fun k hk => ?_) hs
        · have := d1 k hk
          exact ⟨by omega, Or.inl (by omega)⟩
        · have := (d2 k hk).1
          rw [this]
          exact ⟨fun y => y, fun y => Or.inl y⟩
      refine ⟨_, hs.ld (i := 0) .z rfl, ?_⟩
      rw [leI_eq]
      by_cases g0 : 0 ≤ X.n
      case neg =>
        rw [if_neg (by simpa using g0)]
        exact skip (Or.inl (by omega))
      rw [if_pos (by simpa using g0)]
      refine ⟨_, hs.ld (i := 0) .z rfl, _, hs.ld (i := 9) (by (repeat (first | exact At.z | apply At.s))) rfl, ?_⟩
      rw [ltI_eq]
      by_cases g1 : X.n < C.cfg.keys
      case neg =>
        rw [decide_eq_false g1]
        exact skip (Or.inr (by omega))
      rw [decide_eq_true g1]
      apply hJ160
      clear skip hJ160 J160
      rw [if_pos rfl]
      obtain ⟨key, hkey⟩ := Int.eq_ofNat_of_zero_le g0
      rw [hkey] at hs g1 ⊢
      have L := revoke_law ok ho snd (key := key) g1
      have hkK : key < K := by omega
      generalize revokeM C (key : Int) = Y at *
      obtain ⟨dk1, dk2⟩ := d2 key hkK
      have gR := hs.ld (i := 4) (b := rn) (by (repeat (first | exact At.z | apply At.s))) (bools_at (l := re) (k := key) (by omega))
      have gH := hs.ld (i := 1) (b := hb) (o := 2) (by (repeat (first | exact At.z | apply At.s))) rfl
      have gN := hs.ld (i := 0) (b := on) (o := 1) .z rfl
      refine ⟨_, rfl, _, _, _, gH, _, gN, _, rfl, _, _, _, gH, _, gN, _, rfl, by omega, by omega, ?_⟩
      simp only [Int.toNat_natCast, Nat.mul_one, add_mk, Nat.zero_add]
      refine ⟨_, gR, ?_⟩
      -- the two lists behind it
      have fin : ∀ (x y : Bool) h', (x = true ↔ re.getD key false = true ∨ Y.2 = 0) → (y = true ↔ Y.2 = 8) →
          Sat h0 (blk on [.int .i64 X.kind, .int .i64 (key : Int), .int .i64 X.v, .slice mp2 ml2 mc2] :: hldL hb ln mn rn yn S K le mo (re.set key x) (ma.set key y) (storeE s px l :: logE l px :: chipE px Y.1 :: [cfgE n22 C.cfg])) h' → J87 [] h' := by
        intro x y h' hx hy hs
        refine out Y.1 le mo (re.set key x) (ma.set key y) _ L.cfg L.snd z1 z2 (by rw [List.length_set]; exact z3) (by rw [List.length_set]; exact z4) (fun k hk => ?_) (fun k hk => ?_) (by rw [hkey]; exact hs)
        · have := d1 k hk
          rw [L.vals k (by rw [← eS]; omega)]
          exact ⟨by omega, Or.inl (by omega)⟩
        · rw [bget_set, bget_set]
          by_cases ck : key = k
          · subst ck
            rw [if_pos ⟨rfl, by omega⟩, if_pos ⟨rfl, by omega⟩]
            refine ⟨fun w => ?_, fun w => ?_⟩
            · rcases hx.1 w with w | w
              · exact L.up (dk1 ▸ w)
              · exact L.done w
            · by_cases a0 : Y.2 = 0
              · exact Or.inl (hx.2 (Or.inr a0))
              by_cases a8 : Y.2 = 8
              · exact Or.inr (hy.2 a8)
              have := L.bad a0 a8
              rw [this, ← dk1] at w
              exact Or.inl (hx.2 (Or.inl w))
          · rw [if_neg (fun w => ck w.1), if_neg (fun w => ck w.1)]
            have := (d2 k hk).1
            rw [L.other k (fun w => ck w.symm), this]
            exact ⟨fun w => w, fun w => Or.inl w⟩
      by_cases r : re.getD key false = true
      · rw [if_pos r]
        refine ⟨_, rfl, by omega, by omega, ?_⟩
        simp only [Int.toNat_natCast, Nat.mul_one, add_mk, Nat.zero_add]
        refine ⟨Sat.can hs (i := 4) (b := rn) (by (repeat (first | exact At.z | apply At.s))) (by simp; omega), ?_⟩
        intro h9 e
        replace hs := Sat.wr hs (i := 4) (b := rn) (by (repeat (first | exact At.z | apply At.s))) e
        clear e
        rw [bools_put] at hs
        simp only [put_succ, put_zero] at hs
        have gN := hs.ld (i := 0) (b := on) (o := 1) .z rfl
        have gY := hs.ld (i := 5) (b := yn) (by (repeat (first | exact At.z | apply At.s))) (bools_at (l := ma) (k := key) (by omega))
        rw [dk2] at gY
        refine ⟨_, gN, _, gN, _, rfl, by omega, by omega, ?_⟩
        simp only [Int.toNat_natCast, Nat.mul_one, add_mk, Nat.zero_add]
        refine ⟨_, gY, ?_⟩
        rw [if_neg (by decide)]
        refine ⟨_, rfl, by omega, by omega, ?_⟩
        simp only [Int.toNat_natCast, Nat.mul_one, add_mk, Nat.zero_add]
        refine ⟨Sat.can hs (i := 5) (b := yn) (by (repeat (first | exact At.z | apply At.s))) (by simp; omega), ?_⟩
        intro h10 e
        replace hs := Sat.wr hs (i := 5) (b := yn) (by (repeat (first | exact At.z | apply At.s))) e
        clear e
        rw [bools_put] at hs
        simp only [put_succ, put_zero] at hs
        refine fin _ _ _ ⟨fun _ => Or.inl r, fun _ => rfl⟩ ?_ hs
        simp
      · rw [if_neg r]
        refine ⟨_, rfl, by omega, by omega, ?_⟩
        simp only [Int.toNat_natCast, Nat.mul_one, add_mk, Nat.zero_add]
        refine ⟨Sat.can hs (i := 4) (b := rn) (by (repeat (first | exact At.z | apply At.s))) (by simp; omega), ?_⟩
        intro h9 e
        replace hs := Sat.wr hs (i := 4) (b := rn) (by (repeat (first | exact At.z | apply At.s))) e
        clear e
        rw [bools_put] at hs
        simp only [put_succ, put_zero] at hs
        have gN := hs.ld (i := 0) (b := on) (o := 1) .z rfl
        have gY := hs.ld (i := 5) (b := yn) (by (repeat (first | exact At.z | apply At.s))) (bools_at (l := ma) (k := key) (by omega))
        rw [dk2] at gY
        refine ⟨_, gN, _, gN, _, rfl, by omega, by omega, ?_⟩
        simp only [Int.toNat_natCast, Nat.mul_one, add_mk, Nat.zero_add]
        refine ⟨_, gY, ?_⟩
        rw [if_neg (by decide)]
        refine ⟨_, rfl, by omega, by omega, ?_⟩
        simp only [Int.toNat_natCast, Nat.mul_one, add_mk, Nat.zero_add]
        refine ⟨Sat.can hs (i := 5) (b := yn) (by (repeat (first | exact At.z | apply At.s))) (by simp; omega), ?_⟩
        intro h10 e
        replace hs := Sat.wr hs (i := 5) (b := yn) (by (repeat (first | exact At.z | apply At.s))) e
        clear e
        rw [bools_put] at hs
        simp only [put_succ, put_zero] at hs
        refine fin _ _ _ ⟨fun w => Or.inr (by simpa using w), fun w => by
          rcases w with w | w
          · exact absurd w r
          · simpa using w⟩ ?_ hs
        simp
    · rintro s h6 ⟨C, l, le, mo, re, ma, _, _, _, _, _, _, _, _, _, hs⟩
      apply hJ
      rw [ltI_eq, if_neg (by simp)]
      exact k _ hs.ex
  refine ⟨_, hs.ld (i := 3) (by (repeat (first | exact At.z | apply At.s))) rfl, _, hs.ld (i := 3) (by (repeat (first | exact At.z | apply At.s))) rfl, _, hs.ld (i := 3) (by (repeat (first | exact At.z | apply At.s))) rfl, ?_⟩
  clear hJ
  repeat' (first | refine And.intro ?_ ?_ | omega | exact hcs_one (hs.ld (by (repeat (first | exact At.z | apply At.s))) rfl) | (intro _ _ hn; replace hs := Sat.new hs hn; clear hn))
  all_goals exact way _ _ _ _ _ (hs.perm (List.Perm.cons _ (by first | exact p6a | exact p6b | exact p6c | exact p6d | exact p6e | exact p6f)))
end Go.Proofs.Yteabcbpimjjdpaa
end

/- StoreNeverBack: values never fall, revoked keys stay; whatever is done and wherever the power goes; for every input. -/
section
set_option maxRecDepth 100000
set_option linter.unusedVariables false
namespace Go.Proofs.Yteabcbpimjjdpaa
open Go Go.Vc Go.ChangeShapes Go.WideShapes Go.ChangeAt Go.RowKit

theorem StoreNeverBack_calls {D : Type} {enc : TypeId × Value → D} {W : World} {base : Nat} (vs : List Value) (h : ArgsOk enc PP W base [23, 78] vs) : CallsTrue PP 8 vs W := by
  obtain ⟨hl, h⟩ := h
  match vs, hl with
  | [v0, v1], _ =>
  obtain ⟨r0, w0⟩ := h 0 _ v0 rfl rfl
  obtain ⟨r1, w1⟩ := h 1 _ v1 rfl rfl
  obtain ⟨c, rfl⟩ := cfg_of r0 w0
  obtain ⟨p, l, cc, rfl, hsl⟩ := slice_of (e := 86) (by kernel_rfl) r1 w1
  obtain ⟨sc, hsc⟩ := scriptO_of hsl
  have := R_portcullislaw10_StoreNeverBack [.agg (c.vals.map .c), .one (.slice p l cc)] (fun rs h' => rs = [DV.one (.bool true)] ∧ Ext none_ W.heap h') W.heap (by
    intro x hx
    simp only [List.mem_cons, List.not_mem_nil, or_false] at hx
    rcases hx with rfl | rfl
    · exact ok_cfg c
    · rfl) (by
    show F_portcullislaw10_StoreNeverBack c.cells c.slots c.fuses c.step c.keys c.erases c.area p l cc (fun b h' => [DV.one (.bool b)] = [DV.one (.bool true)] ∧ Ext none_ W.heap h') W.heap
    exact StoreNeverBack_sp c sc hsc fun h' x => ⟨rfl, x⟩)
  exact this
theorem StoreNeverBack_lifted (os : Os) (started : os.Started) (D : Type) (enc : TypeId × Value → D) :
    ReturnsInHanded {} Try.checked os 8 .any (Rows.storeNeverBackSpec.pre6 enc Try.prog Try.f8 Rows.storeNeverBackRow.domain false) (Rows.storeNeverBackSpec.post enc Try.prog Try.f8 false true false false) := by
  refine returnsInHanded_of_change_sized (C := Try.checked) Try.own started (by kernel_rfl) Try.func8
    (ChangeSpec.witness6 (enc := enc) (C := Try.checked) false ⟨#[], #[.agg #[.int .i64 0, .int .i64 0, .int .i64 0, .int .i64 0, .int .i64 0, .int .i64 0, .int .i64 0], .slice none 0 0], []⟩ 8 (by kernel_rfl) (by kernel_rfl) (by kernel_rfl) (by kernel_rfl)) ?_
  intro W base args ds gs before hval hW hcnd hsz _
  exact law_go (P := Try.prog) (fn := Try.f8) (s := Rows.storeNeverBackSpec) [23, 78] (by kernel_rfl) Try.laidOut rfl (by kernel_rfl) (by kernel_rfl) Try.ubool
    (fun ds hl => match ds, hl with | [d1, d2], _ => rfl) hval hW hsz StoreNeverBack_calls

theorem StoreNeverBack_holds : Rows.StoreNeverBackSaid :=
  OpenClaim.holds_of_wide 8 Try.f8 rfl rfl rfl rfl rfl rfl rfl ⟨rfl, rfl, rfl, rfl, rfl⟩ rfl rfl rfl rfl rfl (by kernel_rfl) Try.func8 (by kernel_rfl)
    (of_decide_eq_true (by kernel_rfl)) (by unfold Func.isWrapper; first | (rw [if_pos (by decide +kernel)]; kernel_rfl) | (rw [if_neg (by decide +kernel)]; exact ⟨rfl, rfl⟩))
    (fun os started H enc _ => StoreNeverBack_lifted os started H enc)

end Go.Proofs.Yteabcbpimjjdpaa
end
