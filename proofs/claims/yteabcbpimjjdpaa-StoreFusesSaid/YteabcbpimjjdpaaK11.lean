/- StoreFuses: what is proved and its parts, laid together by a program of ours: Ly1 Lg2 Ly2 Ar9 Lw1 Lw2 Lw3 St1 St2 St3 RwStoreFuses -/
import Derived.Test.YteabcbpimjjdpaaK10
set_option autoImplicit false
set_option linter.all false
/- The log: numbers, turns and lays of the program. Own work. -/
section
set_option maxRecDepth 100000
set_option linter.unusedVariables false
namespace Go.Proofs.Yteabcbpimjjdpaa
open Go Go.Vc

/-- Records of all numbers that are there, laid into a page. -/
def turnP (t : Int) (nums : List Int) : Nat → Nat → Nat → Cm → Cm × Int
  | 0, _, _, C => (C, 0)
  | m + 1, x, at_, C => if nums.getD x 0 = 0 then turnP t nums m (x + 1) at_ C
    else if (programM C t (at_ : Int) (valueM (x : Int) (nums.getD x 0)).1).2 ≠ 0 then programM C t (at_ : Int) (valueM (x : Int) (nums.getD x 0)).1
    else turnP t nums m (x + 1) (at_ + 1) (programM C t (at_ : Int) (valueM (x : Int) (nums.getD x 0)).1).1
/-- Behind the erase. -/
def turnA (g : Int) (t : Int) (nums : List Int) (m : Nat) (C : Cm) : Cm × Int :=
  if (turnP t nums m 0 1 C).2 ≠ 0 then turnP t nums m 0 1 C else programM (turnP t nums m 0 1 C).1 t 0 (headM (g + 1)).1
def turnL (C : Cm) (slot : Nat) (n : Int) : Cm × Int :=
  if (pI C (tgtM C)).blank = true then turnA (infoM C).head (tgtM C : Int) ((infoM C).nums.set slot n) (C.cfg.slots + 1).toNat C
  else if (eraseM C (tgtM C : Int)).2 ≠ 0 then eraseM C (tgtM C : Int)
  else turnA (infoM C).head (tgtM C : Int) ((infoM C).nums.set slot n) (C.cfg.slots + 1).toNat (eraseM C (tgtM C : Int)).1
def layL (C : Cm) (slot n : Int) : Cm × Int :=
  if C.out = true then (C, 8)
  else if ¬ (0 ≤ slot ∧ slot ≤ C.cfg.slots ∧ 1 ≤ n ∧ n ≤ most) then (C, 2)
  else if n ≤ (infoM C).nums.getD slot.toNat 0 then (C, 11)
  else if 0 ≤ presM C ∧ (infoM C).next < C.cfg.cells then programM C (presM C) (infoM C).next (valueM slot n).1
  else if wornF C = true then (C, 9)
  else turnL C slot.toNat n
def numberM (C : Cm) (slot : Int) : Int × Int := if C.out = true then (0, 8) else if ¬ (0 ≤ slot ∧ slot ≤ C.cfg.slots) then (0, 2) else ((infoM C).nums.getD slot.toNat 0, 0)
section
variable {h0 h : H} {A : List Ent} {i j p r b : Nat} {C : Cm}
theorem slot_sp {Q : Bool → H → Prop} (hs : Sat h0 A h) (ci : At A i (chipE p C)) (cl : At A j (logE r p)) (n : Int) (k : ∀ h', Sat h0 A h' → Q (decide (0 ≤ n ∧ n ≤ C.cfg.slots)) h') : F_log_Log_slot ⟨r, 0, none⟩ n Q h := by
  unfold F_log_Log_slot G_log_Log_slot
  by_cases g : 0 ≤ n
  · rw [leI_eq, if_pos (by simpa using g)]
    refine ⟨_, hs.ld cl rfl, _, rfl, ?_⟩
    refine Config_sp hs ci ?_
    intro h1 hs
    have := k _ hs
    rw [leI_eq]
    simpa [g] using this
  · rw [leI_eq, if_neg (by simpa using g)]
    have := k _ hs
    simpa [g] using this
theorem target_sp {Q : Int → H → Prop} {P R : Inf} {n : Int} (hp : P.nums.length = 9) (hr : R.nums.length = 9) (hs : Sat h0 A h) (k : ∀ h', Sat h0 A h' → Q (if n = 0 then 1 else 0) h') :
    F_log_found_target P.head P.nums P.next P.blank P.torn R.head R.nums R.next R.blank R.torn n Q h := by
  unfold F_log_found_target G_log_found_target
  simp only [add_mk, Nat.zero_add]
  intro n13 _ hn13; replace hs := Sat.new hs hn13; clear hn13
  replace hs : Sat h0 (blk n13 (fndI P R n) :: A) _ := hs
  have L := hs.fnd (i := 0) .z hp hr
  refine ⟨_, L.a26, ?_⟩
  by_cases g : n = 0
  · rw [if_pos g] at k; rw [if_pos (by simpa using g)]; exact k _ hs.drop
  · rw [if_neg g] at k; rw [if_neg (by simpa using g)]; exact k _ hs.drop
theorem tgt_eq (C : Cm) : (if presM C = 0 then (1 : Int) else 0) = (tgtM C : Int) := by unfold tgtM; split <;> rfl
theorem blank_at (hs : Sat h0 A h) {P R : Inf} {n : Int} (m : At A i (blk b (fndI P R n))) (hp : P.nums.length = 9) (hq : R.nums.length = 9) {t : Nat} (ht : t < 2) : hc h ⟨b, t * 13 + 11, none⟩ = some (.bool (if t = 0 then P.blank else R.blank)) := by
  have L := hs.fnd m hp hq
  have : t = 0 ∨ t = 1 := by omega
  rcases this with rfl | rfl
  · exact L.a11
  · exact L.a24
theorem pI_tgt (C : Cm) : (if tgtM C = 0 then (pI C 0).blank else (pI C 1).blank) = (pI C (tgtM C)).blank := by unfold tgtM; split <;> simp
theorem tgt_lt (C : Cm) : tgtM C < 2 := by unfold tgtM; split <;> omega
theorem worn9_sp {Q : Bool → H → Prop} (hs : Sat h0 A h) (ci : At A i (chipE p C)) (cl : At A j (logE r p)) (ho : C.out = false) (k : ∀ h', Sat h0 A h' → Q (wornF C) h') :
    F_log_Log_worn ⟨r, 0, none⟩ (pI C 0).head (pI C 0).nums (pI C 0).next (pI C 0).blank (pI C 0).torn (pI C 1).head (pI C 1).nums (pI C 1).next (pI C 1).blank (pI C 1).torn (presM C) Q h := by
  unfold F_log_Log_worn G_log_Log_worn
  simp only [add_mk, Nat.zero_add]
  have ok := chip_ok hs ci
  have l0 := pI_len C 0
  have l1 := pI_len C 1
  have hc2 := presM_cases C
  have ht := tgt_lt C
  intro n18 _ hn; replace hs := Sat.new hs hn; clear hn
  replace hs : Sat h0 (blk n18 (fndI (pI C 0) (pI C 1) (presM C)) :: A) _ := hs
  have L := hs.fnd (i := 0) .z l0 l1
  refine ⟨_, hs.ld cl.s rfl, ?_⟩
  refine ⟨_, L.a0, _, ‹_›, L.a1, _, L.a10, _, L.a11, _, L.a12, _, L.a13, _, ‹_›, L.a14, _, L.a23, _, L.a24, _, L.a25, _, L.a26, ?_⟩
  refine target_sp l0 l1 hs ?_
  intro h1 hs
  rw [tgt_eq]
  refine ⟨hcs_one (hs.ld cl.s rfl), _, rfl, ?_⟩
  refine Erases_sp hs ci.s (tgtM C : Int) ?_
  have ee : erasesM C (tgtM C : Int) = (C.er (tgtM C), 0) := by
    have := (ok.fits.pages); have h2 := ok.may.area; have h3 : C.cfg.np = 2 + 2 * C.cfg.area := rfl
    unfold erasesM; rw [askedM_in ho (by omega) (by omega), if_neg (by simp), Int.toNat_natCast]; rfl
  rw [ee]
  have L := hs.fnd (i := 0) .z l0 l1
  refine ⟨_, L.a0, _, ‹_›, L.a1, _, L.a10, _, L.a11, _, L.a12, _, L.a13, _, ‹_›, L.a14, _, L.a23, _, L.a24, _, L.a25, _, L.a26, ?_⟩
  refine target_sp l0 l1 hs ?_
  intro h2 hs
  rw [tgt_eq, Int.toNat_natCast]
  refine ⟨by omega, by omega, _, blank_at hs .z l0 l1 ht, ?_⟩
  rw [pI_tgt]
  unfold wornF at k
  have fin : ∀ h', Sat h0 (blk n18 (fndI (pI C 0) (pI C 1) (presM C)) :: A) h' → ((!(pI C (tgtM C)).blank && decide (C.cfg.erases ≤ C.er (tgtM C))) = false) → ∃ i63, hc h' ⟨n18, 0, none⟩ = some (.int .i64 i63) ∧ ∃ l64 : List Int, l64.length = 9 ∧ hrow h' ⟨n18, 1, none⟩ .i64 l64 ∧ ∃ i65, hc h' ⟨n18, 10, none⟩ = some (.int .i64 i65) ∧ ∃ b66, hc h' ⟨n18, 11, none⟩ = some (.bool b66) ∧ ∃ i67, hc h' ⟨n18, 12, none⟩ = some (.int .i64 i67) ∧
      ∃ i68, hc h' ⟨n18, 13, none⟩ = some (.int .i64 i68) ∧ ∃ l69 : List Int, l69.length = 9 ∧ hrow h' ⟨n18, 14, none⟩ .i64 l69 ∧ ∃ i70, hc h' ⟨n18, 23, none⟩ = some (.int .i64 i70) ∧ ∃ b71, hc h' ⟨n18, 24, none⟩ = some (.bool b71) ∧ ∃ i72, hc h' ⟨n18, 25, none⟩ = some (.int .i64 i72) ∧ ∃ i73, hc h' ⟨n18, 26, none⟩ = some (.int .i64 i73) ∧
      F_log_found_info i63 l64 i65 b66 i67 i68 l69 i70 b71 i72 i73 (fun i74 l75 i76 b77 i78 h79 => ∀ i80 : Int, i80 = 4611686018427387904 → Q (leI i80 i74) h79) h' := by
    intro h' hs e
    have L := hs.fnd (i := 0) .z l0 l1
    refine ⟨_, L.a0, _, ‹_›, L.a1, _, L.a10, _, L.a11, _, L.a12, _, L.a13, _, ‹_›, L.a14, _, L.a23, _, L.a24, _, L.a25, _, L.a26, ?_⟩
    refine finfo_sp l0 l1 (by omega) hs ?_
    intro h3 hs i80 hi80
    rw [← infoM_f]
    rw [e, Bool.false_or] at k
    subst hi80
    rw [leI_eq]
    exact k _ hs.drop
  by_cases g : (pI C (tgtM C)).blank = true
  · rw [if_neg (by rw [g]; decide)]
    exact fin _ hs (by rw [g]; rfl)
  · have g' : (pI C (tgtM C)).blank = false := by simpa using g
    rw [if_pos (by rw [g']; decide)]
    refine ⟨_, hs.ld cl.s rfl, _, rfl, ?_⟩
    refine Config_sp hs ci.s ?_
    intro h3 hs
    by_cases g2 : C.cfg.erases ≤ C.er (tgtM C)
    · rw [leI_eq, if_pos (by simpa using g2)]
      have := k _ hs.drop
      rw [g', decide_eq_true g2] at this
      exact this
    · rw [leI_eq, if_neg (by simpa using g2)]
      exact fin _ hs (by rw [decide_eq_false g2, Bool.and_false])
theorem Number_sp {Q : Int → Int → H → Prop} (hs : Sat h0 A h) (ci : At A i (chipE p C)) (cl : At A j (logE r p)) (slot : Int) (k : ∀ h', Sat h0 A h' → Q (numberM C slot).1 (numberM C slot).2 h') : F_log_Log_Number ⟨r, 0, none⟩ slot Q h := by
  unfold F_log_Log_Number G_log_Log_Number
  simp only [add_mk, Nat.zero_add]
  have ok := chip_ok hs ci
  refine logLook_sp hs ci cl ?_
  intro h1 hs
  obtain ⟨lp, lq⟩ := lookF_len C
  intro n17 _ hn; replace hs := Sat.new hs hn; clear hn
  refine ⟨Sat.can hs (i := 0) .z (by decide), ?_⟩
  intro h2 e
  replace hs := Sat.wra hs (i := 0) .z e (by rw [fnd_len lp lq]; rfl)
  clear e
  replace hs : Sat h0 (blk n17 (fndI (lookF C).1.p (lookF C).1.q (lookF C).1.n) :: A) h2 := hs
  unfold numberM at k
  by_cases ho : C.out = true
  · have e : lookF C = (⟨inf0, inf0, 0⟩, 8) := by unfold lookF; rw [if_pos ho]
    rw [if_pos ho] at k
    rw [e, if_pos (by simp)]
    exact k _ hs.drop
  have e : lookF C = (⟨pI C 0, pI C 1, presM C⟩, 0) := by unfold lookF; rw [if_neg ho]
  rw [if_neg ho] at k
  rw [e] at hs lp lq ⊢
  dsimp only at hs lp lq ⊢
  rw [if_neg (by simp)]
  refine slot_sp hs ci.s cl.s slot ?_
  intro h3 hs
  by_cases g : 0 ≤ slot ∧ slot ≤ C.cfg.slots
  case neg =>
    rw [if_pos g] at k
    rw [if_pos (by rw [decide_eq_false g]; rfl)]
    exact k _ hs.drop
  rw [if_neg (fun y => y g)] at k
  rw [if_neg (by rw [decide_eq_true g]; decide)]
  have L := hs.fnd .z lp lq
  refine ⟨_, L.a0, _, ‹_›, L.a1, _, L.a10, _, L.a11, _, L.a12, _, L.a13, _, ‹_›, L.a14, _, L.a23, _, L.a24, _, L.a25, _, L.a26, ?_⟩
  have hc2 := presM_cases C
  refine finfo_sp lp lq (by omega) hs ?_
  intro h4 hs
  rw [← infoM_f]
  have := ok.may.slots
  exact ⟨by omega, by omega, k _ hs.drop⟩
end
end Go.Proofs.Yteabcbpimjjdpaa
end

/- The log: bounds of what pages say; the document's log. Own work. -/
section
set_option maxRecDepth 100000
set_option linter.unusedVariables false
namespace Go.Proofs.Yteabcbpimjjdpaa
open Go Go.Vc

theorem recM_num (x : List Int) : 0 ≤ (recM x).2.2 ∧ (recM x).2.2 ≤ most := by
  unfold recM
  (repeat' split) <;> simp only [most] at * <;> omega
structure InfOk (I : Inf) (l : Nat) : Prop where
  head : 0 ≤ I.head ∧ I.head ≤ most
  next : 0 ≤ I.next ∧ I.next ≤ l
  torn : 0 ≤ I.torn ∧ I.torn ≤ l
  nums : ∀ k, 0 ≤ I.nums.getD k 0 ∧ I.nums.getD k 0 ≤ most
theorem set_getD (l : List Int) (j k : Nat) (v : Int) : (l.set j v).getD k 0 = if j = k ∧ k < l.length then v else l.getD k 0 := by
  rw [List.getD_eq_getElem?_getD, List.getElem?_set]
  by_cases c : j = k
  · subst c
    by_cases d : j < l.length
    · simp [d]
    · simp [d]
  · simp [c]
theorem ofM_ok (row : List Int) (n : Nat) (hn : n < 2 ^ 60) : InfOk (ofM row n) n := by
  induction n with
  | zero =>
    refine ⟨by show (0 : Int) ≤ 0 ∧ (0 : Int) ≤ most; decide, by show (0 : Int) ≤ 0 ∧ (0 : Int) ≤ 0; decide, by show (0 : Int) ≤ 0 ∧ (0 : Int) ≤ 0; decide, fun k => ?_⟩
    show 0 ≤ (zeros 9).getD k 0 ∧ (zeros 9).getD k 0 ≤ most
    have : (zeros 9).getD k 0 = 0 := by
      rw [List.getD_eq_getElem?_getD]
      unfold zeros
      rw [List.getElem?_replicate]; split <;> rfl
    rw [this]; decide
  | succ n ih =>
    obtain ⟨i1, i2, i3, i4⟩ := ih (by omega)
    obtain ⟨r1, r2⟩ := recM_num (cellAt row n)
    have hl := ofM_len row n
    unfold ofM layM
    generalize (recM (cellAt row n)).1 = kind
    generalize (recM (cellAt row n)).2.1 = slot
    generalize (recM (cellAt row n)).2.2 = num at *
    generalize ofM row n = I at *
    have hN : InfOk (nextM I n kind) (n + 1) ∧ (nextM I n kind).torn ≤ n := by
      unfold nextM
      split
      · exact ⟨⟨i1, by dsimp only; rw [wrap_id (by omega)]; omega, by dsimp only; omega, i4⟩, i3.2⟩
      · exact ⟨⟨i1, by omega, by omega, i4⟩, i3.2⟩
    obtain ⟨⟨j1, j2, j3, j4⟩, j5⟩ := hN
    generalize nextM I n kind = J at *
    unfold layN
    split
    · exact ⟨j1, j2, by dsimp only; rw [wrap_id (by omega)]; omega, j4⟩
    · split
      · exact ⟨⟨r1, r2⟩, j2, j3, j4⟩
      · split
        · refine ⟨j1, j2, j3, fun k => ?_⟩
          dsimp only
          rw [set_getD]
          split
          · have := j4 slot.toNat
            split <;> omega
          · exact j4 k
        · exact ⟨j1, j2, j3, j4⟩
theorem pageI_ok (row : List Int) (n : Nat) (hn : n < 2 ^ 60) : InfOk (pageI row n) n := ⟨(ofM_ok row n hn).1, (ofM_ok row n hn).2, (ofM_ok row n hn).3, (ofM_ok row n hn).4⟩
theorem pI_ok {C : Cm} (ok : C.ok) (k : Nat) : InfOk (pI C k) C.cfg.cells.toNat := pageI_ok _ _ (by have := ok.may.cells; omega)
theorem infoM_ok {C : Cm} (ok : C.ok) : InfOk (infoM C) C.cfg.cells.toNat := by
  unfold infoM
  split
  · refine ⟨by decide, ⟨by decide, by show (0 : Int) ≤ _; omega⟩, ⟨by decide, by show (0 : Int) ≤ _; omega⟩, fun k => ?_⟩
    have := (ofM_ok [] 0 (by decide)).nums k
    exact this
  · exact pI_ok ok _
section
variable {h0 h : H} {A : List Ent} {i j p r l b : Nat} {C : Cm}
end
end Go.Proofs.Yteabcbpimjjdpaa
end

/- The log: a turn, a lay of the program. Own work. -/
section
set_option maxRecDepth 100000
set_option linter.unusedVariables false
namespace Go.Proofs.Yteabcbpimjjdpaa
open Go Go.Vc

theorem value_ok {x : Nat} {v : Int} (hx : x ≤ 8) (h1 : 1 ≤ v) (h2 : v ≤ most) : (valueM (x : Int) v).2 = 0 := by
  unfold valueM
  rw [if_neg (by omega), if_neg (by omega), if_neg (by omega), if_neg (by omega)]
theorem head_ok {g : Int} (h1 : 1 ≤ g) (h2 : g ≤ most) : (headM g).2 = 0 := by
  unfold headM
  rw [if_neg (by omega), if_neg (by omega)]
theorem most_val : most = 4611686018427387904 := rfl
section
variable {h0 h : H} {A : List Ent} {i j p r b : Nat} {C : Cm}
theorem turn1_sp {Q : Int → H → Prop} {nm nx nt nl nf : Nat} {nv fv : List Value} {x at_ t : Nat} {v : Int} (hx : x ≤ 8) (hv1 : 1 ≤ v) (hv2 : v ≤ most) (hat : at_ < 2 ^ 60)
    (hs : Sat h0 (blk nm nv :: blk nx [.int .i64 (at_ : Int)] :: blk nt [.int .i64 (t : Int)] :: blk nf fv :: blk nl [.pointer (some ⟨r, 0, none⟩)] :: A) h) (ci : At A i (chipE p C)) (cl : At A j (logE r p))
    (k : ∀ h', Sat h0 (blk nm nv :: blk nx [.int .i64 ((at_ + 1 : Nat) : Int)] :: blk nt [.int .i64 (t : Int)] :: blk nf fv :: blk nl [.pointer (some ⟨r, 0, none⟩)] :: put A i (chipE p (programM C (t : Int) (at_ : Int) (valueM (x : Int) v).1).1)) h' → Q (programM C (t : Int) (at_ : Int) (valueM (x : Int) v).1).2 h') :
    F_log_Log_turn_1 (x : Int) v ⟨nx, 0, none⟩ ⟨nl, 0, none⟩ ⟨nt, 0, none⟩ Q h := by
  unfold F_log_Log_turn_1 G_log_Log_turn_1
  simp only [List.append_nil]
  refine Value_sp (x : Int) v hs ?_
  intro h1 hs
  have hl := valueM_length (x : Int) v
  rw [value_ok hx hv1 hv2]
  generalize (valueM (x : Int) v).1 = rec at *
  intro n12 _ hn; replace hs := Sat.new hs hn; clear hn
  refine ⟨Sat.can hs (i := 0) .z (by simp [zeros]), ?_⟩
  intro h2 e2
  replace hs := Sat.wra hs (i := 0) .z e2 (by simp [zeros, hl])
  clear e2
  simp only [put] at hs
  rw [if_neg (by simp)]
  refine ⟨_, Sat.ld hs (by (repeat (first | exact At.z | apply At.s))) (by rfl), ?_⟩
  (refine ⟨Sat.can hs (by (repeat (first | exact At.z | apply At.s))) (by simp), ?_⟩; intro _ e; replace hs := Sat.wr hs (by (repeat (first | exact At.z | apply At.s))) e; clear e; simp only [put, splice, List.set] at hs)
  rw [wrap_succ (by omega)] at hs
  refine ⟨_, Sat.ld hs (by (repeat (first | exact At.z | apply At.s))) (by rfl), ?_⟩
  refine ⟨_, rfl, _, hs.ld cl.s.s.s.s.s.s rfl, ?_⟩
  refine ⟨_, Sat.ld hs (by (repeat (first | exact At.z | apply At.s))) (by rfl), ?_⟩
  refine ⟨_, Sat.ld hs (by (repeat (first | exact At.z | apply At.s))) (by rfl), ?_⟩
  refine ⟨_, hl, hs.row0 (i := 0) .z, _, rfl, ?_⟩
  have ea : IntKind.i64.wrap (((at_ + 1 : Nat) : Int) - 1) = (at_ : Int) := by rw [wrap_id (by omega)]; omega
  rw [ea]
  refine Program_sp hs ci.s.s.s.s.s.s (t : Int) (at_ : Int) rec hl ?_
  intro h3 hs
  simp only [put_succ] at hs
  exact k _ hs.drop
theorem turn_sp {Q : Int → H → Prop} (hs : Sat h0 A h) (ci : At A i (chipE p C)) (cl : At A j (logE r p)) (hij : j ≠ i) (slot : Nat) (n : Int) (hsl : (slot : Int) ≤ C.cfg.slots) (hn1 : 1 ≤ n) (hn2 : n ≤ most) (hg : (infoM C).head < most)
    (k : ∀ h', Sat h0 (put A i (chipE p (turnL C slot n).1)) h' → Q (turnL C slot n).2 h') :
    F_log_Log_turn ⟨r, 0, none⟩ (pI C 0).head (pI C 0).nums (pI C 0).next (pI C 0).blank (pI C 0).torn (pI C 1).head (pI C 1).nums (pI C 1).next (pI C 1).blank (pI C 1).torn (presM C) (slot : Int) n Q h := by
  unfold F_log_Log_turn G_log_Log_turn
  simp only [add_mk, Nat.zero_add, List.append_nil]
  have ok := chip_ok hs ci
  have hslots := ok.may.slots
  have l0 := pI_len C 0
  have l1 := pI_len C 1
  have hc2 := presM_cases C
  have ht := tgt_lt C
  have iok := infoM_ok ok
  have ilen := infoM_len C
  intro n23 _ hn; replace hs := Sat.new hs hn; clear hn
  intro n26 _ hn; replace hs := Sat.new hs hn; clear hn
  replace hs : Sat h0 (blk n26 (fndI (pI C 0) (pI C 1) (presM C)) :: blk n23 [.pointer (some ⟨r, 0, none⟩)] :: A) _ := hs
  have L := hs.fnd (i := 0) .z l0 l1
  refine ⟨_, L.a0, _, ‹_›, L.a1, _, L.a10, _, L.a11, _, L.a12, _, L.a13, _, ‹_›, L.a14, _, L.a23, _, L.a24, _, L.a25, _, L.a26, ?_⟩
  refine target_sp l0 l1 hs ?_
  intro h1 hs
  rw [tgt_eq]
  intro n42 _ hn; replace hs := Sat.new hs hn; clear hn
  (refine ⟨Sat.can hs (by (repeat (first | exact At.z | apply At.s))) (by simp), ?_⟩; intro _ e; replace hs := Sat.wr hs (by (repeat (first | exact At.z | apply At.s))) e; clear e; simp only [put, splice, List.set] at hs)
  obtain ⟨t, htd⟩ : ∃ t, t = tgtM C := ⟨_, rfl⟩
  obtain ⟨nums, hnums⟩ : ∃ nums, nums = (infoM C).nums.set slot n := ⟨_, rfl⟩
  have hnb : ∀ x, 0 ≤ nums.getD x 0 ∧ nums.getD x 0 ≤ most := by
    intro x
    rw [hnums, set_getD]
    split
    · omega
    · exact iok.nums x
  have hnl : nums.length = 9 := by rw [hnums, List.length_set, ilen]
  have kk : turnL C slot n = if (pI C t).blank = true then turnA (infoM C).head (t : Int) nums (C.cfg.slots + 1).toNat C else if (eraseM C (t : Int)).2 ≠ 0 then eraseM C (t : Int) else turnA (infoM C).head (t : Int) nums (C.cfg.slots + 1).toNat (eraseM C (t : Int)).1 := by rw [htd, hnums]; rfl
  rw [kk] at k
  rw [← htd] at hs ht
  clear kk
  intro J47 hJ47
  -- behind the erase
  have way : ∀ (D : Cm) h', D.cfg = C.cfg → Sat h0 (blk n42 [.int .i64 (t : Int)] :: blk n26 (fndI (pI C 0) (pI C 1) (presM C)) :: blk n23 [.pointer (some ⟨r, 0, none⟩)] :: put A i (chipE p D)) h' →
      (∀ h', Sat h0 (put A i (chipE p (turnA (infoM C).head (t : Int) nums (C.cfg.slots + 1).toNat D).1)) h' → Q (turnA (infoM C).head (t : Int) nums (C.cfg.slots + 1).toNat D).2 h') → J47 [] h' := by
    intro D h2 hcf hs k
    apply hJ47
    clear hJ47 J47
    have ci2 := ci.put (chipE p D)
    have cl2 := cl.put_ne hij (chipE p D)
    have pp : ∀ E : Cm, put (put A i (chipE p D)) i (chipE p E) = put A i (chipE p E) := fun E => put_put _ _ _ _
    generalize put A i (chipE p D) = A2 at *
    intro n49 _ hn; replace hs := Sat.new hs hn; clear hn
    (refine ⟨Sat.can hs (by (repeat (first | exact At.z | apply At.s))) (by simp), ?_⟩; intro _ e; replace hs := Sat.wr hs (by (repeat (first | exact At.z | apply At.s))) e; clear e; simp only [put, splice, List.set] at hs)
    have L := hs.fnd (i := 2) (.s (.s .z)) l0 l1
    refine ⟨_, L.a0, _, ‹_›, L.a1, _, L.a10, _, L.a11, _, L.a12, _, L.a13, _, ‹_›, L.a14, _, L.a23, _, L.a24, _, L.a25, _, L.a26, ?_⟩
    refine finfo_sp l0 l1 (by omega) hs ?_
    intro h3 hs
    rw [← infoM_f]
    intro n71 _ hn; replace hs := Sat.new hs hn; clear hn
    refine ⟨Sat.can hs (i := 0) .z (by simp [zeros]), ?_⟩
    intro h4 e4
    replace hs := Sat.wra hs (i := 0) .z e4 (by simp [zeros, ilen])
    clear e4
    simp only [put] at hs
    refine ⟨by omega, by omega, ?_⟩
    rw [Int.toNat_natCast, Nat.mul_one]
    refine ⟨Sat.can hs (i := 0) .z (by simp [ilen]; omega), ?_⟩
    intro h5 e5
    replace hs := Sat.wr hs (i := 0) .z e5
    clear e5
    have e6 : splice (ints .i64 (infoM C).nums) slot [.int .i64 n] = ints .i64 nums := by
      show (ints .i64 (infoM C).nums).set slot (.int .i64 n) = _
      rw [ints_set, hnums]
    rw [e6] at hs
    simp only [put] at hs
    refine ⟨_, hs.ld (i := 4) (.s (.s (.s (.s .z)))) rfl, _, rfl, _, hs.ld cl2.s.s.s.s.s rfl, _, rfl, ?_⟩
    refine Config_sp hs ci2.s.s.s.s.s ?_
    intro h6 hs
    rw [hcf]
    intro J90 hJ90
    obtain ⟨m, hm⟩ : ∃ m, m = (C.cfg.slots + 1).toNat := ⟨_, rfl⟩
    rw [← hm] at k
    have hm9 : m ≤ 9 := by omega
    have em : IntKind.i64.wrap (C.cfg.slots + 1) = (m : Int) := by rw [wrap_id (by omega)]; omega
    rw [em] at hJ90
    obtain ⟨E, hE⟩ : ∃ E, E = turnP (t : Int) nums m 0 1 D := ⟨_, rfl⟩
    have kE : turnA (infoM C).head (t : Int) nums m D = if E.2 ≠ 0 then E else programM E.1 (t : Int) 0 (headM ((infoM C).head + 1)).1 := by unfold turnA; rw [← hE]
    rw [kE] at k
    clear kE
    have hs1 : ∃ (F : Cm) (at_ : Nat), at_ ≤ 0 + 1 ∧ Sat h0 (blk n71 (ints .i64 nums) :: blk n49 [.int .i64 (at_ : Int)] :: blk n42 [.int .i64 (t : Int)] :: blk n26 (fndI (pI C 0) (pI C 1) (presM C)) :: blk n23 [.pointer (some ⟨r, 0, none⟩)] :: put A2 i (chipE p F)) h6 ∧ turnP (t : Int) nums (m - 0) 0 at_ F = E :=
      ⟨D, 1, by omega, by rw [ci2.put_self]; exact hs, hE.symm⟩
    clear hs
    refine loop_up m (fun x h => ∃ (F : Cm) (at_ : Nat), at_ ≤ x + 1 ∧ Sat h0 (blk n71 (ints .i64 nums) :: blk n49 [.int .i64 (at_ : Int)] :: blk n42 [.int .i64 (t : Int)] :: blk n26 (fndI (pI C 0) (pI C 1) (presM C)) :: blk n23 [.pointer (some ⟨r, 0, none⟩)] :: put A2 i (chipE p F)) h ∧ turnP (t : Int) nums (m - x) x at_ F = E) ?_ ?_ 0 _ (by omega) hs1
    · rintro x h7 hx ⟨F, at_, hat, hs, hT⟩ hk
      apply hJ90
      rw [ltI_eq, if_pos (by simp; omega)]
      have g : ∀ h', Sat h0 (blk n71 (ints .i64 nums) :: blk n49 [.int .i64 (at_ : Int)] :: blk n42 [.int .i64 (t : Int)] :: blk n26 (fndI (pI C 0) (pI C 1) (presM C)) :: blk n23 [.pointer (some ⟨r, 0, none⟩)] :: put A2 i (chipE p F)) h' → hc h' ⟨n71, x, none⟩ = some (.int .i64 (nums.getD x 0)) := fun h' hs' => hs'.ld (i := 0) .z (by
        rw [ints_get, List.getElem?_eq_getElem (by omega)]; simp [List.getD, List.getElem?_eq_getElem (show x < nums.length by omega)])
      obtain ⟨m', hm'⟩ : ∃ m', m - x = m' + 1 := ⟨m - x - 1, by omega⟩
      rw [hm'] at hT
      unfold turnP at hT
      rw [wrap_succ (by omega), Int.toNat_natCast, Nat.mul_one]
      refine ⟨by omega, by omega, _, g _ hs, ?_⟩
      by_cases gz : nums.getD x 0 = 0
      · rw [if_pos gz] at hT
        rw [if_pos (by rw [gz]; rfl)]
        exact hk _ ⟨F, at_, by omega, hs, by rw [show m - (x + 1) = m' by omega]; exact hT⟩
      rw [if_neg gz] at hT
      rw [if_neg (by rw [beq_iff_eq]; exact gz)]
      refine ⟨by omega, by omega, _, g _ hs, ?_⟩
      have hb := hnb x
      refine turn1_sp (by omega) (by omega) hb.2 (by omega) hs (ci2.put _) (cl2.put_ne hij _) ?_
      intro h8 hs
      rw [put_put] at hs
      generalize programM F (t : Int) (at_ : Int) (valueM (x : Int) (nums.getD x 0)).1 = X at *
      by_cases ge : X.2 = 0
      · rw [if_neg (by simpa using ge)] at hT
        rw [if_neg (by simpa using ge)]
        exact hk _ ⟨X.1, at_ + 1, by omega, hs, by rw [show m - (x + 1) = m' by omega]; exact hT⟩
      · rw [if_pos (by simpa using ge)] at hT
        rw [if_pos (by simpa using ge)]
        rw [← hT, if_pos ge] at k
        refine k _ ?_
        rw [← pp]
        exact hs.drop.drop.drop.drop.drop
    · rintro h7 ⟨F, at_, hat, hs, hT⟩
      apply hJ90
      rw [ltI_eq, if_neg (by simp)]
      rw [Nat.sub_self] at hT
      unfold turnP at hT
      rw [← hT, if_neg (by simp)] at k
      dsimp only at k
      have L := hs.fnd (i := 3) (.s (.s (.s .z))) l0 l1
      refine ⟨_, L.a0, _, ‹_›, L.a1, _, L.a10, _, L.a11, _, L.a12, _, L.a13, _, ‹_›, L.a14, _, L.a23, _, L.a24, _, L.a25, _, L.a26, ?_⟩
      refine finfo_sp l0 l1 (by omega) hs ?_
      intro h8 hs
      rw [← infoM_f]
      have ih := iok.head
      have hmv := most_val
      rw [wrap_id (by omega)]
      refine Head_sp ((infoM C).head + 1) hs ?_
      intro h9 hs
      rw [head_ok (by omega) (by omega)]
      have hhl := headM_length ((infoM C).head + 1)
      generalize (headM ((infoM C).head + 1)).1 = rec at *
      intro n117 _ hn; replace hs := Sat.new hs hn; clear hn
      refine ⟨Sat.can hs (i := 0) .z (by simp [zeros]), ?_⟩
      intro h10 e10
      replace hs := Sat.wra hs (i := 0) .z e10 (by simp [zeros, hhl])
      clear e10
      simp only [put] at hs
      rw [if_neg (by simp)]
      refine ⟨_, hs.ld (i := 5) (.s (.s (.s (.s (.s .z))))) rfl, _, rfl, _, hs.ld (cl2.put_ne hij (chipE p F)).s.s.s.s.s.s rfl, ?_⟩
      refine ⟨_, Sat.ld hs (by (repeat (first | exact At.z | apply At.s))) (by rfl), ?_⟩
      refine ⟨_, hhl, hs.row0 (i := 0) .z, _, rfl, ?_⟩
      refine Program_sp hs (ci2.put (chipE p F)).s.s.s.s.s.s (t : Int) 0 rec hhl ?_
      intro h11 hs
      simp only [put_succ, put_put] at hs
      refine k _ ?_
      rw [← pp]
      exact hs.drop.drop.drop.drop.drop.drop
  have hbl := blank_at hs (i := 1) (.s .z) l0 l1 ht
  rw [htd, pI_tgt, ← htd] at hbl
  refine ⟨_, hs.ld (i := 0) .z rfl, by omega, by omega, _, hbl, ?_⟩
  by_cases g : (pI C t).blank = true
  · rw [if_pos g] at k
    rw [if_neg (by rw [g]; decide)]
    refine way C _ rfl ?_ k
    rw [ci.put_self]
    exact hs
  · rw [if_neg g] at k
    rw [if_pos (by simpa using g)]
    refine ⟨_, hs.ld (i := 2) (.s (.s .z)) rfl, _, rfl, _, hs.ld cl.s.s.s rfl, ?_⟩
    refine ⟨_, Sat.ld hs (by (repeat (first | exact At.z | apply At.s))) (by rfl), ?_⟩
    refine ⟨_, rfl, ?_⟩
    refine Erase_sp hs ci.s.s.s (t : Int) ?_
    intro h2 hs
    simp only [put_succ] at hs
    have hcf := erase_cfg C (t : Int)
    generalize eraseM C (t : Int) = X at *
    by_cases ge : X.2 = 0
    · rw [if_neg (by simpa using ge)] at k
      rw [if_neg (by simpa using ge)]
      exact way X.1 _ hcf hs k
    · rw [if_pos (by simpa using ge)] at k
      rw [if_pos (by simpa using ge)]
      exact k _ hs.drop.drop.drop
theorem Lay9_sp {Q : Int → H → Prop} (hs : Sat h0 A h) (ci : At A i (chipE p C)) (cl : At A j (logE r p)) (hij : j ≠ i) (slot n : Int)
    (k : ∀ h', Sat h0 (put A i (chipE p (layL C slot n).1)) h' → Q (layL C slot n).2 h') : F_log_Log_Lay ⟨r, 0, none⟩ slot n Q h := by
  unfold F_log_Log_Lay G_log_Log_Lay
  simp only [add_mk, Nat.zero_add, List.append_nil]
  have ok := chip_ok hs ci
  have hslots := ok.may.slots
  refine logLook_sp hs ci cl ?_
  intro h1 hs
  obtain ⟨lp, lq⟩ := lookF_len C
  intro n26 _ hn; replace hs := Sat.new hs hn; clear hn
  refine ⟨Sat.can hs (i := 0) .z (by decide), ?_⟩
  intro h2 e
  replace hs := Sat.wra hs (i := 0) .z e (by rw [fnd_len lp lq]; rfl)
  clear e
  replace hs : Sat h0 (blk n26 (fndI (lookF C).1.p (lookF C).1.q (lookF C).1.n) :: A) h2 := hs
  unfold layL at k
  by_cases ho : C.out = true
  · have e : lookF C = (⟨inf0, inf0, 0⟩, 8) := by unfold lookF; rw [if_pos ho]
    rw [if_pos ho] at k
    rw [e, if_pos (by simp)]
    exact k _ (by rw [ci.put_self]; exact hs.drop)
  have ho' : C.out = false := by simpa using ho
  have e : lookF C = (⟨pI C 0, pI C 1, presM C⟩, 0) := by unfold lookF; rw [if_neg ho]
  rw [if_neg ho] at k
  rw [e] at hs lp lq ⊢
  dsimp only at hs lp lq ⊢
  rw [if_neg (by simp)]
  intro J31 hJ31
  have iok := infoM_ok ok
  have ilen := infoM_len C
  have hc2 := presM_cases C
  have way : ∀ bb : Bool, (bb = true ↔ ¬ (0 ≤ slot ∧ slot ≤ C.cfg.slots ∧ 1 ≤ n ∧ n ≤ most)) → ∀ h3, Sat h0 (blk n26 (fndI (pI C 0) (pI C 1) (presM C)) :: A) h3 → J31 [.dv (.one (.bool bb))] h3 := by
    intro bb hbb h3 hs
    apply hJ31
    clear hJ31 J31
    by_cases gb : bb = true
    · rw [if_pos (hbb.1 gb)] at k
      rw [if_pos gb]
      exact k _ (by rw [ci.put_self]; exact hs.drop)
    have g : 0 ≤ slot ∧ slot ≤ C.cfg.slots ∧ 1 ≤ n ∧ n ≤ most := Classical.byContradiction fun y => gb (hbb.2 y)
    rw [if_neg (fun y => y g)] at k
    rw [if_neg gb]
    obtain ⟨g1, g2, g3, g4⟩ := g
    have L := hs.fnd .z lp lq
    refine ⟨_, L.a0, _, ‹_›, L.a1, _, L.a10, _, L.a11, _, L.a12, _, L.a13, _, ‹_›, L.a14, _, L.a23, _, L.a24, _, L.a25, _, L.a26, ?_⟩
    refine finfo_sp lp lq (by omega) hs ?_
    intro h4 hs
    rw [← infoM_f]
    refine ⟨by omega, by omega, ?_⟩
    by_cases g5 : n ≤ (infoM C).nums.getD slot.toNat 0
    · rw [if_pos g5] at k
      rw [leI_eq, if_pos (by rw [decide_eq_true g5])]
      exact k _ (by rw [ci.put_self]; exact hs.drop)
    rw [if_neg g5] at k
    rw [leI_eq, if_neg (by rw [decide_eq_false g5]; decide)]
    have L := hs.fnd .z lp lq
    refine ⟨_, L.a0, _, ‹_›, L.a1, _, L.a10, _, L.a11, _, L.a12, _, L.a13, _, ‹_›, L.a14, _, L.a23, _, L.a24, _, L.a25, _, L.a26, ?_⟩
    refine finfo_sp lp lq (by omega) hs ?_
    intro h5 hs
    rw [← infoM_f]
    intro n68 _ hn; replace hs := Sat.new hs hn; clear hn
    refine ⟨Sat.can hs (i := 0) .z (by decide), ?_⟩
    intro h6 e6
    replace hs := Sat.wra hs (i := 0) .z e6 ((inf_len ilen).trans rfl)
    clear e6
    replace hs : Sat h0 (blk n68 (infI (infoM C)) :: blk n26 (fndI (pI C 0) (pI C 1) (presM C)) :: A) h6 := hs
    intro J73 hJ73
    have way2 : ∀ bb : Bool, (bb = true ↔ (0 ≤ presM C ∧ (infoM C).next < C.cfg.cells)) → ∀ h7, Sat h0 (blk n68 (infI (infoM C)) :: blk n26 (fndI (pI C 0) (pI C 1) (presM C)) :: A) h7 → J73 [.dv (.one (.bool bb))] h7 := by
      intro bb hbb h7 hs
      apply hJ73
      clear hJ73 J73
      by_cases gb : bb = true
      · rw [if_pos (hbb.1 gb)] at k
        rw [if_pos gb]
        obtain ⟨sl, rfl⟩ := Int.eq_ofNat_of_zero_le g1
        refine Value_sp (sl : Int) n hs ?_
        intro h8 hs
        have hvl := valueM_length (sl : Int) n
        rw [value_ok (by omega) g3 g4]
        generalize (valueM (sl : Int) n).1 = rec at *
        intro n79 _ hn; replace hs := Sat.new hs hn; clear hn
        refine ⟨Sat.can hs (i := 0) .z (by simp [zeros]), ?_⟩
        intro h9 e9
        replace hs := Sat.wra hs (i := 0) .z e9 (by simp [zeros, hvl])
        clear e9
        simp only [put] at hs
        rw [if_neg (by simp)]
        have L := hs.fnd (i := 2) (.s (.s .z)) lp lq
        obtain ⟨L0, L1, L10, L11, L12⟩ := hs.infAt (i := 1) (.s .z) ilen
        refine ⟨_, hs.ld cl.s.s.s rfl, _, L.a26, _, L10, _, hvl, hs.row0 (i := 0) .z, _, rfl, ?_⟩
        refine Program_sp hs ci.s.s.s (presM C) (infoM C).next rec hvl ?_
        intro h10 hs
        simp only [put_succ] at hs
        exact k _ hs.drop.drop.drop
      rw [if_neg (fun y => gb (hbb.2 y))] at k
      rw [if_neg gb]
      have L := hs.fnd (i := 1) (.s .z) lp lq
      refine ⟨_, L.a0, _, ‹_›, L.a1, _, L.a10, _, L.a11, _, L.a12, _, L.a13, _, ‹_›, L.a14, _, L.a23, _, L.a24, _, L.a25, _, L.a26, ?_⟩
      refine worn9_sp hs ci.s.s cl.s.s ho' ?_
      intro h8 hs
      by_cases gw : wornF C = true
      · rw [if_pos gw] at k
        rw [if_pos gw]
        exact k _ (by rw [ci.put_self]; exact hs.drop.drop)
      rw [if_neg gw] at k
      rw [if_neg gw]
      have hgm : (infoM C).head < most := by
        have : ¬ most ≤ (infoM C).head := fun y => gw (by unfold wornF; rw [decide_eq_true y, Bool.or_true])
        omega
      have L := hs.fnd (i := 1) (.s .z) lp lq
      refine ⟨_, L.a0, _, ‹_›, L.a1, _, L.a10, _, L.a11, _, L.a12, _, L.a13, _, ‹_›, L.a14, _, L.a23, _, L.a24, _, L.a25, _, L.a26, ?_⟩
      obtain ⟨sl, rfl⟩ := Int.eq_ofNat_of_zero_le g1
      refine turn_sp hs ci.s.s cl.s.s (by omega) sl n g2 g3 g4 hgm ?_
      intro h9 hs
      simp only [put_succ] at hs
      exact k _ hs.drop.drop
    have L := hs.fnd (i := 1) (.s .z) lp lq
    refine ⟨_, L.a26, ?_⟩
    by_cases gp : 0 ≤ presM C
    · rw [leI_eq, if_pos (by simpa using gp)]
      obtain ⟨L0, L1, L10, L11, L12⟩ := hs.infAt (i := 0) .z ilen
      refine ⟨_, L10, _, hs.ld cl.s.s rfl, _, rfl, ?_⟩
      refine Config_sp hs ci.s.s ?_
      intro h7 hs
      obtain ⟨M0, M1, M10, M11, M12⟩ := hs.infAt (i := 0) .z ilen
      refine ⟨hcs_one M10, ?_⟩
      rw [ltI_eq]
      exact way2 _ (by simp [gp]) _ hs
    · rw [leI_eq, if_neg (by simpa using gp)]
      exact way2 false (by simp [gp]) _ hs
  refine slot_sp hs ci.s cl.s slot ?_
  intro h3 hs
  by_cases gs : 0 ≤ slot ∧ slot ≤ C.cfg.slots
  case neg =>
    rw [if_pos (by rw [decide_eq_false gs]; rfl)]
    exact way true (by constructor; intro _ y; exact gs ⟨y.1, y.2.1⟩; intro _; rfl) _ hs
  rw [if_neg (by rw [decide_eq_true gs]; decide)]
  by_cases gn : n < 1
  · rw [ltI_eq, if_pos (by simpa using gn)]
    exact way true (by constructor; intro _ y; omega; intro _; rfl) _ hs
  rw [ltI_eq, if_neg (by simpa using gn)]
  intro i135 hi
  subst hi
  rw [ltI_eq]
  have hmv := most_val
  refine way _ ?_ _ hs
  rw [decide_eq_true_iff]
  constructor
  · intro y z; omega
  · intro y
    exact Classical.byContradiction fun z => y ⟨gs.1, gs.2, by omega, by omega⟩
end
end Go.Proofs.Yteabcbpimjjdpaa
end

/- AreaWrites: what the programs of a Write leave; laws about numbers alone. Own work. -/
section
set_option maxRecDepth 100000
set_option linter.unusedVariables false
namespace Go.Proofs.Yteabcbpimjjdpaa
open Go Go.Vc

/-- A cell of an area that begins at a page. -/
def cellOf (B cells : Nat) (D : Cm) (x : Nat) : List Int := cellAt (D.pg (B + x / cells)) (x % cells)
theorem prog_step {C : Cm} {P q : Nat} {rec : List Int} (ho : C.out = false) (hP : P < C.s.pages.length) (hq : (q : Int) < C.cfg.cells) (ha : 0 ≤ C.acts ∧ C.acts < 2 ^ 60) :
    ∃ D : Cm, programM C (P : Int) (q : Int) rec = (D, errM C) ∧ D.cfg = C.cfg ∧ D.s.blown = C.s.blown ∧ D.s.pages.length = C.s.pages.length ∧ D.s.erases = C.s.erases ∧ (∀ x, x ≠ P → D.pg x = C.pg x) ∧
      D.acts = C.acts + 1 ∧ D.pg P = rowSet (C.pg P) q (progCell (cellAt (C.pg P) q) rec (maskAt C)) ∧ (C.left ≠ 0 → D.out = false) ∧ (-1 ≤ C.left → -1 ≤ D.left) := by
  have hac : C.act.acts = C.acts + 1 := by
    unfold Cm.act
    have : w64 (C.acts + 1) = C.acts + 1 := by unfold w64; rw [IntKind.wrap_i64]; omega
    split <;> exact this
  have ec : asksCellM C (P : Int) (q : Int) = 0 := by
    unfold asksCellM
    rw [askedM_in ho (by omega) (by omega), if_neg (by simp), askedM_in ho (by omega) hq]
  unfold programM
  rw [ec, if_neg (by simp), Int.toNat_natCast, Int.toNat_natCast]
  refine ⟨_, rfl, act_cfg C, ?_, ?_, ?_, ?_, hac, ?_, ?_, ?_⟩
  · show C.act.s.blown = _; rw [act_s]
  · show (C.act.s.pages.set P _).length = _; rw [List.length_set, act_s]
  · show C.act.s.erases = _; rw [act_s]
  · intro x hx
    show (C.act.s.pages.set P _).getD x [] = C.s.pages.getD x []
    simp only [List.getD, List.getElem?_set_ne (Ne.symm hx), act_s]
  · show (C.act.s.pages.set P _).getD P [] = _
    rw [getD_put _ _ _ _ (by rw [act_s]; exact hP)]
    unfold rowOf
    rw [Int.toNat_natCast]; rfl
  · intro hl
    show C.act.out = false
    exact act_out ho hl
  · intro hl
    show -1 ≤ C.act.left
    unfold Cm.act
    split
    · dsimp only; split <;> omega
    · exact Int.le_refl _
theorem cellOf_step {B cells i : Nat} {C D : Cm} {c : List Int} (hc : 0 < cells) (h1 : ∀ x, x ≠ B + i / cells → D.pg x = C.pg x) (h2 : D.pg (B + i / cells) = rowSet (C.pg (B + i / cells)) (i % cells) c) (hl : (C.pg (B + i / cells)).length = cells * 32) (hcl : c.length = 32) :
    cellOf B cells D i = c ∧ (∀ x, x ≠ i → cellOf B cells D x = cellOf B cells C x) ∧ (D.pg (B + i / cells)).length = cells * 32 := by
  have hm : i % cells < cells := Nat.mod_lt _ hc
  have hb : (i % cells + 1) * 32 ≤ (C.pg (B + i / cells)).length := by rw [hl]; exact Nat.mul_le_mul_right 32 hm
  refine ⟨?_, ?_, ?_⟩
  · unfold cellOf
    rw [h2, rowSet_same hb hcl]
  · intro x hx
    unfold cellOf
    by_cases e : x / cells = i / cells
    · rw [e, h2]
      have hmx : x % cells < cells := Nat.mod_lt _ hc
      refine rowSet_other hb (by rw [hl]; exact Nat.mul_le_mul_right 32 hmx) hcl ?_
      intro e2
      have a1 := Nat.div_add_mod x cells
      have a2 := Nat.div_add_mod i cells
      rw [e, e2] at a1
      omega
    · rw [h1 _ (by omega)]
  · rw [h2, rowSet_length hb hcl, hl]
theorem prog_whole {X : List Int} (hX : X.length = 32) (hb : bytesOk X) : progCell blankCell X (fun _ => 255) = X := by
  have hcl : (progCell blankCell X fun _ => 255).length = 32 := progCell_length _ _ _ (by simp [blankCell])
  refine ext_getD (hcl.trans hX.symm) fun i hi => ?_
  rw [hcl] at hi
  rw [prog_getD _ _ _ hi]
  exact prog_full _ (getD_byte hb _)
theorem cellM_bytes {bs : List Int} (hb : bytesOk bs) (n : Nat) : bytesOk (cellM bs n) := by
  unfold cellM
  refine tab_bytes fun k => ?_
  split
  · exact getD_byte hb _
  · exact ⟨by decide, by decide⟩
def doneP (n k x : Nat) : Prop := (1 ≤ x ∧ x ≤ k ∧ x < n) ∨ (k = n ∧ x = 0 ∧ 0 < n)
instance (n k x : Nat) : Decidable (doneP n k x) := by unfold doneP; infer_instance
theorem done_next {n k : Nat} (hk : k < n) (x : Nat) : doneP n (k + 1) x ↔ (doneP n k x ∨ x = (k + 1) % n) := by
  unfold doneP
  by_cases c : k + 1 = n
  · rw [c, Nat.mod_self]; omega
  · rw [Nat.mod_eq_of_lt (by omega)]; omega
theorem not_done {n k : Nat} (hk : k < n) : ¬ doneP n k ((k + 1) % n) := by
  unfold doneP
  by_cases c : k + 1 = n
  · rw [c, Nat.mod_self]; omega
  · rw [Nat.mod_eq_of_lt (by omega)]; omega
/-- What programs do to an area. -/
structure Pr (B area cells n k : Nat) (bs : List Int) (C D : Cm) (e : Int) : Prop where
  cfg : D.cfg = C.cfg
  bl : D.s.blown = C.s.blown
  np : D.s.pages.length = C.s.pages.length
  es : D.s.erases = C.s.erases
  pg : ∀ x, x < B ∨ B + area ≤ x → D.pg x = C.pg x
  good : e = 0 → D.acts = C.acts + (n - k : Nat) ∧ ∀ x, x < area * cells → cellOf B cells D x = if doneP n n x then cellM bs x else ffs
  bad : e ≠ 0 → e = 8 ∧ ∃ t, k < t ∧ t ≤ n ∧ D.acts = C.acts + (t - k : Nat) ∧ ∀ x, x < area * cells → x ≠ t % n → cellOf B cells D x = if doneP n (t - 1) x then cellM bs x else ffs
theorem programs (B area cells n : Nat) (bs : List Int) (hb : bytesOk bs) (hn : 0 < n) (hN : n ≤ area * cells) (hc : 0 < cells) : ∀ (m k : Nat) (C : Cm), m + k = n → C.out = false → -1 ≤ C.left → (cells : Int) = C.cfg.cells → B + area ≤ C.s.pages.length → (0 ≤ C.acts ∧ C.acts + m < 2 ^ 60) →
    (∀ x, x < area → (C.pg (B + x)).length = cells * 32) → (∀ x, x < area * cells → cellOf B cells C x = if doneP n k x then cellM bs x else ffs) → Pr B area cells n k bs C (progL (B : Int) cells bs n m k C).1 (progL (B : Int) cells bs n m k C).2 := by
  intro m
  induction m with
  | zero =>
    intro k C hk ho hl hcc hp ha hlen hcell
    have : k = n := by omega
    subst this
    unfold progL
    exact ⟨rfl, rfl, rfl, rfl, fun _ _ => rfl, fun _ => ⟨by simp, hcell⟩, fun x => absurd rfl x⟩
  | succ m ih =>
    intro k C hk ho hl hcc hp ha hlen hcell
    unfold progL
    have hin : (k + 1) % n < n := Nat.mod_lt _ hn
    have hnd := not_done (n := n) (k := k) (by omega)
    have hnx := done_next (n := n) (k := k) (by omega)
    generalize hi : (k + 1) % n = i at *
    have hdiv : i / cells < area := (Nat.div_lt_iff_lt_mul hc).2 (by omega)
    have hmod : i % cells < cells := Nat.mod_lt _ hc
    have hBle : B ≤ B + i / cells := Nat.le_add_right _ _
    have hne : ∀ x, x < B ∨ B + area ≤ x → x ≠ B + i / cells := by
      intro x hx
      generalize i / cells = dd at *
      omega
    have eB : (B : Int) + ((i / cells : Nat) : Int) = ((B + i / cells : Nat) : Int) := by simp
    rw [eB]
    obtain ⟨D, hD, d1, d2, d3, d4, d5, d6, d7, d8, d9⟩ := prog_step (C := C) (P := B + i / cells) (q := i % cells) (rec := cellM bs i) ho (by omega) (by omega) ⟨ha.1, by omega⟩
    rw [hD]
    dsimp only
    have hold : cellAt (C.pg (B + i / cells)) (i % cells) = ffs := by
      have := hcell i (by omega)
      rw [if_neg hnd] at this
      exact this
    rw [hold] at d7
    have hclen : ∀ f, (progCell ffs (cellM bs i) f).length = 32 := fun f => progCell_length _ _ _ rfl
    obtain ⟨s1, s2, s3⟩ := cellOf_step (B := B) (i := i) hc (fun x hx => d5 x hx) d7 (hlen _ hdiv) (hclen _)
    have hlen2 : ∀ x, x < area → (D.pg (B + x)).length = cells * 32 := by
      intro x hx
      by_cases e : x = i / cells
      · rw [e]; exact s3
      · rw [d5 _ (by omega)]; exact hlen x hx
    by_cases c : C.left = 0
    · have e8 : errM C = 8 := by unfold errM; rw [if_neg (by simpa using c)]
      rw [e8, if_pos (by simp)]
      refine ⟨d1, d2, d3, d4, fun x hx => d5 x (hne x hx), fun e => by simp at e, fun _ => ⟨rfl, k + 1, by omega, by omega, by rw [d6]; omega, fun x hx hx2 => ?_⟩⟩
      rw [hi] at hx2
      rw [s2 x hx2, Nat.add_sub_cancel]
      exact hcell x hx
    · have e0 : errM C = 0 := by unfold errM; rw [if_pos (by simpa using c)]
      rw [e0, if_neg (by simp)]
      have hmask : maskAt C = fun _ => 255 := by funext q; unfold maskAt; rw [if_pos (by simpa using c)]
      rw [hmask, ← blankCell_ffs, prog_whole (cellM_length bs i) (cellM_bytes hb i)] at s1
      have I := ih (k + 1) D (by omega) (d8 c) (d9 hl) (by rw [d1]; exact hcc) (by rw [d3]; exact hp) ⟨by omega, by omega⟩ hlen2 (fun x hx => by
        by_cases e : x = i
        · rw [e, s1, if_pos ((hnx i).2 (Or.inr rfl))]
        · rw [s2 x e, hcell x hx]
          by_cases dn : doneP n k x
          · rw [if_pos dn, if_pos ((hnx x).2 (Or.inl dn))]
          · rw [if_neg dn, if_neg (fun y => by rcases (hnx x).1 y with y | y; exact dn y; exact e y)])
      generalize progL (B : Int) cells bs n m (k + 1) D = X at *
      refine ⟨I.cfg.trans d1, I.bl.trans d2, I.np.trans d3, I.es.trans d4, fun x hx => (I.pg x hx).trans (d5 x (hne x hx)), fun e => ?_, fun e => ?_⟩
      · obtain ⟨g1, g2⟩ := I.good e
        exact ⟨by rw [g1, d6]; omega, g2⟩
      · obtain ⟨g1, t, g2, g3, g4, g5⟩ := I.bad e
        exact ⟨g1, t, by omega, g3, by rw [g4, d6]; omega, g5⟩
end Go.Proofs.Yteabcbpimjjdpaa
end

/- The log's laws, plain: records, pages, what one program or one erase leaves. Own work. -/
section
set_option maxRecDepth 100000
set_option linter.unusedVariables false
namespace Go.Proofs.Yteabcbpimjjdpaa
open Go Go.Vc

/-- What a page's cell is. -/
abbrev rk (row : List Int) (k : Nat) : Int × Int × Int := recM (cellAt row k)
end Go.Proofs.Yteabcbpimjjdpaa
end

/- The log's laws, plain: a turn, a lay. Own work. -/
section
set_option maxRecDepth 100000
set_option linter.unusedVariables false
namespace Go.Proofs.Yteabcbpimjjdpaa
open Go Go.Vc

abbrev nof (C : Cm) (t k : Nat) : Int := (pI C t).nums.getD k 0
abbrev numOf (C : Cm) (k : Nat) : Int := (infoM C).nums.getD k 0
abbrev lOf (C : Cm) : Nat := C.cfg.cells.toNat
def sndM (C : Cm) : Prop := ∀ x, x < 2 → soundM (C.pg x) C.cfg.cells.toNat
/-- What a part of a turn leaves. -/
structure Part (C D : Cm) (t m : Nat) (e : Int) : Prop where
  ok : D.ok
  cfg : D.cfg = C.cfg
  pgs : ∀ y, y ≠ t → D.pg y = C.pg y
  snd : sndM D
  ec : e = 0 ∨ e = 8
  out0 : e = 0 → D.out = false
  out8 : e = 8 → D.out = true
  acts : 0 ≤ C.acts → C.acts + m < 2 ^ 60 → C.acts ≤ D.acts ∧ D.acts ≤ C.acts + m
theorem Part.trans {C D E : Cm} {t m n : Nat} {e : Int} (a : Part C D t m 0) (b : Part D E t n e) : Part C E t (m + n) e :=
  ⟨b.ok, b.cfg.trans a.cfg, fun y h => (b.pgs y h).trans (a.pgs y h), b.snd, b.ec, b.out0, b.out8, fun h1 h2 => by
    have := a.acts h1 (by omega)
    have := b.acts (by omega) (by omega)
    omega⟩
theorem Part.more {C D : Cm} {t m n : Nat} {e : Int} (a : Part C D t m e) (h : m ≤ n) : Part C D t n e :=
  ⟨a.ok, a.cfg, a.pgs, a.snd, a.ec, a.out0, a.out8, fun h1 h2 => by have := a.acts h1 (by omega); omega⟩
theorem Part.refl {C : Cm} (ok : C.ok) (ho : C.out = false) (snd : sndM C) (t : Nat) : Part C C t 0 0 :=
  ⟨ok, rfl, fun _ _ => rfl, snd, Or.inl rfl, fun _ => ho, fun h => absurd h (by decide), fun _ _ => by omega⟩
/-- What a turn leaves. -/
structure Turned (C D : Cm) (t : Nat) (nums : List Int) (e : Int) : Prop where
  part : Part C D t (C.cfg.slots.toNat + 3) e
  ero : ∀ y, y ≠ t → D.er y = C.er y
  ert : D.er t = C.er t ∨ (D.er t = C.er t + 1 ∧ C.er t < C.cfg.erases)
  erb : (pI C t).blank = true → D.er t = C.er t
  ern : (pI C t).blank = false → D.er t = C.er t + 1
  head : (pI D t).head = 0 ∨ (pI D t).head = (pI C t).head ∨ ((pI D t).head = (infoM C).head + 1 ∧ ∀ k : Nat, (k : Int) ≤ C.cfg.slots → nof D t k = nums.getD k 0)
  headf : e = 0 → (pI D t).head = (infoM C).head + 1 ∧ ∀ k : Nat, (k : Int) ≤ C.cfg.slots → nof D t k = nums.getD k 0
  free : e = 0 → ∀ k : Nat, C.cfg.slots.toNat + 2 ≤ k → k < lOf C → (rk (D.pg t) k).1 = 0
end Go.Proofs.Yteabcbpimjjdpaa
end

/- The log's laws, plain: what a lay leaves of the numbers. Own work. -/
section
set_option maxRecDepth 100000
set_option linter.unusedVariables false
namespace Go.Proofs.Yteabcbpimjjdpaa
open Go Go.Vc

/-- What a lay leaves. -/
structure Laid (C D : Cm) (slot : Nat) (n e : Int) : Prop where
  ok : D.ok
  cfg : D.cfg = C.cfg
  snd : sndM D
  ec : e = 0 ∨ e = 8 ∨ e = 9
  e9 : e = 9 → D = C
  out0 : e = 0 → D.out = false
  other : ∀ k : Nat, (k : Int) ≤ C.cfg.slots → k ≠ slot → numOf D k = numOf C k
  me : numOf D slot = numOf C slot ∨ numOf D slot = n
  done : e = 0 → numOf D slot = n
end Go.Proofs.Yteabcbpimjjdpaa
end

/- The store: contracts of the program's. Own work. -/
section
set_option maxRecDepth 100000
set_option linter.unusedVariables false
namespace Go.Proofs.Yteabcbpimjjdpaa
open Go Go.Vc

abbrev storeE (s p r : Nat) : Ent := blk s [.pointer (some ⟨p, 0, none⟩), .pointer (some ⟨r, 0, none⟩)]
def lastM (c : Cfg) : Int := c.step * c.fuses + c.step - 1
theorem lastM_in {c : Cfg} (m : c.may) : 0 ≤ lastM c ∧ lastM c ≤ 4259839 ∧ c.step * c.fuses ≤ 4194304 ∧ 0 ≤ c.step * c.fuses := by
  have h1 := m.step
  have h2 := m.fuses
  have a : c.step * c.fuses ≤ 65536 * 64 := Int.mul_le_mul h1.2 h2.2 (by omega) (by decide)
  have b : 0 ≤ c.step * c.fuses := Int.mul_nonneg (by omega) (by omega)
  unfold lastM
  omega
def valS (C : Cm) (slot : Int) : Int := if (countM C slot).1 * C.cfg.step < numOf C slot.toNat then numOf C slot.toNat else (countM C slot).1 * C.cfg.step
def sRead (C : Cm) (slot : Int) : Int × Int := if askedM C slot C.cfg.slots ≠ 0 then (0, askedM C slot C.cfg.slots) else (valS C slot, 0)
def sBumpTo (C : Cm) (slot v : Int) : Cm × Int :=
  if (sRead C slot).2 ≠ 0 then (C, (sRead C slot).2) else if v < 0 then (C, 2) else if v ≤ (sRead C slot).1 then (C, 0) else if lastM C.cfg < v then (C, 10)
  else if (layL C slot v).2 ≠ 0 then layL C slot v else raiseM (layL C slot v).1 slot (v.tdiv C.cfg.step)
def sBump (C : Cm) (slot : Int) : (Int × Int) × Cm :=
  if (sRead C slot).2 ≠ 0 then ((0, (sRead C slot).2), C)
  else if (sBumpTo C slot ((sRead C slot).1 + 1)).2 ≠ 0 then ((0, (sBumpTo C slot ((sRead C slot).1 + 1)).2), (sBumpTo C slot ((sRead C slot).1 + 1)).1)
  else (((sRead C slot).1 + 1, 0), (sBumpTo C slot ((sRead C slot).1 + 1)).1)
theorem count_in {C : Cm} (ok : C.ok) (slot : Int) : 0 ≤ (countM C slot).1 ∧ (countM C slot).1 ≤ C.cfg.fuses := by
  have h2 := ok.may.fuses
  unfold countM
  split
  · exact ⟨Int.le_refl 0, by show (0 : Int) ≤ _; omega⟩
  · have := cnt_le C.s.blown (slot * C.cfg.fuses).toNat C.cfg.fuses.toNat
    dsimp only
    omega
theorem valS_in {C : Cm} (ok : C.ok) (slot : Int) : 0 ≤ (countM C slot).1 * C.cfg.step ∧ (countM C slot).1 * C.cfg.step ≤ 4194304 ∧ 0 ≤ valS C slot ∧ valS C slot ≤ most := by
  have h1 := ok.may.step
  have h2 := ok.may.fuses
  obtain ⟨c0, c1⟩ := count_in ok slot
  have a : (countM C slot).1 * C.cfg.step ≤ 64 * 65536 := Int.mul_le_mul (by omega) h1.2 (by omega) (by decide)
  have b : 0 ≤ (countM C slot).1 * C.cfg.step := Int.mul_nonneg c0 (by omega)
  have d := (infoM_ok ok).nums slot.toNat
  have hm := most_val
  refine ⟨b, by omega, ?_⟩
  unfold valS
  split
  · exact d
  · omega
theorem sRead_in {C : Cm} (ok : C.ok) (slot : Int) : 0 ≤ (sRead C slot).1 ∧ (sRead C slot).1 ≤ most := by
  have hm := most_val
  unfold sRead
  split
  · exact ⟨Int.le_refl 0, by show (0 : Int) ≤ most; decide⟩
  · exact (valS_in ok slot).2.2
section
variable {h0 h : H} {A : List Ent} {i j p r b s m : Nat} {C : Cm}
theorem sMount_sp {Q : Option Addr → Int → H → Prop} (hs : Sat h0 A h) (ci : At A i (chipE p C)) (k1 : C.out = true → Q none 8 h) (k2 : C.out = false → ∀ s l h', Sat h0 (storeE s p l :: logE l p :: A) h' → Q (some ⟨s, 0, none⟩) 0 h') : F_store_Mount ⟨p, 0, none⟩ Q h := by
  unfold F_store_Mount G_store_Mount
  refine Mount_sp hs ci ?_ ?_
  · intro ho
    rw [if_pos (by simp)]
    exact k1 ho
  · intro ho l h1 hs
    rw [if_neg (by simp)]
    intro n7 _ hn; replace hs := Sat.new hs hn; clear hn
    exact k2 ho n7 l _ hs
theorem sLast_sp {Q : Int → H → Prop} (hs : Sat h0 A h) (ci : At A i (chipE p C)) (st : At A m (storeE s p r)) (k : ∀ h', Sat h0 A h' → Q (lastM C.cfg) h') : F_store_Store_Last ⟨s, 0, none⟩ Q h := by
  unfold F_store_Store_Last G_store_Store_Last
  try simp only [add_mk, Nat.zero_add]
  have ok := chip_ok hs ci
  obtain ⟨l0, l1, l2, l3⟩ := lastM_in ok.may
  have h1 := ok.may.step
  refine ⟨_, hs.ld st rfl, _, rfl, ?_⟩
  refine Config_sp hs ci ?_
  intro h1 hs
  intro n14 _ hn; replace hs := Sat.new hs hn; clear hn
  refine ⟨Sat.can hs (i := 0) .z (by decide), ?_⟩
  intro h2 e
  replace hs := Sat.wra hs (i := 0) .z e rfl
  clear e
  simp only [put] at hs
  refine ⟨_, hs.ld (i := 0) .z rfl, _, hs.ld (i := 0) .z rfl, _, hs.ld (i := 0) .z rfl, ?_⟩
  rw [wrap_id (n := C.cfg.step * C.cfg.fuses) (by omega), wrap_id (n := C.cfg.step * C.cfg.fuses + C.cfg.step) (by omega), wrap_id (by unfold lastM at l0 l1; omega)]
  exact k _ hs.drop
theorem sAsked_sp {Q : Int → H → Prop} (hs : Sat h0 A h) (ci : At A i (chipE p C)) (st : At A m (storeE s p r)) (x n : Int) (k : Q (askedM C x n) h) : F_store_Store_asked ⟨s, 0, none⟩ x n Q h := by
  unfold F_store_Store_asked G_store_Store_asked
  refine ⟨_, hs.ld st rfl, _, rfl, ?_⟩
  refine Out_sp hs ci ?_
  unfold askedM at k
  by_cases ho : C.out = true
  · rw [if_pos ho] at k; rw [if_pos ho]; exact k
  rw [if_neg ho] at k; rw [if_neg ho]
  by_cases g1 : x < 0
  · rw [if_pos g1] at k; rw [ltI_eq, if_pos (by simpa using g1)]; exact k
  rw [if_neg g1] at k; rw [ltI_eq, if_neg (by simpa using g1)]
  by_cases g2 : n ≤ x
  · rw [if_pos g2] at k; rw [leI_eq, if_pos (by simpa using g2)]; exact k
  rw [if_neg g2] at k; rw [leI_eq, if_neg (by simpa using g2)]; exact k
theorem sRead_sp {Q : Int → Int → H → Prop} (hs : Sat h0 A h) (ci : At A i (chipE p C)) (cl : At A j (logE r p)) (st : At A m (storeE s p r)) (slot : Int) (k : ∀ h', Sat h0 A h' → Q (sRead C slot).1 (sRead C slot).2 h') : F_store_Store_Read ⟨s, 0, none⟩ slot Q h := by
  unfold F_store_Store_Read G_store_Store_Read
  try simp only [add_mk, Nat.zero_add, List.append_nil]
  have ok := chip_ok hs ci
  refine ⟨_, hs.ld st rfl, _, rfl, ?_⟩
  refine Config_sp hs ci ?_
  intro h1 hs
  refine sAsked_sp hs ci st _ _ ?_
  unfold sRead at k
  by_cases ha : askedM C slot C.cfg.slots = 0
  case neg =>
    rw [if_pos (by simpa using ha)]
    rw [if_pos ha] at k
    exact k _ hs
  rw [if_neg (fun y => y ha)] at k
  rw [if_neg (by simpa using ha)]
  obtain ⟨ho, g0, g1⟩ := askedM_zero ha
  refine ⟨_, hs.ld st rfl, _, rfl, ?_⟩
  refine Count_sp hs ci slot ?_
  intro h2 hs
  have ec : (countM C slot).2 = 0 := by unfold countM; rw [if_neg (fun y => y ha)]
  rw [ec, if_neg (by simp)]
  refine ⟨_, hs.ld st rfl, _, rfl, ?_⟩
  refine Number_sp hs ci cl slot ?_
  intro h3 hs
  have en : numberM C slot = (numOf C slot.toNat, 0) := by
    unfold numberM
    rw [if_neg (by simp [ho]), if_neg (fun y => y ⟨g0, by omega⟩)]
  rw [en, if_neg (by simp)]
  refine ⟨_, hs.ld st rfl, _, rfl, ?_⟩
  refine Config_sp hs ci ?_
  intro h4 hs
  obtain ⟨v0, v1, _⟩ := valS_in ok slot
  rw [wrap_id (by omega)]
  intro n40 _ hn; replace hs := Sat.new hs hn; clear hn
  refine ⟨Sat.can hs (i := 0) .z (by simp [zeros]), ?_⟩
  intro h5 e
  replace hs := Sat.wra hs (i := 0) .z e (by simp [zeros])
  clear e
  simp only [put] at hs
  refine ⟨by decide, by decide, _, hs.ld (i := 0) .z rfl, by decide, by decide, _, hs.ld (i := 0) .z rfl, ?_⟩
  exact k _ hs.drop
theorem sMay_sp {Q : Int → H → Prop} {nn ns : Nat} {now v : Int} (hs : Sat h0 A h) (ci : At A i (chipE p C)) (st : At A m (storeE s p r)) {x y : Nat} (tn : At A x (blk nn [.int .i64 now])) (ts : At A y (blk ns [.pointer (some ⟨s, 0, none⟩)]))
    (k : ∀ h', Sat h0 A h' → Q (if v < 0 then 2 else if now < v then (if lastM C.cfg < v then 10 else 0) else 0) h') : F_store_Store_BumpTo_1 v ⟨nn, 0, none⟩ ⟨ns, 0, none⟩ Q h := by
  unfold F_store_Store_BumpTo_1 G_store_Store_BumpTo_1
  by_cases g1 : v < 0
  · rw [if_pos g1] at k; rw [ltI_eq, if_pos (by simpa using g1)]; exact k _ hs
  rw [if_neg g1] at k; rw [ltI_eq, if_neg (by simpa using g1)]
  refine ⟨_, hs.ld tn rfl, ?_⟩
  by_cases g2 : now < v
  · rw [if_pos g2] at k; rw [ltI_eq, if_pos (by simpa using g2)]
    refine ⟨_, hs.ld ts rfl, _, rfl, ?_⟩
    refine sLast_sp hs ci st ?_
    intro h1 hs
    by_cases g3 : lastM C.cfg < v
    · rw [if_pos g3] at k; rw [ltI_eq, if_pos (by simpa using g3)]; exact k _ hs
    · rw [if_neg g3] at k; rw [ltI_eq, if_neg (by simpa using g3)]; exact k _ hs
  · rw [if_neg g2] at k; rw [ltI_eq, if_neg (by simpa using g2)]; exact k _ hs
theorem layL_cfg (ok : C.ok) (slot n : Int) : (layL C slot n).1.cfg = C.cfg := by
  have ep : ∀ (t : Int) (nums : List Int) (m x a : Nat) (D : Cm), (turnP t nums m x a D).1.cfg = D.cfg := by
    intro t nums m
    induction m with
    | zero => intro x a D; rfl
    | succ m ih =>
      intro x a D
      unfold turnP
      split
      · exact ih _ _ _
      · split
        · exact program_cfg _ _ _ _
        · exact (ih _ _ _).trans (program_cfg _ _ _ _)
  have ea : ∀ (g t : Int) (nums : List Int) (m : Nat) (D : Cm), (turnA g t nums m D).1.cfg = D.cfg := by
    intro g t nums m D
    unfold turnA
    split
    · exact ep _ _ _ _ _ _
    · exact (program_cfg _ _ _ _).trans (ep _ _ _ _ _ _)
  unfold layL
  (repeat' split) <;> first | rfl | exact program_cfg _ _ _ _ | skip
  unfold turnL
  split
  · exact ea _ _ _ _ _
  · split
    · exact erase_cfg _ _
    · exact (ea _ _ _ _ _).trans (erase_cfg _ _)
theorem sBumpTo_sp {Q : Int → H → Prop} (hs : Sat h0 A h) (ci : At A i (chipE p C)) (cl : At A j (logE r p)) (st : At A m (storeE s p r)) (hij : j ≠ i) (him : m ≠ i) (slot v : Int)
    (k : ∀ h', Sat h0 (put A i (chipE p (sBumpTo C slot v).1)) h' → Q (sBumpTo C slot v).2 h') : F_store_Store_BumpTo ⟨s, 0, none⟩ slot v Q h := by
  unfold F_store_Store_BumpTo G_store_Store_BumpTo
  try simp only [add_mk, Nat.zero_add, List.append_nil]
  have ok := chip_ok hs ci
  have hst := ok.may.step
  intro n10 _ hn; replace hs := Sat.new hs hn; clear hn
  refine ⟨_, hs.ld (i := 0) .z rfl, _, rfl, ?_⟩
  refine sRead_sp hs ci.s cl.s st.s slot ?_
  intro h1 hs
  intro n18 _ hn; replace hs := Sat.new hs hn; clear hn
  refine ⟨Sat.can hs (i := 0) .z (by decide), ?_⟩
  intro h2 e
  replace hs := Sat.wra hs (i := 0) .z e rfl
  clear e
  simp only [put] at hs
  unfold sBumpTo at k
  by_cases ge : (sRead C slot).2 = 0
  case neg =>
    rw [if_pos ge] at k
    rw [if_pos (by simpa using ge)]
    exact k _ (by rw [ci.put_self]; exact hs.drop.drop)
  rw [if_neg (fun y => y ge)] at k
  rw [if_neg (by simpa using ge)]
  intro J hJ
  refine sMay_sp hs ci.s.s st.s.s (x := 0) (y := 1) .z (.s .z) ?_
  intro h3 hs
  by_cases g1 : v < 0
  · rw [if_pos g1] at k
    rw [if_pos g1, if_pos (by simp)]
    exact k _ (by rw [ci.put_self]; exact hs.drop.drop)
  rw [if_neg g1] at k
  rw [if_neg g1]
  by_cases g2 : v ≤ (sRead C slot).1
  · rw [if_pos g2] at k
    rw [if_neg (show ¬ (sRead C slot).1 < v by omega), if_neg (by simp)]
    refine ⟨_, hs.ld (i := 0) .z rfl, ?_⟩
    rw [leI_eq, if_pos (by simpa using g2)]
    exact k _ (by rw [ci.put_self]; exact hs.drop.drop)
  rw [if_neg g2] at k
  rw [if_pos (show (sRead C slot).1 < v by omega)]
  by_cases g3 : lastM C.cfg < v
  · rw [if_pos g3] at k
    rw [if_pos g3, if_pos (by simp)]
    exact k _ (by rw [ci.put_self]; exact hs.drop.drop)
  rw [if_neg g3] at k
  rw [if_neg g3, if_neg (by simp)]
  refine ⟨_, hs.ld (i := 0) .z rfl, ?_⟩
  rw [leI_eq, if_neg (by simpa using g2)]
  apply hJ
  clear hJ J
  refine ⟨_, hs.ld (i := 1) (.s .z) rfl, _, rfl, _, hs.ld st.s.s rfl, _, rfl, ?_⟩
  refine Lay9_sp hs ci.s.s cl.s.s (by omega) slot v ?_
  intro h4 hs
  simp only [put_succ] at hs
  have ecf := layL_cfg ok slot v
  generalize layL C slot v = X at *
  by_cases gx : X.2 = 0
  case neg =>
    rw [if_pos gx] at k
    rw [if_pos (by simpa using gx)]
    exact k _ hs.drop.drop
  rw [if_neg (fun y => y gx)] at k
  rw [if_neg (by simpa using gx)]
  refine ⟨_, hs.ld (i := 1) (.s .z) rfl, _, rfl, _, hs.ld (st.put_ne him (chipE p X.1)).s.s rfl, _, hs.ld (i := 1) (.s .z) rfl, _, rfl, _, hs.ld (st.put_ne him (chipE p X.1)).s.s rfl, _, rfl, ?_⟩
  refine Config_sp hs (ci.put (chipE p X.1)).s.s ?_
  intro h5 hs
  rw [ecf]
  refine ⟨hcs_one (hs.ld (st.put_ne him (chipE p X.1)).s.s rfl), hcs_one (hs.ld (i := 1) (.s .z) rfl), by omega, _, rfl, ?_⟩
  have hl := lastM_in ok.may
  have hd0 : 0 ≤ v.tdiv C.cfg.step := Int.tdiv_nonneg (by omega) (by omega)
  have hd1 : v.tdiv C.cfg.step ≤ v := by
    rw [Int.tdiv_eq_ediv_of_nonneg (by omega)]
    exact Int.ediv_le_self _ (by omega)
  rw [wrap_id (by omega)]
  refine Raise_sp hs (ci.put (chipE p X.1)).s.s slot (v.tdiv C.cfg.step) ?_
  intro h6 hs
  simp only [put_succ, put_put] at hs
  exact k _ hs.drop.drop
theorem sBump_sp {Q : Int → Int → H → Prop} (hs : Sat h0 A h) (ci : At A i (chipE p C)) (cl : At A j (logE r p)) (st : At A m (storeE s p r)) (hij : j ≠ i) (him : m ≠ i) (slot : Int)
    (k : ∀ h', Sat h0 (put A i (chipE p (sBump C slot).2)) h' → Q (sBump C slot).1.1 (sBump C slot).1.2 h') : F_store_Store_Bump ⟨s, 0, none⟩ slot Q h := by
  unfold F_store_Store_Bump G_store_Store_Bump
  have ok := chip_ok hs ci
  have hm := most_val
  refine sRead_sp hs ci cl st slot ?_
  intro h1 hs
  unfold sBump at k
  by_cases ge : (sRead C slot).2 = 0
  case neg =>
    rw [if_pos ge] at k
    rw [if_pos (by simpa using ge)]
    exact k _ (by rw [ci.put_self]; exact hs)
  rw [if_neg (fun y => y ge)] at k
  rw [if_neg (by simpa using ge)]
  have hb := sRead_in ok slot
  rw [show IntKind.i64.wrap ((sRead C slot).1 + 1) = (sRead C slot).1 + 1 by rw [IntKind.wrap_i64]; omega]
  refine sBumpTo_sp hs ci cl st hij him slot _ ?_
  intro h2 hs
  by_cases gx : (sBumpTo C slot ((sRead C slot).1 + 1)).2 = 0
  · rw [if_neg (fun y => y gx)] at k
    rw [if_neg (by simpa using gx)]
    exact k _ hs
  · rw [if_pos gx] at k
    rw [if_pos (by simpa using gx)]
    exact k _ hs
end
end Go.Proofs.Yteabcbpimjjdpaa
end

/- The store's laws: awake, StoreNames. Own work. -/
section
set_option maxRecDepth 100000
set_option linter.unusedVariables false
namespace Go.Proofs.Yteabcbpimjjdpaa
open Go Go.Vc

abbrev fix10A : Cm := freshC ⟨8, 1, 2, 3, 4, 0, 0⟩
abbrev fix10B : Cm := (sBump fix10A 0).2
def fix10ok : Bool := (sBump fix10A 0).1.1 == 1 && (sBump fix10A 0).1.2 == 0 && (sRead fix10B 0).1 == 1 && (sRead fix10B 0).2 == 0 && fix10B.acts == 2 && lastM fix10B.cfg == 8 && (sBumpTo fix10B 0 9).2 == 10
theorem fix10 : fix10ok = true := by decide +kernel
section
variable {h0 h : H} {A : List Ent}
theorem awake_sp {Q : Bool → H → Prop} (hs : Sat h0 A h) (k : ∀ h', Sat h0 A h' → Q true h') : F_portcullislaw10_awake Q h := by
  unfold F_portcullislaw10_awake G_portcullislaw10_awake
  have hf := fix10
  unfold fix10ok at hf
  simp only [Bool.and_eq_true, beq_iff_eq] at hf
  obtain ⟨⟨⟨⟨⟨⟨f1, f2⟩, f3⟩, f4⟩, f5⟩, f6⟩, f7⟩ := hf
  refine New_sp ⟨8, 1, 2, 3, 4, 0, 0⟩ hs (fun nm => absurd (show Cfg.may ⟨8, 1, 2, 3, 4, 0, 0⟩ by decide) nm) ?_
  intro _ p h1 hs J hJ
  rw [if_neg (by simp), if_neg (by simp)]
  apply hJ
  clear hJ J
  refine ⟨_, rfl, ?_⟩
  refine sMount_sp hs (i := 0) .z (fun y => absurd y (by decide)) ?_
  intro _ s l h2 hs J hJ
  rw [if_neg (by simp), if_neg (by simp)]
  apply hJ
  clear hJ J
  refine ⟨_, rfl, ?_⟩
  refine sBump_sp hs (i := 2) (j := 1) (m := 0) (.s (.s .z)) (.s .z) .z (by decide) (by decide) 0 ?_
  intro h3 hs
  replace hs : Sat h0 (storeE s p l :: logE l p :: chipE p fix10B :: A) h3 := hs
  refine ⟨_, rfl, ?_⟩
  refine sRead_sp hs (i := 2) (j := 1) (m := 0) (.s (.s .z)) (.s .z) .z 0 ?_
  intro h4 hs
  rw [f1, f2, f3, f4, if_pos (by simp), if_pos (by simp), if_pos (by simp), if_pos (by simp)]
  refine ⟨_, rfl, ?_⟩
  refine Acts_sp hs (i := 2) (.s (.s .z)) ?_
  rw [f5, if_pos (by simp)]
  refine ⟨_, rfl, ?_⟩
  refine sLast_sp hs (i := 2) (m := 0) (.s (.s .z)) .z ?_
  intro h5 hs
  rw [f6, if_pos (by simp)]
  refine ⟨_, rfl, ?_⟩
  refine sBumpTo_sp hs (i := 2) (j := 1) (m := 0) (.s (.s .z)) (.s .z) .z (by decide) (by decide) 0 9 ?_
  intro h6 hs
  rw [f7]
  simp only [put_succ, put_zero] at hs
  exact k _ hs.drop.drop.drop
end
end Go.Proofs.Yteabcbpimjjdpaa
end

/- The store's laws: StoreFuses. Own work. -/
section
set_option maxRecDepth 100000
set_option linter.unusedVariables false
namespace Go.Proofs.Yteabcbpimjjdpaa
open Go Go.Vc

def valL (C : Cm) : List Int := tab C.cfg.slots.toNat (fun k => valS C (k : Int))
section
variable {h0 h : H} {A : List Ent} {i j p r b s m : Nat} {C : Cm}
theorem values_sp {Q : Option Addr → Nat → Nat → Bool → H → Prop} (hs : Sat h0 A h) (ci : At A i (chipE p C)) (cl : At A j (logE r p)) (st : At A m (storeE s p r)) (ho : C.out = false) {sl : Int} (es : C.cfg.slots = sl)
    (k : ∀ b c h', Sat h0 (slE (some ⟨b, 0, none⟩) sl.toNat c 1 (ints .i64 (valL C)) :: A) h' → Q (some ⟨b, 0, none⟩) sl.toNat c true h') : F_portcullislaw10_values ⟨s, 0, none⟩ sl Q h := by
  subst es
  unfold F_portcullislaw10_values G_portcullislaw10_values
  have ok := chip_ok hs ci
  have hsl := ok.may.slots
  intro n5 _ hn; replace hs := Sat.new hs hn; clear hn
  replace hs := (hs.drop).sl_nil 1 (some ⟨n5, 0, none⟩)
  intro J hJ
  obtain ⟨M, hM⟩ : ∃ M, M = C.cfg.slots.toNat := ⟨_, rfl⟩
  refine loop_st M (fun m (q : Option Addr × Nat) => [.dv (.one (.slice q.1 m q.2)), si m]) (fun m q h => Sat h0 (slE q.1 m q.2 1 (ints .i64 (tab m (fun k => valS C (k : Int)))) :: A) h) ?_ ?_ 0 (some ⟨n5, 0, none⟩, 0) _ (by omega) hs
  · rintro m ⟨o, c⟩ h1 hm hs hk
    dsimp only at hs
    apply hJ
    rw [ltI_eq, if_pos (by simp; omega)]
    refine sRead_sp hs ci.s cl.s st.s (m : Int) ?_
    intro h2 hs
    have e : sRead C (m : Int) = (valS C (m : Int), 0) := by
      unfold sRead
      rw [askedM_in ho (by omega) (by omega), if_neg (by simp)]
    rw [e, if_neg (by simp)]
    intro n17 _ hn; replace hs := Sat.new hs hn; clear hn
    have hr := hs.bv (i := 0) (l := 1) (sz := 1) .z rfl (by intro v hv; simp at hv; rw [hv]; rfl)
    refine ⟨_, hr, ?_⟩
    refine Sat.app hs (i := 1) (vs := [.int .i64 (valS C (m : Int))]) (.s .z) rfl rfl (by intro v hv; simp at hv; rw [hv]; rfl) (by omega) ?_
    intro p' c' h4 hs
    rw [put_succ, put_zero] at hs
    rw [wrap_succ (by omega)]
    have ea : ints .i64 (tab m (fun k => valS C (k : Int))) ++ [.int .i64 (valS C (m : Int))] = ints .i64 (tab (m + 1) (fun k => valS C (k : Int))) := by rw [tab_succ]; simp [ints]
    rw [ea] at hs
    exact hk (p', c') _ hs.drop
  · rintro ⟨o, c⟩ h1 hs
    dsimp only at hs
    apply hJ
    rw [ltI_eq, if_neg (by simp; omega)]
    rw [hM] at hs ⊢
    obtain ⟨b, rfl⟩ := hs.sl_some (i := 0) .z (by omega)
    exact k _ _ _ hs
theorem val_ld (hs : Sat h0 A h) {b l c : Nat} (m : At A i (slE (some ⟨b, 0, none⟩) l c 1 (ints .i64 (valL C)))) {k : Nat} (hk : (k : Int) < C.cfg.slots) : hc h ⟨b, k, none⟩ = some (.int .i64 (valS C (k : Int))) := by
  refine hs.sld m ?_
  unfold valL; rw [ints_get, tab_get, if_pos (by omega)]; rfl
end
theorem StoreFuses_sp {h0 : H} {a b c' : Sl} {Q : Bool → H → Prop} (c : Cfg) (s : St) (rd0 : RdS h0 a b c' s) (ty : s.typed) (sm : s.small) (k : ∀ h', Ext none_ h0 h' → Q true h') :
    F_portcullislaw10_StoreFuses c.cells c.slots c.fuses c.step c.keys c.erases c.area a.1 a.2.1 a.2.2 b.1 b.2.1 b.2.2 c'.1 c'.2.1 c'.2.2 Q h0 := by
  unfold F_portcullislaw10_StoreFuses G_portcullislaw10_StoreFuses
  have hs := Sat.init h0
  try simp only [add_mk, Nat.zero_add, List.append_nil]
  intro n26 _ hn; replace hs := Sat.new hs hn; clear hn
  intro n29 _ hn; replace hs := Sat.new hs hn; clear hn
  refine awake_sp hs ?_
  intro h1 hs
  rw [if_neg (by simp)]
  (repeat first | refine ⟨_, Sat.ld hs (by (repeat (first | exact At.z | apply At.s))) (by rfl), ?_⟩ | refine ⟨_, _, _, Sat.ld hs (by (repeat (first | exact At.z | apply At.s))) (by rfl), ?_⟩ | (intro _ _ hn; replace hs := Sat.new hs hn; clear hn) | refine ⟨Sat.cs hs (by (repeat (first | exact At.z | apply At.s))) (by rfl), ?_⟩ | (refine ⟨Sat.can hs (by (repeat (first | exact At.z | apply At.s))) (by simp), ?_⟩; intro _ e; replace hs := Sat.wr hs (by (repeat (first | exact At.z | apply At.s))) e; clear e; simp only [put, splice, List.set] at hs))
  refine Lay_sp (a := a) (b := b) (c' := c') (s := s) c hs (fun h' hs' => rd0.ext hs'.ex) ty ?_ ?_ ?_
  · intro nm h2 hs
    rw [if_pos (by simp)]
    (repeat first | refine ⟨_, Sat.ld hs (by (repeat (first | exact At.z | apply At.s))) (by rfl), ?_⟩ | refine ⟨_, _, _, Sat.ld hs (by (repeat (first | exact At.z | apply At.s))) (by rfl), ?_⟩ | (intro _ _ hn; replace hs := Sat.new hs hn; clear hn) | refine ⟨Sat.cs hs (by (repeat (first | exact At.z | apply At.s))) (by rfl), ?_⟩ | (refine ⟨Sat.can hs (by (repeat (first | exact At.z | apply At.s))) (by simp), ?_⟩; intro _ e; replace hs := Sat.wr hs (by (repeat (first | exact At.z | apply At.s))) e; clear e; simp only [put, splice, List.set] at hs))
    refine rLay_sp (a := a) (b := b) (c' := c') (s := s) c hs (fun h' hs' => rd0.ext hs'.ex) ty ?_ (fun m => absurd m nm) (fun m => absurd m nm)
    intro _ h3 hs
    rw [if_pos (by simp)]
    have := k _ hs.ex
    simpa using this
  · intro m nl h2 hs
    rw [if_pos (by simp)]
    (repeat first | refine ⟨_, Sat.ld hs (by (repeat (first | exact At.z | apply At.s))) (by rfl), ?_⟩ | refine ⟨_, _, _, Sat.ld hs (by (repeat (first | exact At.z | apply At.s))) (by rfl), ?_⟩ | (intro _ _ hn; replace hs := Sat.new hs hn; clear hn) | refine ⟨Sat.cs hs (by (repeat (first | exact At.z | apply At.s))) (by rfl), ?_⟩ | (refine ⟨Sat.can hs (by (repeat (first | exact At.z | apply At.s))) (by simp), ?_⟩; intro _ e; replace hs := Sat.wr hs (by (repeat (first | exact At.z | apply At.s))) e; clear e; simp only [put, splice, List.set] at hs))
    refine rLay_sp (a := a) (b := b) (c' := c') (s := s) c hs (fun h' hs' => rd0.ext hs'.ex) ty (fun nm => absurd m nm) ?_ (fun _ l => absurd l nl)
    intro _ _ h3 hs
    rw [if_pos (by simp)]
    have := k _ hs.ex
    simpa using this
  intro m lay px h2 hs
  rw [if_neg (by simp), if_neg (by simp)]
  have ok0 := layC_ok m lay ty
  obtain ⟨C, hC⟩ : ∃ C, C = layC c s := ⟨_, rfl⟩
  rw [← hC] at hs ok0
  have cc : C.cfg = c := by rw [hC]; rfl
  have cs : C.s = s := by rw [hC]; rfl
  have co : C.out = false := by rw [hC]; rfl
  have ca : C.acts = 0 := by rw [hC]; rfl
  have hslots := m.slots
  have hfuses := m.fuses
  have hstep := m.step
  have hkeys := m.keys
  refine ⟨_, rfl, ?_⟩
  refine sMount_sp hs (i := 0) .z (fun y => absurd (co.symm.trans y) (by decide)) ?_
  intro _ s1 l1 h3 hs
  refine ⟨_, rfl, ?_⟩
  refine sMount_sp hs (i := 2) (.s (.s .z)) (fun y => absurd (co.symm.trans y) (by decide)) ?_
  intro _ s2 l2 h4 hs J80 hJ80
  rw [if_neg (by simp), if_neg (by simp), if_neg (by simp), if_neg (by simp)]
  refine ⟨_, rfl, ?_⟩
  refine Acts_sp hs (i := 4) (.s (.s (.s (.s .z)))) ?_
  rw [ca, if_neg (by simp)]
  apply hJ80
  clear hJ80 J80
  refine ⟨_, hs.ld (i := 6) (by (repeat (first | exact At.z | apply At.s))) rfl, _, rfl, ?_⟩
  refine values_sp hs (i := 4) (j := 3) (m := 2) (.s (.s (.s (.s .z)))) (.s (.s (.s .z))) (.s (.s .z)) co (by rw [cc]) ?_
  intro lb lc h5 hs
  refine ⟨_, hs.ld (i := 7) (by (repeat (first | exact At.z | apply At.s))) rfl, _, rfl, ?_⟩
  refine values_sp hs (i := 5) (j := 2) (m := 1) (.s (.s (.s (.s (.s .z))))) (.s (.s .z)) (.s .z) co (by rw [cc]) ?_
  intro mb mc h6 hs J96 hJ96
  rw [if_neg (by simp), if_neg (by simp)]
  (repeat first | refine ⟨_, Sat.ld hs (by (repeat (first | exact At.z | apply At.s))) (by rfl), ?_⟩ | refine ⟨_, _, _, Sat.ld hs (by (repeat (first | exact At.z | apply At.s))) (by rfl), ?_⟩ | (intro _ _ hn; replace hs := Sat.new hs hn; clear hn) | refine ⟨Sat.cs hs (by (repeat (first | exact At.z | apply At.s))) (by rfl), ?_⟩ | (refine ⟨Sat.can hs (by (repeat (first | exact At.z | apply At.s))) (by simp), ?_⟩; intro _ e; replace hs := Sat.wr hs (by (repeat (first | exact At.z | apply At.s))) e; clear e; simp only [put, splice, List.set] at hs))
  refine ⟨_, rfl, ?_⟩
  refine State_sp hs (i := 6) (.s (.s (.s (.s (.s (.s .z)))))) ?_
  intro a2 b2 c2 h7 hs
  rw [cs] at hs
  refine ⟨?_, ?_⟩
  · have e0 := hs.ld (i := 10) (o := 0) (b := n29) (by (repeat (first | exact At.z | apply At.s))) rfl
    have e1 := hs.ld (i := 10) (o := 1) (b := n29) (by (repeat (first | exact At.z | apply At.s))) rfl
    have e2 := hs.ld (i := 10) (o := 2) (b := n29) (by (repeat (first | exact At.z | apply At.s))) rfl
    exact hs.cs (i := 10) (o := 0) (b := n29) (by (repeat (first | exact At.z | apply At.s))) rfl
  refine SameState_args (a := a2) (b := b2) (c := c2) (a2 := a) (b2 := b) (c2 := c') (s := s) hs (fun h' hs' => sat_rdS hs' (i := 0) (j := 1) (k := 2) (by (repeat (first | exact At.z | apply At.s))) (by (repeat (first | exact At.z | apply At.s))) (by (repeat (first | exact At.z | apply At.s)))) rd0 sm ?_
  intro h8 hs
  rw [if_neg (by simp)]
  apply hJ96
  clear hJ96 J96
  intro J98 hJ98
  obtain ⟨S, hS⟩ : ∃ S, S = c.slots.toNat := ⟨_, rfl⟩
  obtain ⟨F, hF⟩ : ∃ F, F = c.fuses.toNat := ⟨_, rfl⟩
  refine loop_up S (fun _ h => h = h8) ?_ ?_ 0 _ (by omega) rfl
  · rintro x h9 hx rfl hk
    apply hJ98
    refine ⟨_, hs.ld (i := 11) (by (repeat (first | exact At.z | apply At.s))) rfl, ?_⟩
    rw [ltI_eq, if_pos (by simp; omega)]
    intro J102 hJ102
    have hxf : (x : Int) * c.fuses + c.fuses ≤ c.slots * c.fuses := by
      have : ((x : Int) + 1) * c.fuses ≤ c.slots * c.fuses := Int.mul_le_mul_of_nonneg_right (by omega) (by omega)
      rw [Int.add_mul, Int.one_mul] at this
      exact this
    have hsf : c.slots * c.fuses ≤ 8 * 64 := Int.mul_le_mul hslots.2 hfuses.2 (by omega) (by decide)
    have hx0 : 0 ≤ (x : Int) * c.fuses := Int.mul_nonneg (by omega) (by omega)
    have hbl : (s.blown.length : Int) = c.nf := by have := ok0.fits.blown; rw [cs, cc] at this; exact this
    have hnf : c.nf = c.slots * c.fuses + c.keys := rfl
    obtain ⟨X, hX⟩ : ∃ X : Nat, (x : Int) * c.fuses = (X : Int) := Int.eq_ofNat_of_zero_le hx0
    refine loop_st F (fun kk (n : Int) => [.dv (.one (.int .i64 n)), si kk]) (fun kk n h => h = h9 ∧ n = (cnt s.blown X kk : Nat)) ?_ ?_ 0 0 _ (by omega) ⟨rfl, rfl⟩
    · rintro kk n h10 hkk ⟨rfl, rfl⟩ hk2
      apply hJ102
      refine ⟨_, hs.ld (i := 11) (by (repeat (first | exact At.z | apply At.s))) rfl, ?_⟩
      rw [ltI_eq, if_pos (by simp; omega)]
      refine ⟨_, _, _, hs.ld (i := 10) (by (repeat (first | exact At.z | apply At.s))) rfl, _, hs.ld (i := 11) (by (repeat (first | exact At.z | apply At.s))) rfl, ?_⟩
      rw [hX, wrap_id (n := (X : Int)) (by omega), wrap_id (n := (X : Int) + (kk : Int)) (by omega)]
      have hlt : X + kk < s.blown.length := by omega
      have e : (bools s.blown)[X + kk]? = some (.bool s.blown[X + kk]) := by simp [bools, hlt]
      obtain ⟨q, hq, g⟩ := hsv_get rd0.bl e
      have hbl2 := rd0.bl.1
      simp only [bools_length, Nat.mul_one] at hbl2
      refine ⟨q, hq, by omega, by omega, ?_⟩
      rw [show ((X : Int) + (kk : Int)).toNat = X + kk by omega, Nat.mul_one]
      refine ⟨_, hc_ext hs.ex g (fun y => y), ?_⟩
      have eg : s.blown.getD (X + kk) false = s.blown[X + kk] := by simp [List.getD, List.getElem?_eq_getElem hlt]
      have en : cnt s.blown X (kk + 1) = cnt s.blown X kk + if s.blown.getD (X + kk) false = true then 1 else 0 := rfl
      have hle := cnt_le s.blown X kk
      by_cases gb : s.blown[X + kk] = true
      · rw [if_pos gb, wrap_id (n := ((cnt s.blown X kk : Nat) : Int) + 1) (by omega), wrap_succ (by omega)]
        exact hk2 (((cnt s.blown X kk : Nat) : Int) + 1) _ ⟨rfl, by have := en; rw [eg, if_pos gb] at this; omega⟩
      · rw [if_neg gb, wrap_succ (by omega)]
        exact hk2 ((cnt s.blown X kk : Nat) : Int) _ ⟨rfl, by have := en; rw [eg, if_neg gb] at this; omega⟩
    · rintro n h10 ⟨rfl, rfl⟩
      apply hJ102
      refine ⟨_, hs.ld (i := 11) (by (repeat (first | exact At.z | apply At.s))) rfl, ?_⟩
      rw [ltI_eq, if_neg (by simp; omega)]
      have hxs : (x : Int) < C.cfg.slots := by rw [cc]; omega
      have gL := val_ld hs (i := 4) (b := lb) (by (repeat (first | exact At.z | apply At.s))) hxs
      have gM := val_ld hs (i := 3) (b := mb) (by (repeat (first | exact At.z | apply At.s))) hxs
      refine ⟨_, rfl, by omega, by omega, ?_⟩
      simp only [Int.toNat_natCast, Nat.mul_one, add_mk, Nat.zero_add]
      refine ⟨_, gL, _, rfl, by omega, by omega, ?_⟩
      simp only [Int.toNat_natCast, Nat.mul_one, add_mk, Nat.zero_add]
      refine ⟨_, gM, ?_⟩
      rw [if_neg (by simp)]
      refine ⟨_, rfl, by omega, by omega, ?_⟩
      simp only [Int.toNat_natCast, Nat.mul_one, add_mk, Nat.zero_add]
      refine ⟨_, gL, _, hs.ld (i := 11) (by (repeat (first | exact At.z | apply At.s))) rfl, ?_⟩
      have hcn : (countM C (x : Int)).1 = (cnt s.blown X F : Nat) := by
        unfold countM
        rw [askedM_in co (by omega) hxs, if_neg (by simp)]
        dsimp only
        rw [cs, cc, hX, Int.toNat_natCast, ← hF]
      have hv := valS_in ok0 (x : Int)
      rw [hcn, cc] at hv
      have hcm : c.step * ((cnt s.blown X F : Nat) : Int) = ((cnt s.blown X F : Nat) : Int) * c.step := Int.mul_comm _ _
      rw [hcm, wrap_id (by omega)]
      have hge : ((cnt s.blown X F : Nat) : Int) * c.step ≤ valS C (x : Int) := by
        unfold valS
        rw [hcn, cc]
        split
        · omega
        · exact Int.le_refl _
      rw [ltI_eq, if_neg (by rw [decide_eq_true_iff]; omega), wrap_succ (by omega)]
      exact hk _ rfl
  · rintro h9 rfl
    apply hJ98
    refine ⟨_, hs.ld (i := 11) (by (repeat (first | exact At.z | apply At.s))) rfl, ?_⟩
    rw [ltI_eq, if_neg (by simp; omega)]
    exact k _ hs.ex
end Go.Proofs.Yteabcbpimjjdpaa
end

/- StoreFuses: whatever a chip holds: a store is mounted without an act, values are at least what the fuses say; for every input. -/
section
set_option maxRecDepth 100000
set_option linter.unusedVariables false
namespace Go.Proofs.Yteabcbpimjjdpaa
open Go Go.Vc Go.ChangeShapes Go.WideShapes Go.ChangeAt Go.RowKit

theorem StoreFuses_calls {D : Type} {enc : TypeId × Value → D} {W : World} {base : Nat} (vs : List Value) (h : ArgsOk enc PP W base [23, 49] vs) : CallsTrue PP 9 vs W := by
  obtain ⟨hl, h⟩ := h
  match vs, hl with
  | [v0, v1], _ =>
  obtain ⟨r0, w0⟩ := h 0 _ v0 rfl rfl
  obtain ⟨r1, w1⟩ := h 1 _ v1 rfl rfl
  obtain ⟨c, rfl⟩ := cfg_of r0 w0
  obtain ⟨a, b, c', s, rfl, rd, ty, sm⟩ := chip_of r1 w1
  have := R_portcullislaw10_StoreFuses [.agg (c.vals.map .c), .agg [.c a.v, .c b.v, .c c'.v]] (fun rs h' => rs = [DV.one (.bool true)] ∧ Ext none_ W.heap h') W.heap (by
    intro x hx
    simp only [List.mem_cons, List.not_mem_nil, or_false] at hx
    rcases hx with rfl | rfl
    · exact ok_cfg c
    · exact ok_chip a b c') (by
    show F_portcullislaw10_StoreFuses c.cells c.slots c.fuses c.step c.keys c.erases c.area a.1 a.2.1 a.2.2 b.1 b.2.1 b.2.2 c'.1 c'.2.1 c'.2.2 (fun b h' => [DV.one (.bool b)] = [DV.one (.bool true)] ∧ Ext none_ W.heap h') W.heap
    exact StoreFuses_sp c s rd ty sm fun h' x => ⟨rfl, x⟩)
  exact this
theorem StoreFuses_lifted (os : Os) (started : os.Started) (D : Type) (enc : TypeId × Value → D) :
    ReturnsInHanded {} Try.checked os 9 .any (Rows.storeFusesSpec.pre6 enc Try.prog Try.f9 Rows.storeFusesRow.domain false) (Rows.storeFusesSpec.post enc Try.prog Try.f9 false true false false) := by
  refine returnsInHanded_of_change_sized (C := Try.checked) Try.own started (by kernel_rfl) Try.func9
    (ChangeSpec.witness6 (enc := enc) (C := Try.checked) false ⟨#[], #[.agg #[.int .i64 0, .int .i64 0, .int .i64 0, .int .i64 0, .int .i64 0, .int .i64 0, .int .i64 0], .agg #[.slice none 0 0, .slice none 0 0, .slice none 0 0]], []⟩ 8 (by kernel_rfl) (by kernel_rfl) (by kernel_rfl) (by kernel_rfl)) ?_
  intro W base args ds gs before hval hW hcnd hsz _
  exact law_go (P := Try.prog) (fn := Try.f9) (s := Rows.storeFusesSpec) [23, 49] (by kernel_rfl) Try.laidOut rfl (by kernel_rfl) (by kernel_rfl) Try.ubool
    (fun ds hl => match ds, hl with | [d1, d2], _ => rfl) hval hW hsz StoreFuses_calls

theorem StoreFuses_holds : Rows.StoreFusesSaid :=
  OpenClaim.holds_of_wide 9 Try.f9 rfl rfl rfl rfl rfl rfl rfl ⟨rfl, rfl, rfl, rfl, rfl⟩ rfl rfl rfl rfl rfl (by kernel_rfl) Try.func9 (by kernel_rfl)
    (of_decide_eq_true (by kernel_rfl)) (by unfold Func.isWrapper; first | (rw [if_pos (by decide +kernel)]; kernel_rfl) | (rw [if_neg (by decide +kernel)]; exact ⟨rfl, rfl⟩))
    (fun os started H enc _ => StoreFuses_lifted os started H enc)

end Go.Proofs.Yteabcbpimjjdpaa
end
