/- RomGate: what is proved and its parts, laid together by a program of ours: Lg2 Ly2 Ar9 Lw1 Lw2 Lw3 St1 St4 Tq2 Tq4 St5 St6 ScD Im1 Im2 Gt1 -/
import Derived.Test.YteedolonhdbieaaGreatDoorK11
set_option autoImplicit false
set_option linter.all false
/- The log: bounds of what pages say; the document's log. Own work. -/
section
set_option maxRecDepth 100000
set_option linter.unusedVariables false
namespace Go.Proofs.YteedolonhdbieaaGreatDoor
open Go Go.Vc

theorem recM_num (x : List Int) : 0 ≤ (recM x).2.2 ∧ (recM x).2.2 ≤ most := by
 unfold recM
 (repeat' split) <;> simp only [most] at * <;> omega
structure InfOk (I : Inf) (l : Nat) : Prop where
 head : 0 ≤ I.head ∧ I.head ≤ most
 next : 0 ≤ I.next ∧ I.next ≤ l
 torn : 0 ≤ I.torn ∧ I.torn ≤ l
 nums : ∀ k, 0 ≤ I.nums.getD k 0 ∧ I.nums.getD k 0 ≤ most
theorem set_getD (l : List Int) (j k : Nat) (v : Int) : (l.set j v).getD k 0 = if j = k ∧ k < l.length then v else l.getD k 0 := by
 rw [List.getD_eq_getElem?_getD, List.getElem?_set]
 by_cases c : j = k
 ·subst c
  by_cases d : j < l.length
  ·simp [d]
  ·simp [d]
 ·simp [c]
theorem ofM_ok (row : List Int) (n : Nat) (hn : n < 2 ^ 60) : InfOk (ofM row n) n := by
 induction n with
 | zero =>
  refine ⟨by show (0 : Int) ≤ 0 ∧ (0 : Int) ≤ most; decide, by show (0 : Int) ≤ 0 ∧ (0 : Int) ≤ 0; decide, by show (0 : Int) ≤ 0 ∧ (0 : Int) ≤ 0; decide, fun k => ?_⟩
  show 0 ≤ (zeros 9).getD k 0 ∧ (zeros 9).getD k 0 ≤ most
  have : (zeros 9).getD k 0 = 0 := by
   rw [List.getD_eq_getElem?_getD]
   unfold zeros
   rw [List.getElem?_replicate]; split <;> rfl
  rw [this]; decide
 | succ n ih =>
  obtain ⟨i1, i2, i3, i4⟩ := ih (by omega)
  obtain ⟨r1, r2⟩ := recM_num (cellAt row n)
  have hl := ofM_len row n
  unfold ofM layM
  generalize (recM (cellAt row n)).1 = kind
  generalize (recM (cellAt row n)).2.1 = slot
  generalize (recM (cellAt row n)).2.2 = num at *
  generalize ofM row n = I at *
  have hN : InfOk (nextM I n kind) (n + 1) ∧ (nextM I n kind).torn ≤ n := by
   unfold nextM
   split
   ·exact ⟨⟨i1, by dsimp only; rw [wrap_id (by omega)]; omega, by dsimp only; omega, i4⟩, i3.2⟩
   ·exact ⟨⟨i1, by omega, by omega, i4⟩, i3.2⟩
  obtain ⟨⟨j1, j2, j3, j4⟩, j5⟩ := hN
  generalize nextM I n kind = J at *
  unfold layN
  split
  ·exact ⟨j1, j2, by dsimp only; rw [wrap_id (by omega)]; omega, j4⟩
  ·split
   ·exact ⟨⟨r1, r2⟩, j2, j3, j4⟩
   ·split
    ·refine ⟨j1, j2, j3, fun k => ?_⟩
     dsimp only
     rw [set_getD]
     split
     ·have := j4 slot.toNat
      split <;> omega
     ·exact j4 k
    ·exact ⟨j1, j2, j3, j4⟩
theorem pageI_ok (row : List Int) (n : Nat) (hn : n < 2 ^ 60) : InfOk (pageI row n) n := ⟨(ofM_ok row n hn).1, (ofM_ok row n hn).2, (ofM_ok row n hn).3, (ofM_ok row n hn).4⟩
theorem pI_ok {C : Cm} (ok : C.ok) (k : Nat) : InfOk (pI C k) C.cfg.cells.toNat := pageI_ok _ _ (by have := ok.may.cells; omega)
theorem infoM_ok {C : Cm} (ok : C.ok) : InfOk (infoM C) C.cfg.cells.toNat := by
 unfold infoM
 split
 ·refine ⟨by decide, ⟨by decide, by show (0 : Int) ≤ _; omega⟩, ⟨by decide, by show (0 : Int) ≤ _; omega⟩, fun k => ?_⟩
  have := (ofM_ok [] 0 (by decide)).nums k
  exact this
 ·exact pI_ok ok _
section
variable {h0 h : H} {A : List Ent} {i j p r l b : Nat} {C : Cm}
end
end Go.Proofs.YteedolonhdbieaaGreatDoor
end

/- The log: a turn, a lay of the program. Own work. -/
section
set_option maxRecDepth 100000
set_option linter.unusedVariables false
namespace Go.Proofs.YteedolonhdbieaaGreatDoor
open Go Go.Vc

theorem value_ok {x : Nat} {v : Int} (hx : x ≤ 8) (h1 : 1 ≤ v) (h2 : v ≤ most) : (valueM (x : Int) v).2 = 0 := by
 unfold valueM
 rw [if_neg (by omega), if_neg (by omega), if_neg (by omega), if_neg (by omega)]
theorem head_ok {g : Int} (h1 : 1 ≤ g) (h2 : g ≤ most) : (headM g).2 = 0 := by
 unfold headM
 rw [if_neg (by omega), if_neg (by omega)]
theorem most_val : most = 4611686018427387904 := rfl
section
variable {h0 h : H} {A : List Ent} {i j p r b : Nat} {C : Cm}
theorem turn1_sp {Q : Int → H → Prop} {nm nx nt nl nf : Nat} {nv fv : List Value} {x at_ t : Nat} {v : Int} (hx : x ≤ 8) (hv1 : 1 ≤ v) (hv2 : v ≤ most) (hat : at_ < 2 ^ 60)
  (hs : Sat h0 (blk nm nv :: blk nx [.int .i64 (at_ : Int)] :: blk nt [.int .i64 (t : Int)] :: blk nf fv :: blk nl [.pointer (some ⟨r, 0, none⟩)] :: A) h) (ci : At A i (chipE p C)) (cl : At A j (logE r p))
  (k : ∀ h', Sat h0 (blk nm nv :: blk nx [.int .i64 ((at_ + 1 : Nat) : Int)] :: blk nt [.int .i64 (t : Int)] :: blk nf fv :: blk nl [.pointer (some ⟨r, 0, none⟩)] :: put A i (chipE p (programM C (t : Int) (at_ : Int) (valueM (x : Int) v).1).1)) h' → Q (programM C (t : Int) (at_ : Int) (valueM (x : Int) v).1).2 h') :
  F_log_Log_turn_1 (x : Int) v ⟨nx, 0, none⟩ ⟨nl, 0, none⟩ ⟨nt, 0, none⟩ Q h := by
 unfold F_log_Log_turn_1 G_log_Log_turn_1
 simp only [List.append_nil]
 refine Value_sp (x : Int) v hs ?_
 intro h1 hs
 have hl := valueM_length (x : Int) v
 rw [value_ok hx hv1 hv2]
 generalize (valueM (x : Int) v).1 = rec at *
 intro n12 _ hn; replace hs := Sat.new hs hn; clear hn
 refine ⟨Sat.can hs (i := 0) .z (by simp [zeros]), ?_⟩
 intro h2 e2
 replace hs := Sat.wra hs (i := 0) .z e2 (by simp [zeros, hl])
 clear e2
 simp only [put] at hs
 rw [if_neg (by simp)]
 refine ⟨_, Sat.ld hs (by (repeat (first | exact At.z | apply At.s))) (by rfl), ?_⟩
 (refine ⟨Sat.can hs (by (repeat (first | exact At.z | apply At.s))) (by simp), ?_⟩; intro _ e; replace hs := Sat.wr hs (by (repeat (first | exact At.z | apply At.s))) e; clear e; simp only [put, splice, List.set] at hs)
 rw [wrap_succ (by omega)] at hs
 refine ⟨_, Sat.ld hs (by (repeat (first | exact At.z | apply At.s))) (by rfl), ?_⟩
 refine ⟨_, rfl, _, hs.ld cl.s.s.s.s.s.s rfl, ?_⟩
 refine ⟨_, Sat.ld hs (by (repeat (first | exact At.z | apply At.s))) (by rfl), ?_⟩
 refine ⟨_, Sat.ld hs (by (repeat (first | exact At.z | apply At.s))) (by rfl), ?_⟩
 refine ⟨_, hl, hs.row0 (i := 0) .z, _, rfl, ?_⟩
 have ea : IntKind.i64.wrap (((at_ + 1 : Nat) : Int) - 1) = (at_ : Int) := by rw [wrap_id (by omega)]; omega
 rw [ea]
 refine Program_sp hs ci.s.s.s.s.s.s (t : Int) (at_ : Int) rec hl ?_
 intro h3 hs
 simp only [put_succ] at hs
 exact k _ hs.drop
theorem turn_sp {Q : Int → H → Prop} (hs : Sat h0 A h) (ci : At A i (chipE p C)) (cl : At A j (logE r p)) (hij : j ≠ i) (slot : Nat) (n : Int) (hsl : (slot : Int) ≤ C.cfg.slots) (hn1 : 1 ≤ n) (hn2 : n ≤ most) (hg : (infoM C).head < most)
  (k : ∀ h', Sat h0 (put A i (chipE p (turnL C slot n).1)) h' → Q (turnL C slot n).2 h') :
  F_log_Log_turn ⟨r, 0, none⟩ (pI C 0).head (pI C 0).nums (pI C 0).next (pI C 0).blank (pI C 0).torn (pI C 1).head (pI C 1).nums (pI C 1).next (pI C 1).blank (pI C 1).torn (presM C) (slot : Int) n Q h := by
 unfold F_log_Log_turn G_log_Log_turn
 try simp only [add_mk, Nat.zero_add, List.append_nil]
 have ok := chip_ok hs ci
 have hslots := ok.may.slots
 have l0 := pI_len C 0
 have l1 := pI_len C 1
 have hc2 := presM_cases C
 have ht := tgt_lt C
 have iok := infoM_ok ok
 have ilen := infoM_len C
 intro n23 _ hn; replace hs := Sat.new hs hn; clear hn
 intro n26 _ hn; replace hs := Sat.new hs hn; clear hn
 replace hs : Sat h0 (blk n26 (fndI (pI C 0) (pI C 1) (presM C)) :: blk n23 [.pointer (some ⟨r, 0, none⟩)] :: A) _ := hs
 have L := hs.fnd (i := 0) .z l0 l1
 refine ⟨_, L.a0, _, ‹_›, L.a1, _, L.a10, _, L.a11, _, L.a12, _, L.a13, _, ‹_›, L.a14, _, L.a23, _, L.a24, _, L.a25, _, L.a26, ?_⟩
 refine target_sp l0 l1 hs ?_
 intro h1 hs
 rw [tgt_eq]
 intro n42 _ hn; replace hs := Sat.new hs hn; clear hn
 (refine ⟨Sat.can hs (by (repeat (first | exact At.z | apply At.s))) (by simp), ?_⟩; intro _ e; replace hs := Sat.wr hs (by (repeat (first | exact At.z | apply At.s))) e; clear e; simp only [put, splice, List.set] at hs)
 obtain ⟨t, htd⟩ : ∃ t, t = tgtM C := ⟨_, rfl⟩
 obtain ⟨nums, hnums⟩ : ∃ nums, nums = (infoM C).nums.set slot n := ⟨_, rfl⟩
 have hnb : ∀ x, 0 ≤ nums.getD x 0 ∧ nums.getD x 0 ≤ most := by
  intro x
  rw [hnums, set_getD]
  split
  ·omega
  ·exact iok.nums x
 have hnl : nums.length = 9 := by rw [hnums, List.length_set, ilen]
 have kk : turnL C slot n = if (pI C t).blank = true then turnA (infoM C).head (t : Int) nums (C.cfg.slots + 1).toNat C else if (eraseM C (t : Int)).2 ≠ 0 then eraseM C (t : Int) else turnA (infoM C).head (t : Int) nums (C.cfg.slots + 1).toNat (eraseM C (t : Int)).1 := by rw [htd, hnums]; rfl
 rw [kk] at k
 rw [← htd] at hs ht
 clear kk
 intro J47 hJ47
 -- behind the erase
 have way : ∀ (D : Cm) h', D.cfg = C.cfg → Sat h0 (blk n42 [.int .i64 (t : Int)] :: blk n26 (fndI (pI C 0) (pI C 1) (presM C)) :: blk n23 [.pointer (some ⟨r, 0, none⟩)] :: put A i (chipE p D)) h' →
   (∀ h', Sat h0 (put A i (chipE p (turnA (infoM C).head (t : Int) nums (C.cfg.slots + 1).toNat D).1)) h' → Q (turnA (infoM C).head (t : Int) nums (C.cfg.slots + 1).toNat D).2 h') → J47 [] h' := by
  intro D h2 hcf hs k
  apply hJ47
  clear hJ47 J47
  have ci2 := ci.put (chipE p D)
  have cl2 := cl.put_ne hij (chipE p D)
  have pp : ∀ E : Cm, put (put A i (chipE p D)) i (chipE p E) = put A i (chipE p E) := fun E => put_put _ _ _ _
  generalize put A i (chipE p D) = A2 at *
  intro n49 _ hn; replace hs := Sat.new hs hn; clear hn
  (refine ⟨Sat.can hs (by (repeat (first | exact At.z | apply At.s))) (by simp), ?_⟩; intro _ e; replace hs := Sat.wr hs (by (repeat (first | exact At.z | apply At.s))) e; clear e; simp only [put, splice, List.set] at hs)
  have L := hs.fnd (i := 2) (.s (.s .z)) l0 l1
  refine ⟨_, L.a0, _, ‹_›, L.a1, _, L.a10, _, L.a11, _, L.a12, _, L.a13, _, ‹_›, L.a14, _, L.a23, _, L.a24, _, L.a25, _, L.a26, ?_⟩
  refine finfo_sp l0 l1 (by omega) hs ?_
  intro h3 hs
  rw [← infoM_f]
  intro n71 _ hn; replace hs := Sat.new hs hn; clear hn
  refine ⟨Sat.can hs (i := 0) .z (by simp [zeros]), ?_⟩
  intro h4 e4
  replace hs := Sat.wra hs (i := 0) .z e4 (by simp [zeros, ilen])
  clear e4
  simp only [put] at hs
  refine ⟨by omega, by omega, ?_⟩
  rw [Int.toNat_natCast, Nat.mul_one]
  refine ⟨Sat.can hs (i := 0) .z (by simp [ilen]; omega), ?_⟩
  intro h5 e5
  replace hs := Sat.wr hs (i := 0) .z e5
  clear e5
  have e6 : splice (ints .i64 (infoM C).nums) slot [.int .i64 n] = ints .i64 nums := by
   show (ints .i64 (infoM C).nums).set slot (.int .i64 n) = _
   rw [ints_set, hnums]
  rw [e6] at hs
  simp only [put] at hs
  refine ⟨_, hs.ld (i := 4) (.s (.s (.s (.s .z)))) rfl, _, rfl, _, hs.ld cl2.s.s.s.s.s rfl, _, rfl, ?_⟩
  refine Config_sp hs ci2.s.s.s.s.s ?_
  intro h6 hs
  rw [hcf]
  intro J90 hJ90
  obtain ⟨m, hm⟩ : ∃ m, m = (C.cfg.slots + 1).toNat := ⟨_, rfl⟩
  rw [← hm] at k
  have hm9 : m ≤ 9 := by omega
  have em : IntKind.i64.wrap (C.cfg.slots + 1) = (m : Int) := by rw [wrap_id (by omega)]; omega
  rw [em] at hJ90
  obtain ⟨E, hE⟩ : ∃ E, E = turnP (t : Int) nums m 0 1 D := ⟨_, rfl⟩
  have kE : turnA (infoM C).head (t : Int) nums m D = if E.2 ≠ 0 then E else programM E.1 (t : Int) 0 (headM ((infoM C).head + 1)).1 := by unfold turnA; rw [← hE]
  rw [kE] at k
  clear kE
  have hs1 : ∃ (F : Cm) (at_ : Nat), at_ ≤ 0 + 1 ∧ Sat h0 (blk n71 (ints .i64 nums) :: blk n49 [.int .i64 (at_ : Int)] :: blk n42 [.int .i64 (t : Int)] :: blk n26 (fndI (pI C 0) (pI C 1) (presM C)) :: blk n23 [.pointer (some ⟨r, 0, none⟩)] :: put A2 i (chipE p F)) h6 ∧ turnP (t : Int) nums (m - 0) 0 at_ F = E :=
   ⟨D, 1, by omega, by rw [ci2.put_self]; exact hs, hE.symm⟩
  clear hs
  refine loop_up m (fun x h => ∃ (F : Cm) (at_ : Nat), at_ ≤ x + 1 ∧ Sat h0 (blk n71 (ints .i64 nums) :: blk n49 [.int .i64 (at_ : Int)] :: blk n42 [.int .i64 (t : Int)] :: blk n26 (fndI (pI C 0) (pI C 1) (presM C)) :: blk n23 [.pointer (some ⟨r, 0, none⟩)] :: put A2 i (chipE p F)) h ∧ turnP (t : Int) nums (m - x) x at_ F = E) ?_ ?_ 0 _ (by omega) hs1
  ·rintro x h7 hx ⟨F, at_, hat, hs, hT⟩ hk
   apply hJ90
   rw [ltI_eq, if_pos (by simp; omega)]
   have g : ∀ h', Sat h0 (blk n71 (ints .i64 nums) :: blk n49 [.int .i64 (at_ : Int)] :: blk n42 [.int .i64 (t : Int)] :: blk n26 (fndI (pI C 0) (pI C 1) (presM C)) :: blk n23 [.pointer (some ⟨r, 0, none⟩)] :: put A2 i (chipE p F)) h' → hc h' ⟨n71, x, none⟩ = some (.int .i64 (nums.getD x 0)) := fun h' hs' => hs'.ld (i := 0) .z (by
    rw [ints_get, List.getElem?_eq_getElem (by omega)]; simp [List.getD, List.getElem?_eq_getElem (show x < nums.length by omega)])
   obtain ⟨m', hm'⟩ : ∃ m', m - x = m' + 1 := ⟨m - x - 1, by omega⟩
   rw [hm'] at hT
   unfold turnP at hT
   rw [wrap_succ (by omega), Int.toNat_natCast, Nat.mul_one]
   refine ⟨by omega, by omega, _, g _ hs, ?_⟩
   by_cases gz : nums.getD x 0 = 0
   ·rw [if_pos gz] at hT
    rw [if_pos (by rw [gz]; rfl)]
    exact hk _ ⟨F, at_, by omega, hs, by rw [show m - (x + 1) = m' by omega]; exact hT⟩
   rw [if_neg gz] at hT
   rw [if_neg (by rw [beq_iff_eq]; exact gz)]
   refine ⟨by omega, by omega, _, g _ hs, ?_⟩
   have hb := hnb x
   refine turn1_sp (by omega) (by omega) hb.2 (by omega) hs (ci2.put _) (cl2.put_ne hij _) ?_
   intro h8 hs
   rw [put_put] at hs
   generalize programM F (t : Int) (at_ : Int) (valueM (x : Int) (nums.getD x 0)).1 = X at *
   by_cases ge : X.2 = 0
   ·rw [if_neg (by simpa using ge)] at hT
    rw [if_neg (by simpa using ge)]
    exact hk _ ⟨X.1, at_ + 1, by omega, hs, by rw [show m - (x + 1) = m' by omega]; exact hT⟩
   ·rw [if_pos (by simpa using ge)] at hT
    rw [if_pos (by simpa using ge)]
    rw [← hT, if_pos ge] at k
    refine k _ ?_
    rw [← pp]
    exact hs.drop.drop.drop.drop.drop
  ·rintro h7 ⟨F, at_, hat, hs, hT⟩
   apply hJ90
   rw [ltI_eq, if_neg (by simp)]
   rw [Nat.sub_self] at hT
   unfold turnP at hT
   rw [← hT, if_neg (by simp)] at k
   dsimp only at k
   have L := hs.fnd (i := 3) (.s (.s (.s .z))) l0 l1
   refine ⟨_, L.a0, _, ‹_›, L.a1, _, L.a10, _, L.a11, _, L.a12, _, L.a13, _, ‹_›, L.a14, _, L.a23, _, L.a24, _, L.a25, _, L.a26, ?_⟩
   refine finfo_sp l0 l1 (by omega) hs ?_
   intro h8 hs
   rw [← infoM_f]
   have ih := iok.head
   have hmv := most_val
   rw [wrap_id (by omega)]
   refine Head_sp ((infoM C).head + 1) hs ?_
   intro h9 hs
   rw [head_ok (by omega) (by omega)]
   have hhl := headM_length ((infoM C).head + 1)
   generalize (headM ((infoM C).head + 1)).1 = rec at *
   intro n117 _ hn; replace hs := Sat.new hs hn; clear hn
   refine ⟨Sat.can hs (i := 0) .z (by simp [zeros]), ?_⟩
   intro h10 e10
   replace hs := Sat.wra hs (i := 0) .z e10 (by simp [zeros, hhl])
   clear e10
   simp only [put] at hs
   rw [if_neg (by simp)]
   refine ⟨_, hs.ld (i := 5) (.s (.s (.s (.s (.s .z))))) rfl, _, rfl, _, hs.ld (cl2.put_ne hij (chipE p F)).s.s.s.s.s.s rfl, ?_⟩
   refine ⟨_, Sat.ld hs (by (repeat (first | exact At.z | apply At.s))) (by rfl), ?_⟩
   refine ⟨_, hhl, hs.row0 (i := 0) .z, _, rfl, ?_⟩
   refine Program_sp hs (ci2.put (chipE p F)).s.s.s.s.s.s (t : Int) 0 rec hhl ?_
   intro h11 hs
   simp only [put_succ, put_put] at hs
   refine k _ ?_
   rw [← pp]
   exact hs.drop.drop.drop.drop.drop.drop
 have hbl := blank_at hs (i := 1) (.s .z) l0 l1 ht
 rw [htd, pI_tgt, ← htd] at hbl
 refine ⟨_, hs.ld (i := 0) .z rfl, by omega, by omega, _, hbl, ?_⟩
 by_cases g : (pI C t).blank = true
 ·rw [if_pos g] at k
  rw [if_neg (by rw [g]; decide)]
  refine way C _ rfl ?_ k
  rw [ci.put_self]
  exact hs
 ·rw [if_neg g] at k
  rw [if_pos (by simpa using g)]
  refine ⟨_, hs.ld (i := 2) (.s (.s .z)) rfl, _, rfl, _, hs.ld cl.s.s.s rfl, ?_⟩
  refine ⟨_, Sat.ld hs (by (repeat (first | exact At.z | apply At.s))) (by rfl), ?_⟩
  refine ⟨_, rfl, ?_⟩
  refine Erase_sp hs ci.s.s.s (t : Int) ?_
  intro h2 hs
  simp only [put_succ] at hs
  have hcf := erase_cfg C (t : Int)
  generalize eraseM C (t : Int) = X at *
  by_cases ge : X.2 = 0
  ·rw [if_neg (by simpa using ge)] at k
   rw [if_neg (by simpa using ge)]
   exact way X.1 _ hcf hs k
  ·rw [if_pos (by simpa using ge)] at k
   rw [if_pos (by simpa using ge)]
   exact k _ hs.drop.drop.drop
theorem Lay9_sp {Q : Int → H → Prop} (hs : Sat h0 A h) (ci : At A i (chipE p C)) (cl : At A j (logE r p)) (hij : j ≠ i) (slot n : Int)
  (k : ∀ h', Sat h0 (put A i (chipE p (layL C slot n).1)) h' → Q (layL C slot n).2 h') : F_log_Log_Lay ⟨r, 0, none⟩ slot n Q h := by
 unfold F_log_Log_Lay G_log_Log_Lay
 try simp only [add_mk, Nat.zero_add, List.append_nil]
 have ok := chip_ok hs ci
 have hslots := ok.may.slots
 refine logLook_sp hs ci cl ?_
 intro h1 hs
 obtain ⟨lp, lq⟩ := lookF_len C
 intro n26 _ hn; replace hs := Sat.new hs hn; clear hn
 refine ⟨Sat.can hs (i := 0) .z (by decide), ?_⟩
 intro h2 e
 replace hs := Sat.wra hs (i := 0) .z e (by rw [fnd_len lp lq]; rfl)
 clear e
 replace hs : Sat h0 (blk n26 (fndI (lookF C).1.p (lookF C).1.q (lookF C).1.n) :: A) h2 := hs
 unfold layL at k
 by_cases ho : C.out = true
 ·have e : lookF C = (⟨inf0, inf0, 0⟩, 8) := by unfold lookF; rw [if_pos ho]
  rw [if_pos ho] at k
  rw [e, if_pos (by simp)]
  exact k _ (by rw [ci.put_self]; exact hs.drop)
 have ho' : C.out = false := by simpa using ho
 have e : lookF C = (⟨pI C 0, pI C 1, presM C⟩, 0) := by unfold lookF; rw [if_neg ho]
 rw [if_neg ho] at k
 rw [e] at hs lp lq ⊢
 dsimp only at hs lp lq ⊢
 rw [if_neg (by simp)]
 intro J31 hJ31
 have iok := infoM_ok ok
 have ilen := infoM_len C
 have hc2 := presM_cases C
 have way : ∀ bb : Bool, (bb = true ↔ ¬ (0 ≤ slot ∧ slot ≤ C.cfg.slots ∧ 1 ≤ n ∧ n ≤ most)) → ∀ h3, Sat h0 (blk n26 (fndI (pI C 0) (pI C 1) (presM C)) :: A) h3 → J31 [.dv (.one (.bool bb))] h3 := by
  intro bb hbb h3 hs
  apply hJ31
  clear hJ31 J31
  by_cases gb : bb = true
  ·rw [if_pos (hbb.1 gb)] at k
   rw [if_pos gb]
   exact k _ (by rw [ci.put_self]; exact hs.drop)
  have g : 0 ≤ slot ∧ slot ≤ C.cfg.slots ∧ 1 ≤ n ∧ n ≤ most := Classical.byContradiction fun y => gb (hbb.2 y)
  rw [if_neg (fun y => y g)] at k
  rw [if_neg gb]
  obtain ⟨g1, g2, g3, g4⟩ := g
  have L := hs.fnd .z lp lq
  refine ⟨_, L.a0, _, ‹_›, L.a1, _, L.a10, _, L.a11, _, L.a12, _, L.a13, _, ‹_›, L.a14, _, L.a23, _, L.a24, _, L.a25, _, L.a26, ?_⟩
  refine finfo_sp lp lq (by omega) hs ?_
  intro h4 hs
  rw [← infoM_f]
  refine ⟨by omega, by omega, ?_⟩
  by_cases g5 : n ≤ (infoM C).nums.getD slot.toNat 0
  ·rw [if_pos g5] at k
   rw [leI_eq, if_pos (by rw [decide_eq_true g5])]
   exact k _ (by rw [ci.put_self]; exact hs.drop)
  rw [if_neg g5] at k
  rw [leI_eq, if_neg (by rw [decide_eq_false g5]; decide)]
  have L := hs.fnd .z lp lq
  refine ⟨_, L.a0, _, ‹_›, L.a1, _, L.a10, _, L.a11, _, L.a12, _, L.a13, _, ‹_›, L.a14, _, L.a23, _, L.a24, _, L.a25, _, L.a26, ?_⟩
  refine finfo_sp lp lq (by omega) hs ?_
  intro h5 hs
  rw [← infoM_f]
  intro n68 _ hn; replace hs := Sat.new hs hn; clear hn
  refine ⟨Sat.can hs (i := 0) .z (by decide), ?_⟩
  intro h6 e6
  replace hs := Sat.wra hs (i := 0) .z e6 ((inf_len ilen).trans rfl)
  clear e6
  replace hs : Sat h0 (blk n68 (infI (infoM C)) :: blk n26 (fndI (pI C 0) (pI C 1) (presM C)) :: A) h6 := hs
  intro J73 hJ73
  have way2 : ∀ bb : Bool, (bb = true ↔ (0 ≤ presM C ∧ (infoM C).next < C.cfg.cells)) → ∀ h7, Sat h0 (blk n68 (infI (infoM C)) :: blk n26 (fndI (pI C 0) (pI C 1) (presM C)) :: A) h7 → J73 [.dv (.one (.bool bb))] h7 := by
   intro bb hbb h7 hs
   apply hJ73
   clear hJ73 J73
   by_cases gb : bb = true
   ·rw [if_pos (hbb.1 gb)] at k
    rw [if_pos gb]
    obtain ⟨sl, rfl⟩ := Int.eq_ofNat_of_zero_le g1
    refine Value_sp (sl : Int) n hs ?_
    intro h8 hs
    have hvl := valueM_length (sl : Int) n
    rw [value_ok (by omega) g3 g4]
    generalize (valueM (sl : Int) n).1 = rec at *
    intro n79 _ hn; replace hs := Sat.new hs hn; clear hn
    refine ⟨Sat.can hs (i := 0) .z (by simp [zeros]), ?_⟩
    intro h9 e9
    replace hs := Sat.wra hs (i := 0) .z e9 (by simp [zeros, hvl])
    clear e9
    simp only [put] at hs
    rw [if_neg (by simp)]
    have L := hs.fnd (i := 2) (.s (.s .z)) lp lq
    obtain ⟨L0, L1, L10, L11, L12⟩ := hs.infAt (i := 1) (.s .z) ilen
    refine ⟨_, hs.ld cl.s.s.s rfl, _, L.a26, _, L10, _, hvl, hs.row0 (i := 0) .z, _, rfl, ?_⟩
    refine Program_sp hs ci.s.s.s (presM C) (infoM C).next rec hvl ?_
    intro h10 hs
    simp only [put_succ] at hs
    exact k _ hs.drop.drop.drop
   rw [if_neg (fun y => gb (hbb.2 y))] at k
   rw [if_neg gb]
   have L := hs.fnd (i := 1) (.s .z) lp lq
   refine ⟨_, L.a0, _, ‹_›, L.a1, _, L.a10, _, L.a11, _, L.a12, _, L.a13, _, ‹_›, L.a14, _, L.a23, _, L.a24, _, L.a25, _, L.a26, ?_⟩
   refine worn9_sp hs ci.s.s cl.s.s ho' ?_
   intro h8 hs
   by_cases gw : wornF C = true
   ·rw [if_pos gw] at k
    rw [if_pos gw]
    exact k _ (by rw [ci.put_self]; exact hs.drop.drop)
   rw [if_neg gw] at k
   rw [if_neg gw]
   have hgm : (infoM C).head < most := by
    have : ¬ most ≤ (infoM C).head := fun y => gw (by unfold wornF; rw [decide_eq_true y, Bool.or_true])
    omega
   have L := hs.fnd (i := 1) (.s .z) lp lq
   refine ⟨_, L.a0, _, ‹_›, L.a1, _, L.a10, _, L.a11, _, L.a12, _, L.a13, _, ‹_›, L.a14, _, L.a23, _, L.a24, _, L.a25, _, L.a26, ?_⟩
   obtain ⟨sl, rfl⟩ := Int.eq_ofNat_of_zero_le g1
   refine turn_sp hs ci.s.s cl.s.s (by omega) sl n g2 g3 g4 hgm ?_
   intro h9 hs
   simp only [put_succ] at hs
   exact k _ hs.drop.drop
  have L := hs.fnd (i := 1) (.s .z) lp lq
  refine ⟨_, L.a26, ?_⟩
  by_cases gp : 0 ≤ presM C
  ·rw [leI_eq, if_pos (by simpa using gp)]
   obtain ⟨L0, L1, L10, L11, L12⟩ := hs.infAt (i := 0) .z ilen
   refine ⟨_, L10, _, hs.ld cl.s.s rfl, _, rfl, ?_⟩
   refine Config_sp hs ci.s.s ?_
   intro h7 hs
   obtain ⟨M0, M1, M10, M11, M12⟩ := hs.infAt (i := 0) .z ilen
   refine ⟨hcs_one M10, ?_⟩
   rw [ltI_eq]
   exact way2 _ (by simp [gp]) _ hs
  ·rw [leI_eq, if_neg (by simpa using gp)]
   exact way2 false (by simp [gp]) _ hs
 refine slot_sp hs ci.s cl.s slot ?_
 intro h3 hs
 by_cases gs : 0 ≤ slot ∧ slot ≤ C.cfg.slots
 case neg =>
  rw [if_pos (by rw [decide_eq_false gs]; rfl)]
  exact way true (by constructor; intro _ y; exact gs ⟨y.1, y.2.1⟩; intro _; rfl) _ hs
 rw [if_neg (by rw [decide_eq_true gs]; decide)]
 by_cases gn : n < 1
 ·rw [ltI_eq, if_pos (by simpa using gn)]
  exact way true (by constructor; intro _ y; omega; intro _; rfl) _ hs
 rw [ltI_eq, if_neg (by simpa using gn)]
 intro i135 hi
 subst hi
 rw [ltI_eq]
 have hmv := most_val
 refine way _ ?_ _ hs
 rw [decide_eq_true_iff]
 constructor
 ·intro y z; omega
 ·intro y
  exact Classical.byContradiction fun z => y ⟨gs.1, gs.2, by omega, by omega⟩
end
end Go.Proofs.YteedolonhdbieaaGreatDoor
end

/- AreaWrites: what the programs of a Write leave; laws about numbers alone. Own work. -/
section
set_option maxRecDepth 100000
set_option linter.unusedVariables false
namespace Go.Proofs.YteedolonhdbieaaGreatDoor
open Go Go.Vc

def cellOf (B cells : Nat) (D : Cm) (x : Nat) : List Int := cellAt (D.pg (B + x / cells)) (x % cells)
theorem prog_step {C : Cm} {P q : Nat} {rec : List Int} (ho : C.out = false) (hP : P < C.s.pages.length) (hq : (q : Int) < C.cfg.cells) (ha : 0 ≤ C.acts ∧ C.acts < 2 ^ 60) :
  ∃ D : Cm, programM C (P : Int) (q : Int) rec = (D, errM C) ∧ D.cfg = C.cfg ∧ D.s.blown = C.s.blown ∧ D.s.pages.length = C.s.pages.length ∧ D.s.erases = C.s.erases ∧ (∀ x, x ≠ P → D.pg x = C.pg x) ∧
   D.acts = C.acts + 1 ∧ D.pg P = rowSet (C.pg P) q (progCell (cellAt (C.pg P) q) rec (maskAt C)) ∧ (C.left ≠ 0 → D.out = false) ∧ (-1 ≤ C.left → -1 ≤ D.left) := by
 have hac : C.act.acts = C.acts + 1 := by
  unfold Cm.act
  have : w64 (C.acts + 1) = C.acts + 1 := by unfold w64; rw [IntKind.wrap_i64]; omega
  split <;> exact this
 have ec : asksCellM C (P : Int) (q : Int) = 0 := by
  unfold asksCellM
  rw [askedM_in ho (by omega) (by omega), if_neg (by simp), askedM_in ho (by omega) hq]
 unfold programM
 rw [ec, if_neg (by simp), Int.toNat_natCast, Int.toNat_natCast]
 refine ⟨_, rfl, act_cfg C, ?_, ?_, ?_, ?_, hac, ?_, ?_, ?_⟩
 ·show C.act.s.blown = _; rw [act_s]
 ·show (C.act.s.pages.set P _).length = _; rw [List.length_set, act_s]
 ·show C.act.s.erases = _; rw [act_s]
 ·intro x hx
  show (C.act.s.pages.set P _).getD x [] = C.s.pages.getD x []
  simp only [List.getD, List.getElem?_set_ne (Ne.symm hx), act_s]
 ·show (C.act.s.pages.set P _).getD P [] = _
  rw [getD_put _ _ _ _ (by rw [act_s]; exact hP)]
  unfold rowOf
  rw [Int.toNat_natCast]; rfl
 ·intro hl
  show C.act.out = false
  exact act_out ho hl
 ·intro hl
  show -1 ≤ C.act.left
  unfold Cm.act
  split
  ·dsimp only; split <;> omega
  ·exact Int.le_refl _
theorem cellOf_step {B cells i : Nat} {C D : Cm} {c : List Int} (hc : 0 < cells) (h1 : ∀ x, x ≠ B + i / cells → D.pg x = C.pg x) (h2 : D.pg (B + i / cells) = rowSet (C.pg (B + i / cells)) (i % cells) c) (hl : (C.pg (B + i / cells)).length = cells * 32) (hcl : c.length = 32) :
  cellOf B cells D i = c ∧ (∀ x, x ≠ i → cellOf B cells D x = cellOf B cells C x) ∧ (D.pg (B + i / cells)).length = cells * 32 := by
 have hm : i % cells < cells := Nat.mod_lt _ hc
 have hb : (i % cells + 1) * 32 ≤ (C.pg (B + i / cells)).length := by rw [hl]; exact Nat.mul_le_mul_right 32 hm
 refine ⟨?_, ?_, ?_⟩
 ·unfold cellOf
  rw [h2, rowSet_same hb hcl]
 ·intro x hx
  unfold cellOf
  by_cases e : x / cells = i / cells
  ·rw [e, h2]
   have hmx : x % cells < cells := Nat.mod_lt _ hc
   refine rowSet_other hb (by rw [hl]; exact Nat.mul_le_mul_right 32 hmx) hcl ?_
   intro e2
   have a1 := Nat.div_add_mod x cells
   have a2 := Nat.div_add_mod i cells
   rw [e, e2] at a1
   omega
  ·rw [h1 _ (by omega)]
 ·rw [h2, rowSet_length hb hcl, hl]
theorem prog_whole {X : List Int} (hX : X.length = 32) (hb : bytesOk X) : progCell blankCell X (fun _ => 255) = X := by
 have hcl : (progCell blankCell X fun _ => 255).length = 32 := progCell_length _ _ _ (by simp [blankCell])
 refine ext_getD (hcl.trans hX.symm) fun i hi => ?_
 rw [hcl] at hi
 rw [prog_getD _ _ _ hi]
 exact prog_full _ (getD_byte hb _)
theorem cellM_bytes {bs : List Int} (hb : bytesOk bs) (n : Nat) : bytesOk (cellM bs n) := by
 unfold cellM
 refine tab_bytes fun k => ?_
 split
 ·exact getD_byte hb _
 ·exact ⟨by decide, by decide⟩
def doneP (n k x : Nat) : Prop := (1 ≤ x ∧ x ≤ k ∧ x < n) ∨ (k = n ∧ x = 0 ∧ 0 < n)
instance (n k x : Nat) : Decidable (doneP n k x) := by unfold doneP; infer_instance
theorem done_next {n k : Nat} (hk : k < n) (x : Nat) : doneP n (k + 1) x ↔ (doneP n k x ∨ x = (k + 1) % n) := by
 unfold doneP
 by_cases c : k + 1 = n
 ·rw [c, Nat.mod_self]; omega
 ·rw [Nat.mod_eq_of_lt (by omega)]; omega
theorem not_done {n k : Nat} (hk : k < n) : ¬ doneP n k ((k + 1) % n) := by
 unfold doneP
 by_cases c : k + 1 = n
 ·rw [c, Nat.mod_self]; omega
 ·rw [Nat.mod_eq_of_lt (by omega)]; omega
structure Pr (B area cells n k : Nat) (bs : List Int) (C D : Cm) (e : Int) : Prop where
 cfg : D.cfg = C.cfg
 bl : D.s.blown = C.s.blown
 np : D.s.pages.length = C.s.pages.length
 es : D.s.erases = C.s.erases
 pg : ∀ x, x < B ∨ B + area ≤ x → D.pg x = C.pg x
 good : e = 0 → D.acts = C.acts + (n - k : Nat) ∧ ∀ x, x < area * cells → cellOf B cells D x = if doneP n n x then cellM bs x else ffs
 bad : e ≠ 0 → e = 8 ∧ ∃ t, k < t ∧ t ≤ n ∧ D.acts = C.acts + (t - k : Nat) ∧ ∀ x, x < area * cells → x ≠ t % n → cellOf B cells D x = if doneP n (t - 1) x then cellM bs x else ffs
theorem programs (B area cells n : Nat) (bs : List Int) (hb : bytesOk bs) (hn : 0 < n) (hN : n ≤ area * cells) (hc : 0 < cells) : ∀ (m k : Nat) (C : Cm), m + k = n → C.out = false → -1 ≤ C.left → (cells : Int) = C.cfg.cells → B + area ≤ C.s.pages.length → (0 ≤ C.acts ∧ C.acts + m < 2 ^ 60) →
  (∀ x, x < area → (C.pg (B + x)).length = cells * 32) → (∀ x, x < area * cells → cellOf B cells C x = if doneP n k x then cellM bs x else ffs) → Pr B area cells n k bs C (progL (B : Int) cells bs n m k C).1 (progL (B : Int) cells bs n m k C).2 := by
 intro m
 induction m with
 | zero =>
  intro k C hk ho hl hcc hp ha hlen hcell
  have : k = n := by omega
  subst this
  unfold progL
  exact ⟨rfl, rfl, rfl, rfl, fun _ _ => rfl, fun _ => ⟨by simp, hcell⟩, fun x => absurd rfl x⟩
 | succ m ih =>
  intro k C hk ho hl hcc hp ha hlen hcell
  unfold progL
  have hin : (k + 1) % n < n := Nat.mod_lt _ hn
  have hnd := not_done (n := n) (k := k) (by omega)
  have hnx := done_next (n := n) (k := k) (by omega)
  generalize hi : (k + 1) % n = i at *
  have hdiv : i / cells < area := (Nat.div_lt_iff_lt_mul hc).2 (by omega)
  have hmod : i % cells < cells := Nat.mod_lt _ hc
  have hBle : B ≤ B + i / cells := Nat.le_add_right _ _
  have hne : ∀ x, x < B ∨ B + area ≤ x → x ≠ B + i / cells := by
   intro x hx
   generalize i / cells = dd at *
   omega
  have eB : (B : Int) + ((i / cells : Nat) : Int) = ((B + i / cells : Nat) : Int) := by simp
  rw [eB]
  obtain ⟨D, hD, d1, d2, d3, d4, d5, d6, d7, d8, d9⟩ := prog_step (C := C) (P := B + i / cells) (q := i % cells) (rec := cellM bs i) ho (by omega) (by omega) ⟨ha.1, by omega⟩
  rw [hD]
  dsimp only
  have hold : cellAt (C.pg (B + i / cells)) (i % cells) = ffs := by
   have := hcell i (by omega)
   rw [if_neg hnd] at this
   exact this
  rw [hold] at d7
  have hclen : ∀ f, (progCell ffs (cellM bs i) f).length = 32 := fun f => progCell_length _ _ _ rfl
  obtain ⟨s1, s2, s3⟩ := cellOf_step (B := B) (i := i) hc (fun x hx => d5 x hx) d7 (hlen _ hdiv) (hclen _)
  have hlen2 : ∀ x, x < area → (D.pg (B + x)).length = cells * 32 := by
   intro x hx
   by_cases e : x = i / cells
   ·rw [e]; exact s3
   ·rw [d5 _ (by omega)]; exact hlen x hx
  by_cases c : C.left = 0
  ·have e8 : errM C = 8 := by unfold errM; rw [if_neg (by simpa using c)]
   rw [e8, if_pos (by simp)]
   refine ⟨d1, d2, d3, d4, fun x hx => d5 x (hne x hx), fun e => by simp at e, fun _ => ⟨rfl, k + 1, by omega, by omega, by rw [d6]; omega, fun x hx hx2 => ?_⟩⟩
   rw [hi] at hx2
   rw [s2 x hx2, Nat.add_sub_cancel]
   exact hcell x hx
  ·have e0 : errM C = 0 := by unfold errM; rw [if_pos (by simpa using c)]
   rw [e0, if_neg (by simp)]
   have hmask : maskAt C = fun _ => 255 := by funext q; unfold maskAt; rw [if_pos (by simpa using c)]
   rw [hmask, ← blankCell_ffs, prog_whole (cellM_length bs i) (cellM_bytes hb i)] at s1
   have I := ih (k + 1) D (by omega) (d8 c) (d9 hl) (by rw [d1]; exact hcc) (by rw [d3]; exact hp) ⟨by omega, by omega⟩ hlen2 (fun x hx => by
    by_cases e : x = i
    ·rw [e, s1, if_pos ((hnx i).2 (Or.inr rfl))]
    ·rw [s2 x e, hcell x hx]
     by_cases dn : doneP n k x
     ·rw [if_pos dn, if_pos ((hnx x).2 (Or.inl dn))]
     ·rw [if_neg dn, if_neg (fun y => by rcases (hnx x).1 y with y | y; exact dn y; exact e y)])
   generalize progL (B : Int) cells bs n m (k + 1) D = X at *
   refine ⟨I.cfg.trans d1, I.bl.trans d2, I.np.trans d3, I.es.trans d4, fun x hx => (I.pg x hx).trans (d5 x (hne x hx)), fun e => ?_, fun e => ?_⟩
   ·obtain ⟨g1, g2⟩ := I.good e
    exact ⟨by rw [g1, d6]; omega, g2⟩
   ·obtain ⟨g1, t, g2, g3, g4, g5⟩ := I.bad e
    exact ⟨g1, t, by omega, g3, by rw [g4, d6]; omega, g5⟩
end Go.Proofs.YteedolonhdbieaaGreatDoor
end

/- The log's laws, plain: records, pages, what one program or one erase leaves. Own work. -/
section
set_option maxRecDepth 100000
set_option linter.unusedVariables false
namespace Go.Proofs.YteedolonhdbieaaGreatDoor
open Go Go.Vc

abbrev rk (row : List Int) (k : Nat) : Int × Int × Int := recM (cellAt row k)
def sndU (u : Bool) (C : Cm) : Prop :=
 match u with
 | true => C.left < 0
 | false => ∀ x, x < 2 → soundM (C.pg x) C.cfg.cells.toNat
theorem act_left {C : Cm} (h : C.left < 0) : C.act.left < 0 := by
 unfold Cm.act
 rw [if_pos (by omega)]
 show (if C.left - 1 > -1 then C.left - 1 else (-1 : Int)) < 0
 rw [if_neg (by omega)]
 decide
end Go.Proofs.YteedolonhdbieaaGreatDoor
end

/- The log's laws, plain: a turn, a lay. Own work. -/
section
set_option maxRecDepth 100000
set_option linter.unusedVariables false
namespace Go.Proofs.YteedolonhdbieaaGreatDoor
open Go Go.Vc

abbrev nof (C : Cm) (t k : Nat) : Int := (pI C t).nums.getD k 0
abbrev numOf (C : Cm) (k : Nat) : Int := (infoM C).nums.getD k 0
abbrev lOf (C : Cm) : Nat := C.cfg.cells.toNat
section
variable {u : Bool}
structure Part (u : Bool) (C D : Cm) (t m : Nat) (e : Int) : Prop where
 ok : D.ok
 cfg : D.cfg = C.cfg
 pgs : ∀ y, y ≠ t → D.pg y = C.pg y
 snd : sndU u D
 ec : e = 0 ∨ e = 8
 out0 : e = 0 → D.out = false
 out8 : e = 8 → D.out = true
 acts : 0 ≤ C.acts → C.acts + m < 2 ^ 60 → C.acts ≤ D.acts ∧ D.acts ≤ C.acts + m
 un : u = true → e = 0
theorem Part.trans {C D E : Cm} {t m n : Nat} {e : Int} (a : Part u C D t m 0) (b : Part u D E t n e) : Part u C E t (m + n) e :=
 ⟨b.ok, b.cfg.trans a.cfg, fun y h => (b.pgs y h).trans (a.pgs y h), b.snd, b.ec, b.out0, b.out8, fun h1 h2 => by
  have := a.acts h1 (by omega)
  have := b.acts (by omega) (by omega)
  omega, b.un⟩
theorem Part.more {C D : Cm} {t m n : Nat} {e : Int} (a : Part u C D t m e) (h : m ≤ n) : Part u C D t n e :=
 ⟨a.ok, a.cfg, a.pgs, a.snd, a.ec, a.out0, a.out8, fun h1 h2 => by have := a.acts h1 (by omega); omega, a.un⟩
theorem Part.refl {C : Cm} (ok : C.ok) (ho : C.out = false) (snd : sndU u C) (t : Nat) : Part u C C t 0 0 :=
 ⟨ok, rfl, fun _ _ => rfl, snd, Or.inl rfl, fun _ => ho, fun h => absurd h (by decide), fun _ _ => by omega, fun _ => rfl⟩
structure Turned (u : Bool) (C D : Cm) (t : Nat) (nums : List Int) (e : Int) : Prop where
 part : Part u C D t (C.cfg.slots.toNat + 3) e
 ero : ∀ y, y ≠ t → D.er y = C.er y
 ert : D.er t = C.er t ∨ (D.er t = C.er t + 1 ∧ C.er t < C.cfg.erases)
 erb : (pI C t).blank = true → D.er t = C.er t
 ern : (pI C t).blank = false → D.er t = C.er t + 1
 head : (pI D t).head = 0 ∨ (pI D t).head = (pI C t).head ∨ ((pI D t).head = (infoM C).head + 1 ∧ ∀ k : Nat, (k : Int) ≤ C.cfg.slots → nof D t k = nums.getD k 0)
 headf : e = 0 → (pI D t).head = (infoM C).head + 1 ∧ ∀ k : Nat, (k : Int) ≤ C.cfg.slots → nof D t k = nums.getD k 0
 free : e = 0 → ∀ k : Nat, C.cfg.slots.toNat + 2 ≤ k → k < lOf C → (rk (D.pg t) k).1 = 0
end
end Go.Proofs.YteedolonhdbieaaGreatDoor
end

/- The log's laws, plain: what a lay leaves of the numbers. Own work. -/
section
set_option maxRecDepth 100000
set_option linter.unusedVariables false
namespace Go.Proofs.YteedolonhdbieaaGreatDoor
open Go Go.Vc
section
variable {u : Bool}

structure Laid (u : Bool) (C D : Cm) (slot : Nat) (n e : Int) : Prop where
 ok : D.ok
 cfg : D.cfg = C.cfg
 snd : sndU u D
 ec : e = 0 ∨ e = 8 ∨ e = 9
 e9 : e = 9 → D = C
 out0 : e = 0 → D.out = false
 other : ∀ k : Nat, (k : Int) ≤ C.cfg.slots → k ≠ slot → numOf D k = numOf C k
 me : numOf D slot = numOf C slot ∨ numOf D slot = n
 done : e = 0 → numOf D slot = n
end
end Go.Proofs.YteedolonhdbieaaGreatDoor
end

/- The store: contracts of the program's. Own work. -/
section
set_option maxRecDepth 100000
set_option linter.unusedVariables false
namespace Go.Proofs.YteedolonhdbieaaGreatDoor
open Go Go.Vc

abbrev storeE (s p r : Nat) : Ent := blk s [.pointer (some ⟨p, 0, none⟩), .pointer (some ⟨r, 0, none⟩)]
def lastM (c : Cfg) : Int := c.step * c.fuses + c.step - 1
theorem lastM_in {c : Cfg} (m : c.may) : 0 ≤ lastM c ∧ lastM c ≤ 4259839 ∧ c.step * c.fuses ≤ 4194304 ∧ 0 ≤ c.step * c.fuses := by
 have h1 := m.step
 have h2 := m.fuses
 have a : c.step * c.fuses ≤ 65536 * 64 := Int.mul_le_mul h1.2 h2.2 (by omega) (by decide)
 have b : 0 ≤ c.step * c.fuses := Int.mul_nonneg (by omega) (by omega)
 unfold lastM
 omega
def valS (C : Cm) (slot : Int) : Int := if (countM C slot).1 * C.cfg.step < numOf C slot.toNat then numOf C slot.toNat else (countM C slot).1 * C.cfg.step
def sRead (C : Cm) (slot : Int) : Int × Int := if askedM C slot C.cfg.slots ≠ 0 then (0, askedM C slot C.cfg.slots) else (valS C slot, 0)
def sBumpTo (C : Cm) (slot v : Int) : Cm × Int :=
 if (sRead C slot).2 ≠ 0 then (C, (sRead C slot).2) else if v < 0 then (C, 2) else if v ≤ (sRead C slot).1 then (C, 0) else if lastM C.cfg < v then (C, 10)
 else if (layL C slot v).2 ≠ 0 then layL C slot v else raiseM (layL C slot v).1 slot (v.tdiv C.cfg.step)
theorem count_in {C : Cm} (ok : C.ok) (slot : Int) : 0 ≤ (countM C slot).1 ∧ (countM C slot).1 ≤ C.cfg.fuses := by
 have h2 := ok.may.fuses
 unfold countM
 split
 ·exact ⟨Int.le_refl 0, by show (0 : Int) ≤ _; omega⟩
 ·have := cnt_le C.s.blown (slot * C.cfg.fuses).toNat C.cfg.fuses.toNat
  dsimp only
  omega
theorem valS_in {C : Cm} (ok : C.ok) (slot : Int) : 0 ≤ (countM C slot).1 * C.cfg.step ∧ (countM C slot).1 * C.cfg.step ≤ 4194304 ∧ 0 ≤ valS C slot ∧ valS C slot ≤ most := by
 have h1 := ok.may.step
 have h2 := ok.may.fuses
 obtain ⟨c0, c1⟩ := count_in ok slot
 have a : (countM C slot).1 * C.cfg.step ≤ 64 * 65536 := Int.mul_le_mul (by omega) h1.2 (by omega) (by decide)
 have b : 0 ≤ (countM C slot).1 * C.cfg.step := Int.mul_nonneg c0 (by omega)
 have d := (infoM_ok ok).nums slot.toNat
 have hm := most_val
 refine ⟨b, by omega, ?_⟩
 unfold valS
 split
 ·exact d
 ·omega
section
variable {h0 h : H} {A : List Ent} {i j p r b s m : Nat} {C : Cm}
theorem sMount_sp {Q : Option Addr → Int → H → Prop} (hs : Sat h0 A h) (ci : At A i (chipE p C)) (k1 : C.out = true → Q none 8 h) (k2 : C.out = false → ∀ s l h', Sat h0 (storeE s p l :: logE l p :: A) h' → Q (some ⟨s, 0, none⟩) 0 h') : F_store_Mount ⟨p, 0, none⟩ Q h := by
 unfold F_store_Mount G_store_Mount
 refine Mount_sp hs ci ?_ ?_
 ·intro ho
  rw [if_pos (by simp)]
  exact k1 ho
 ·intro ho l h1 hs
  rw [if_neg (by simp)]
  intro n7 _ hn; replace hs := Sat.new hs hn; clear hn
  exact k2 ho n7 l _ hs
theorem sLast_sp {Q : Int → H → Prop} (hs : Sat h0 A h) (ci : At A i (chipE p C)) (st : At A m (storeE s p r)) (k : ∀ h', Sat h0 A h' → Q (lastM C.cfg) h') : F_store_Store_Last ⟨s, 0, none⟩ Q h := by
 unfold F_store_Store_Last G_store_Store_Last
 try simp only [add_mk, Nat.zero_add]
 have ok := chip_ok hs ci
 obtain ⟨l0, l1, l2, l3⟩ := lastM_in ok.may
 have h1 := ok.may.step
 refine ⟨_, hs.ld st rfl, _, rfl, ?_⟩
 refine Config_sp hs ci ?_
 intro h1 hs
 intro n14 _ hn; replace hs := Sat.new hs hn; clear hn
 refine ⟨Sat.can hs (i := 0) .z (by decide), ?_⟩
 intro h2 e
 replace hs := Sat.wra hs (i := 0) .z e rfl
 clear e
 simp only [put] at hs
 refine ⟨_, hs.ld (i := 0) .z rfl, _, hs.ld (i := 0) .z rfl, _, hs.ld (i := 0) .z rfl, ?_⟩
 rw [wrap_id (n := C.cfg.step * C.cfg.fuses) (by omega), wrap_id (n := C.cfg.step * C.cfg.fuses + C.cfg.step) (by omega), wrap_id (by unfold lastM at l0 l1; omega)]
 exact k _ hs.drop
theorem sAsked_sp {Q : Int → H → Prop} (hs : Sat h0 A h) (ci : At A i (chipE p C)) (st : At A m (storeE s p r)) (x n : Int) (k : Q (askedM C x n) h) : F_store_Store_asked ⟨s, 0, none⟩ x n Q h := by
 unfold F_store_Store_asked G_store_Store_asked
 refine ⟨_, hs.ld st rfl, _, rfl, ?_⟩
 refine Out_sp hs ci ?_
 unfold askedM at k
 by_cases ho : C.out = true
 ·rw [if_pos ho] at k; rw [if_pos ho]; exact k
 rw [if_neg ho] at k; rw [if_neg ho]
 by_cases g1 : x < 0
 ·rw [if_pos g1] at k; rw [ltI_eq, if_pos (by simpa using g1)]; exact k
 rw [if_neg g1] at k; rw [ltI_eq, if_neg (by simpa using g1)]
 by_cases g2 : n ≤ x
 ·rw [if_pos g2] at k; rw [leI_eq, if_pos (by simpa using g2)]; exact k
 rw [if_neg g2] at k; rw [leI_eq, if_neg (by simpa using g2)]; exact k
theorem sRead_sp {Q : Int → Int → H → Prop} (hs : Sat h0 A h) (ci : At A i (chipE p C)) (cl : At A j (logE r p)) (st : At A m (storeE s p r)) (slot : Int) (k : ∀ h', Sat h0 A h' → Q (sRead C slot).1 (sRead C slot).2 h') : F_store_Store_Read ⟨s, 0, none⟩ slot Q h := by
 unfold F_store_Store_Read G_store_Store_Read
 try simp only [add_mk, Nat.zero_add, List.append_nil]
 have ok := chip_ok hs ci
 refine ⟨_, hs.ld st rfl, _, rfl, ?_⟩
 refine Config_sp hs ci ?_
 intro h1 hs
 refine sAsked_sp hs ci st _ _ ?_
 unfold sRead at k
 by_cases ha : askedM C slot C.cfg.slots = 0
 case neg =>
  rw [if_pos (by simpa using ha)]
  rw [if_pos ha] at k
  exact k _ hs
 rw [if_neg (fun y => y ha)] at k
 rw [if_neg (by simpa using ha)]
 obtain ⟨ho, g0, g1⟩ := askedM_zero ha
 refine ⟨_, hs.ld st rfl, _, rfl, ?_⟩
 refine Count_sp hs ci slot ?_
 intro h2 hs
 have ec : (countM C slot).2 = 0 := by unfold countM; rw [if_neg (fun y => y ha)]
 rw [ec, if_neg (by simp)]
 refine ⟨_, hs.ld st rfl, _, rfl, ?_⟩
 refine Number_sp hs ci cl slot ?_
 intro h3 hs
 have en : numberM C slot = (numOf C slot.toNat, 0) := by
  unfold numberM
  rw [if_neg (by simp [ho]), if_neg (fun y => y ⟨g0, by omega⟩)]
 rw [en, if_neg (by simp)]
 refine ⟨_, hs.ld st rfl, _, rfl, ?_⟩
 refine Config_sp hs ci ?_
 intro h4 hs
 obtain ⟨v0, v1, _⟩ := valS_in ok slot
 rw [wrap_id (by omega)]
 intro n40 _ hn; replace hs := Sat.new hs hn; clear hn
 refine ⟨Sat.can hs (i := 0) .z (by simp [zeros]), ?_⟩
 intro h5 e
 replace hs := Sat.wra hs (i := 0) .z e (by simp [zeros])
 clear e
 simp only [put] at hs
 refine ⟨by decide, by decide, _, hs.ld (i := 0) .z rfl, by decide, by decide, _, hs.ld (i := 0) .z rfl, ?_⟩
 exact k _ hs.drop
theorem sMay_sp {Q : Int → H → Prop} {nn ns : Nat} {now v : Int} (hs : Sat h0 A h) (ci : At A i (chipE p C)) (st : At A m (storeE s p r)) {x y : Nat} (tn : At A x (blk nn [.int .i64 now])) (ts : At A y (blk ns [.pointer (some ⟨s, 0, none⟩)]))
  (k : ∀ h', Sat h0 A h' → Q (if v < 0 then 2 else if now < v then (if lastM C.cfg < v then 10 else 0) else 0) h') : F_store_Store_BumpTo_1 v ⟨nn, 0, none⟩ ⟨ns, 0, none⟩ Q h := by
 unfold F_store_Store_BumpTo_1 G_store_Store_BumpTo_1
 by_cases g1 : v < 0
 ·rw [if_pos g1] at k; rw [ltI_eq, if_pos (by simpa using g1)]; exact k _ hs
 rw [if_neg g1] at k; rw [ltI_eq, if_neg (by simpa using g1)]
 refine ⟨_, hs.ld tn rfl, ?_⟩
 by_cases g2 : now < v
 ·rw [if_pos g2] at k; rw [ltI_eq, if_pos (by simpa using g2)]
  refine ⟨_, hs.ld ts rfl, _, rfl, ?_⟩
  refine sLast_sp hs ci st ?_
  intro h1 hs
  by_cases g3 : lastM C.cfg < v
  ·rw [if_pos g3] at k; rw [ltI_eq, if_pos (by simpa using g3)]; exact k _ hs
  ·rw [if_neg g3] at k; rw [ltI_eq, if_neg (by simpa using g3)]; exact k _ hs
 ·rw [if_neg g2] at k; rw [ltI_eq, if_neg (by simpa using g2)]; exact k _ hs
theorem layL_cfg (ok : C.ok) (slot n : Int) : (layL C slot n).1.cfg = C.cfg := by
 have ep : ∀ (t : Int) (nums : List Int) (m x a : Nat) (D : Cm), (turnP t nums m x a D).1.cfg = D.cfg := by
  intro t nums m
  induction m with
  | zero => intro x a D; rfl
  | succ m ih =>
   intro x a D
   unfold turnP
   split
   ·exact ih _ _ _
   ·split
    ·exact program_cfg _ _ _ _
    ·exact (ih _ _ _).trans (program_cfg _ _ _ _)
 have ea : ∀ (g t : Int) (nums : List Int) (m : Nat) (D : Cm), (turnA g t nums m D).1.cfg = D.cfg := by
  intro g t nums m D
  unfold turnA
  split
  ·exact ep _ _ _ _ _ _
  ·exact (program_cfg _ _ _ _).trans (ep _ _ _ _ _ _)
 unfold layL
 (repeat' split) <;> first | rfl | exact program_cfg _ _ _ _ | skip
 unfold turnL
 split
 ·exact ea _ _ _ _ _
 ·split
  ·exact erase_cfg _ _
  ·exact (ea _ _ _ _ _).trans (erase_cfg _ _)
theorem sBumpTo_sp {Q : Int → H → Prop} (hs : Sat h0 A h) (ci : At A i (chipE p C)) (cl : At A j (logE r p)) (st : At A m (storeE s p r)) (hij : j ≠ i) (him : m ≠ i) (slot v : Int)
  (k : ∀ h', Sat h0 (put A i (chipE p (sBumpTo C slot v).1)) h' → Q (sBumpTo C slot v).2 h') : F_store_Store_BumpTo ⟨s, 0, none⟩ slot v Q h := by
 unfold F_store_Store_BumpTo G_store_Store_BumpTo
 try simp only [add_mk, Nat.zero_add, List.append_nil]
 have ok := chip_ok hs ci
 have hst := ok.may.step
 intro n10 _ hn; replace hs := Sat.new hs hn; clear hn
 refine ⟨_, hs.ld (i := 0) .z rfl, _, rfl, ?_⟩
 refine sRead_sp hs ci.s cl.s st.s slot ?_
 intro h1 hs
 intro n18 _ hn; replace hs := Sat.new hs hn; clear hn
 refine ⟨Sat.can hs (i := 0) .z (by decide), ?_⟩
 intro h2 e
 replace hs := Sat.wra hs (i := 0) .z e rfl
 clear e
 simp only [put] at hs
 unfold sBumpTo at k
 by_cases ge : (sRead C slot).2 = 0
 case neg =>
  rw [if_pos ge] at k
  rw [if_pos (by simpa using ge)]
  exact k _ (by rw [ci.put_self]; exact hs.drop.drop)
 rw [if_neg (fun y => y ge)] at k
 rw [if_neg (by simpa using ge)]
 intro J hJ
 refine sMay_sp hs ci.s.s st.s.s (x := 0) (y := 1) .z (.s .z) ?_
 intro h3 hs
 by_cases g1 : v < 0
 ·rw [if_pos g1] at k
  rw [if_pos g1, if_pos (by simp)]
  exact k _ (by rw [ci.put_self]; exact hs.drop.drop)
 rw [if_neg g1] at k
 rw [if_neg g1]
 by_cases g2 : v ≤ (sRead C slot).1
 ·rw [if_pos g2] at k
  rw [if_neg (show ¬ (sRead C slot).1 < v by omega), if_neg (by simp)]
  refine ⟨_, hs.ld (i := 0) .z rfl, ?_⟩
  rw [leI_eq, if_pos (by simpa using g2)]
  exact k _ (by rw [ci.put_self]; exact hs.drop.drop)
 rw [if_neg g2] at k
 rw [if_pos (show (sRead C slot).1 < v by omega)]
 by_cases g3 : lastM C.cfg < v
 ·rw [if_pos g3] at k
  rw [if_pos g3, if_pos (by simp)]
  exact k _ (by rw [ci.put_self]; exact hs.drop.drop)
 rw [if_neg g3] at k
 rw [if_neg g3, if_neg (by simp)]
 refine ⟨_, hs.ld (i := 0) .z rfl, ?_⟩
 rw [leI_eq, if_neg (by simpa using g2)]
 apply hJ
 clear hJ J
 refine ⟨_, hs.ld (i := 1) (.s .z) rfl, _, rfl, _, hs.ld st.s.s rfl, _, rfl, ?_⟩
 refine Lay9_sp hs ci.s.s cl.s.s (by omega) slot v ?_
 intro h4 hs
 simp only [put_succ] at hs
 have ecf := layL_cfg ok slot v
 generalize layL C slot v = X at *
 by_cases gx : X.2 = 0
 case neg =>
  rw [if_pos gx] at k
  rw [if_pos (by simpa using gx)]
  exact k _ hs.drop.drop
 rw [if_neg (fun y => y gx)] at k
 rw [if_neg (by simpa using gx)]
 refine ⟨_, hs.ld (i := 1) (.s .z) rfl, _, rfl, _, hs.ld (st.put_ne him (chipE p X.1)).s.s rfl, _, hs.ld (i := 1) (.s .z) rfl, _, rfl, _, hs.ld (st.put_ne him (chipE p X.1)).s.s rfl, _, rfl, ?_⟩
 refine Config_sp hs (ci.put (chipE p X.1)).s.s ?_
 intro h5 hs
 rw [ecf]
 refine ⟨hcs_one (hs.ld (st.put_ne him (chipE p X.1)).s.s rfl), hcs_one (hs.ld (i := 1) (.s .z) rfl), by omega, _, rfl, ?_⟩
 have hl := lastM_in ok.may
 have hd0 : 0 ≤ v.tdiv C.cfg.step := Int.tdiv_nonneg (by omega) (by omega)
 have hd1 : v.tdiv C.cfg.step ≤ v := by
  rw [Int.tdiv_eq_ediv_of_nonneg (by omega)]
  exact Int.ediv_le_self _ (by omega)
 rw [wrap_id (by omega)]
 refine Raise_sp hs (ci.put (chipE p X.1)).s.s slot (v.tdiv C.cfg.step) ?_
 intro h6 hs
 simp only [put_succ, put_put] at hs
 exact k _ hs.drop.drop
theorem sRevoke_sp {Q : Int → H → Prop} (hs : Sat h0 A h) (ci : At A i (chipE p C)) (st : At A m (storeE s p r)) (key : Int)
  (k : ∀ h', Sat h0 (put A i (chipE p (revokeM C key).1)) h' → Q (revokeM C key).2 h') : F_store_Store_Revoke ⟨s, 0, none⟩ key Q h := by
 unfold F_store_Store_Revoke G_store_Store_Revoke
 refine ⟨_, hs.ld st rfl, _, rfl, ?_⟩
 refine Config_sp hs ci ?_
 intro h1 hs
 refine sAsked_sp hs ci st _ _ ?_
 by_cases ha : askedM C key C.cfg.keys = 0
 case neg =>
  rw [if_pos (by simpa using ha)]
  have e : revokeM C key = (C, askedM C key C.cfg.keys) := by
   have e1 : (revokedM C key).2 = askedM C key C.cfg.keys := by unfold revokedM; rw [if_pos ha]
   unfold revokeM
   rw [e1, if_pos ha]
  rw [e] at k
  exact k _ (by rw [ci.put_self]; exact hs)
 rw [if_neg (by simpa using ha)]
 refine ⟨_, hs.ld st rfl, _, rfl, ?_⟩
 exact Revoke_sp hs ci key k
theorem sRevoked_sp {Q : Bool → Int → H → Prop} (hs : Sat h0 A h) (ci : At A i (chipE p C)) (st : At A m (storeE s p r)) (key : Int)
  (k : ∀ h', Sat h0 A h' → Q (revokedM C key).1 (revokedM C key).2 h') : F_store_Store_Revoked ⟨s, 0, none⟩ key Q h := by
 unfold F_store_Store_Revoked G_store_Store_Revoked
 refine ⟨_, hs.ld st rfl, _, rfl, ?_⟩
 refine Config_sp hs ci ?_
 intro h1 hs
 refine sAsked_sp hs ci st _ _ ?_
 by_cases ha : askedM C key C.cfg.keys = 0
 case neg =>
  rw [if_pos (by simpa using ha)]
  have e1 : revokedM C key = (false, askedM C key C.cfg.keys) := by unfold revokedM; rw [if_pos ha]
  rw [e1] at k
  exact k _ hs
 rw [if_neg (by simpa using ha)]
 refine ⟨_, hs.ld st rfl, _, rfl, ?_⟩
 exact Revoked_sp hs ci key k
end
end Go.Proofs.YteedolonhdbieaaGreatDoor
end

/- The document's store. Own work. -/
section
set_option maxRecDepth 100000
set_option linter.unusedVariables false
namespace Go.Proofs.YteedolonhdbieaaGreatDoor
open Go Go.Vc

def sActive (C : Cm) : Int × Int := numberM C C.cfg.slots
section
variable {h0 h : H} {A : List Ent} {i j p r b s m : Nat} {C : Cm}
theorem sActive_sp {Q : Int → Int → H → Prop} (hs : Sat h0 A h) (ci : At A i (chipE p C)) (cl : At A j (logE r p)) (st : At A m (storeE s p r)) (k : ∀ h', Sat h0 A h' → Q (sActive C).1 (sActive C).2 h') : F_store_Store_Active ⟨s, 0, none⟩ Q h := by
 unfold F_store_Store_Active G_store_Store_Active
 try simp only [add_mk, Nat.zero_add]
 refine ⟨_, hs.ld st rfl, _, rfl, ?_⟩
 refine Out_sp hs ci ?_
 by_cases ho : C.out = true
 ·rw [if_pos ho]
  have e : sActive C = (0, 8) := by unfold sActive numberM; rw [if_pos ho]
  rw [e] at k
  exact k _ hs
 rw [if_neg ho]
 refine ⟨_, hs.ld st rfl, _, hs.ld st rfl, _, rfl, ?_⟩
 refine Config_sp hs ci ?_
 intro h1 hs
 refine ⟨hcs_one (hs.ld st rfl), _, rfl, ?_⟩
 refine Number_sp hs ci cl C.cfg.slots ?_
 intro h2 hs
 exact k _ hs
theorem rLast10_sp {Q : Int → H → Prop} {c : Cfg} (hm : c.may) (hs : Sat h0 A h) (k : ∀ h', Sat h0 A h' → Q (lastM c) h') : F_portcullisref10_Last c.cells c.slots c.fuses c.step c.keys c.erases c.area Q h := by
 unfold F_portcullisref10_Last G_portcullisref10_Last
 try simp only [add_mk, Nat.zero_add]
 obtain ⟨l0, l1, l2, l3⟩ := lastM_in hm
 have h1 := hm.step
 intro n9 _ hn; replace hs := Sat.new hs hn; clear hn
 refine ⟨_, hs.ld (i := 0) .z rfl, _, hs.ld (i := 0) .z rfl, _, hs.ld (i := 0) .z rfl, ?_⟩
 rw [wrap_id (n := c.step * c.fuses) (by omega), wrap_id (n := c.step * c.fuses + c.step) (by omega), wrap_id (by unfold lastM at l0 l1; omega)]
 exact k _ hs.drop
end
end Go.Proofs.YteedolonhdbieaaGreatDoor
end

/- Tokens: what keeps a wish from meeting a caveat; whether a token lets somebody do that. Own work. -/
section
set_option maxRecDepth 100000
set_option linter.unusedVariables false
namespace Go.Proofs.YteedolonhdbieaaGreatDoor
open Go Go.Vc
attribute [local irreducible] macM

structure WiM where
 kind : Int
 slot : Int
 ver : Int
section
variable {h0 h : H} {A : List Ent} {i j p r b s m : Nat} {C : Cm}
theorem sActive_out (ok : C.ok) : (sActive C).2 = if C.out = true then 8 else 0 := by
 have hm := ok.may.slots
 unfold sActive numberM
 by_cases ho : C.out = true
 ·rw [if_pos ho, if_pos ho]
 ·rw [if_neg ho, if_neg ho, if_neg (fun y => y ⟨by omega, Int.le_refl _⟩)]
theorem revoked_err (ho : ¬ C.out = true) {key : Int} (hk : 0 ≤ key) : (revokedM C key).2 = if C.cfg.keys ≤ key then 2 else 0 := by
 have a : askedM C key C.cfg.keys = if C.cfg.keys ≤ key then 2 else 0 := by unfold askedM; rw [if_neg ho, if_neg (by omega)]
 unfold revokedM
 rw [a]
 by_cases g : C.cfg.keys ≤ key
 ·rw [if_pos g, if_pos (by decide)]
 ·rw [if_neg g, if_neg (by decide)]
end
end Go.Proofs.YteedolonhdbieaaGreatDoor
end

/- Law 24: the scene: a chip, its store, keys, the program's and the document's. Own work. -/
section
set_option maxRecDepth 100000
set_option linter.unusedVariables false
namespace Go.Proofs.YteedolonhdbieaaGreatDoor
open Go Go.Vc
attribute [local irreducible] macM

theorem goM_ne (L : List Sec) : ∀ k e i, goM L k = some (e, i) → e ≠ 0
 | 0, e, i, h => by cases h
 | k + 1, e, i, h => by
  unfold goM at h
  by_cases c : badM (L.take (L.length - (k + 1))) (L.getD (L.length - (k + 1)) (0, [])) = 0
  ·rw [if_pos c] at h
   exact goM_ne L k e i h
  ·rw [if_neg c] at h
   injection h with h
   injection h with h1 h2
   rw [← h1]; exact c
theorem newM_ne {L : List Sec} {e i : Int} (h : newM L = some (e, i)) : e ≠ 0 := by
 unfold newM at h
 by_cases c : 64 < L.length
 ·rw [if_pos c] at h
  injection h with h
  injection h with h1 h2
  omega
 ·rw [if_neg c] at h
  exact goM_ne L _ _ _ h
section
variable {h0 h : H} {A : List Ent} {i j p r b s m : Nat} {C : Cm}
end
end Go.Proofs.YteedolonhdbieaaGreatDoor
end

/- StoreDoes: the world and its steps. Own work. -/
section
set_option maxRecDepth 100000
set_option linter.unusedVariables false
namespace Go.Proofs.YteedolonhdbieaaGreatDoor
open Go Go.Vc

abbrev wld (w px pr : Nat) (x : Value) : Ent := blk w [.pointer (some ⟨px, 0, none⟩), x, .pointer (some ⟨pr, 0, none⟩)]
abbrev wld2 (w px pr s l : Nat) (C : Cm) (B : List Ent) : List Ent := wld w px pr (.pointer (some ⟨s, 0, none⟩)) :: storeE s px l :: logE l px :: chipE px C :: refE pr C :: B
def Wst (h0 : H) (w px pr : Nat) (C : Cm) (B : List Ent) (h : H) : Prop :=
 Sat h0 (wld w px pr (.pointer none) :: chipE px C :: refE pr C :: B) h ∨ ∃ s l, Sat h0 (wld2 w px pr s l C B) h
structure OpE where
 kind : Int
 n : Int
 v : Int
 mask : List Int
structure OpE.ok (s : OpE) : Prop where
 n : s.n < 2 ^ 63
 mb : bytesOk s.mask
 ml : s.mask.length + 4096 ≤ 2 ^ 47
section
variable {h0 h : H} {A B : List Ent} {i j p r b w px pr s m : Nat} {C : Cm}
theorem Wst.any (W : Wst h0 w px pr C B h) : ∃ x, Sat h0 (wld w px pr x :: chipE px C :: refE pr C :: B) h := by
 rcases W with hs | ⟨s, l, hs⟩
 ·exact ⟨_, hs⟩
 ·exact ⟨_, hs.sub (by (repeat (first | exact List.Sublist.refl _ | apply List.Sublist.cons_cons | apply List.Sublist.cons)))⟩
end
end Go.Proofs.YteedolonhdbieaaGreatDoor
end

/- StoreDoes: how it begins; scripts. Own work. -/
section
set_option maxRecDepth 100000
set_option linter.unusedVariables false
namespace Go.Proofs.YteedolonhdbieaaGreatDoor
open Go Go.Vc

section
variable {h0 h : H} {A : List Ent}
end
structure ScriptO (h : H) (p : Option Addr) (l : Nat) (sc : List OpE) : Prop where
 len : sc.length = l
 lt : l < 2 ^ 50
 at_ : ∀ i (hi : i < sc.length), ∃ q mp ml mc, p = some q ∧ hc h (q.add (i * 4)) = some (.int .i64 sc[i].kind) ∧ hc h ((q.add (i * 4)).add 1) = some (.int .i64 sc[i].n) ∧ hc h ((q.add (i * 4)).add 2) = some (.int .i64 sc[i].v) ∧
  hc h ((q.add (i * 4)).add 3) = some (.slice mp ml mc) ∧ hsv h mp 1 ml (ints .u8 sc[i].mask) ∧ sc[i].ok
end Go.Proofs.YteedolonhdbieaaGreatDoor
end

/- How scripts over gates and loaders, and lists of numbers came in. Own work. -/
section
set_option maxRecDepth 100000
set_option linter.unusedVariables false
namespace Go.Proofs.YteedolonhdbieaaGreatDoor
open Go Go.Vc Go.ChangeShapes Go.WideShapes Go.ChangeAt Go.RowKit

theorem xInt64 : xsh PP 8 2 = some [.int .i64] := by kernel_rfl
section
variable {D : Type} {enc : TypeId × Value → D} {W : World}
theorem ints64_of {p : Option Addr} {l c : Nat} (h : Sli enc PP W 2 p l c) : ∃ ns : List Int, hsv W.heap p 1 l (ints .i64 ns) ∧ (∀ n, n ∈ ns → -(2 ^ 63) ≤ n ∧ n < 2 ^ 63) ∧ ns.length * 8 + 4096 ≤ 2 ^ 47 := by
 have hb : Tryz.prog.bytesOf 2 = 8 := by kernel_rfl
 have hc : Tryz.prog.cellsOf 2 = 1 := by kernel_rfl
 obtain ⟨ess, h1, h2, h3, _⟩ := h.els xInt64
 have hlc := h.1
 have hr := h.2.1
 rw [hb] at hr
 rw [hc] at h3
 have key : ∀ ess : List (List Value), (∀ es, es ∈ ess → es.length = Tryz.prog.cellsOf 2 ∧ XM enc PP W [XSh.int .i64] es) → ∃ ns : List Int, ess.flatten = ints .i64 ns ∧ ∀ n, n ∈ ns → -(2 ^ 63) ≤ n ∧ n < 2 ^ 63 := by
  intro ess
  induction ess with
  | nil => intro _; exact ⟨[], rfl, by intro n hn; simp at hn⟩
  | cons x r ih =>
   intro h
   obtain ⟨ns, e, hn⟩ := ih fun es hes => h es (by simp [hes])
   obtain ⟨n, rest, rfl, hh, hr⟩ := (h x (by simp)).2
   simp only [XM] at hr
   subst hr
   refine ⟨n :: ns, by simp [e], ?_⟩
   intro m hm
   rcases List.mem_cons.1 hm with rfl | hm
   ·exact has_i64 hh
   ·exact hn m hm
 obtain ⟨ns, e, hn⟩ := key ess h2
 rw [e] at h3
 have : ns.length = l := by have := h3.1; simpa using this
 refine ⟨ns, h3, hn, ?_⟩
 unfold reachBytes at hr
 omega
end
end Go.Proofs.YteedolonhdbieaaGreatDoor
end

/- Images: numbers of four bytes; what is wrong with bytes. Own work. -/
section
set_option maxRecDepth 100000
set_option linter.unusedVariables false
namespace Go.Proofs.YteedolonhdbieaaGreatDoor
open Go Go.Vc

theorem b64_ofNat (n : Nat) : b64 (n : Int) = BitVec.ofNat 64 n := by
 apply BitVec.eq_of_toNat_eq
 simp only [BitVec.toNat_ofInt, BitVec.toNat_ofNat]; omega
theorem or_low {x y : Int} (k : Nat) (hx : 0 ≤ x ∧ x < 2 ^ k) (hy : 0 ≤ y) (hxy : x + y * 2 ^ k < 2 ^ 63) : bits .or .i64 x (y * 2 ^ k) = x + y * 2 ^ k := by
 obtain ⟨a, rfl⟩ := Int.eq_ofNat_of_zero_le hx.1
 obtain ⟨b, rfl⟩ := Int.eq_ofNat_of_zero_le hy
 have ha : a < 2 ^ k := by have := hx.2; exact_mod_cast this
 have e1 : ((b : Int) * 2 ^ k) = ((b * 2 ^ k : Nat) : Int) := by simp
 rw [e1] at hxy ⊢
 have : bits .or .i64 (a : Int) ((b * 2 ^ k : Nat) : Int) = IntKind.i64.wrap ((b64 (a : Int) ||| b64 ((b * 2 ^ k : Nat) : Int)).toNat : Int) := rfl
 rw [this, b64_ofNat, b64_ofNat]
 have e2 : a ||| (b * 2 ^ k) = a + b * 2 ^ k := by
  have := Nat.shiftLeft_add_eq_or_of_lt ha b
  rw [Nat.shiftLeft_eq] at this
  rw [Nat.or_comm, ← this]; omega
 have e3 : (BitVec.ofNat 64 a ||| BitVec.ofNat 64 (b * 2 ^ k)).toNat = a + b * 2 ^ k := by
  rw [BitVec.toNat_or, BitVec.toNat_ofNat, BitVec.toNat_ofNat, Nat.mod_eq_of_lt (by omega), Nat.mod_eq_of_lt (by omega), e2]
 rw [e3, IntKind.wrap_i64]; omega
def num4 (bs : List Int) (o : Nat) : Int := bs.getD o 0 + 256 * bs.getD (o + 1) 0 + 65536 * bs.getD (o + 2) 0 + 16777216 * bs.getD (o + 3) 0
theorem or4 {a b c d : Int} (ha : isByte a) (hb : isByte b) (hc : isByte c) (hd : isByte d) :
  bits .or .i64 (bits .or .i64 (bits .or .i64 (IntKind.i64.wrap a) (IntKind.i64.wrap (IntKind.i64.wrap b * 2 ^ 8))) (IntKind.i64.wrap (IntKind.i64.wrap c * 2 ^ 16))) (IntKind.i64.wrap (IntKind.i64.wrap d * 2 ^ 24)) = a + 256 * b + 65536 * c + 16777216 * d := by
 obtain ⟨a1, a2⟩ := ha; obtain ⟨b1, b2⟩ := hb; obtain ⟨c1, c2⟩ := hc; obtain ⟨d1, d2⟩ := hd
 have w : ∀ n : Int, 0 ≤ n ∧ n < 2 ^ 40 → IntKind.i64.wrap n = n := fun n hn => by rw [IntKind.wrap_i64]; omega
 rw [w a (by omega), w b (by omega), w c (by omega), w d (by omega), w (b * 2 ^ 8) (by omega), w (c * 2 ^ 16) (by omega), w (d * 2 ^ 24) (by omega)]
 rw [or_low 8 (by omega) b1 (by omega), or_low 16 (by omega) c1 (by omega), or_low 24 (by omega) d1 (by omega)]
 omega
theorem num4_range {bs : List Int} (hb : bytesOk bs) (o : Nat) : 0 ≤ num4 bs o ∧ num4 bs o < 2 ^ 32 := by
 have g : ∀ x, isByte (bs.getD x 0) := fun x => by
  rw [List.getD_eq_getElem?_getD]
  cases e : bs[x]? with
  | none => exact ⟨by decide, by decide⟩
  | some v => exact hb v (List.mem_iff_getElem?.2 ⟨x, e⟩)
 have g0 := g o; have g1 := g (o + 1); have g2 := g (o + 2); have g3 := g (o + 3)
 unfold isByte at *
 unfold num4; omega
theorem byte_getD {bs : List Int} (hb : bytesOk bs) (x : Nat) : isByte (bs.getD x 0) := by
 rw [List.getD_eq_getElem?_getD]
 cases e : bs[x]? with
 | none => exact ⟨by decide, by decide⟩
 | some v => exact hb v (List.mem_iff_getElem?.2 ⟨x, e⟩)
theorem sub_rd {h : H} {q : Option Addr} {l o n m : Nat} {k : IntKind} {bs : List Int} (rd : hsv h q 1 l (ints k bs)) (ho : o + n ≤ l) (hm : m = o → n = 0) : hsv h (subAddr q o m 1) 1 n (ints k ((bs.drop o).take n)) := by
 have hl : bs.length = l := by have := rd.1; simpa using this
 refine ⟨by rw [ints_length, List.length_take, List.length_drop]; omega, ints_one _ _, ?_⟩
 by_cases c : n = 0
 ·subst c; exact Or.inl rfl
 unfold subAddr
 rw [if_neg (fun y => c (hm y))]
 obtain ⟨_, _, rd⟩ := rd
 rcases rd with rd | ⟨q', rfl, g⟩
 ·have := congrArg List.length rd
  rw [ints_length, List.length_nil] at this; omega
 ·refine Or.inr ⟨_, rfl, ?_⟩
  intro i v hv
  have hi : i < n := by
   have h1 : i < (ints k ((bs.drop o).take n)).length := (List.getElem?_eq_some_iff.1 hv).1
   rw [ints_length, List.length_take] at h1
   exact Nat.lt_of_lt_of_le h1 (Nat.min_le_left _ _)
  have e := g (o + i) v (by
   rw [ints_get] at hv ⊢
   rw [List.getElem?_take_of_lt hi, List.getElem?_drop] at hv
   exact hv)
  rw [Nat.mul_one, add_add]
  exact e
theorem drop_getD (bs : List Int) (o n x : Nat) (hx : x < n) : ((bs.drop o).take n).getD x 0 = bs.getD (o + x) 0 := by
 rw [List.getD_eq_getElem?_getD, List.getD_eq_getElem?_getD, List.getElem?_take_of_lt hx, List.getElem?_drop]
theorem drop_bytes {bs : List Int} (hb : bytesOk bs) (o n : Nat) : bytesOk ((bs.drop o).take n) := fun v hv => hb v (List.mem_of_mem_drop (List.mem_of_mem_take hv))
theorem num4_drop (bs : List Int) (o n : Nat) (hn : 4 ≤ n) : num4 ((bs.drop o).take n) 0 = num4 bs o := by
 unfold num4
 rw [drop_getD _ _ _ _ (by omega), drop_getD _ _ _ _ (by omega), drop_getD _ _ _ _ (by omega), drop_getD _ _ _ _ (by omega)]
 rfl
def markB (x : Nat) : Int := (((ByteArray.mk #[80, 67, 85, 76]).data.toList.getD x 0).toNat : Int)
def mayB (x : Nat) (c : Int) : Bool := if x < 4 then c == markB x else if x = 4 then c == 1 else if x = 5 then decide (c < 8) else if x = 6 then decide (c < 64) else if x = 7 then c == 0 else true
def headW (bs : List Int) : Nat → Nat → Option (Int × Int)
 | 0, _ => none
 | m + 1, x => if x = bs.length then some (6, x) else if mayB x (bs.getD x 0) = true then headW bs m (x + 1) else some (5, x)
def parseW (bs : List Int) : Int × Int :=
 if 524288 < bs.length then (4, 524288) else match headW bs 16 0 with
 | some w => w
 | none => if 524240 < num4 bs 12 then (5, 12) else if (bs.length : Int) < 48 + num4 bs 12 then (6, bs.length) else if 48 + num4 bs 12 < bs.length then (7, 48 + num4 bs 12) else (0, 0)
section
variable {h0 h : H} {A : List Ent} {i j p r b : Nat}
theorem number_sp {Q : Int → H → Prop} {q : Option Addr} {l c : Nat} {bs : List Int} (rd : hsv h q 1 l (ints .u8 bs)) (hb : bytesOk bs) (hl : 4 ≤ l) (k : Q (num4 bs 0) h) : F_image_number q l c Q h := by
 unfold F_image_number G_image_number
 have g : ∀ x, x < l → ∃ q', q = some q' ∧ hc h (q'.add x) = some (.int .u8 (bs.getD x 0)) := fun x hx => hsv_int rd hx
 obtain ⟨q0, e0, g0⟩ := g 0 (by omega)
 obtain ⟨q1, e1, g1⟩ := g 1 (by omega)
 obtain ⟨q2, e2, g2⟩ := g 2 (by omega)
 obtain ⟨q3, e3, g3⟩ := g 3 (by omega)
 rw [add_zero] at g0
 refine ⟨_, e0, by omega, by omega, _, g0, _, e1, by omega, by omega, _, g1, by omega, _, e2, by omega, by omega, _, g2, by omega, _, e3, by omega, by omega, _, g3, by omega, ?_⟩
 rw [or4 (byte_getD hb _) (byte_getD hb _) (byte_getD hb _) (byte_getD hb _)]
 exact k
theorem rnumber_sp {Q : Int → H → Prop} {q : Option Addr} {l c : Nat} {bs : List Int} (rd : hsv h q 1 l (ints .u8 bs)) (hb : bytesOk bs) (hl : 4 ≤ l) (k : Q (num4 bs 0) h) : F_portcullisref11_number q l c Q h := by
 unfold F_portcullisref11_number G_portcullisref11_number
 intro J hJ
 have g : ∀ x, x < l → ∃ q', q = some q' ∧ hc h (q'.add x) = some (.int .u8 (bs.getD x 0)) := fun x hx => hsv_int rd hx
 have S : ∀ n, n ≤ 4 → 0 ≤ n → True := fun _ _ _ => trivial
 have key : num4 bs 0 = gotI bs 4 := by
  have e0 : bits .or .i64 0 (IntKind.i64.wrap (IntKind.i64.wrap (bs.getD 0 0) * 2 ^ (8 * 0))) = IntKind.i64.wrap (bs.getD 0 0) := by
   have := byte_getD hb 0
   unfold isByte at this
   have w : IntKind.i64.wrap (bs.getD 0 0) = bs.getD 0 0 := by rw [IntKind.wrap_i64]; omega
   rw [w]
   have e : IntKind.i64.wrap (bs.getD 0 0 * 2 ^ (8 * 0)) = bs.getD 0 0 * 2 ^ 0 := by rw [IntKind.wrap_i64]; omega
   rw [e, or_low 0 (by omega) this.1 (by omega)]; omega
  unfold gotI gotI gotI gotI gotI
  rw [e0]
  exact (or4 (byte_getD hb _) (byte_getD hb _) (byte_getD hb _) (byte_getD hb _)).symm
 rw [key] at k
 refine loop_st 4 (fun n (x : Int) => [.dv (.one (.int .i64 x)), si n]) (fun n x h' => h' = h ∧ x = gotI bs n) ?_ ?_ 0 0 _ (by omega) ⟨rfl, rfl⟩
 ·rintro n x h1 hn ⟨rfl, rfl⟩ hk
  apply hJ
  rw [ltI_eq, if_pos (by simp; omega)]
  obtain ⟨q1, e1, g1⟩ := g n (by omega)
  have e8 : IntKind.i64.wrap (8 * (n : Int)) = ((8 * n : Nat) : Int) := by rw [wrap_id (by omega)]; omega
  refine ⟨_, e1, by omega, by omega, _, by rw [Int.toNat_natCast, Nat.mul_one]; exact g1, by rw [e8]; omega, ?_⟩
  rw [wrap_succ (by omega), step8_eq (by omega)]
  exact hk _ _ ⟨rfl, rfl⟩
 ·rintro x h1 ⟨rfl, rfl⟩
  apply hJ
  rw [ltI_eq, if_neg (by simp)]
  exact k
theorem may_sp {Q : Bool → H → Prop} (x : Nat) (c : Int) (k : Q (mayB x c) h) : F_image_may (x : Int) c Q h := by
 unfold F_image_may G_image_may
 unfold mayB at k
 by_cases g : x < 4
 ·rw [if_pos g] at k
  rw [ltI_eq, if_pos (by simp; omega)]
  refine ⟨by omega, by omega, ?_⟩
  rw [Int.toNat_natCast]; exact k
 rw [if_neg g] at k
 rw [ltI_eq, if_neg (by simp; omega)]
 by_cases g4 : x = 4
 ·rw [if_pos g4] at k; rw [if_pos (by simp; omega)]; exact k
 rw [if_neg g4] at k; rw [if_neg (by simp; omega)]
 by_cases g5 : x = 5
 ·rw [if_pos g5] at k; rw [if_pos (by simp; omega), ltI_eq]; exact k
 rw [if_neg g5] at k; rw [if_neg (by simp; omega)]
 by_cases g6 : x = 6
 ·rw [if_pos g6] at k; rw [if_pos (by simp; omega), ltI_eq]; exact k
 rw [if_neg g6] at k; rw [if_neg (by simp; omega)]
 by_cases g7 : x = 7
 ·rw [if_pos g7] at k; rw [if_pos (by simp; omega)]; exact k
 rw [if_neg g7] at k; rw [if_neg (by simp; omega)]
 exact k
theorem rmust_sp {Q : Bool → H → Prop} (x : Nat) (c : Int) (k : Q (mayB x c) h) : F_portcullisref11_must (x : Int) c Q h := by
 unfold F_portcullisref11_must G_portcullisref11_must
 intro J hJ
 have way : ∀ bb : Bool, (bb = true ↔ x < 4) → J [.dv (.one (.bool bb))] h := by
  intro bb hbb
  apply hJ
  unfold mayB at k
  by_cases g : x < 4
  ·rw [if_pos g] at k
   rw [if_pos (hbb.2 g)]
   refine ⟨by omega, by omega, ?_⟩
   rw [Int.toNat_natCast]; exact k
  rw [if_neg g] at k
  rw [if_neg (fun y => g (hbb.1 y))]
  by_cases g4 : x = 4
  ·rw [if_pos g4] at k; rw [if_pos (by simp; omega)]; exact k
  rw [if_neg g4] at k; rw [if_neg (by simp; omega)]
  by_cases g5 : x = 5
  ·rw [if_pos g5] at k; rw [if_pos (by simp; omega), ltI_eq]; exact k
  rw [if_neg g5] at k; rw [if_neg (by simp; omega)]
  by_cases g6 : x = 6
  ·rw [if_pos g6] at k; rw [if_pos (by simp; omega), ltI_eq]; exact k
  rw [if_neg g6] at k; rw [if_neg (by simp; omega)]
  by_cases g7 : x = 7
  ·rw [if_pos g7] at k; rw [if_pos (by simp; omega)]; exact k
  rw [if_neg g7] at k; rw [if_neg (by simp; omega)]
  exact k
 by_cases g0 : x = 0
 ·rw [if_pos (by simp; omega)]; exact way _ (by simp; omega)
 rw [if_neg (by simp; omega)]
 by_cases g1 : x = 1
 ·rw [if_pos (by simp; omega)]; exact way _ (by simp; omega)
 rw [if_neg (by simp; omega)]
 by_cases g2 : x = 2
 ·rw [if_pos (by simp; omega)]; exact way _ (by simp; omega)
 rw [if_neg (by simp; omega)]
 exact way _ (by simp; omega)
end
end Go.Proofs.YteedolonhdbieaaGreatDoor
end

/- Images: taken apart. Own work. -/
section
set_option maxRecDepth 100000
set_option linter.unusedVariables false
namespace Go.Proofs.YteedolonhdbieaaGreatDoor
open Go Go.Vc

abbrev imgL (a b v : Int) (x : Sl) (t : List Int) : List Value := .int .i64 a :: .int .i64 b :: .int .i64 v :: x.v :: ints .u8 t
section
variable {h0 h : H} {A : List Ent} {i j p r b : Nat}
theorem img_len {a b v : Int} {x : Sl} {t : List Int} (ht : t.length = 32) : (imgL a b v x t).length = 36 := by simp [ht]
theorem img_row {a b' v : Int} {x : Sl} {t : List Int} (hs : Sat h0 A h) (m : At A i (blk b (imgL a b' v x t))) (ht : t.length = 32) : hrow h ⟨b, 4, none⟩ .u8 t := by
 refine hs.cs m ?_
 show (ints .u8 t).take (ints .u8 t).length = _
 rw [List.take_length]
theorem img_s4 {a b' v : Int} {x : Sl} {u : List Int} (hu : u.length = 32) : splice (imgL a b' v x (zeros 32)) 4 (ints .u8 u) = imgL a b' v x u := by
 have e : imgL a b' v x (zeros 32) = [.int .i64 a, .int .i64 b', .int .i64 v, x.v] ++ ints .u8 (zeros 32) := rfl
 have e2 : ∀ (vs xs : List Value) (o : Nat) (pre : List Value), splice (pre ++ vs) (pre.length + o) xs = pre ++ splice vs o xs := by
  intro vs xs
  induction xs generalizing vs with
  | nil => intro o pre; rfl
  | cons y ys ih =>
   intro o pre
   rw [splice_cons, splice_cons, set_app pre vs [], Nat.add_assoc]
   exact ih (vs.set o y) (o + 1) pre
 rw [e]
 have := e2 (ints .u8 (zeros 32)) (ints .u8 u) 0 [.int .i64 a, .int .i64 b', .int .i64 v, x.v]
 rw [splice_all _ _ (by simp [hu])] at this
 exact this
theorem Parse_sp {Q : Int → Int → Int → Option Addr → Nat → Nat → List Int → Value → H → Prop} {q : Option Addr} {l c : Nat} {bs : List Int} (hs : Sat h0 A h) (rd : ∀ h', Sat h0 A h' → hsv h' q 1 l (ints .u8 bs)) (hb : bytesOk bs) (hlc : l ≤ c) (hl : l < 2 ^ 50)
  (k1 : ∀ e at_ w h', parseW bs = (e, at_) → e ≠ 0 → Sat h0 (blk w [.int .i64 e, .int .i64 at_] :: A) h' → Q 0 0 0 none 0 0 (zeros 32) (.iface 162 (.pointer (some ⟨w, 0, none⟩))) h')
  (k2 : ∀ (own : Sl) (n : Nat) h', parseW bs = (0, 0) → num4 bs 12 = n → Sat h0 (sE own 1 (ints .u8 bs) :: A) h' → Q (bs.getD 5 0) (bs.getD 6 0) (num4 bs 8) (subAddr own.1 16 (16 + n) 1) n n ((bs.drop (16 + n)).take 32) .nilIface h') :
  F_image_Parse q l c Q h := by
 unfold F_image_Parse G_image_Parse
 try simp only [add_mk, Nat.zero_add, List.append_nil]
 have hbl : bs.length = l := by have := (rd _ hs).1; simpa using this
 intro n7 _ hn; replace hs := Sat.new hs hn; clear hn
 replace hs : Sat h0 (blk n7 (imgL 0 0 0 (none, 0, 0) (zeros 32)) :: A) _ := hs
 have bad : ∀ e at_ h', parseW bs = (e, at_) → e ≠ 0 → Sat h0 (blk n7 (imgL 0 0 0 (none, 0, 0) (zeros 32)) :: A) h' → ∀ (n10 : Nat) (h11 : H), hnew h' n10 [.int .i64 e, .int .i64 at_] h11 → hcan h11 ⟨n7, 0, none⟩ 36 ∧ ∀ h13, h13 = hwr h11 ⟨n7, 0, none⟩ (imgL 0 0 0 (none, 0, 0) (zeros 32)) →
   ∃ i15 : Int, hc h13 ⟨n7, 0, none⟩ = some (.int .i64 i15) ∧ ∃ i16 : Int, hc h13 ⟨n7, 1, none⟩ = some (.int .i64 i16) ∧ ∃ i17 : Int, hc h13 ⟨n7, 2, none⟩ = some (.int .i64 i17) ∧ ∃ (o18 : Option Addr) (n19 n20 : Nat), hc h13 ⟨n7, 3, none⟩ = some (.slice o18 n19 n20) ∧
    ∃ l21 : List Int, l21.length = 32 ∧ hrow h13 ⟨n7, 4, none⟩ .u8 l21 ∧ Q i15 i16 i17 o18 n19 n20 l21 (.iface 162 (.pointer (some ⟨n10, 0, none⟩))) h13 := by
  intro e at_ h' hw he hs n10 h11 hn
  replace hs := Sat.new hs hn
  refine ⟨Sat.can hs (i := 1) (.s .z) (by decide), ?_⟩
  intro h13 e13
  replace hs := Sat.wra hs (i := 1) (.s .z) e13 rfl
  simp only [put] at hs
  refine ⟨_, Sat.ld hs (i := 1) (.s .z) rfl, _, Sat.ld hs (i := 1) (.s .z) rfl, _, Sat.ld hs (i := 1) (.s .z) rfl, _, _, _, Sat.ld hs (i := 1) (.s .z) rfl, _, rfl, img_row hs (.s .z) rfl, ?_⟩
  exact k1 e at_ n10 _ hw he (hs.sub (by (repeat (first | exact List.Sublist.refl _ | apply List.Sublist.cons_cons | apply List.Sublist.cons))))
 by_cases g1 : 524288 < l
 ·rw [ltI_eq, if_pos (by simp; omega)]
  exact bad _ _ _ (by unfold parseW; rw [if_pos (by omega)]) (by decide) hs
 rw [ltI_eq, if_neg (by simp; omega)]
 have hP : parseW bs = match headW bs 16 0 with
  | some w => w
  | none => if 524240 < num4 bs 12 then (5, 12) else if (bs.length : Int) < 48 + num4 bs 12 then (6, bs.length) else if 48 + num4 bs 12 < bs.length then (7, 48 + num4 bs 12) else (0, 0) := by
  unfold parseW; rw [if_neg (by omega)]; try rfl
 clear k1
 generalize hW : headW bs 16 0 = W at hP
 intro J hJ
 refine loop_up 16 (fun x h => Sat h0 (blk n7 (imgL 0 0 0 (none, 0, 0) (zeros 32)) :: A) h ∧ W = headW bs (16 - x) x ∧ x ≤ l) ?_ ?_ 0 _ (by omega) ⟨hs, hW.symm, by omega⟩
 ·rintro x h1 hx ⟨hs, hh, hxl⟩ hk
  apply hJ
  rw [ltI_eq, if_pos (by simp; omega)]
  obtain ⟨m, hm⟩ : ∃ m, 16 - x = m + 1 := ⟨16 - x - 1, by omega⟩
  rw [hm] at hh
  unfold headW at hh
  by_cases g2 : x = l
  ·rw [if_pos (show x = bs.length by omega)] at hh
   rw [if_pos (by simp; omega)]
   exact bad 6 x _ (by rw [hP, hh]) (by decide) hs
  rw [if_neg (show ¬ x = bs.length by omega)] at hh
  rw [if_neg (by simp; omega)]
  obtain ⟨q', hq, g⟩ := hsv_int (rd _ hs.drop) (x := x) (by omega)
  refine ⟨_, hq, by omega, by omega, _, by rw [Int.toNat_natCast, Nat.mul_one]; exact g, ?_⟩
  refine may_sp x _ ?_
  by_cases g3 : mayB x (bs.getD x 0) = true
  ·rw [if_pos g3] at hh
   rw [if_neg (by rw [g3]; decide), wrap_succ (by omega)]
   exact hk _ ⟨hs, by rw [hh, show 16 - (x + 1) = m by omega], by omega⟩
  ·rw [if_neg g3] at hh
   rw [if_pos (by rw [Bool.not_eq_true] at g3; rw [g3]; rfl)]
   exact bad 5 x _ (by rw [hP, hh]) (by decide) hs
 rintro h1 ⟨hs, hh, hxl⟩
 apply hJ
 rw [ltI_eq, if_neg (by simp)]
 clear hJ J
 have hh : W = none := hh
 rw [hh] at hP
 dsimp only at hP
 refine ⟨by omega, by omega, ?_⟩
 have rd12 := sub_rd (o := 12) (n := l - 12) (m := c) (rd _ hs.drop) (by omega) (by omega)
 refine number_sp rd12 (drop_bytes hb _ _) (by omega) ?_
 rw [num4_drop _ _ _ (by omega)]
 obtain ⟨r1, r2⟩ := num4_range hb 12
 obtain ⟨n, hnn⟩ := Int.eq_ofNat_of_zero_le r1
 rw [hnn] at hP r2 ⊢
 have ew : IntKind.i64.wrap (16 + (n : Int)) = ((16 + n : Nat) : Int) := by rw [wrap_id (by omega)]; omega
 have ew2 : IntKind.i64.wrap (((16 + n : Nat) : Int) + 32) = ((48 + n : Nat) : Int) := by rw [wrap_id (by omega)]; omega
 rw [ew, ew2]
 by_cases g2 : 524240 < n
 ·rw [if_pos (by omega)] at hP
  rw [ltI_eq, if_pos (by simp; omega)]
  exact bad 5 12 _ hP (by decide) hs
 rw [if_neg (by omega)] at hP
 rw [ltI_eq, if_neg (by simp; omega)]
 by_cases g3 : l < 48 + n
 ·rw [if_pos (by omega), hbl] at hP
  rw [ltI_eq, if_pos (by simp; omega)]
  exact bad 6 l _ hP (by decide) hs
 rw [if_neg (by omega)] at hP
 rw [ltI_eq, if_neg (by simp; omega)]
 by_cases g4 : 48 + n < l
 ·rw [if_pos (by omega)] at hP
  rw [ltI_eq, if_pos (by simp; omega)]
  exact bad 7 _ _ (by rw [hP]; congr 1) (by decide) hs
 rw [if_neg (by omega)] at hP
 rw [ltI_eq, if_neg (by simp; omega)]
 have hw := hP
 clear bad hP
 have hl48 : l = 48 + n := by omega
 refine ⟨_, rd _ hs.drop, ?_⟩
 refine Sat.app_new hs (by simp [hbl]) rfl (ints_one _ _) (by omega) ?_
 intro o c2 h2 hs
 obtain ⟨own, hown⟩ : ∃ own : Sl, own = (o, l, c2) := ⟨_, rfl⟩
 have hcap := sl_cap hs (i := 0) .z
 replace hs : Sat h0 (sE own 1 (ints .u8 bs) :: blk n7 (imgL 0 0 0 (none, 0, 0) (zeros 32)) :: A) h2 := by rw [hown]; exact hs
 have eo1 : o = own.1 := by rw [hown]
 have eo2 : own.2.1 = l := by rw [hown]
 rw [eo1]
 have B : ∀ x, x < l → ∀ {A' : List Ent} {h' : H}, Sat h0 A h' → ∃ q', q = some q' ∧ hc h' (q'.add x) = some (.int .u8 (bs.getD x 0)) := fun x hx A' h' hs' => hsv_int (rd _ hs') hx
 obtain ⟨q', hq, g5⟩ := hsv_int (rd _ hs.drop.drop) (x := 5) (by omega)
 obtain ⟨q2, hq2, g6⟩ := hsv_int (rd _ hs.drop.drop) (x := 6) (by omega)
 rw [hq] at hq2
 injection hq2 with hq2
 subst hq2
 have c5 : ∀ h', Sat h0 A h' → hcs h' (q'.add 5) [.int .u8 (bs.getD 5 0)] := fun h' hs' => by
  obtain ⟨q2, hq2, g⟩ := hsv_int (rd _ hs') (x := 5) (by omega)
  rw [hq] at hq2; injection hq2 with hq2; subst hq2; exact hcs_one g
 have c6 : ∀ h', Sat h0 A h' → hcs h' (q'.add 6) [.int .u8 (bs.getD 6 0)] := fun h' hs' => by
  obtain ⟨q2, hq2, g⟩ := hsv_int (rd _ hs') (x := 6) (by omega)
  rw [hq] at hq2; injection hq2 with hq2; subst hq2; exact hcs_one g
 have b5 := byte_getD hb 5
 have b6 := byte_getD hb 6
 unfold isByte at b5 b6
 have w5 : IntKind.i64.wrap (bs.getD 5 0) = bs.getD 5 0 := by rw [IntKind.wrap_i64]; omega
 have w6 : IntKind.i64.wrap (bs.getD 6 0) = bs.getD 6 0 := by rw [IntKind.wrap_i64]; omega
 have ht32 : ((bs.drop (16 + n)).take 32).length = 32 := by rw [List.length_take, List.length_drop]; omega
 refine ⟨_, hq, by omega, by omega, _, g5, _, hq, by omega, by omega, _, g6, by omega, by omega, by omega, by omega, by omega, by omega, ?_⟩
 rw [Int.toNat_natCast, Nat.add_sub_cancel_left]
 have rd8 : ∀ h', Sat h0 A h' → hsv h' (subAddr q 8 c 1) 1 (l - 8) (ints .u8 ((bs.drop 8).take (l - 8))) := fun h' hs' => sub_rd (o := 8) (n := l - 8) (m := c) (rd _ hs') (by omega) (by omega)
 rw [w5, w6, show Nat.min (l - (16 + n)) 32 = 32 by show min _ _ = _; omega]
 constructor
 ·refine number_sp (rd8 _ hs.drop.drop) (drop_bytes hb _ _) (by omega) ?_
  rw [num4_drop _ _ _ (by omega)]
  refine ⟨c6 _ hs.drop.drop, c5 _ hs.drop.drop, ?_⟩
  intro nb _ hn; replace hs := Sat.new hs hn; clear hn
  refine ⟨c6 _ hs.drop.drop.drop, c5 _ hs.drop.drop.drop, ?_⟩
  (refine ⟨Sat.can hs (i := 0) .z (by decide), ?_⟩; intro h20 e20; replace hs := Sat.wra hs (i := 0) .z e20 (by rfl); clear e20; simp only [put] at hs; replace hs : Sat h0 (blk nb (imgL (bs.getD 5 0) (bs.getD 6 0) (num4 bs 8) (subAddr own.1 16 (16 + n) 1, n, n) (zeros 32)) :: sE own 1 (ints .u8 bs) :: blk n7 (imgL 0 0 0 (none, 0, 0) (zeros 32)) :: A) h20 := hs; refine ⟨by omega, by omega, _, sub_rd (n := 32) (hs.sv (i := 1) (.s .z)) (by omega) (by omega), Or.inr ⟨_, rfl, Sat.can hs (i := 0) .z (by rw [img_len rfl]; decide)⟩, ?_⟩; intro h21 e21; replace hs := Sat.wr hs (i := 0) .z (o := 4) e21; clear e21; rw [img_s4 (by rw [List.length_take, List.length_drop]; omega)] at hs; simp only [put] at hs; refine ⟨_, Sat.ld hs (i := 0) .z rfl, _, Sat.ld hs (i := 0) .z rfl, _, Sat.ld hs (i := 0) .z rfl, _, _, _, Sat.ld hs (i := 0) .z rfl, _, ht32, img_row hs .z ht32, Sat.can hs (i := 2) (.s (.s .z)) (by decide), ?_⟩; intro h22 e22; replace hs := Sat.wra hs (i := 2) (.s (.s .z)) e22 (by rw [img_len ht32]; rfl); clear e22; simp only [put] at hs; replace hs : Sat h0 (blk nb (imgL (bs.getD 5 0) (bs.getD 6 0) (num4 bs 8) (subAddr own.1 16 (16 + n) 1, n, n) ((bs.drop (16 + n)).take 32)) :: sE own 1 (ints .u8 bs) :: blk n7 (imgL (bs.getD 5 0) (bs.getD 6 0) (num4 bs 8) (subAddr own.1 16 (16 + n) 1, n, n) ((bs.drop (16 + n)).take 32)) :: A) h22 := hs; refine ⟨_, Sat.ld hs (i := 2) (.s (.s .z)) rfl, _, Sat.ld hs (i := 2) (.s (.s .z)) rfl, _, Sat.ld hs (i := 2) (.s (.s .z)) rfl, _, _, _, Sat.ld hs (i := 2) (.s (.s .z)) rfl, _, ht32, img_row hs (.s (.s .z)) ht32, ?_⟩; exact k2 own n _ hw hnn (hs.sub (by (repeat (first | exact List.Sublist.refl _ | apply List.Sublist.cons_cons | apply List.Sublist.cons)))))
 ·intro nb _ hn; replace hs := Sat.new hs hn; clear hn
  refine ⟨c6 _ hs.drop.drop.drop, c5 _ hs.drop.drop.drop, ?_⟩
  refine number_sp (rd8 _ hs.drop.drop.drop) (drop_bytes hb _ _) (by omega) ?_
  rw [num4_drop _ _ _ (by omega)]
  refine ⟨c6 _ hs.drop.drop.drop, c5 _ hs.drop.drop.drop, ?_⟩
  (refine ⟨Sat.can hs (i := 0) .z (by decide), ?_⟩; intro h20 e20; replace hs := Sat.wra hs (i := 0) .z e20 (by rfl); clear e20; simp only [put] at hs; replace hs : Sat h0 (blk nb (imgL (bs.getD 5 0) (bs.getD 6 0) (num4 bs 8) (subAddr own.1 16 (16 + n) 1, n, n) (zeros 32)) :: sE own 1 (ints .u8 bs) :: blk n7 (imgL 0 0 0 (none, 0, 0) (zeros 32)) :: A) h20 := hs; refine ⟨by omega, by omega, _, sub_rd (n := 32) (hs.sv (i := 1) (.s .z)) (by omega) (by omega), Or.inr ⟨_, rfl, Sat.can hs (i := 0) .z (by rw [img_len rfl]; decide)⟩, ?_⟩; intro h21 e21; replace hs := Sat.wr hs (i := 0) .z (o := 4) e21; clear e21; rw [img_s4 (by rw [List.length_take, List.length_drop]; omega)] at hs; simp only [put] at hs; refine ⟨_, Sat.ld hs (i := 0) .z rfl, _, Sat.ld hs (i := 0) .z rfl, _, Sat.ld hs (i := 0) .z rfl, _, _, _, Sat.ld hs (i := 0) .z rfl, _, ht32, img_row hs .z ht32, Sat.can hs (i := 2) (.s (.s .z)) (by decide), ?_⟩; intro h22 e22; replace hs := Sat.wra hs (i := 2) (.s (.s .z)) e22 (by rw [img_len ht32]; rfl); clear e22; simp only [put] at hs; replace hs : Sat h0 (blk nb (imgL (bs.getD 5 0) (bs.getD 6 0) (num4 bs 8) (subAddr own.1 16 (16 + n) 1, n, n) ((bs.drop (16 + n)).take 32)) :: sE own 1 (ints .u8 bs) :: blk n7 (imgL (bs.getD 5 0) (bs.getD 6 0) (num4 bs 8) (subAddr own.1 16 (16 + n) 1, n, n) ((bs.drop (16 + n)).take 32)) :: A) h22 := hs; refine ⟨_, Sat.ld hs (i := 2) (.s (.s .z)) rfl, _, Sat.ld hs (i := 2) (.s (.s .z)) rfl, _, Sat.ld hs (i := 2) (.s (.s .z)) rfl, _, _, _, Sat.ld hs (i := 2) (.s (.s .z)) rfl, _, ht32, img_row hs (.s (.s .z)) ht32, ?_⟩; exact k2 own n _ hw hnn (hs.sub (by (repeat (first | exact List.Sublist.refl _ | apply List.Sublist.cons_cons | apply List.Sublist.cons)))))
end
end Go.Proofs.YteedolonhdbieaaGreatDoor
end

/- The gate: whether an image may be started; the program. Own work. -/
section
set_option maxRecDepth 100000
set_option linter.unusedVariables false
namespace Go.Proofs.YteedolonhdbieaaGreatDoor
open Go Go.Vc
attribute [local irreducible] macM

def gateM (C : Cm) (L : List Sec) (bs : List Int) : Int :=
 if C.out = true then 8 else if (parseW bs).1 ≠ 0 then (parseW bs).1
 else if C.cfg.slots ≤ bs.getD 5 0 then 5
 else match L.find? (fun x => x.1 == bs.getD 6 0) with
  | none => 13
  | some s => if C.cfg.keys ≤ bs.getD 6 0 then 13 else if (revokedM C (bs.getD 6 0)).1 = true then 14
   else if macM s.2 (bs.take (bs.length - 32)) ≠ (bs.drop (bs.length - 32)).take 32 then 15
   else if num4 bs 8 < (sRead C (bs.getD 5 0)).1 then 16 else if lastM C.cfg < num4 bs 8 then 16 else 0
theorem head_all {bs : List Int} : ∀ (m x : Nat), headW bs m x = none → ∀ y, x ≤ y → y < x + m → mayB y (bs.getD y 0) = true
 | 0, x, _, y, h1, h2 => by omega
 | m + 1, x, h, y, h1, h2 => by
  unfold headW at h
  by_cases c : x = bs.length
  ·rw [if_pos c] at h; cases h
  rw [if_neg c] at h
  by_cases g : mayB x (bs.getD x 0) = true
  ·rw [if_pos g] at h
   by_cases e : y = x
   ·rw [e]; exact g
   ·exact head_all m (x + 1) h y (by omega) (by omega)
  ·rw [if_neg g] at h; cases h
theorem parse_ok {bs : List Int} (hb : bytesOk bs) {n : Nat} (h : parseW bs = (0, 0)) (hn : num4 bs 12 = n) : bs.length = 48 + n ∧ (0 ≤ bs.getD 5 0 ∧ bs.getD 5 0 < 8) ∧ (0 ≤ bs.getD 6 0 ∧ bs.getD 6 0 < 64) ∧ n ≤ 524240 := by
 unfold parseW at h
 by_cases c1 : 524288 < bs.length
 ·rw [if_pos c1] at h; injection h with h; cases h
 rw [if_neg c1] at h
 have hh : headW bs 16 0 = none := by
  cases e : headW bs 16 0 with
  | none => rfl
  | some w =>
   rw [e] at h
   dsimp only at h
   exfalso
   have key : ∀ m x, headW bs m x = some w → w.1 ≠ 0 := by
    intro m
    induction m with
    | zero => intro x y; cases y
    | succ m ih =>
     intro x y
     unfold headW at y
     by_cases c : x = bs.length
     ·rw [if_pos c] at y; injection y with y; rw [← y]; exact (by decide : (6 : Int) ≠ 0)
     rw [if_neg c] at y
     by_cases g : mayB x (bs.getD x 0) = true
     ·rw [if_pos g] at y; exact ih _ y
     ·rw [if_neg g] at y; injection y with y; rw [← y]; exact (by decide : (5 : Int) ≠ 0)
   have := key 16 0 e
   rw [h] at this
   exact this rfl
 rw [hh] at h
 dsimp only at h
 have m5 := head_all 16 0 hh 5 (by decide) (by decide)
 have m6 := head_all 16 0 hh 6 (by decide) (by decide)
 have e5 : bs.getD 5 0 < 8 := by
  have : mayB 5 (bs.getD 5 0) = decide (bs.getD 5 0 < 8) := rfl
  rw [this] at m5; exact of_decide_eq_true m5
 have e6 : bs.getD 6 0 < 64 := by
  have : mayB 6 (bs.getD 6 0) = decide (bs.getD 6 0 < 64) := rfl
  rw [this] at m6; exact of_decide_eq_true m6
 have b5 := byte_getD hb 5
 have b6 := byte_getD hb 6
 unfold isByte at b5 b6
 rw [hn] at h
 by_cases c2 : (524240 : Int) < (n : Int)
 ·rw [if_pos c2] at h; injection h with h; cases h
 rw [if_neg c2] at h
 by_cases c3 : (bs.length : Int) < 48 + (n : Int)
 ·rw [if_pos c3] at h; injection h with h; cases h
 rw [if_neg c3] at h
 by_cases c4 : 48 + (n : Int) < bs.length
 ·rw [if_pos c4] at h; injection h with h; cases h
 exact ⟨by omega, ⟨b5.1, e5⟩, ⟨b6.1, e6⟩, by omega⟩
theorem sread_err {C : Cm} (ho : ¬ C.out = true) {slot : Int} (hs : 0 ≤ slot) : (sRead C slot).2 = if C.cfg.slots ≤ slot then 2 else 0 := by
 have a : askedM C slot C.cfg.slots = if C.cfg.slots ≤ slot then 2 else 0 := by unfold askedM; rw [if_neg ho, if_neg (by omega)]
 unfold sRead
 rw [a]
 by_cases g : C.cfg.slots ≤ slot
 ·rw [if_pos g, if_pos (by decide)]
 ·rw [if_neg g, if_neg (by decide)]
theorem callFn_of {f : FuncId} {run : Run} {c : Array Value} {ds : List DV} {Q : List DV → H → Prop} {h : H} (hr : RunOk PP f run) (hd : ∀ x, x ∈ ds → x.ok) (hc : c.toList = ds.map DV.flat) (hrun : run ds Q h) : callFn PP (.func (.func f) (Array.mk []) c) [] Q h := by
 refine ⟨f, Array.mk [], c, rfl, ?_⟩
 have := hr ds Q h hd hrun
 rw [← hc] at this
 simpa using this
theorem addrs_ok (l : List Addr) : ∀ x, x ∈ l.map DV.addr → x.ok := by
 intro x hx
 obtain ⟨a, _, rfl⟩ := List.mem_map.1 hx
 trivial
section
variable {h0 h : H} {A : List Ent} {i j p r b s m : Nat} {C : Cm}
theorem kcheck_sp {Q : Bool → Int → H → Prop} {key : Int} {bb tag : List Int} {bp : Option Addr} {bl bc : Nat} {R : List SR} {x : SR} (hs : Sat h0 A h) (cr : At A i (blk r [.map (some m)])) (cm : At A j (mapE m (R.map SR.ent))) (gd : SR.good R)
  (rR : ∀ x, x ∈ R → ∀ h', Sat h0 A h' → hsv h' x.p 1 x.bytes.length (ints .u8 x.bytes)) (hx : SR.at_ R key = some x) (ht : tag.length = 32) (htb : isBy tag) (hbc : bl ≤ bc) (hbl : bl < 2 ^ 40)
  (rb : ∀ h', Sat h0 A h' → hsv h' bp 1 bl (ints .u8 bb)) (k : ∀ h', Sat h0 A h' → Q (decide (macM x.bytes bb = tag)) 0 h') : F_keys_Ring_Check ⟨r, 0, none⟩ key bp bl bc tag Q h := by
 unfold F_keys_Ring_Check G_keys_Ring_Check
 try simp only [add_mk, Nat.zero_add, List.append_nil]
 have hx2 : x ∈ R := List.mem_of_find?_eq_some hx
 have hg := gd x hx2
 have ml : mlook (.int .i64 key) (.one (.slice none 0 0)) (R.map SR.ent) = some (.one (.slice x.p x.bytes.length x.c), true) := by rw [mlook_at, hx]
 intro tb _ hn; replace hs := Sat.new hs hn; clear hn
 refine sign_sp hs cr.s cm.s ml hg.2.1 (by omega) hbc hbl (fun h' hs' => rR x hx2 _ hs'.drop) (fun h' hs' => rb _ hs'.drop) ?_
 intro h3 hs
 intro nb _ hn; replace hs := Sat.new hs hn; clear hn
 refine ⟨Sat.can hs (i := 0) .z (by simp [zeros]), ?_⟩
 intro h4 e
 replace hs := Sat.wra (xs := ints .u8 (macM x.bytes bb)) hs (i := 0) .z e (by simp [zeros, macM_len])
 clear e
 simp only [put_zero] at hs
 rw [if_neg (by decide)]
 refine equal_sp (isBy_mac _ _) htb (macM_len _ _) ht (hs.row0 (i := 0) .z) (hs.row0 (i := 1) (.s .z)) ?_
 exact k _ hs.drop.drop
theorem ibody_sp {Q : Option Addr → Nat → Nat → H → Prop} {bs : List Int} {q : Option Addr} {l c : Nat} (hs : Sat h0 A h) (rd : hsv h q 1 l (ints .u8 bs)) (hl : 32 ≤ l) (hlc : l ≤ c) (hl2 : l < 2 ^ 40)
  (k : ∀ p' c' h', l - 32 ≤ c' → Sat h0 (slE p' (l - 32) c' 1 (ints .u8 (bs.take (l - 32))) :: A) h' → Q p' (l - 32) c' h') : F_image_Body q l c Q h := by
 unfold F_image_Body G_image_Body
 have hbl : bs.length = l := by have := rd.1; simpa using this
 rw [ltI_eq, if_neg (by rw [decide_eq_true_iff]; omega)]
 have e : IntKind.i64.wrap ((l : Int) - 32) = ((l - 32 : Nat) : Int) := by rw [wrap_id (by omega)]; omega
 rw [e]
 refine ⟨by omega, by omega, ?_⟩
 simp only [Int.toNat_natCast, Nat.sub_zero]
 have R := subRd (o := 0) (n := l - 32) (m := c) rd (by omega) (by omega)
 rw [List.drop_zero] at R
 refine ⟨_, R, ?_⟩
 replace hs := hs.sl_nil 1 none
 refine Sat.app hs (i := 0) (vs := ints .u8 (bs.take (l - 32))) .z (by simp; omega) rfl (ints_one _ _) (by dsimp only; omega) ?_
 intro p' c' h' hs
 simp only [put_zero, List.nil_append, Nat.zero_add] at hs ⊢
 exact k p' c' h' (capS hs (i := 0) .z) hs
theorem ret0 {Q : Int → Int → Int → Option Addr → Nat → Nat → List Int → Int → H → Prop} {nb : Nat} {a1 a2 a3 : Int} {x : Sl} {t : List Int} (e : Int) (ht : t.length = 32) (hs : Sat h0 A h) (a : At A i (blk nb (imgL a1 a2 a3 x t))) (k : ∀ h', Sat h0 (put A i (blk nb (imgL 0 0 0 (none, 0, 0) (zeros 32)))) h' → Q 0 0 0 none 0 0 (zeros 32) e h') :
  hcan h ⟨nb, 0, none⟩ 36 ∧ ∀ h1, h1 = hwr h ⟨nb, 0, none⟩ (.int .i64 0 :: .int .i64 0 :: .int .i64 0 :: .slice none 0 0 :: ints .u8 (zeros 32)) → ∃ i1 : Int, hc h1 ⟨nb, 0, none⟩ = some (.int .i64 i1) ∧ ∃ i2 : Int, hc h1 ⟨nb, 1, none⟩ = some (.int .i64 i2) ∧ ∃ i3 : Int, hc h1 ⟨nb, 2, none⟩ = some (.int .i64 i3) ∧
   ∃ (o : Option Addr) (n m : Nat), hc h1 ⟨nb, 3, none⟩ = some (.slice o n m) ∧ ∃ l : List Int, l.length = 32 ∧ hrow h1 ⟨nb, 4, none⟩ .u8 l ∧ Q i1 i2 i3 o n m l e h1 := by
 refine ⟨Sat.can hs a (by simp [ht]), ?_⟩
 intro h1 e1
 replace hs := Sat.wra (xs := imgL 0 0 0 (none, 0, 0) (zeros 32)) hs a e1 (by simp [ht, zeros])
 exact ⟨_, hs.ld (a.put _) rfl, _, hs.ld (a.put _) rfl, _, hs.ld (a.put _) rfl, _, _, _, hs.ld (a.put _) rfl, _, zeros_len 32, img_row hs (a.put _) (zeros_len 32), k _ hs⟩
theorem gate_sp {Q : Int → Int → Int → Option Addr → Nat → Nat → List Int → Int → H → Prop} {mm rr jm jr : Nat} {bs : List Int} {q : Option Addr} {l c : Nat} {R : List SR} (hg : hc h0 ⟨0, 0, none⟩ = some errTypeV) (hs : Sat h0 A h) (ci : At A i (chipE p C)) (cl' : At A j (logE r p)) (st : At A m (storeE s p r))
  (cr : At A jr (blk rr [.map (some mm)])) (cm : At A jm (mapE mm (R.map SR.ent))) (gd : SR.good R) (rR : ∀ x, x ∈ R → ∀ h', Sat h0 A h' → hsv h' x.p 1 x.bytes.length (ints .u8 x.bytes))
  (rd : ∀ h', Sat h0 A h' → hsv h' q 1 l (ints .u8 bs)) (hb : bytesOk bs) (hlc : l ≤ c) (hl : l < 2 ^ 50)
  (k1 : ∀ e, e = gateM C (R.map SR.kv) bs → e ≠ 0 → ∀ h', Sat h0 A h' → Q 0 0 0 none 0 0 (zeros 32) e h')
  (k2 : ∀ (own : Sl) (n : Nat), gateM C (R.map SR.kv) bs = 0 → parseW bs = (0, 0) → num4 bs 12 = n → bs.length = 48 + n → ∀ h', Sat h0 (sE own 1 (ints .u8 bs) :: A) h' → Q (bs.getD 5 0) (bs.getD 6 0) (num4 bs 8) (subAddr own.1 16 (16 + n) 1) n n ((bs.drop (16 + n)).take 32) 0 h') :
  F_gate_Check ⟨s, 0, none⟩ ⟨rr, 0, none⟩ q l c Q h := by
 unfold F_gate_Check G_gate_Check
 try simp only [add_mk, Nat.zero_add, List.append_nil]
 have hbl : bs.length = l := by have := (rd _ hs).1; simpa using this
 have ok := chip_ok hs ci
 have w1 : IntKind.i64.wrap (0 + 1) = 1 := by decide
 have w2 : IntKind.i64.wrap (1 + 1) = 2 := by decide
 have w3 : IntKind.i64.wrap (2 + 1) = 3 := by decide
 have w4 : IntKind.i64.wrap (3 + 1) = 4 := by decide
 have w5 : IntKind.i64.wrap (4 + 1) = 5 := by decide
 have w6 : IntKind.i64.wrap (5 + 1) = 6 := by decide
 obtain ⟨G, hG⟩ : ∃ G, G = gateM C (R.map SR.kv) bs := ⟨_, rfl⟩
 have hG0 := hG
 rw [← hG] at k1 k2
 unfold gateM at hG
 intro n13 _ hn; replace hs := Sat.new hs hn; clear hn
 intro n16 _ hn; replace hs := Sat.new hs hn; clear hn
 intro n19 _ hn; replace hs := Sat.new hs hn; clear hn
 intro n22 _ hn; replace hs := Sat.new hs hn; clear hn
 intro n25 _ hn; replace hs := Sat.new hs hn; clear hn
 intro n28 _ hn; replace hs := Sat.new hs hn; clear hn
 obtain ⟨FS, hFS⟩ : ∃ FS : List Value, FS = [.func (.func id_gate_Check_1) (Array.mk []) (Array.mk [.pointer (some ⟨n13, 0, none⟩)]), .func (.func id_gate_Check_2) (Array.mk []) (Array.mk [.pointer (some ⟨n19, 0, none⟩), .pointer (some ⟨n25, 0, none⟩)]), .func (.func id_gate_Check_3) (Array.mk []) (Array.mk [.pointer (some ⟨n13, 0, none⟩), .pointer (some ⟨n25, 0, none⟩)]), .func (.func id_gate_Check_4) (Array.mk []) (Array.mk [.pointer (some ⟨n13, 0, none⟩), .pointer (some ⟨n25, 0, none⟩), .pointer (some ⟨n16, 0, none⟩)]), .func (.func id_gate_Check_5) (Array.mk []) (Array.mk [.pointer (some ⟨n16, 0, none⟩), .pointer (some ⟨n25, 0, none⟩), .pointer (some ⟨n19, 0, none⟩)]), .func (.func id_gate_Check_6) (Array.mk []) (Array.mk [.pointer (some ⟨n13, 0, none⟩), .pointer (some ⟨n25, 0, none⟩)])] := ⟨_, rfl⟩
 rw [← hFS] at hs
 replace hs : Sat h0 (blk n28 FS :: blk n25 (imgL 0 0 0 (none, 0, 0) (zeros 32)) :: blk n22 (imgL 0 0 0 (none, 0, 0) (zeros 32)) :: blk n19 [.slice q l c] :: blk n16 [.pointer (some ⟨rr, 0, none⟩)] :: blk n13 [.pointer (some ⟨s, 0, none⟩)] :: A) _ := hs
 intro J31 hJ31
 apply hJ31
 rw [ltI_eq, if_pos (by decide)]
 refine ⟨_, rfl, by decide, by decide, _, hs.ld (o := 0) (i := 0) .z (by rw [hFS]; rfl), rfl, ?_⟩
 refine callFn_of (ds := [⟨n13, 0, none⟩].map DV.addr) R_gate_Check_1 (addrs_ok _) rfl ?_
 show F_gate_Check_1 ⟨n13, 0, none⟩ _ _
 unfold F_gate_Check_1 G_gate_Check_1
 refine ⟨_, hs.ld (i := 5) (.s (.s (.s (.s (.s .z))))) rfl, _, rfl, ?_⟩
 refine sActive_sp hs ci.s.s.s.s.s.s cl'.s.s.s.s.s.s st.s.s.s.s.s.s ?_
 intro h1 hs
 refine ⟨_, _, rfl, _, rfl, rfl, ?_⟩
 rw [sActive_out ok]
 by_cases ho : C.out = true
 ·rw [if_pos ho] at hG ⊢
  rw [if_pos (by decide)]
  refine ret0 8 (zeros_len 32) hs (i := 2) (.s (.s .z)) ?_
  intro h2 hs
  exact k1 8 hG.symm (by decide) _ hs.drop.drop.drop.drop.drop.drop
 rw [if_neg ho] at hG ⊢
 rw [if_neg (by decide), w1]
 -- the image
 apply hJ31
 rw [ltI_eq, if_pos (by decide)]
 refine ⟨_, rfl, by decide, by decide, _, hs.ld (o := 1) (i := 0) .z (by rw [hFS]; rfl), rfl, ?_⟩
 refine callFn_of (ds := [⟨n19, 0, none⟩, ⟨n25, 0, none⟩].map DV.addr) R_gate_Check_2 (addrs_ok _) rfl ?_
 show F_gate_Check_2 ⟨n19, 0, none⟩ ⟨n25, 0, none⟩ _ _
 unfold F_gate_Check_2 G_gate_Check_2
 try simp only [add_mk, Nat.zero_add, List.append_nil]
 refine ⟨_, _, _, hs.ld (i := 3) (.s (.s (.s .z))) rfl, ?_⟩
 refine Parse_sp hs (fun h' hs' => rd _ hs'.drop.drop.drop.drop.drop.drop) hb hlc hl ?_ ?_
 ·intro e at_ w h2 hp he hs
  refine ⟨Sat.can hs (i := 2) (.s (.s .z)) (by simp [zeros]), ?_⟩
  intro h3 e3
  replace hs := Sat.wra (xs := imgL 0 0 0 (none, 0, 0) (zeros 32)) hs (i := 2) (.s (.s .z)) e3 rfl
  clear e3
  simp only [put_succ, put_zero] at hs
  refine ⟨rfl, ?_⟩
  rw [if_neg (nIF _ _)]
  intro n20 _ hn; replace hs := Sat.new hs hn; clear hn
  refine ⟨Sat.can hs (i := 0) .z (by simp), ?_⟩
  intro h4 e4
  replace hs := Sat.wra hs (i := 0) .z e4 rfl
  clear e4
  simp only [put_zero] at hs
  unfold F_errors_As
  refine Or.inl (Or.inr ⟨⟨w, 0, none⟩, n20, 0, e, rfl, rfl, hc_ext hs.ex hg (fun y => y), ⟨_, hs.ld (i := 0) .z rfl⟩, ?_, hs.ld (i := 1) (.s .z) rfl, ?_⟩)
  ·have := (Sat.can hs (i := 0) (o := 0) (n := 1) .z (by simp)) 0 (by decide)
   rw [add_zero] at this
   exact this.2
  intro b1 _ hn; replace hs := Sat.new hs hn; clear hn
  intro b2 _ hn; replace hs := Sat.new hs hn; clear hn
  intro b3 _ hn; replace hs := Sat.new hs hn; clear hn
  intro b4 _ hn; replace hs := Sat.new hs hn; clear hn
  intro h5 e5
  replace hs := Sat.wr hs (i := 4) (.s (.s (.s (.s .z)))) e5
  clear e5
  simp only [put_succ, put_zero] at hs
  replace hs := hs.drop.drop.drop.drop
  replace hs : Sat h0 (blk n20 [.int .i64 e] :: _) h5 := hs
  refine ⟨_, hs.ld (i := 0) .z rfl, ?_⟩
  refine ⟨_, _, rfl, _, rfl, rfl, ?_⟩
  rw [if_pos (by simpa using he)]
  replace hs := hs.drop.drop
  refine ret0 e (zeros_len 32) hs (i := 2) (.s (.s .z)) ?_
  intro h6 hs
  refine k1 e ?_ he _ hs.drop.drop.drop.drop.drop.drop
  rw [hp, if_pos he] at hG
  exact hG.symm
 intro own n h2 hp hnn hs
 obtain ⟨pl, p5, p6, pn⟩ := parse_ok hb hp hnn
 have htl : ((bs.drop (16 + n)).take 32).length = 32 := by rw [List.length_take, List.length_drop]; omega
 have htb : isBy ((bs.drop (16 + n)).take 32) := drop_bytes hb _ _
 refine ⟨Sat.can hs (i := 2) (.s (.s .z)) (by simp [zeros]), ?_⟩
 intro h3 e3
 replace hs := Sat.wra (xs := imgL (bs.getD 5 0) (bs.getD 6 0) (num4 bs 8) (subAddr own.1 16 (16 + n) 1, n, n) ((bs.drop (16 + n)).take 32)) hs (i := 2) (.s (.s .z)) e3 (by rw [img_len htl]; rfl)
 clear e3
 simp only [put_succ, put_zero] at hs
 refine ⟨rfl, ?_⟩
 rw [if_pos (by rfl)]
 refine ⟨_, _, rfl, _, rfl, rfl, ?_⟩
 rw [if_neg (by decide), w2]
 rw [hp, if_neg (by decide)] at hG
 -- the slot
 apply hJ31
 rw [ltI_eq, if_pos (by decide)]
 refine ⟨_, rfl, by decide, by decide, _, hs.ld (o := 2) (i := 1) (.s .z) (by rw [hFS]; rfl), rfl, ?_⟩
 refine callFn_of (ds := [⟨n13, 0, none⟩, ⟨n25, 0, none⟩].map DV.addr) R_gate_Check_3 (addrs_ok _) rfl ?_
 show F_gate_Check_3 ⟨n13, 0, none⟩ ⟨n25, 0, none⟩ _ _
 unfold F_gate_Check_3 G_gate_Check_3
 refine ⟨_, hs.ld (i := 6) (.s (.s (.s (.s (.s (.s .z)))))) rfl, _, hs.ld (i := 2) (.s (.s .z)) rfl, _, rfl, ?_⟩
 refine sRead_sp hs ci.s.s.s.s.s.s.s cl'.s.s.s.s.s.s.s st.s.s.s.s.s.s.s _ ?_
 intro h4 hs
 have er := sread_err ho p5.1
 by_cases gs : C.cfg.slots ≤ bs.getD 5 0
 ·rw [if_pos gs] at er hG
  rw [er, if_pos (by decide)]
  refine ⟨_, _, rfl, _, rfl, rfl, ?_⟩
  rw [if_pos (by decide)]
  refine ret0 5 (zeros_len 32) hs (i := 3) (.s (.s (.s .z))) ?_
  intro h6 hs
  exact k1 5 hG.symm (by decide) _ hs.drop.drop.drop.drop.drop.drop.drop
 rw [if_neg gs] at er hG
 rw [er, if_neg (by decide)]
 refine ⟨_, _, rfl, _, rfl, rfl, ?_⟩
 rw [if_neg (by decide), w3]
 -- the key
 apply hJ31
 rw [ltI_eq, if_pos (by decide)]
 refine ⟨_, rfl, by decide, by decide, _, hs.ld (o := 3) (i := 1) (.s .z) (by rw [hFS]; rfl), rfl, ?_⟩
 refine callFn_of (ds := [⟨n13, 0, none⟩, ⟨n25, 0, none⟩, ⟨n16, 0, none⟩].map DV.addr) R_gate_Check_4 (addrs_ok _) rfl ?_
 show F_gate_Check_4 ⟨n13, 0, none⟩ ⟨n25, 0, none⟩ ⟨n16, 0, none⟩ _ _
 unfold F_gate_Check_4 G_gate_Check_4
 try simp only [add_mk, Nat.zero_add]
 refine ⟨_, hs.ld (i := 6) (.s (.s (.s (.s (.s (.s .z)))))) rfl, _, hs.ld (i := 2) (.s (.s .z)) rfl, _, rfl, ?_⟩
 refine sRevoked_sp hs ci.s.s.s.s.s.s.s st.s.s.s.s.s.s.s _ ?_
 intro h5 hs
 refine ⟨_, hs.ld (i := 5) (.s (.s (.s (.s (.s .z))))) rfl, _, hs.ld (i := 2) (.s (.s .z)) rfl, _, rfl, ?_⟩
 refine hasN_sp _ hs cr.s.s.s.s.s.s.s cm.s.s.s.s.s.s.s ?_
 have ekv := at_kv R (bs.getD 6 0)
 cases ex : SR.at_ R (bs.getD 6 0) with
 | none =>
  rw [← ekv, ex] at hG
  rw [if_pos (by simp)]
  refine ⟨_, _, rfl, _, rfl, rfl, ?_⟩
  rw [if_pos (by decide)]
  refine ret0 13 (zeros_len 32) hs (i := 3) (.s (.s (.s .z))) ?_
  intro h6 hs
  exact k1 13 hG.symm (by decide) _ hs.drop.drop.drop.drop.drop.drop.drop
 | some x =>
 rw [← ekv, ex] at hG
 dsimp only [Option.map_some] at hG
 rw [if_neg (by simp)]
 have rv := revoked_err ho p6.1
 by_cases gk : C.cfg.keys ≤ bs.getD 6 0
 ·rw [if_pos gk] at rv hG
  rw [rv, if_pos (by decide)]
  refine ⟨_, _, rfl, _, rfl, rfl, ?_⟩
  rw [if_pos (by decide)]
  refine ret0 13 (zeros_len 32) hs (i := 3) (.s (.s (.s .z))) ?_
  intro h6 hs
  exact k1 13 hG.symm (by decide) _ hs.drop.drop.drop.drop.drop.drop.drop
 rw [if_neg gk] at rv hG
 rw [rv, if_neg (by decide)]
 by_cases gr : (revokedM C (bs.getD 6 0)).1 = true
 ·rw [if_pos gr] at hG ⊢
  refine ⟨_, _, rfl, _, rfl, rfl, ?_⟩
  rw [if_pos (by decide)]
  refine ret0 14 (zeros_len 32) hs (i := 3) (.s (.s (.s .z))) ?_
  intro h6 hs
  exact k1 14 hG.symm (by decide) _ hs.drop.drop.drop.drop.drop.drop.drop
 rw [if_neg gr] at hG ⊢
 refine ⟨_, _, rfl, _, rfl, rfl, ?_⟩
 rw [if_neg (by decide), w4]
 -- the tag
 apply hJ31
 rw [ltI_eq, if_pos (by decide)]
 refine ⟨_, rfl, by decide, by decide, _, hs.ld (o := 4) (i := 1) (.s .z) (by rw [hFS]; rfl), rfl, ?_⟩
 refine callFn_of (ds := [⟨n16, 0, none⟩, ⟨n25, 0, none⟩, ⟨n19, 0, none⟩].map DV.addr) R_gate_Check_5 (addrs_ok _) rfl ?_
 show F_gate_Check_5 ⟨n16, 0, none⟩ ⟨n25, 0, none⟩ ⟨n19, 0, none⟩ _ _
 unfold F_gate_Check_5 G_gate_Check_5
 try simp only [add_mk, Nat.zero_add, List.append_nil]
 refine ⟨_, hs.ld (i := 5) (.s (.s (.s (.s (.s .z))))) rfl, _, hs.ld (i := 2) (.s (.s .z)) rfl, _, _, _, hs.ld (i := 4) (.s (.s (.s (.s .z)))) rfl, _, htl, img_row hs (.s (.s .z)) htl, ?_⟩
 refine ibody_sp hs (rd _ hs.drop.drop.drop.drop.drop.drop.drop) (by omega) hlc (by omega) ?_
 intro p' c' h6 hc' hs
 refine ⟨Sat.cs hs (i := 3) (.s (.s (.s .z))) (by show (List.drop 4 (imgL _ _ _ _ _)).take _ = _; rw [List.take_of_length_le (by simp [htl])]; rfl), Sat.cs hs (i := 3) (.s (.s (.s .z))) rfl, Sat.cs hs (i := 6) (.s (.s (.s (.s (.s (.s .z)))))) rfl, _, rfl, ?_⟩
 refine kcheck_sp (bb := bs.take (l - 32)) hs cr.s.s.s.s.s.s.s.s cm.s.s.s.s.s.s.s.s gd (fun y hy h' hs' => rR y hy _ hs'.drop.drop.drop.drop.drop.drop.drop.drop) ex htl htb hc' (by omega) (fun h' hs' => hs'.sv (i := 0) .z) ?_
 intro h7 hs
 replace hs := hs.drop
 have et : (bs.drop (bs.length - 32)).take 32 = (bs.drop (16 + n)).take 32 := by rw [show bs.length - 32 = 16 + n by omega]
 rw [hbl] at hG et
 rw [et] at hG
 by_cases gt : macM x.bytes (bs.take (l - 32)) = (bs.drop (16 + n)).take 32
 case neg =>
  rw [if_pos gt] at hG
  rw [if_pos (by simp [gt])]
  refine ⟨_, _, rfl, _, rfl, rfl, ?_⟩
  rw [if_pos (by decide)]
  refine ret0 15 (zeros_len 32) hs (i := 3) (.s (.s (.s .z))) ?_
  intro h6 hs
  exact k1 15 hG.symm (by decide) _ hs.drop.drop.drop.drop.drop.drop.drop
 rw [if_neg (by simpa using gt)] at hG
 rw [if_neg (by simp [gt]), if_neg (by decide)]
 refine ⟨_, _, rfl, _, rfl, rfl, ?_⟩
 rw [if_neg (by decide), w5]
 -- the version
 apply hJ31
 rw [ltI_eq, if_pos (by decide)]
 refine ⟨_, rfl, by decide, by decide, _, hs.ld (o := 5) (i := 1) (.s .z) (by rw [hFS]; rfl), rfl, ?_⟩
 refine callFn_of (ds := [⟨n13, 0, none⟩, ⟨n25, 0, none⟩].map DV.addr) R_gate_Check_6 (addrs_ok _) rfl ?_
 show F_gate_Check_6 ⟨n13, 0, none⟩ ⟨n25, 0, none⟩ _ _
 unfold F_gate_Check_6 G_gate_Check_6
 try simp only [add_mk, Nat.zero_add]
 refine ⟨_, hs.ld (i := 6) (.s (.s (.s (.s (.s (.s .z)))))) rfl, _, hs.ld (i := 2) (.s (.s .z)) rfl, _, rfl, ?_⟩
 refine sRead_sp hs ci.s.s.s.s.s.s.s cl'.s.s.s.s.s.s.s st.s.s.s.s.s.s.s _ ?_
 intro h8 hs
 rw [er, if_neg (by decide)]
 refine ⟨_, hs.ld (i := 2) (.s (.s .z)) rfl, ?_⟩
 rw [ltI_eq]
 by_cases gv : num4 bs 8 < (sRead C (bs.getD 5 0)).1
 ·rw [if_pos gv] at hG
  rw [if_pos (by simpa using gv)]
  refine ⟨_, _, rfl, _, rfl, rfl, ?_⟩
  rw [if_pos (by decide)]
  refine ret0 16 (zeros_len 32) hs (i := 3) (.s (.s (.s .z))) ?_
  intro h6 hs
  exact k1 16 hG.symm (by decide) _ hs.drop.drop.drop.drop.drop.drop.drop
 rw [if_neg gv] at hG
 rw [if_neg (by simpa using gv)]
 refine ⟨_, hs.ld (i := 2) (.s (.s .z)) rfl, _, hs.ld (i := 6) (.s (.s (.s (.s (.s (.s .z)))))) rfl, _, rfl, ?_⟩
 refine sLast_sp hs ci.s.s.s.s.s.s.s st.s.s.s.s.s.s.s ?_
 intro h9 hs
 refine ⟨Sat.cs hs (i := 2) (.s (.s .z)) rfl, ?_⟩
 rw [ltI_eq]
 by_cases gl : lastM C.cfg < num4 bs 8
 ·rw [if_pos gl] at hG
  rw [if_pos (by simpa using gl)]
  refine ⟨_, _, rfl, _, rfl, rfl, ?_⟩
  rw [if_pos (by decide)]
  refine ret0 16 (zeros_len 32) hs (i := 3) (.s (.s (.s .z))) ?_
  intro h6 hs
  exact k1 16 hG.symm (by decide) _ hs.drop.drop.drop.drop.drop.drop.drop
 rw [if_neg gl] at hG
 rw [if_neg (by simpa using gl)]
 refine ⟨_, _, rfl, _, rfl, rfl, ?_⟩
 rw [if_neg (by decide), w6]
 apply hJ31
 rw [ltI_eq, if_neg (by decide)]
 refine ⟨_, hs.ld (i := 2) (.s (.s .z)) rfl, _, hs.ld (i := 2) (.s (.s .z)) rfl, _, hs.ld (i := 2) (.s (.s .z)) rfl, _, _, _, hs.ld (i := 2) (.s (.s .z)) rfl, _, htl, img_row hs (.s (.s .z)) htl, ?_⟩
 refine ⟨Sat.can hs (i := 3) (.s (.s (.s .z))) (by simp [zeros]), ?_⟩
 intro h10 e10
 replace hs := Sat.wra (xs := imgL (bs.getD 5 0) (bs.getD 6 0) (num4 bs 8) (subAddr own.1 16 (16 + n) 1, n, n) ((bs.drop (16 + n)).take 32)) hs (i := 3) (.s (.s (.s .z))) e10 (by rw [img_len htl]; rfl)
 clear e10
 simp only [put_succ, put_zero] at hs
 refine ⟨_, hs.ld (i := 3) (.s (.s (.s .z))) rfl, _, hs.ld (i := 3) (.s (.s (.s .z))) rfl, _, hs.ld (i := 3) (.s (.s (.s .z))) rfl, _, _, _, hs.ld (i := 3) (.s (.s (.s .z))) rfl, _, htl, img_row hs (.s (.s (.s .z))) htl, ?_⟩
 exact k2 own n hG hp hnn pl _ (hs.sub (by
  refine List.Sublist.cons_cons _ ?_
  exact (((((List.sublist_cons_self _ _).trans (List.sublist_cons_self _ _)).trans (List.sublist_cons_self _ _)).trans (List.sublist_cons_self _ _)).trans (List.sublist_cons_self _ _)).trans (List.sublist_cons_self _ _)))
end
end Go.Proofs.YteedolonhdbieaaGreatDoor
end
