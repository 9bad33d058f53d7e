/- GateKeeps: what is proved and its parts, laid together by a program of ours: Lw1 Lw2 Lw3 St1 Ly3 St4 Tq2 Tq4 Av Im1 Im2 -/
import Derived.Test.YtaglicdidpgkpaaGreatDoorK12
set_option autoImplicit false
set_option linter.all false
/- The log's laws, plain: records, pages, what one program or one erase leaves. Own work. -/
section
set_option maxRecDepth 100000
set_option linter.unusedVariables false
namespace Go.Proofs.YtaglicdidpgkpaaGreatDoor
open Go Go.Vc

theorem gotI_b (l : List Int) (m : Nat) : ∀ k, (∀ i, i < k → l.getD i 0 = ((m / 2 ^ (8 * i) % 256 : Nat) : Int)) → b64 (gotI l k) = BitVec.ofNat 64 (m % 2 ^ (8 * k))
 | 0, _ => by
  show b64 0 = _
  rw [show m % 2 ^ (8 * 0) = 0 by simp [Nat.mod_one]]; rfl
 | k + 1, h => by
  have ih := gotI_b l m k fun i hi => h i (by omega)
  unfold gotI
  have hb : m / 2 ^ (8 * k) % 256 < 256 := Nat.mod_lt _ (by decide)
  rw [or_i64, ih, wrap_b64i, h k (by omega), wrap_id (by omega)]
  generalize hx : m / 2 ^ (8 * k) % 256 = x at *
  have e1 : b64 ((x : Int) * 2 ^ (8 * k)) = BitVec.ofNat 64 (x * 2 ^ (8 * k)) := by
   have : ((x : Int) * 2 ^ (8 * k)) = ((x * 2 ^ (8 * k) : Nat) : Int) := by push_cast; rfl
   rw [this]
   exact BitVec.ofInt_natCast _ _
  have e2 : m % 2 ^ (8 * (k + 1)) = 2 ^ (8 * k) * x + m % 2 ^ (8 * k) := by
   rw [show 8 * (k + 1) = 8 * k + 8 by omega, Nat.pow_add, Nat.mod_mul, ← hx, Nat.add_comm]
  have hlt : m % 2 ^ (8 * k) < 2 ^ (8 * k) := Nat.mod_lt _ (Nat.pow_pos (by decide))
  rw [e1, e2, Nat.two_pow_add_eq_or_of_lt hlt, BitVec.ofNat_or, BitVec.or_comm, Nat.mul_comm x]
theorem gotI_n {l : List Int} {n : Int} (h0 : 0 ≤ n) (h1 : n ≤ most) (h : ∀ i, i < 8 → l.getD i 0 = byteAt (IntKind.u64.wrap n) i) : gotI l 8 = n := by
 have hm := most_val
 obtain ⟨m, rfl⟩ := Int.eq_ofNat_of_zero_le h0
 have hw : IntKind.u64.wrap (m : Int) = (m : Int) := by rw [wrap_u64']; omega
 have hb := gotI_b l m 8 fun i hi => by
  rw [h i hi, hw]
  unfold byteAt
  have e1 : ((m : Int)).fdiv (2 ^ (8 * i)) = ((m / 2 ^ (8 * i) : Nat) : Int) := by
   rw [Int.fdiv_eq_ediv_of_nonneg _ (Int.le_of_lt (Int.pow_pos (by decide)))]
   push_cast; rfl
  rw [e1, IntKind.wrap_u8]
  omega
 rw [Nat.mod_eq_of_lt (show m < 2 ^ (8 * 8) by simp only [Nat.reduceMul, Nat.reducePow]; omega)] at hb
 have : b64 (gotI l 8) = b64 (m : Int) := hb.trans (BitVec.ofInt_natCast _ _).symm
 have := wrap_of_b64 this
 rw [gotI_range, wrap_id (by omega)] at this
 exact this
theorem laid_n (kind slot : Int) {n : Int} (h0 : 0 ≤ n) (h1 : n ≤ most) : gotI (((laidM kind slot n).drop 4).take 8) 8 = n := by
 refine gotI_n h0 h1 fun i hi => ?_
 have e1 : (((laidM kind slot n).drop 4).take 8).getD i 0 = (laidM kind slot n).getD (4 + i) 0 := by
  simp only [List.getD, List.getElem?_take_of_lt hi, List.getElem?_drop]
 rw [e1, (laid_get kind slot n (4 + i) (by omega)).1]
 unfold bodyM
 rw [if_neg (by omega)]
 unfold bodyF
 rw [if_neg (by omega), if_neg (by omega), if_neg (by omega), if_pos (by omega), show 4 + i - 4 = i by omega]
theorem laid9_0 (kind slot n : Int) : (laidM kind slot n).getD 0 0 = kind := by
 rw [(laid_get kind slot n 0 (by decide)).1]; rfl
theorem laid_1 (kind slot n : Int) : (laidM kind slot n).getD 1 0 = IntKind.u8.wrap slot := by
 rw [(laid_get kind slot n 1 (by decide)).1]; rfl
theorem ffs_0 : ffs.getD 0 0 = 255 := by decide
theorem rec_value {slot n : Int} (s0 : 0 ≤ slot) (s1 : slot ≤ 8) (h0 : 1 ≤ n) (h1 : n ≤ most) : recM (laidM 2 slot n) = (2, slot, n) := by
 unfold recM
 have e := laid_n 2 slot (by omega) h1
 have e0 := laid9_0 2 slot n
 have e1 := laid_1 2 slot n
 rw [wrap_u8_id (by omega)] at e1
 rw [e, e0, e1]
 rw [if_neg (by intro y; have := laid9_0 2 slot n; rw [y, ffs_0] at this; exact absurd this (by decide)), if_neg (by omega), if_neg (by omega), if_neg (by intro y; exact absurd y.1 (by decide)), if_pos ⟨rfl, s1, rfl⟩]
theorem rec_head {n : Int} (h0 : 1 ≤ n) (h1 : n ≤ most) : recM (laidM 1 0 n) = (1, 0, n) := by
 unfold recM
 have e := laid_n 1 0 (by omega) h1
 have e0 := laid9_0 1 0 n
 rw [e, e0]
 rw [if_neg (by intro y; have := laid9_0 1 0 n; rw [y, ffs_0] at this; exact absurd this (by decide)), if_neg (by omega), if_neg (by omega), if_pos ⟨rfl, rfl⟩]
theorem ffs_blank : ffs = blankCell := by decide
theorem rec_blank : recM blankCell = (0, 0, 0) := by unfold recM; rw [if_pos ffs_blank.symm]
theorem rec_zero {x : List Int} (h : (recM x).1 = 0) : x = blankCell := by
 rw [← ffs_blank]
 unfold recM at h
 by_cases e : x = ffs
 ·exact e
 ·rw [if_neg e] at h
  (repeat' split at h) <;> exact absurd h (by simp)

abbrev rk (row : List Int) (k : Nat) : Int × Int × Int := recM (cellAt row k)
theorem ofM_congr {r z : List Int} : ∀ {n : Nat}, (∀ k, k < n → rk r k = rk z k) → ofM r n = ofM z n
 | 0, _ => rfl
 | n + 1, h => by
  have := h n (by omega)
  unfold rk at this
  unfold ofM
  rw [ofM_congr (n := n) fun k hk => h k (by omega), this]
theorem lay_kind0 (I : Inf) (n slot num : Int) : layM I n 0 slot num = I := by
 unfold layM nextM layN
 rw [if_neg (by simp), if_neg (by simp), if_neg (by simp), if_neg (by simp)]
theorem ofM_tail {r : List Int} {m : Nat} : ∀ {n : Nat}, m ≤ n → (∀ k, m ≤ k → k < n → (rk r k).1 = 0) → ofM r n = ofM r m
 | 0, h, _ => by rw [show m = 0 by omega]
 | n + 1, h, hz => by
  by_cases e : m = n + 1
  ·rw [e]
  ·have := hz n (by omega) (by omega)
   unfold rk at this
   show layM _ _ _ _ _ = _
   rw [this, lay_kind0, ofM_tail (n := n) (by omega) fun k h1 h2 => hz k h1 (by omega)]
theorem ofM_next {r : List Int} : ∀ {n : Nat}, n < 2 ^ 60 → ∀ k : Nat, (ofM r n).next ≤ (k : Int) → k < n → (rk r k).1 = 0
 | 0, _, k, _, h => by omega
 | n + 1, hn, k, h, hk => by
  have hb := (ofM_ok r n (by omega)).next
  unfold ofM at h
  unfold layM at h
  rw [layN_next] at h
  unfold nextM at h
  by_cases c : (recM (cellAt r n)).1 = 0
  ·rw [if_neg (by simpa using c)] at h
   by_cases e : k = n
   ·rw [e]; exact c
   ·exact ofM_next (n := n) (by omega) k h (by omega)
  ·rw [if_pos c] at h
   dsimp only at h
   rw [wrap_id (by omega)] at h
   omega
theorem ofM_put {r z : List Int} {l q : Nat} (hq : q < l) (he : ∀ k, k < l → k ≠ q → rk z k = rk r k) (hz : ∀ k, q ≤ k → k < l → (rk r k).1 = 0) :
  ofM z l = layM (ofM r l) q (rk z q).1 (rk z q).2.1 (rk z q).2.2 := by
 have e1 : ofM z l = ofM z (q + 1) := ofM_tail (by omega) fun k h1 h2 => by rw [he k h2 (by omega)]; exact hz k (by omega) h2
 have e2 : ofM r l = ofM r q := ofM_tail (by omega) hz
 rw [e1, e2]
 show layM (ofM z q) _ _ _ _ = _
 rw [ofM_congr (n := q) fun k hk => he k (by omega) (by omega)]
theorem ofM_head {r : List Int} : ∀ {n : Nat}, 1 ≤ n → (ofM r n).head = if (rk r 0).1 = 1 then (rk r 0).2.2 else 0
 | 0, h => by omega
 | 1, _ => by
  show (layM inf0 0 (rk r 0).1 (rk r 0).2.1 (rk r 0).2.2).head = _
  generalize rk r 0 = x
  unfold layM
  have e2 : (nextM inf0 0 x.1).head = 0 := by unfold nextM; split <;> rfl
  generalize nextM inf0 0 x.1 = J at *
  unfold layN
  by_cases c : x.1 = 3
  ·rw [if_pos c, if_neg (by omega)]; exact e2
  rw [if_neg c]
  by_cases d : x.1 = 1
  ·rw [if_pos ⟨d, rfl⟩, if_pos d]
  ·rw [if_neg (fun y => d y.1), if_neg (fun y => absurd y.2 (by decide)), if_neg d]
   exact e2
 | n + 2, _ => by
  rw [← ofM_head (n := n + 1) (by omega)]
  show (layM (ofM r (n + 1)) ((n + 1 : Nat) : Int) _ _ _).head = _
  exact lay_head _ _ _ _ _ (by omega)
theorem lay_nums (I J : Inf) (h : I.nums = J.nums) (n kind slot num : Int) : (layM I n kind slot num).nums = (layM J n kind slot num).nums := by
 unfold layM
 have h2 : (nextM I n kind).nums = (nextM J n kind).nums := by rw [nextM_nums, nextM_nums, h]
 generalize nextM I n kind = I at *
 generalize nextM J n kind = J at *
 unfold layN
 by_cases c : kind = 3
 ·rw [if_pos c, if_pos c]; exact h2
 rw [if_neg c, if_neg c]
 by_cases d : kind = 1 ∧ n = 0
 ·rw [if_pos d, if_pos d]; exact h2
 rw [if_neg d, if_neg d]
 by_cases e : kind = 2 ∧ 0 < n
 ·rw [if_pos e, if_pos e, h2]
 ·rw [if_neg e, if_neg e]; exact h2
theorem lay_nums0 (I : Inf) (kind slot num : Int) : (layM I 0 kind slot num).nums = I.nums := by
 unfold layM
 have h2 := nextM_nums I 0 kind
 generalize nextM I 0 kind = J at *
 unfold layN
 rw [← h2]
 by_cases c : kind = 3
 ·rw [if_pos c]
 rw [if_neg c]
 by_cases d : kind = 1
 ·rw [if_pos ⟨d, rfl⟩]
 ·rw [if_neg (fun y => d y.1), if_neg (fun y => absurd y.2 (by decide))]
theorem ofM_nums {r z : List Int} : ∀ {n : Nat}, (∀ k, 1 ≤ k → k < n → rk r k = rk z k) → (ofM r n).nums = (ofM z n).nums
 | 0, _ => rfl
 | n + 1, h => by
  have ih := ofM_nums (n := n) fun k h1 h2 => h k h1 (by omega)
  show (layM (ofM r n) _ (rk r n).1 (rk r n).2.1 (rk r n).2.2).nums = (layM (ofM z n) _ (rk z n).1 (rk z n).2.1 (rk z n).2.2).nums
  by_cases e : n = 0
  ·subst e
   rw [show ((0 : Nat) : Int) = 0 from rfl, lay_nums0, lay_nums0, ih]
  ·rw [h n (by omega) (by omega)]
   exact lay_nums _ _ ih _ _ _ _
theorem lay_value (I : Inf) {q : Int} (hq : 0 < q) (slot num : Int) : (layM I q 2 slot num).nums = I.nums.set slot.toNat (if num > I.nums.getD slot.toNat 0 then num else I.nums.getD slot.toNat 0) := by
 unfold layM
 have h2 := nextM_nums I q 2
 generalize nextM I q 2 = J at *
 unfold layN
 rw [if_neg (by decide), if_neg (fun y => absurd y.1 (by decide)), if_pos ⟨rfl, hq⟩, h2]

def sndU (u : Bool) (C : Cm) : Prop :=
 match u with
 | true => C.left < 0
 | false => ∀ x, x < 2 → soundM (C.pg x) C.cfg.cells.toNat
theorem act_left {C : Cm} (h : C.left < 0) : C.act.left < 0 := by
 unfold Cm.act
 rw [if_pos (by omega)]
 show (if C.left - 1 > -1 then C.left - 1 else (-1 : Int)) < 0
 rw [if_neg (by omega)]
 decide
theorem prog_stp {u : Bool} {C : Cm} (ok : C.ok) (ho : C.out = false) {t q : Nat} (ht : t < 2) (hq : q < C.cfg.cells.toNat) {kind slot n : Int} (hk : isByte kind) (snd : sndU u C) (hbl : (rk (C.pg t) q).1 = 0) :
  ∃ D : Cm, programM C (t : Int) (q : Int) (laidM kind slot n) = (D, errM C) ∧ D.ok ∧ D.cfg = C.cfg ∧ D.s.erases = C.s.erases ∧ D.acts = w64 (C.acts + 1) ∧ (∀ x, x ≠ t → D.pg x = C.pg x) ∧ sndU u D ∧
   (∀ k, k < C.cfg.cells.toNat → k ≠ q → rk (D.pg t) k = rk (C.pg t) k) ∧ ((rk (D.pg t) q).1 = 0 ∨ (rk (D.pg t) q).1 = 3 ∨ rk (D.pg t) q = recM (laidM kind slot n)) ∧
   (C.left ≠ 0 → D.out = false ∧ rk (D.pg t) q = recM (laidM kind slot n)) ∧ (C.left = 0 → D.out = true) := by
 obtain ⟨hp2, he2⟩ := ok_pages ok
 have hj : t < C.s.pages.length := by omega
 have epg : C.pg t = C.s.pages[t] := by unfold Cm.pg; simp [List.getD, List.getElem?_eq_getElem hj]
 have hmem : C.pg t ∈ C.s.pages := by rw [epg]; exact List.getElem_mem hj
 have hcells := ok.may.cells
 have hlen : (C.pg t).length = C.cfg.cells.toNat * 32 := by have := ok.fits.cells _ hmem; omega
 have hbytes := ok.typed.bytes _ hmem
 have hXl := laidM_length kind slot n
 have hcb := rec_zero hbl
 have ec : asksCellM C (t : Int) (q : Int) = 0 := by
  unfold asksCellM
  rw [askedM_in ho (by omega) (by omega), if_neg (by simp), askedM_in ho (by omega) (by omega)]
 have hro : rowOf C (t : Int) = C.pg t := by unfold rowOf Cm.pg; rw [Int.toNat_natCast]
 unfold programM
 rw [ec, if_neg (by simp), Int.toNat_natCast, Int.toNat_natCast, hro]
 have half := fun sd : soundM (C.pg t) C.cfg.cells.toNat => half_prog (slot := slot) (n := n) (maskAt C) hk hlen hbytes sd hq hcb
 have full1 : C.left ≠ 0 → maskAt C = fun _ => 255 := fun hl => by funext i; unfold maskAt; rw [if_pos hl]
 have hplq : (q + 1) * 32 ≤ (C.pg t).length := by rw [hlen]; exact Nat.mul_le_mul_right 32 hq
 have hXb : bytesOk (laidM kind slot n) := tab_bytes fun k => by
  split
  ·exact bodyM_byte hk _
  ·exact byte_bits _ _ _
 have hpc : ∀ f, (progCell (cellAt (C.pg t) q) (laidM kind slot n) f).length = 32 := fun f => progCell_length _ _ _ (by rw [hcb]; simp [blankCell])
 have hfull : rk (rowSet (C.pg t) q (progCell (cellAt (C.pg t) q) (laidM kind slot n) fun _ => 255)) q = recM (laidM kind slot n) := by
  unfold rk
  rw [rowSet_same hplq (hpc _), hcb, prog_whole hXl hXb]
 have hpg : ∀ r, (C.act.setPage t r).pg t = r := fun r => getD_put _ _ _ _ (by rw [act_s]; exact hj)
 have hpgo : ∀ r x, x ≠ t → (C.act.setPage t r).pg x = C.pg x := by
  intro r x hx
  show (C.act.s.pages.set t _).getD x [] = C.s.pages.getD x []
  simp only [List.getD, List.getElem?_set_ne (Ne.symm hx), act_s]
 have hrl := rowSet_length hplq (hpc (maskAt C))
 have hother : ∀ f k, k < C.cfg.cells.toNat → k ≠ q → rk (rowSet (C.pg t) q (progCell (cellAt (C.pg t) q) (laidM kind slot n) f)) k = rk (C.pg t) k := by
  intro f k hk' hne
  unfold rk
  rw [rowSet_other hplq (by rw [hlen]; exact Nat.mul_le_mul_right 32 hk') (hpc _) hne]
 refine ⟨_, rfl, ?_, act_cfg C, ?_, ?_, hpgo _, ?_, ?_, ?_, ?_, ?_⟩
 ·refine Cm.ok.setPage ok.act ?_ ?_
  ·rw [act_cfg, hrl, hlen]; omega
  ·intro v hv
   rcases rowSet_mem hv with h | h
   ·exact hbytes v h
   ·unfold progCell at h
    exact mapTo_mem (P := isByte) (fun v h => hbytes v (cellAt_mem h)) (fun _ _ _ => byte_bits _ _ _) v h
 ·show C.act.s.erases = _; rw [act_s]
 ·show C.act.acts = _
  unfold Cm.act; split <;> rfl
 ·cases u with
  | true => exact act_left (C := C) snd
  | false =>
   have hc : (C.act.setPage t (rowSet (C.pg t) q (progCell (cellAt (C.pg t) q) (laidM kind slot n) (maskAt C)))).cfg = C.cfg := act_cfg C
   show ∀ x, x < 2 → soundM _ _
   rw [hc]
   intro x hx
   by_cases e : x = t
   ·rw [e, hpg]; exact (half (snd t ht)).1
   ·rw [hpgo _ _ e]; exact snd x hx
 ·intro k h5 h6
  rw [hpg]; exact hother _ k h5 h6
 ·rw [hpg]
  cases u with
  | true =>
   have hl : C.left < 0 := snd
   rw [full1 (by omega)]
   exact Or.inr (Or.inr hfull)
  | false =>
   rcases ((half (snd t ht)).2 q hq).2 with h | h | h
   ·exact Or.inl h
   ·exact Or.inr (Or.inl h)
   ·refine Or.inr (Or.inr ?_)
    unfold rk
    rw [h]; exact hfull
 ·intro hl
  refine ⟨act_out ho hl, ?_⟩
  rw [hpg, full1 hl]; exact hfull
 ·intro hl
  show C.act.out = true
  unfold Cm.act
  rw [if_neg (by simpa using hl)]
theorem erase_stp {u : Bool} {C : Cm} (ok : C.ok) (ho : C.out = false) {t : Nat} (ht : t < 2) (hw : C.er t < C.cfg.erases) (snd : sndU u C) :
  ∃ D : Cm, eraseM C (t : Int) = (D, errM C) ∧ D.ok ∧ D.cfg = C.cfg ∧ D.er t = C.er t + 1 ∧ (∀ x, x ≠ t → D.er x = C.er x) ∧ D.acts = w64 (C.acts + 1) ∧ (∀ x, x ≠ t → D.pg x = C.pg x) ∧ sndU u D ∧
   (∀ k, k < C.cfg.cells.toNat → (rk (D.pg t) k).1 = 0 ∨ (rk (D.pg t) k).1 = 3 ∨ rk (D.pg t) k = rk (C.pg t) k) ∧
   (C.left ≠ 0 → D.out = false ∧ ∀ k, k < C.cfg.cells.toNat → (rk (D.pg t) k).1 = 0) ∧ (C.left = 0 → D.out = true) := by
 obtain ⟨hp2, he2⟩ := ok_pages ok
 have hj : t < C.s.pages.length := by omega
 have hje : t < C.s.erases.length := by omega
 have epg : C.pg t = C.s.pages[t] := by unfold Cm.pg; simp [List.getD, List.getElem?_eq_getElem hj]
 have hmem : C.pg t ∈ C.s.pages := by rw [epg]; exact List.getElem_mem hj
 have hcells := ok.may.cells
 have hlen : (C.pg t).length = C.cfg.cells.toNat * 32 := by have := ok.fits.cells _ hmem; omega
 have hbytes := ok.typed.bytes _ hmem
 have hro : rowOf C (t : Int) = C.pg t := by unfold rowOf Cm.pg; rw [Int.toNat_natCast]
 have hme := ok.may.erases
 have hms := ok.may.slots
 unfold eraseM
 rw [askedM_in ho (by omega) (by omega), if_neg (by simp), Int.toNat_natCast, hro]
 unfold Cm.er at hw
 rw [if_neg (by omega)]
 have full1 : C.left ≠ 0 → maskAt C = fun _ => 255 := fun hl => by funext i; unfold maskAt; rw [if_pos hl]
 have hblank : ∀ k, k < C.cfg.cells.toNat → (rk (eraseRow (C.pg t) fun _ => 255) k).1 = 0 := by
  intro k hk
  have e : cellAt (eraseRow (C.pg t) fun _ => 255) k = ffs := by
   have hl2 : (eraseRow (C.pg t) fun _ => 255).length = C.cfg.cells.toNat * 32 := by unfold eraseRow mapTo; rw [List.length_mapIdx, hlen]
   have hk32 : (k + 1) * 32 ≤ (eraseRow (C.pg t) fun _ => 255).length := by rw [hl2]; exact Nat.mul_le_mul_right 32 hk
   refine ext_getD (by rw [cellAt_length hk32]; rfl) fun i hi => ?_
   rw [cellAt_length hk32] at hi
   rw [cellAt_getD _ _ _ hi]
   unfold eraseRow
   rw [mapTo_getD _ _ _ _ (by omega) (by omega), full_or]
   unfold ffs
   rw [tab_getD _ hi]
  unfold rk
  rw [e, ffs_blank, rec_blank]
 have half := fun sd : soundM (C.pg t) C.cfg.cells.toNat => half_erase (maskAt C) hlen hbytes sd
 have hrange := ok.typed.erases (C.s.erases.getD t 0) (by
  have : C.s.erases.getD t 0 = C.s.erases[t] := by simp [List.getD, List.getElem?_eq_getElem hje]
  rw [this]; exact List.getElem_mem hje)
 have hpg : ∀ n r, ((C.act.setErase t n).setPage t r).pg t = r := fun n r => getD_put _ _ _ _ (by show t < C.act.s.pages.length; rw [act_s]; exact hj)
 have hpgo : ∀ n r x, x ≠ t → ((C.act.setErase t n).setPage t r).pg x = C.pg x := by
  intro n r x hx
  show (C.act.s.pages.set t _).getD x [] = C.s.pages.getD x []
  simp only [List.getD, List.getElem?_set_ne (Ne.symm hx), act_s]
 refine ⟨_, rfl, ?_, act_cfg C, ?_, ?_, ?_, hpgo _ _, ?_, ?_, ?_, ?_⟩
 ·refine Cm.ok.setPage (ok.act.setErase (by omega)) ?_ ?_
  ·show _ = 32 * C.act.cfg.cells
   rw [act_cfg]
   unfold eraseRow mapTo
   rw [List.length_mapIdx, hlen]; omega
  ·intro v hv
   unfold eraseRow at hv
   exact mapTo_mem (P := isByte) (fun v h => hbytes v h) (fun _ _ _ => byte_bits _ _ _) v hv
 ·show (C.act.s.erases.set t _).getD t 0 = _
  exact getD_put _ _ _ _ (by rw [act_s]; exact hje)
 ·intro x hx
  show (C.act.s.erases.set t _).getD x 0 = C.s.erases.getD x 0
  simp only [List.getD, List.getElem?_set_ne (Ne.symm hx), act_s]
 ·show C.act.acts = _
  unfold Cm.act; split <;> rfl
 ·cases u with
  | true => exact act_left (C := C) snd
  | false =>
   have hc : ((C.act.setErase t (C.s.erases.getD t 0 + 1)).setPage t (eraseRow (C.pg t) (maskAt C))).cfg = C.cfg := act_cfg C
   show ∀ x, x < 2 → soundM _ _
   rw [hc]
   intro x hx
   by_cases e : x = t
   ·rw [e, hpg]; exact (half (snd t ht)).1
   ·rw [hpgo _ _ _ e]; exact snd x hx
 ·intro k h5
  rw [hpg]
  cases u with
  | true =>
   have hl : C.left < 0 := snd
   rw [full1 (by omega)]
   exact Or.inl (hblank k h5)
  | false => exact (half (snd t ht)).2 k h5
 ·intro hl
  refine ⟨act_out ho hl, fun k hk => ?_⟩
  rw [hpg, full1 hl]
  exact hblank k hk
 ·intro hl
  show C.act.out = true
  unfold Cm.act
  rw [if_neg (by simpa using hl)]
end Go.Proofs.YtaglicdidpgkpaaGreatDoor
end

/- The log's laws, plain: a turn, a lay. Own work. -/
section
set_option maxRecDepth 100000
set_option linter.unusedVariables false
namespace Go.Proofs.YtaglicdidpgkpaaGreatDoor
open Go Go.Vc

abbrev nof (C : Cm) (t k : Nat) : Int := (pI C t).nums.getD k 0
abbrev numOf (C : Cm) (k : Nat) : Int := (infoM C).nums.getD k 0
abbrev lOf (C : Cm) : Nat := C.cfg.cells.toNat
section
variable {u : Bool}
theorem w64_id {n : Int} (h0 : 0 ≤ n) (h1 : n < 2 ^ 61) : w64 n = n := by unfold w64; rw [IntKind.wrap_i64]; omega
theorem errM_cases (C : Cm) : (errM C = 0 ∧ C.left ≠ 0) ∨ (errM C = 8 ∧ C.left = 0) := by
 unfold errM
 by_cases c : C.left ≠ 0
 ·rw [if_pos c]; exact Or.inl ⟨rfl, c⟩
 ·rw [if_neg c]; exact Or.inr ⟨rfl, by simpa using c⟩
structure Part (u : Bool) (C D : Cm) (t m : Nat) (e : Int) : Prop where
 ok : D.ok
 cfg : D.cfg = C.cfg
 pgs : ∀ y, y ≠ t → D.pg y = C.pg y
 snd : sndU u D
 ec : e = 0 ∨ e = 8
 out0 : e = 0 → D.out = false
 out8 : e = 8 → D.out = true
 acts : 0 ≤ C.acts → C.acts + m < 2 ^ 60 → C.acts ≤ D.acts ∧ D.acts ≤ C.acts + m
 un : u = true → e = 0
theorem Part.trans {C D E : Cm} {t m n : Nat} {e : Int} (a : Part u C D t m 0) (b : Part u D E t n e) : Part u C E t (m + n) e :=
 ⟨b.ok, b.cfg.trans a.cfg, fun y h => (b.pgs y h).trans (a.pgs y h), b.snd, b.ec, b.out0, b.out8, fun h1 h2 => by
  have := a.acts h1 (by omega)
  have := b.acts (by omega) (by omega)
  omega, b.un⟩
theorem Part.more {C D : Cm} {t m n : Nat} {e : Int} (a : Part u C D t m e) (h : m ≤ n) : Part u C D t n e :=
 ⟨a.ok, a.cfg, a.pgs, a.snd, a.ec, a.out0, a.out8, fun h1 h2 => by have := a.acts h1 (by omega); omega, a.un⟩
theorem Part.refl {C : Cm} (ok : C.ok) (ho : C.out = false) (snd : sndU u C) (t : Nat) : Part u C C t 0 0 :=
 ⟨ok, rfl, fun _ _ => rfl, snd, Or.inl rfl, fun _ => ho, fun h => absurd h (by decide), fun _ _ => by omega, fun _ => rfl⟩
theorem errM_un {C : Cm} (snd : sndU u C) : u = true → errM C = 0 := by
 intro hu
 subst hu
 have : C.left < 0 := snd
 unfold errM
 rw [if_pos (by omega)]
theorem prog_part {C : Cm} (ok : C.ok) (ho : C.out = false) {t q : Nat} (ht : t < 2) (hq : q < lOf C) {kind slot n : Int} (hk : isByte kind) (snd : sndU u C) (hbl : (rk (C.pg t) q).1 = 0) :
  ∃ D e, programM C (t : Int) (q : Int) (laidM kind slot n) = (D, e) ∧ Part u C D t 1 e ∧ (∀ x, D.er x = C.er x) ∧ (∀ k, k < lOf C → k ≠ q → rk (D.pg t) k = rk (C.pg t) k) ∧
   ((rk (D.pg t) q).1 = 0 ∨ (rk (D.pg t) q).1 = 3 ∨ rk (D.pg t) q = recM (laidM kind slot n)) ∧ (e = 0 → rk (D.pg t) q = recM (laidM kind slot n)) ∧ (0 ≤ C.acts → C.acts < 2 ^ 60 → D.acts = C.acts + 1) := by
 obtain ⟨D, h1, h2, h3, h4, h5, h6, h7, h8, h9, h10, h11⟩ := prog_stp ok ho ht hq (slot := slot) (n := n) hk snd hbl
 have ha : 0 ≤ C.acts → C.acts < 2 ^ 60 → D.acts = C.acts + 1 := fun a b => by rw [h5, w64_id (by omega) (by omega)]
 refine ⟨D, _, h1, ⟨h2, h3, h6, h7, ?_, ?_, ?_, ?_, errM_un snd⟩, fun x => by unfold Cm.er; rw [h4], h8, h9, ?_, ha⟩
 ·rcases errM_cases C with ⟨e, _⟩ | ⟨e, _⟩
  ·exact Or.inl e
  ·exact Or.inr e
 ·intro e
  rcases errM_cases C with ⟨_, c⟩ | ⟨e', _⟩
  ·exact (h10 c).1
  ·rw [e'] at e; exact absurd e (by decide)
 ·intro e
  rcases errM_cases C with ⟨e', _⟩ | ⟨_, c⟩
  ·rw [e'] at e; exact absurd e (by decide)
  ·exact h11 c
 ·intro a b
  rw [ha a (by omega)]; omega
 ·intro e
  rcases errM_cases C with ⟨_, c⟩ | ⟨e', _⟩
  ·exact (h10 c).2
  ·rw [e'] at e; exact absurd e (by decide)
theorem value_laid {x : Nat} {v : Int} (hx : x ≤ 8) (h1 : 1 ≤ v) (h2 : v ≤ most) : (valueM (x : Int) v).1 = laidM 2 (x : Int) v := by
 unfold valueM
 rw [if_neg (by omega), if_neg (by omega), if_neg (by omega), if_neg (by omega)]
theorem head_laid {g : Int} (h1 : 1 ≤ g) (h2 : g ≤ most) : (headM g).1 = laidM 1 0 g := by
 unfold headM
 rw [if_neg (by omega), if_neg (by omega)]
theorem put_nums {r z : List Int} {l q x : Nat} {v : Int} (hq : q < l) (hq1 : 1 ≤ q) (he : ∀ k, k < l → k ≠ q → rk z k = rk r k) (hz : ∀ k, q ≤ k → k < l → (rk r k).1 = 0) (hx : x ≤ 8) (h1 : 1 ≤ v) (h2 : v ≤ most)
  (hv : (ofM r l).nums.getD x 0 < v) (hr : (rk z q).1 = 0 ∨ (rk z q).1 = 3 ∨ rk z q = recM (laidM 2 (x : Int) v)) :
  ((ofM z l).nums = (ofM r l).nums ∨ (ofM z l).nums = (ofM r l).nums.set x v) ∧ (rk z q = recM (laidM 2 (x : Int) v) → (ofM z l).nums = (ofM r l).nums.set x v) ∧ (ofM z l).head = (ofM r l).head := by
 have e := ofM_put hq he hz
 have full : rk z q = recM (laidM 2 (x : Int) v) → (ofM z l).nums = (ofM r l).nums.set x v := by
  intro c
  rw [e, c, rec_value (by omega) (by omega) h1 h2]
  rw [lay_value _ (by omega), Int.toNat_natCast, if_pos hv]
 refine ⟨?_, full, ?_⟩
 ·rcases hr with h | h | h
  ·left; rw [e]; exact (lay_idle _ _ _ _ _ (Or.inl h)).1
  ·left; rw [e]; exact (lay_idle _ _ _ _ _ (Or.inr h)).1
  ·exact Or.inr (full h)
 ·rw [e]; exact lay_head _ _ _ _ _ (by omega)
theorem turnP_law {t : Nat} (ht : t < 2) {nums : List Int} (hnl : nums.length = 9) (hnb : ∀ k, 0 ≤ nums.getD k 0 ∧ nums.getD k 0 ≤ most) : ∀ (m x at_ : Nat) (C : Cm), C.ok → C.out = false → sndU u C → 1 ≤ at_ → at_ + m ≤ lOf C → x + m ≤ 9 →
  (rk (C.pg t) 0).1 = 0 → (∀ k, at_ ≤ k → k < lOf C → (rk (C.pg t) k).1 = 0) → (∀ k, k < x → nof C t k = nums.getD k 0) → (∀ k, x ≤ k → nof C t k = 0) →
  ∃ D e, turnP (t : Int) nums m x at_ C = (D, e) ∧ Part u C D t m e ∧ (∀ y, D.er y = C.er y) ∧ (rk (D.pg t) 0).1 = 0 ∧ (∃ at2, 1 ≤ at2 ∧ at2 ≤ at_ + m ∧ ∀ k, at2 ≤ k → k < lOf C → (rk (D.pg t) k).1 = 0) ∧
   (e = 0 → ∀ k, k < x + m → nof D t k = nums.getD k 0)
 | 0, x, at_, C, ok, ho, snd, h1, h2, h3, h4, h5, h6, h7 => ⟨C, 0, rfl, Part.refl ok ho snd t, fun _ => rfl, h4, ⟨at_, h1, by omega, h5⟩, fun _ => by simpa using h6⟩
 | m + 1, x, at_, C, ok, ho, snd, h1, h2, h3, h4, h5, h6, h7 => by
  unfold turnP
  by_cases gz : nums.getD x 0 = 0
  ·rw [if_pos gz]
   obtain ⟨D, e, d1, d2, d3, d4, ⟨a2, d5, d6, d7⟩, d8⟩ := turnP_law ht hnl hnb m (x + 1) at_ C ok ho snd h1 (by omega) (by omega) h4 h5 (by
    intro k hk
    by_cases c : k < x
    ·exact h6 k c
    ·rw [show k = x by omega, gz]; exact h7 x (by omega)) (fun k hk => h7 k (by omega))
   exact ⟨D, e, d1, d2.more (by omega), d3, d4, ⟨a2, d5, by omega, d7⟩, fun he k hk => d8 he k (by omega)⟩
  rw [if_neg gz]
  have hb := hnb x
  rw [value_laid (by omega) (by omega) hb.2]
  have hat : at_ < lOf C := by omega
  obtain ⟨D, e, p1, p2, p3, p4, p5, p6, _⟩ := prog_part ok ho ht hat (kind := 2) (slot := (x : Int)) (n := nums.getD x 0) ⟨by decide, by decide⟩ snd (h5 at_ (by omega) hat)
  rw [p1]
  have hlo : lOf D = lOf C := by show D.cfg.cells.toNat = _; rw [p2.cfg]
  have hz0 : (rk (D.pg t) 0).1 = 0 := by rw [p4 0 (by omega) (by omega)]; exact h4
  by_cases he : e = 0
  ·subst he
   rw [if_neg (by simp)]
   obtain ⟨q1, q2, q3⟩ := put_nums (r := C.pg t) (z := D.pg t) hat h1 p4 h5 (x := x) (by omega) (by omega) hb.2 (by have := h7 x (by omega); have : (ofM (C.pg t) (lOf C)).nums.getD x 0 = 0 := this; omega) p5
   have q4 := q2 (p6 rfl)
   have hnof : ∀ k, nof D t k = if x = k ∧ k < 9 then nums.getD x 0 else nof C t k := by
    intro k
    show (ofM (D.pg t) (lOf D)).nums.getD k 0 = _
    rw [hlo, q4, set_getD, ofM_len]
    rfl
   obtain ⟨E, e2, d1, d2, d3, d4, ⟨a2, d5, d6, d7⟩, d8⟩ := turnP_law ht hnl hnb m (x + 1) (at_ + 1) D p2.ok (p2.out0 rfl) p2.snd (by omega) (by omega) (by omega) hz0
    (fun k k1 k2 => by rw [hlo] at k2; rw [p4 k k2 (by omega)]; exact h5 k (by omega) k2)
    (by
     intro k hk
     rw [hnof]
     by_cases c : x = k
     ·rw [if_pos ⟨c, by omega⟩, c]
     ·rw [if_neg (fun y => c y.1)]; exact h6 k (by omega))
    (by
     intro k hk
     rw [hnof, if_neg (by omega)]; exact h7 k (by omega))
   exact ⟨E, e2, d1, (p2.trans d2).more (by omega), fun y => (d3 y).trans (p3 y), d4, ⟨a2, d5, by omega, by rw [← hlo]; exact d7⟩, fun he k hk => d8 he k (by omega)⟩
  ·rw [if_pos he]
   exact ⟨D, e, rfl, p2.more (by omega), p3, hz0, ⟨at_ + 1, by omega, by omega, fun k k1 k2 => by rw [p4 k k2 (by omega)]; exact h5 k (by omega) k2⟩, fun y => absurd y he⟩
theorem head_of (C : Cm) (t : Nat) (hl : 1 ≤ lOf C) : (pI C t).head = if (rk (C.pg t) 0).1 = 1 then (rk (C.pg t) 0).2.2 else 0 := ofM_head hl
theorem blank_inf {r : List Int} {n : Nat} (h : ∀ k, k < n → (rk r k).1 = 0) : ofM r n = inf0 := by
 have := ofM_tail (r := r) (m := 0) (n := n) (by omega) fun k _ hk => h k hk
 exact this
theorem turnA_law {t : Nat} (ht : t < 2) {nums : List Int} (hnl : nums.length = 9) (hnb : ∀ k, 0 ≤ nums.getD k 0 ∧ nums.getD k 0 ≤ most) {m : Nat} {C : Cm} {g : Int} (ok : C.ok) (ho : C.out = false) (snd : sndU u C) (hm : 1 + m ≤ lOf C) (hm9 : m ≤ 9) (g0 : 0 ≤ g) (g1 : g < most)
  (hbl : ∀ k, k < lOf C → (rk (C.pg t) k).1 = 0) :
  ∃ D e, turnA g (t : Int) nums m C = (D, e) ∧ Part u C D t (m + 1) e ∧ (∀ y, D.er y = C.er y) ∧ ((pI D t).head = 0 ∨ ((pI D t).head = g + 1 ∧ ∀ k, k < m → nof D t k = nums.getD k 0)) ∧ (e = 0 → (pI D t).head = g + 1) ∧
   (∀ k, 1 + m ≤ k → k < lOf C → (rk (D.pg t) k).1 = 0) := by
 have hz : ∀ k, nof C t k = 0 := by
  intro k
  show (ofM (C.pg t) (lOf C)).nums.getD k 0 = 0
  rw [blank_inf hbl]
  show (zeros 9).getD k 0 = 0
  rw [List.getD_eq_getElem?_getD]
  unfold zeros
  rw [List.getElem?_replicate]; split <;> rfl
 obtain ⟨D, e, d1, d2, d3, d4, ⟨a2, d5, d6, d7⟩, d8⟩ := turnP_law ht hnl hnb m 0 1 C ok ho snd (by omega) (by omega) (by omega) (hbl 0 (by omega)) (fun k _ h => hbl k h) (fun k h => absurd h (by omega)) (fun k _ => hz k)
 have hlo : lOf D = lOf C := by show D.cfg.cells.toNat = _; rw [d2.cfg]
 unfold turnA
 rw [d1]
 by_cases he : e = 0
 ·subst he
  rw [if_neg (by simp), head_laid (by omega) (by omega)]
  obtain ⟨E, e2, p1, p2, p3, p4, p5, p6, _⟩ := prog_part d2.ok (d2.out0 rfl) ht (q := 0) (by omega) (kind := 1) (slot := 0) (n := g + 1) ⟨by decide, by decide⟩ d2.snd d4
  have hlo2 : lOf E = lOf C := by show E.cfg.cells.toNat = _; rw [p2.cfg]; exact hlo
  have hrec := rec_head (n := g + 1) (by omega) (by omega)
  have hnum : ∀ k, nof E t k = nof D t k := by
   intro k
   show (ofM (E.pg t) (lOf E)).nums.getD k 0 = (ofM (D.pg t) (lOf D)).nums.getD k 0
   rw [hlo2, hlo, ofM_nums (r := E.pg t) (z := D.pg t) fun k h1 h2 => p4 k (by omega) (by omega)]
  have hfull : rk (E.pg t) 0 = recM (laidM 1 0 (g + 1)) → (pI E t).head = g + 1 := by
   intro c
   rw [head_of E t (by omega), c, hrec, if_pos rfl]
  refine ⟨E, e2, p1, d2.trans p2, fun y => (p3 y).trans (d3 y), ?_, fun h => hfull (p6 h), ?_⟩
  ·rcases p5 with c | c | c
   ·left; rw [head_of E t (by omega), if_neg (by omega)]
   ·left; rw [head_of E t (by omega), if_neg (by omega)]
   ·right; exact ⟨hfull c, fun k hk => by rw [hnum]; exact d8 rfl k (by omega)⟩
  ·intro k k1 k2
   rw [p4 k (by omega) (by omega)]
   exact d7 k (by omega) k2
 ·rw [if_pos he]
  refine ⟨D, e, rfl, d2.more (by omega), d3, Or.inl ?_, fun y => absurd y he, fun k k1 k2 => d7 k (by omega) k2⟩
  rw [head_of D t (by omega), if_neg (by omega)]
structure Turned (u : Bool) (C D : Cm) (t : Nat) (nums : List Int) (e : Int) : Prop where
 part : Part u C D t (C.cfg.slots.toNat + 3) e
 ero : ∀ y, y ≠ t → D.er y = C.er y
 ert : D.er t = C.er t ∨ (D.er t = C.er t + 1 ∧ C.er t < C.cfg.erases)
 erb : (pI C t).blank = true → D.er t = C.er t
 ern : (pI C t).blank = false → D.er t = C.er t + 1
 head : (pI D t).head = 0 ∨ (pI D t).head = (pI C t).head ∨ ((pI D t).head = (infoM C).head + 1 ∧ ∀ k : Nat, (k : Int) ≤ C.cfg.slots → nof D t k = nums.getD k 0)
 headf : e = 0 → (pI D t).head = (infoM C).head + 1 ∧ ∀ k : Nat, (k : Int) ≤ C.cfg.slots → nof D t k = nums.getD k 0
 free : e = 0 → ∀ k : Nat, C.cfg.slots.toNat + 2 ≤ k → k < lOf C → (rk (D.pg t) k).1 = 0
theorem turn_law {C : Cm} {slot : Nat} {n : Int} (ok : C.ok) (ho : C.out = false) (snd : sndU u C) (hs : (slot : Int) ≤ C.cfg.slots) (hn1 : 1 ≤ n) (hn2 : n ≤ most) (hw : wornF C = false) :
  ∃ D e, turnL C slot n = (D, e) ∧ Turned u C D (tgtM C) ((infoM C).nums.set slot n) e := by
 have ht := tgt_lt C
 have iok := infoM_ok ok
 have ilen := infoM_len C
 have hmay := ok.may.slots
 have hcells := ok.may.cells
 unfold wornF at hw
 rw [Bool.or_eq_false_iff, decide_eq_false_iff_not] at hw
 obtain ⟨w1, w2⟩ := hw
 unfold turnL
 obtain ⟨t, htd⟩ : ∃ t, t = tgtM C := ⟨_, rfl⟩
 rw [← htd] at ht w1 ⊢
 have hnl : ((infoM C).nums.set slot n).length = 9 := by rw [List.length_set, ilen]
 have hnb : ∀ x, 0 ≤ ((infoM C).nums.set slot n).getD x 0 ∧ ((infoM C).nums.set slot n).getD x 0 ≤ most := by
  intro x
  rw [set_getD]
  split
  ·omega
  ·exact iok.nums x
 generalize (infoM C).nums.set slot n = nums at *
 obtain ⟨m, hm⟩ : ∃ m, m = (C.cfg.slots + 1).toNat := ⟨_, rfl⟩
 have hl : lOf C = C.cfg.cells.toNat := rfl
 rw [← hm]
 by_cases g : (pI C t).blank = true
 ·rw [if_pos g]
  have gz : (ofM (C.pg t) (lOf C)).next = 0 := by
   have : decide ((ofM (C.pg t) (lOf C)).next = 0) = true := g
   exact of_decide_eq_true this
  obtain ⟨D, e, d1, d2, d3, d4, d5, d6⟩ := turnA_law ht hnl hnb ok ho snd (m := m) (g := (infoM C).head) (by omega) (by omega) iok.head.1 (by omega) (fun k hk => ofM_next (by omega) k (by omega) hk)
  refine ⟨D, e, d1, d2.more (by omega), fun y _ => d3 y, Or.inl (d3 t), fun _ => d3 t, fun y => absurd (y.symm.trans g) (by decide), ?_, ?_, fun _ k k1 k2 => d6 k (by omega) k2⟩
  ·rcases d4 with c | ⟨c, c2⟩
   ·exact Or.inl c
   ·exact Or.inr (Or.inr ⟨c, fun k hk => c2 k (by omega)⟩)
  ·intro h
   have := d5 h
   rcases d4 with c | ⟨c, c2⟩
   ·have := iok.head.1; omega
   ·exact ⟨c, fun k hk => c2 k (by omega)⟩
 ·have g' : (pI C t).blank = false := by simpa using g
  rw [if_neg g]
  have hwe : C.er t < C.cfg.erases := by
   rw [g'] at w1
   simpa using w1
  obtain ⟨D, h1, h2, h3, h4, h5, h6, h7, h8, h9, h10, h11⟩ := erase_stp ok ho ht hwe snd
  have hpart : Part u C D t 1 (errM C) := by
   refine ⟨h2, h3, h7, h8, ?_, ?_, ?_, ?_, errM_un snd⟩
   ·rcases errM_cases C with ⟨e, _⟩ | ⟨e, _⟩
    ·exact Or.inl e
    ·exact Or.inr e
   ·intro e
    rcases errM_cases C with ⟨_, c⟩ | ⟨e', _⟩
    ·exact (h10 c).1
    ·rw [e'] at e; exact absurd e (by decide)
   ·intro e
    rcases errM_cases C with ⟨e', _⟩ | ⟨_, c⟩
    ·rw [e'] at e; exact absurd e (by decide)
    ·exact h11 c
   ·intro a b
    rw [h6, w64_id (by omega) (by omega)]; omega
  have hlo : lOf D = lOf C := by show D.cfg.cells.toNat = _; rw [h3]
  rw [h1]
  rcases errM_cases C with ⟨e', hl0⟩ | ⟨e', hl0⟩
  ·rw [e'] at hpart ⊢
   rw [if_neg (by simp)]
   obtain ⟨E, e, d1, d2, d3, d4, d5, d6⟩ := turnA_law ht hnl hnb h2 (hpart.out0 rfl) hpart.snd (m := m) (g := (infoM C).head) (by omega) (by omega) iok.head.1 (by omega) (fun k hk => (h10 hl0).2 k (by rw [hlo] at hk; exact hk))
   refine ⟨E, e, d1, (hpart.trans d2).more (by omega), fun y hy => (d3 y).trans (h5 y hy), Or.inr ⟨(d3 t).trans h4, hwe⟩, fun y => absurd y g, fun _ => (d3 t).trans h4, ?_, ?_, fun _ k k1 k2 => d6 k (by omega) (by omega)⟩
   ·rcases d4 with c | ⟨c, c2⟩
    ·exact Or.inl c
    ·exact Or.inr (Or.inr ⟨c, fun k hk => c2 k (by omega)⟩)
   ·intro h
    have := d5 h
    rcases d4 with c | ⟨c, c2⟩
    ·have := iok.head.1; omega
    ·exact ⟨c, fun k hk => c2 k (by omega)⟩
  ·rw [e'] at hpart ⊢
   rw [if_pos (by simp)]
   refine ⟨D, 8, rfl, hpart.more (by omega), h5, Or.inr ⟨h4, hwe⟩, fun y => absurd y g, fun _ => h4, ?_, fun y => absurd y (by decide), fun y => absurd y (by decide)⟩
   rw [head_of D t (by omega), head_of C t (by omega)]
   rcases h9 0 (by omega) with c | c | c
   ·left; rw [if_neg (by omega)]
   ·left; rw [if_neg (by omega)]
   ·right; left; rw [c]
end
end Go.Proofs.YtaglicdidpgkpaaGreatDoor
end

/- The log's laws, plain: what a lay leaves of the numbers. Own work. -/
section
set_option maxRecDepth 100000
set_option linter.unusedVariables false
namespace Go.Proofs.YtaglicdidpgkpaaGreatDoor
open Go Go.Vc
section
variable {u : Bool}

theorem pI_eq {C D : Cm} (hc : D.cfg = C.cfg) {y : Nat} (h : D.pg y = C.pg y) : pI D y = pI C y := by unfold pI; rw [hc, h]
theorem tgt_cases (C : Cm) : (tgtM C = 1 ∧ presM C = 0) ∨ (tgtM C = 0 ∧ presM C = 1) ∨ (tgtM C = 0 ∧ presM C = -1) := by
 unfold tgtM
 rcases presM_cases C with h | h | h <;> simp [h]
theorem same_info {C D : Cm} (hc : D.cfg = C.cfg) (hp : ∀ y, y ≠ tgtM C → D.pg y = C.pg y) (hh : (pI D (tgtM C)).head = 0 ∨ (pI D (tgtM C)).head = (pI C (tgtM C)).head) (h0 : 0 ≤ (pI C 0).head) (h1 : 0 ≤ (pI C 1).head) :
  presM D = presM C ∧ infoM D = infoM C := by
 have key : presM D = presM C := by
  rcases tgt_cases C with ⟨t, p⟩ | ⟨t, p⟩ | ⟨t, p⟩
  ·rw [t] at hp hh
   have e := pI_eq hc (hp 0 (by omega))
   rw [p]
   unfold presM presH at p ⊢
   rw [e]
   generalize (pI D 1).head = x at *
   generalize (pI C 1).head = y at *
   generalize (pI C 0).head = z at *
   split at p
   ·rw [if_pos (by omega)]
   ·split at p <;> exact absurd p (by decide)
  ·rw [t] at hp hh
   have e := pI_eq hc (hp 1 (by omega))
   rw [p]
   unfold presM presH at p ⊢
   rw [e]
   generalize (pI D 0).head = x at *
   generalize (pI C 1).head = y at *
   generalize (pI C 0).head = z at *
   split at p
   ·exact absurd p (by decide)
   ·split at p
    ·rw [if_neg (by omega), if_pos (by omega)]
    ·exact absurd p (by decide)
  ·rw [t] at hp hh
   have e := pI_eq hc (hp 1 (by omega))
   rw [p]
   unfold presM presH at p ⊢
   rw [e]
   generalize (pI D 0).head = x at *
   generalize (pI C 1).head = y at *
   generalize (pI C 0).head = z at *
   split at p
   ·exact absurd p (by decide)
   ·split at p
    ·exact absurd p (by decide)
    ·rw [if_neg (by omega), if_neg (by omega)]
 refine ⟨key, ?_⟩
 unfold infoM
 rw [key]
 rcases tgt_cases C with ⟨t, p⟩ | ⟨t, p⟩ | ⟨t, p⟩
 ·rw [p, if_neg (by decide), if_neg (by decide)]
  exact pI_eq hc (hp 0 (by omega))
 ·rw [p, if_neg (by decide), if_neg (by decide)]
  exact pI_eq hc (hp 1 (by omega))
 ·rw [p, if_pos (by decide), if_pos (by decide)]
theorem turned_info {C D : Cm} (hc : D.cfg = C.cfg) (hp : ∀ y, y ≠ tgtM C → D.pg y = C.pg y) (hh : (pI D (tgtM C)).head = (infoM C).head + 1) (h0 : 0 ≤ (pI C 0).head) (h1 : 0 ≤ (pI C 1).head) (h2 : 0 ≤ (infoM C).head) :
  presM D = (tgtM C : Int) ∧ infoM D = pI D (tgtM C) := by
 have key : presM D = (tgtM C : Int) := by
  rcases tgt_cases C with ⟨t, p⟩ | ⟨t, p⟩ | ⟨t, p⟩
  ·rw [t] at hp hh ⊢
   have e := pI_eq hc (hp 0 (by omega))
   have ei : infoM C = pI C 0 := by unfold infoM; rw [p]; rfl
   rw [ei] at hh h2
   unfold presM presH
   rw [e, if_neg (by omega), if_pos (by omega)]; rfl
  ·rw [t] at hp hh ⊢
   have e := pI_eq hc (hp 1 (by omega))
   have ei : infoM C = pI C 1 := by unfold infoM; rw [p]; rfl
   rw [ei] at hh h2
   unfold presM presH
   rw [e, if_pos (by omega)]; rfl
  ·rw [t] at hp hh ⊢
   have e := pI_eq hc (hp 1 (by omega))
   unfold presM presH at p ⊢
   rw [e]
   split at p
   ·exact absurd p (by decide)
   ·split at p
    ·exact absurd p (by decide)
    ·rw [if_pos (by omega)]; rfl
 refine ⟨key, ?_⟩
 unfold infoM
 rw [key, if_neg (by omega), Int.toNat_natCast]
theorem head_eq (C : Cm) (t : Nat) : (pI C t).head = (ofM (C.pg t) (lOf C)).head := rfl
structure Laid (u : Bool) (C D : Cm) (slot : Nat) (n e : Int) : Prop where
 ok : D.ok
 cfg : D.cfg = C.cfg
 snd : sndU u D
 ec : e = 0 ∨ e = 8 ∨ e = 9
 e9 : e = 9 → D = C
 out0 : e = 0 → D.out = false
 other : ∀ k : Nat, (k : Int) ≤ C.cfg.slots → k ≠ slot → numOf D k = numOf C k
 me : numOf D slot = numOf C slot ∨ numOf D slot = n
 done : e = 0 → numOf D slot = n
theorem place_law {C : Cm} {slot : Nat} {n : Int} (ok : C.ok) (ho : C.out = false) (snd : sndU u C) (hs : (slot : Int) ≤ C.cfg.slots) (hn1 : 1 ≤ n) (hn2 : n ≤ most) (hv : numOf C slot < n) (hp : 0 ≤ presM C) (hx : (infoM C).next < C.cfg.cells) :
  ∃ D e, programM C (presM C) (infoM C).next (valueM (slot : Int) n).1 = (D, e) ∧ Laid u C D slot n e ∧ Part u C D (presM C).toNat 1 e ∧ (∀ x, D.er x = C.er x) ∧ (0 ≤ C.acts → C.acts < 2 ^ 60 → D.acts = C.acts + 1) ∧ presM D = presM C ∧
   (∀ k : Nat, (infoM C).next + 1 ≤ (k : Int) → k < lOf C → (rk (D.pg (presM C).toNat) k).1 = 0) ∧ (infoM D).head = (infoM C).head ∧ (∀ k : Nat, (k : Int) = (infoM C).next → e = 0 → (rk (D.pg (presM C).toNat) k).1 ≠ 0) := by
 have hms := ok.may.slots
 have hcells := ok.may.cells
 obtain ⟨t, ht⟩ : ∃ t : Nat, presM C = (t : Int) := Int.eq_ofNat_of_zero_le hp
 have ht2 : t < 2 := by have := presM_cases C; omega
 have ei : infoM C = pI C t := by unfold infoM; rw [if_neg (by omega), ht, Int.toNat_natCast]
 have iok := pI_ok ok t
 have hh : 0 < (pI C t).head := by
  have : presM C = t := ht
  unfold presM presH at this
  have h2 : t = 0 ∨ t = 1 := by omega
  rcases h2 with rfl | rfl
  ·split at this
   ·omega
   ·split at this <;> exact absurd this (by decide)
  ·split at this
   ·exact absurd this (by decide)
   ·split at this
    ·omega
    ·exact absurd this (by decide)
 have hnx1 : 1 ≤ (pI C t).next := by
  have hb := ofM_blank (C.pg t) (lOf C) (by show C.cfg.cells.toNat < _; omega)
  rcases Int.lt_or_le 0 (pI C t).next with h | h
  ·omega
  ·have := iok.next.1
   have e : (ofM (C.pg t) (lOf C)).next = 0 := by show (pI C t).next = 0; omega
   have : ofM (C.pg t) (lOf C) = inf0 := hb.1 e
   rw [head_eq, this] at hh
   exact absurd hh (by decide)
 rw [ei, ht]
 rw [ei] at hx
 obtain ⟨q, hq⟩ : ∃ q : Nat, (pI C t).next = (q : Int) := Int.eq_ofNat_of_zero_le (by omega)
 rw [hq] at hx hnx1 ⊢
 have hql : q < lOf C := by show q < C.cfg.cells.toNat; omega
 have hbl : ∀ k : Nat, q ≤ k → k < lOf C → (rk (C.pg t) k).1 = 0 := fun k k1 k2 => ofM_next (r := C.pg t) (n := lOf C) (by show C.cfg.cells.toNat < _; omega) k (by show (pI C t).next ≤ _; omega) k2
 rw [value_laid (by omega) hn1 hn2, Int.toNat_natCast]
 obtain ⟨D, e, p1, p2, p3, p4, p5, p6, p7⟩ := prog_part ok ho ht2 hql (kind := 2) (slot := (slot : Int)) (n := n) ⟨by decide, by decide⟩ snd (hbl q (by omega) hql)
 have hlo : lOf D = lOf C := by show D.cfg.cells.toNat = _; rw [p2.cfg]
 have hv' : (ofM (C.pg t) (lOf C)).nums.getD slot 0 < n := by
  have : numOf C slot = (ofM (C.pg t) (lOf C)).nums.getD slot 0 := by show (infoM C).nums.getD slot 0 = _; rw [ei]; rfl
  omega
 obtain ⟨q1, q2, q3⟩ := put_nums (r := C.pg t) (z := D.pg t) hql (by omega) p4 hbl (x := slot) (by omega) hn1 hn2 hv' p5
 have hhd : (pI D t).head = (pI C t).head := by rw [head_eq, head_eq, hlo]; exact q3
 have hpr : presM D = presM C := by
  unfold presM
  have h2 : t = 0 ∨ t = 1 := by omega
  rcases h2 with rfl | rfl
  ·rw [hhd, pI_eq p2.cfg (p2.pgs 1 (by omega))]
  ·rw [hhd, pI_eq p2.cfg (p2.pgs 0 (by omega))]
 have eiD : infoM D = pI D t := by unfold infoM; rw [hpr, if_neg (by omega), ht, Int.toNat_natCast]
 have nC : ∀ k, numOf C k = (ofM (C.pg t) (lOf C)).nums.getD k 0 := fun k => by show (infoM C).nums.getD k 0 = _; rw [ei]; rfl
 have nD : ∀ k, numOf D k = (ofM (D.pg t) (lOf C)).nums.getD k 0 := fun k => by show (infoM D).nums.getD k 0 = _; rw [eiD, ← hlo]; rfl
 have hset : ∀ k, ((ofM (C.pg t) (lOf C)).nums.set slot n).getD k 0 = if slot = k ∧ k < 9 then n else (ofM (C.pg t) (lOf C)).nums.getD k 0 := fun k => by rw [set_getD, ofM_len]
 refine ⟨D, e, p1, ⟨p2.ok, p2.cfg, p2.snd, ?_, ?_, p2.out0, ?_, ?_, ?_⟩, p2, p3, p7, hpr.trans ht, ?_, by rw [eiD]; exact hhd, ?_⟩
 ·rcases p2.ec with h | h
  ·exact Or.inl h
  ·exact Or.inr (Or.inl h)
 ·intro h
  have := p2.ec
  omega
 ·intro k hk hne
  rw [nC, nD]
  rcases q1 with h | h
  ·rw [h]
  ·rw [h, hset, if_neg (fun y => hne y.1.symm)]
 ·rw [nC, nD]
  rcases q1 with h | h
  ·left; rw [h]
  ·right; rw [h, hset, if_pos ⟨rfl, by omega⟩]
 ·intro h
  rw [nD, q2 (p6 h), hset, if_pos ⟨rfl, by omega⟩]
 ·intro k k1 k2
  rw [p4 k k2 (by omega)]
  exact hbl k (by omega) k2
 ·intro k k1 he
  have : k = q := by omega
  rw [this, p6 he, rec_value (by omega) (by omega) hn1 hn2]
  exact fun y => absurd (show (2 : Int) = 0 from y) (by decide)
theorem lay_law {C : Cm} {slot : Nat} {n : Int} (ok : C.ok) (ho : C.out = false) (snd : sndU u C) (hs : (slot : Int) ≤ C.cfg.slots) (hn1 : 1 ≤ n) (hn2 : n ≤ most) (hv : numOf C slot < n) :
  ∃ D e, layL C (slot : Int) n = (D, e) ∧ Laid u C D slot n e := by
 unfold layL
 rw [if_neg (by simp [ho]), if_neg (fun y => y ⟨by omega, hs, hn1, hn2⟩), Int.toNat_natCast, if_neg (by unfold numOf at hv; omega)]
 by_cases g : 0 ≤ presM C ∧ (infoM C).next < C.cfg.cells
 ·rw [if_pos g]
  obtain ⟨D, e, d1, d2, _⟩ := place_law ok ho snd hs hn1 hn2 hv g.1 g.2
  exact ⟨D, e, d1, d2⟩
 rw [if_neg g]
 by_cases gw : wornF C = true
 ·rw [if_pos gw]
  exact ⟨C, 9, rfl, ok, rfl, snd, Or.inr (Or.inr rfl), fun _ => rfl, fun y => absurd y (by decide), fun _ _ _ => rfl, Or.inl rfl, fun y => absurd y (by decide)⟩
 rw [if_neg gw]
 obtain ⟨D, e, d1, d2⟩ := turn_law ok ho snd hs hn1 hn2 (by simpa using gw)
 have hms := ok.may.slots
 have h0 := (pI_ok ok 0).head.1
 have h1 := (pI_ok ok 1).head.1
 have h2 := (infoM_ok ok).head.1
 have ilen := infoM_len C
 have set9 : ∀ k, ((infoM C).nums.set slot n).getD k 0 = if slot = k ∧ k < 9 then n else numOf C k := fun k => by rw [set_getD, ilen]
 have turned : ((pI D (tgtM C)).head = (infoM C).head + 1 ∧ ∀ k : Nat, (k : Int) ≤ C.cfg.slots → nof D (tgtM C) k = ((infoM C).nums.set slot n).getD k 0) → (∀ k : Nat, (k : Int) ≤ C.cfg.slots → k ≠ slot → numOf D k = numOf C k) ∧ numOf D slot = n := by
  rintro ⟨y1, y2⟩
  obtain ⟨_, ei⟩ := turned_info d2.part.cfg d2.part.pgs y1 h0 h1 h2
  have nD : ∀ k, numOf D k = nof D (tgtM C) k := fun k => by show (infoM D).nums.getD k 0 = _; rw [ei]
  refine ⟨fun k hk hne => ?_, ?_⟩
  ·rw [nD, y2 k hk, set9, if_neg (fun y => hne y.1.symm)]
  ·rw [nD, y2 slot hs, set9, if_pos ⟨rfl, by omega⟩]
 have keep : ((pI D (tgtM C)).head = 0 ∨ (pI D (tgtM C)).head = (pI C (tgtM C)).head) → ∀ k, numOf D k = numOf C k := by
  intro y k
  obtain ⟨_, ei⟩ := same_info d2.part.cfg d2.part.pgs y h0 h1
  show (infoM D).nums.getD k 0 = _
  rw [ei]
 refine ⟨D, e, d1, d2.part.ok, d2.part.cfg, d2.part.snd, ?_, ?_, d2.part.out0, ?_, ?_, fun y => (turned (d2.headf y)).2⟩
 ·rcases d2.part.ec with h | h
  ·exact Or.inl h
  ·exact Or.inr (Or.inl h)
 ·intro h
  have := d2.part.ec
  omega
 ·intro k hk hne
  rcases d2.head with h | h | h
  ·exact keep (Or.inl h) k
  ·exact keep (Or.inr h) k
  ·exact (turned h).1 k hk hne
 ·rcases d2.head with h | h | h
  ·exact Or.inl (keep (Or.inl h) slot)
  ·exact Or.inl (keep (Or.inr h) slot)
  ·exact Or.inr (turned h).2
end
end Go.Proofs.YtaglicdidpgkpaaGreatDoor
end

/- The store: contracts of the program's. Own work. -/
section
set_option maxRecDepth 100000
set_option linter.unusedVariables false
namespace Go.Proofs.YtaglicdidpgkpaaGreatDoor
open Go Go.Vc

abbrev storeE (s p r : Nat) : Ent := blk s [.pointer (some ⟨p, 0, none⟩), .pointer (some ⟨r, 0, none⟩)]
def lastM (c : Cfg) : Int := c.step * c.fuses + c.step - 1
theorem lastM_in {c : Cfg} (m : c.may) : 0 ≤ lastM c ∧ lastM c ≤ 4259839 ∧ c.step * c.fuses ≤ 4194304 ∧ 0 ≤ c.step * c.fuses := by
 have h1 := m.step
 have h2 := m.fuses
 have a : c.step * c.fuses ≤ 65536 * 64 := Int.mul_le_mul h1.2 h2.2 (by omega) (by decide)
 have b : 0 ≤ c.step * c.fuses := Int.mul_nonneg (by omega) (by omega)
 unfold lastM
 omega
def valS (C : Cm) (slot : Int) : Int := if (countM C slot).1 * C.cfg.step < numOf C slot.toNat then numOf C slot.toNat else (countM C slot).1 * C.cfg.step
def sRead (C : Cm) (slot : Int) : Int × Int := if askedM C slot C.cfg.slots ≠ 0 then (0, askedM C slot C.cfg.slots) else (valS C slot, 0)
def sBumpTo (C : Cm) (slot v : Int) : Cm × Int :=
 if (sRead C slot).2 ≠ 0 then (C, (sRead C slot).2) else if v < 0 then (C, 2) else if v ≤ (sRead C slot).1 then (C, 0) else if lastM C.cfg < v then (C, 10)
 else if (layL C slot v).2 ≠ 0 then layL C slot v else raiseM (layL C slot v).1 slot (v.tdiv C.cfg.step)
theorem count_in {C : Cm} (ok : C.ok) (slot : Int) : 0 ≤ (countM C slot).1 ∧ (countM C slot).1 ≤ C.cfg.fuses := by
 have h2 := ok.may.fuses
 unfold countM
 split
 ·exact ⟨Int.le_refl 0, by show (0 : Int) ≤ _; omega⟩
 ·have := cnt_le C.s.blown (slot * C.cfg.fuses).toNat C.cfg.fuses.toNat
  dsimp only
  omega
theorem valS_in {C : Cm} (ok : C.ok) (slot : Int) : 0 ≤ (countM C slot).1 * C.cfg.step ∧ (countM C slot).1 * C.cfg.step ≤ 4194304 ∧ 0 ≤ valS C slot ∧ valS C slot ≤ most := by
 have h1 := ok.may.step
 have h2 := ok.may.fuses
 obtain ⟨c0, c1⟩ := count_in ok slot
 have a : (countM C slot).1 * C.cfg.step ≤ 64 * 65536 := Int.mul_le_mul (by omega) h1.2 (by omega) (by decide)
 have b : 0 ≤ (countM C slot).1 * C.cfg.step := Int.mul_nonneg c0 (by omega)
 have d := (infoM_ok ok).nums slot.toNat
 have hm := most_val
 refine ⟨b, by omega, ?_⟩
 unfold valS
 split
 ·exact d
 ·omega
section
variable {h0 h : H} {A : List Ent} {i j p r b s m : Nat} {C : Cm}
theorem sMount_sp {Q : Option Addr → Int → H → Prop} (hs : Sat h0 A h) (ci : At A i (chipE p C)) (k1 : C.out = true → Q none 8 h) (k2 : C.out = false → ∀ s l h', Sat h0 (storeE s p l :: logE l p :: A) h' → Q (some ⟨s, 0, none⟩) 0 h') : F_store_Mount ⟨p, 0, none⟩ Q h := by
 unfold F_store_Mount G_store_Mount
 refine Mount_sp hs ci ?_ ?_
 ·intro ho
  rw [if_pos (by simp)]
  exact k1 ho
 ·intro ho l h1 hs
  rw [if_neg (by simp)]
  intro n7 _ hn; replace hs := Sat.new hs hn; clear hn
  exact k2 ho n7 l _ hs
theorem sLast_sp {Q : Int → H → Prop} (hs : Sat h0 A h) (ci : At A i (chipE p C)) (st : At A m (storeE s p r)) (k : ∀ h', Sat h0 A h' → Q (lastM C.cfg) h') : F_store_Store_Last ⟨s, 0, none⟩ Q h := by
 unfold F_store_Store_Last G_store_Store_Last
 try simp only [add_mk, Nat.zero_add]
 have ok := chip_ok hs ci
 obtain ⟨l0, l1, l2, l3⟩ := lastM_in ok.may
 have h1 := ok.may.step
 refine ⟨_, hs.ld st rfl, _, rfl, ?_⟩
 refine Config_sp hs ci ?_
 intro h1 hs
 intro n14 _ hn; replace hs := Sat.new hs hn; clear hn
 refine ⟨Sat.can hs (i := 0) .z (by decide), ?_⟩
 intro h2 e
 replace hs := Sat.wra hs (i := 0) .z e rfl
 clear e
 simp only [put] at hs
 refine ⟨_, hs.ld (i := 0) .z rfl, _, hs.ld (i := 0) .z rfl, _, hs.ld (i := 0) .z rfl, ?_⟩
 rw [wrap_id (n := C.cfg.step * C.cfg.fuses) (by omega), wrap_id (n := C.cfg.step * C.cfg.fuses + C.cfg.step) (by omega), wrap_id (by unfold lastM at l0 l1; omega)]
 exact k _ hs.drop
theorem sAsked_sp {Q : Int → H → Prop} (hs : Sat h0 A h) (ci : At A i (chipE p C)) (st : At A m (storeE s p r)) (x n : Int) (k : Q (askedM C x n) h) : F_store_Store_asked ⟨s, 0, none⟩ x n Q h := by
 unfold F_store_Store_asked G_store_Store_asked
 refine ⟨_, hs.ld st rfl, _, rfl, ?_⟩
 refine Out_sp hs ci ?_
 unfold askedM at k
 by_cases ho : C.out = true
 ·rw [if_pos ho] at k; rw [if_pos ho]; exact k
 rw [if_neg ho] at k; rw [if_neg ho]
 by_cases g1 : x < 0
 ·rw [if_pos g1] at k; rw [ltI_eq, if_pos (by simpa using g1)]; exact k
 rw [if_neg g1] at k; rw [ltI_eq, if_neg (by simpa using g1)]
 by_cases g2 : n ≤ x
 ·rw [if_pos g2] at k; rw [leI_eq, if_pos (by simpa using g2)]; exact k
 rw [if_neg g2] at k; rw [leI_eq, if_neg (by simpa using g2)]; exact k
theorem sRead_sp {Q : Int → Int → H → Prop} (hs : Sat h0 A h) (ci : At A i (chipE p C)) (cl : At A j (logE r p)) (st : At A m (storeE s p r)) (slot : Int) (k : ∀ h', Sat h0 A h' → Q (sRead C slot).1 (sRead C slot).2 h') : F_store_Store_Read ⟨s, 0, none⟩ slot Q h := by
 unfold F_store_Store_Read G_store_Store_Read
 try simp only [add_mk, Nat.zero_add, List.append_nil]
 have ok := chip_ok hs ci
 refine ⟨_, hs.ld st rfl, _, rfl, ?_⟩
 refine Config_sp hs ci ?_
 intro h1 hs
 refine sAsked_sp hs ci st _ _ ?_
 unfold sRead at k
 by_cases ha : askedM C slot C.cfg.slots = 0
 case neg =>
  rw [if_pos (by simpa using ha)]
  rw [if_pos ha] at k
  exact k _ hs
 rw [if_neg (fun y => y ha)] at k
 rw [if_neg (by simpa using ha)]
 obtain ⟨ho, g0, g1⟩ := askedM_zero ha
 refine ⟨_, hs.ld st rfl, _, rfl, ?_⟩
 refine Count_sp hs ci slot ?_
 intro h2 hs
 have ec : (countM C slot).2 = 0 := by unfold countM; rw [if_neg (fun y => y ha)]
 rw [ec, if_neg (by simp)]
 refine ⟨_, hs.ld st rfl, _, rfl, ?_⟩
 refine Number_sp hs ci cl slot ?_
 intro h3 hs
 have en : numberM C slot = (numOf C slot.toNat, 0) := by
  unfold numberM
  rw [if_neg (by simp [ho]), if_neg (fun y => y ⟨g0, by omega⟩)]
 rw [en, if_neg (by simp)]
 refine ⟨_, hs.ld st rfl, _, rfl, ?_⟩
 refine Config_sp hs ci ?_
 intro h4 hs
 obtain ⟨v0, v1, _⟩ := valS_in ok slot
 rw [wrap_id (by omega)]
 intro n40 _ hn; replace hs := Sat.new hs hn; clear hn
 refine ⟨Sat.can hs (i := 0) .z (by simp [zeros]), ?_⟩
 intro h5 e
 replace hs := Sat.wra hs (i := 0) .z e (by simp [zeros])
 clear e
 simp only [put] at hs
 refine ⟨by decide, by decide, _, hs.ld (i := 0) .z rfl, by decide, by decide, _, hs.ld (i := 0) .z rfl, ?_⟩
 exact k _ hs.drop
theorem sRevoked_sp {Q : Bool → Int → H → Prop} (hs : Sat h0 A h) (ci : At A i (chipE p C)) (st : At A m (storeE s p r)) (key : Int)
  (k : ∀ h', Sat h0 A h' → Q (revokedM C key).1 (revokedM C key).2 h') : F_store_Store_Revoked ⟨s, 0, none⟩ key Q h := by
 unfold F_store_Store_Revoked G_store_Store_Revoked
 refine ⟨_, hs.ld st rfl, _, rfl, ?_⟩
 refine Config_sp hs ci ?_
 intro h1 hs
 refine sAsked_sp hs ci st _ _ ?_
 by_cases ha : askedM C key C.cfg.keys = 0
 case neg =>
  rw [if_pos (by simpa using ha)]
  have e1 : revokedM C key = (false, askedM C key C.cfg.keys) := by unfold revokedM; rw [if_pos ha]
  rw [e1] at k
  exact k _ hs
 rw [if_neg (by simpa using ha)]
 refine ⟨_, hs.ld st rfl, _, rfl, ?_⟩
 exact Revoked_sp hs ci key k
end
end Go.Proofs.YtaglicdidpgkpaaGreatDoor
end

/- The document's log: target, number, worn, turn, lay. Own work. -/
section
set_option maxRecDepth 100000
set_option linter.unusedVariables false
namespace Go.Proofs.YtaglicdidpgkpaaGreatDoor
open Go Go.Vc

section
variable {h0 h : H} {A : List Ent} {i j p r l b : Nat} {C : Cm}
theorem rinfo_in {C : Cm} (ho : C.out = false) : rinfo C = infoM C := by unfold rinfo; rw [if_neg (by simp [ho])]
theorem rNumber9_sp {Q : Int → Int → H → Prop} (hs : Sat h0 A h) (cj : At A j (refE r C)) (cl : At A i (logE l r)) (slot : Int) (k : ∀ h', Sat h0 A h' → Q (numberM C slot).1 (numberM C slot).2 h') : F_portcullisref09_Log_Number ⟨l, 0, none⟩ slot Q h := by
 unfold F_portcullisref09_Log_Number G_portcullisref09_Log_Number
 have ok := ref_ok hs cj
 have hm := ok.may.slots
 obtain ⟨w, lc⟩ := ref_cell hs cj
 refine ⟨_, hs.ld cl rfl, _, rfl, _, lc 11 _ rfl, ?_⟩
 unfold numberM at k
 by_cases ho : C.out = true
 ·rw [if_pos ho] at k ⊢; exact k _ hs
 rw [if_neg ho] at k ⊢
 have ho' : C.out = false := by simpa using ho
 by_cases g1 : slot < 0
 ·rw [ltI_eq, if_pos (by simpa using g1)]
  rw [if_pos (by omega)] at k
  exact k _ hs
 rw [ltI_eq, if_neg (by simpa using g1)]
 refine ⟨_, hs.ld cl rfl, _, rfl, _, lc 1 _ rfl, ?_⟩
 by_cases g2 : C.cfg.slots < slot
 ·rw [ltI_eq, if_pos (by simpa using g2)]
  rw [if_pos (by omega)] at k
  exact k _ hs
 rw [ltI_eq, if_neg (by simpa using g2)]
 rw [if_neg (fun y => y ⟨by omega, by omega⟩)] at k
 refine rInfo9_sp hs cj cl ?_
 intro h1 hs
 rw [rinfo_in ho']
 exact ⟨by omega, by omega, k _ hs⟩
end
end Go.Proofs.YtaglicdidpgkpaaGreatDoor
end

/- The document's store. Own work. -/
section
set_option maxRecDepth 100000
set_option linter.unusedVariables false
namespace Go.Proofs.YtaglicdidpgkpaaGreatDoor
open Go Go.Vc

def sActive (C : Cm) : Int × Int := numberM C C.cfg.slots
section
variable {h0 h : H} {A : List Ent} {i j p r b s m : Nat} {C : Cm}
theorem sActive_sp {Q : Int → Int → H → Prop} (hs : Sat h0 A h) (ci : At A i (chipE p C)) (cl : At A j (logE r p)) (st : At A m (storeE s p r)) (k : ∀ h', Sat h0 A h' → Q (sActive C).1 (sActive C).2 h') : F_store_Store_Active ⟨s, 0, none⟩ Q h := by
 unfold F_store_Store_Active G_store_Store_Active
 try simp only [add_mk, Nat.zero_add]
 refine ⟨_, hs.ld st rfl, _, rfl, ?_⟩
 refine Out_sp hs ci ?_
 by_cases ho : C.out = true
 ·rw [if_pos ho]
  have e : sActive C = (0, 8) := by unfold sActive numberM; rw [if_pos ho]
  rw [e] at k
  exact k _ hs
 rw [if_neg ho]
 refine ⟨_, hs.ld st rfl, _, hs.ld st rfl, _, rfl, ?_⟩
 refine Config_sp hs ci ?_
 intro h1 hs
 refine ⟨hcs_one (hs.ld st rfl), _, rfl, ?_⟩
 refine Number_sp hs ci cl C.cfg.slots ?_
 intro h2 hs
 exact k _ hs
theorem rNumber_sp {Q : Int → Int → H → Prop} (hs : Sat h0 A h) (cj : At A j (refE r C)) (slot : Int) (k : ∀ h', Sat h0 A h' → Q (numberM C slot).1 (numberM C slot).2 h') : F_portcullisref09_Number ⟨r, 0, none⟩ slot Q h := by
 unfold F_portcullisref09_Number G_portcullisref09_Number
 intro n5 _ hn; replace hs := Sat.new hs hn; clear hn
 refine rNumber9_sp hs cj.s (i := 0) .z slot ?_
 intro h1 hs
 exact k _ hs.drop
theorem rSlot10_sp {Q : Int → H → Prop} (hs : Sat h0 A h) (cj : At A j (refE r C)) (slot : Int) (k : Q (askedM C slot C.cfg.slots) h) : F_portcullisref10_Slot ⟨r, 0, none⟩ slot Q h := by
 unfold F_portcullisref10_Slot G_portcullisref10_Slot
 try simp only [add_mk, Nat.zero_add]
 obtain ⟨w, lc⟩ := ref_cell hs cj
 refine ⟨_, lc 11 _ rfl, ?_⟩
 unfold askedM at k
 by_cases ho : C.out = true
 ·rw [if_pos ho] at k ⊢; exact k
 rw [if_neg ho] at k ⊢
 by_cases g1 : slot < 0
 ·rw [if_pos g1] at k; rw [ltI_eq, if_pos (by simpa using g1)]; exact k
 rw [if_neg g1] at k; rw [ltI_eq, if_neg (by simpa using g1)]
 refine ⟨_, lc 1 _ rfl, ?_⟩
 by_cases g2 : C.cfg.slots ≤ slot
 ·rw [if_pos g2] at k; rw [leI_eq, if_pos (by simpa using g2)]; exact k
 rw [if_neg g2] at k; rw [leI_eq, if_neg (by simpa using g2)]; exact k
theorem rRead10_sp {Q : Int → Int → H → Prop} (hs : Sat h0 A h) (cj : At A j (refE r C)) (slot : Int) (k : ∀ h', Sat h0 A h' → Q (sRead C slot).1 (sRead C slot).2 h') : F_portcullisref10_Read ⟨r, 0, none⟩ slot Q h := by
 unfold F_portcullisref10_Read G_portcullisref10_Read
 try simp only [add_mk, Nat.zero_add]
 have ok := ref_ok hs cj
 refine rSlot10_sp hs cj slot ?_
 unfold sRead at k
 by_cases ha : askedM C slot C.cfg.slots = 0
 case neg =>
  rw [if_pos (by simpa using ha)]
  rw [if_pos ha] at k
  exact k _ hs
 rw [if_neg (fun y => y ha)] at k
 rw [if_neg (by simpa using ha)]
 obtain ⟨ho, g0, g1⟩ := askedM_zero ha
 refine rNumber_sp hs cj slot ?_
 intro h1 hs
 have en : numberM C slot = (numOf C slot.toNat, 0) := by
  unfold numberM
  rw [if_neg (by simp [ho]), if_neg (fun y => y ⟨g0, by omega⟩)]
 rw [en]
 refine rCount_sp hs cj slot ?_
 intro h2 hs
 obtain ⟨w, lc⟩ := ref_cell hs cj
 refine ⟨_, lc 3 _ rfl, ?_⟩
 obtain ⟨v0, v1, _⟩ := valS_in ok slot
 rw [wrap_id (by omega)]
 have e : (if (countM C slot).1 * C.cfg.step > numOf C slot.toNat then (countM C slot).1 * C.cfg.step else numOf C slot.toNat) = valS C slot := by
  unfold valS
  split
  ·rw [if_neg (by omega)]
  ·split <;> omega
 dsimp only
 rw [e]
 exact k _ hs
theorem rLast10_sp {Q : Int → H → Prop} {c : Cfg} (hm : c.may) (hs : Sat h0 A h) (k : ∀ h', Sat h0 A h' → Q (lastM c) h') : F_portcullisref10_Last c.cells c.slots c.fuses c.step c.keys c.erases c.area Q h := by
 unfold F_portcullisref10_Last G_portcullisref10_Last
 try simp only [add_mk, Nat.zero_add]
 obtain ⟨l0, l1, l2, l3⟩ := lastM_in hm
 have h1 := hm.step
 intro n9 _ hn; replace hs := Sat.new hs hn; clear hn
 refine ⟨_, hs.ld (i := 0) .z rfl, _, hs.ld (i := 0) .z rfl, _, hs.ld (i := 0) .z rfl, ?_⟩
 rw [wrap_id (n := c.step * c.fuses) (by omega), wrap_id (n := c.step * c.fuses + c.step) (by omega), wrap_id (by unfold lastM at l0 l1; omega)]
 exact k _ hs.drop
end
end Go.Proofs.YtaglicdidpgkpaaGreatDoor
end

/- Tokens: what keeps a wish from meeting a caveat; whether a token lets somebody do that. Own work. -/
section
set_option maxRecDepth 100000
set_option linter.unusedVariables false
namespace Go.Proofs.YtaglicdidpgkpaaGreatDoor
open Go Go.Vc
attribute [local irreducible] macM

structure WiM where
 kind : Int
 slot : Int
 ver : Int
section
variable {h0 h : H} {A : List Ent} {i j p r b s m : Nat} {C : Cm}
theorem sActive_out (ok : C.ok) : (sActive C).2 = if C.out = true then 8 else 0 := by
 have hm := ok.may.slots
 unfold sActive numberM
 by_cases ho : C.out = true
 ·rw [if_pos ho, if_pos ho]
 ·rw [if_neg ho, if_neg ho, if_neg (fun y => y ⟨by omega, Int.le_refl _⟩)]
theorem revoked_err (ho : ¬ C.out = true) {key : Int} (hk : 0 ≤ key) : (revokedM C key).2 = if C.cfg.keys ≤ key then 2 else 0 := by
 have a : askedM C key C.cfg.keys = if C.cfg.keys ≤ key then 2 else 0 := by unfold askedM; rw [if_neg ho, if_neg (by omega)]
 unfold revokedM
 rw [a]
 by_cases g : C.cfg.keys ≤ key
 ·rw [if_pos g, if_pos (by decide)]
 ·rw [if_neg g, if_neg (by decide)]
end
end Go.Proofs.YtaglicdidpgkpaaGreatDoor
end

/- Law 24: the scene: a chip, its store, keys, the program's and the document's. Own work. -/
section
set_option maxRecDepth 100000
set_option linter.unusedVariables false
namespace Go.Proofs.YtaglicdidpgkpaaGreatDoor
open Go Go.Vc
attribute [local irreducible] macM

theorem goM_ne (L : List Sec) : ∀ k e i, goM L k = some (e, i) → e ≠ 0
 | 0, e, i, h => by cases h
 | k + 1, e, i, h => by
  unfold goM at h
  by_cases c : badM (L.take (L.length - (k + 1))) (L.getD (L.length - (k + 1)) (0, [])) = 0
  ·rw [if_pos c] at h
   exact goM_ne L k e i h
  ·rw [if_neg c] at h
   injection h with h
   injection h with h1 h2
   rw [← h1]; exact c
theorem newM_ne {L : List Sec} {e i : Int} (h : newM L = some (e, i)) : e ≠ 0 := by
 unfold newM at h
 by_cases c : 64 < L.length
 ·rw [if_pos c] at h
  injection h with h
  injection h with h1 h2
  omega
 ·rw [if_neg c] at h
  exact goM_ne L _ _ _ h
section
variable {h0 h : H} {A : List Ent} {i j p r b s m : Nat} {C : Cm}
abbrev scnV (c : Cfg) (a b c' : Sl) (lp : Option Addr) (ll lc : Nat) : List Value := [.int .i64 c.cells, .int .i64 c.slots, .int .i64 c.fuses, .int .i64 c.step, .int .i64 c.keys, .int .i64 c.erases, .int .i64 c.area, a.v, b.v, c'.v, .slice lp ll lc]
end
end Go.Proofs.YtaglicdidpgkpaaGreatDoor
end

/- What arguments of the statements are: scenes. Own work. -/
section
set_option maxRecDepth 100000
set_option linter.unusedVariables false
namespace Go.Proofs.YtaglicdidpgkpaaGreatDoor
open Go Go.Vc Go.ChangeShapes Go.WideShapes Go.ChangeAt Go.RowKit
theorem xScn : xsh PP 8 31 = some [.int .i64, .int .i64, .int .i64, .int .i64, .int .i64, .int .i64, .int .i64, .slc 165, .slc 3, .slc 4, .slc 89] := by kernel_rfl
section
variable {D : Type} {enc : TypeId × Value → D} {W : World}
theorem sceneC_of {v : Value} {base : Nat} (h : Rdt enc PP W 31 v.cells.toList) (ho : Value.okWide PP W .any base 31 v) :
  ∃ (c : Cfg) (a b c' : Sl) (s : St) (X : List SR) (lp : Option Addr) (ll lc : Nat), v = .agg (scnV c a b c' lp ll lc).toArray ∧ RdS W.heap a b c' s ∧ s.typed ∧ s.small ∧ SecsAt W.heap lp ll X ∧ ll < 2 ^ 47 ∧ ∀ i (hi : i < X.length), X[i].bytes.length ≤ X[i].c := by
 have e := okw_agg (by kernel_rfl) ho
 obtain ⟨a1, r1, e1, _, a2, r2, rfl, _, a3, r3, rfl, _, a4, r4, rfl, _, a5, r5, rfl, _, a6, r6, rfl, _, a7, r7, rfl, _, p1, l1, c1, q1, rfl, s1, p2, l2, c2, q2, rfl, s2, p3, l3, c3, q3, rfl, s3, p4, l4, c4, q4, rfl, s4, hr⟩ := Rdt.xm 8 _ _ _ xScn h
 simp only [XM] at hr
 subst hr
 obtain ⟨rows, m1, m2, m3⟩ := mat_of s1
 obtain ⟨es, i1, i2, i3⟩ := ints_of s2
 obtain ⟨bs, b1, b2⟩ := bools_of s3
 obtain ⟨X, x1, x2, x3⟩ := secsC_of s4
 refine ⟨⟨a1, a2, a3, a4, a5, a6, a7⟩, (p1, l1, c1), (p2, l2, c2), (p3, l3, c3), ⟨rows, es, bs⟩, X, p4, l4, c4, ?_, ⟨m1, i1, b1⟩, ⟨fun l hl => (m2 l hl).1, i2⟩, ⟨m3, fun l hl => (m2 l hl).2, i3, b2⟩, x1, x2, x3⟩
 rw [e]
 congr 1
 rw [← Array.toArray_toList (xs := v.cells), e1]
theorem scene_of {v : Value} {base : Nat} (h : Rdt enc PP W 31 v.cells.toList) (ho : Value.okWide PP W .any base 31 v) :
  ∃ (c : Cfg) (a b c' : Sl) (s : St) (X : List SR) (lp : Option Addr) (ll lc : Nat), v = .agg (scnV c a b c' lp ll lc).toArray ∧ RdS W.heap a b c' s ∧ s.typed ∧ s.small ∧ SecsAt W.heap lp ll X ∧ ll < 2 ^ 47 := by
 obtain ⟨c, a, b, c', s, X, lp, ll, lc, h1, h2, h3, h4, h5, h6, _⟩ := sceneC_of h ho
 exact ⟨c, a, b, c', s, X, lp, ll, lc, h1, h2, h3, h4, h5, h6⟩
theorem ok_scn (c : Cfg) (a b c' : Sl) (lp : Option Addr) (ll lc : Nat) : (DV.agg [.c (.int .i64 c.cells), .c (.int .i64 c.slots), .c (.int .i64 c.fuses), .c (.int .i64 c.step), .c (.int .i64 c.keys), .c (.int .i64 c.erases), .c (.int .i64 c.area), .c a.v, .c b.v, .c c'.v, .c (.slice lp ll lc)]).ok := by
 intro y hy; simp only [List.mem_cons, List.not_mem_nil, or_false] at hy
 rcases hy with rfl | rfl | rfl | rfl | rfl | rfl | rfl | rfl | rfl | rfl | rfl <;> rfl
end
end Go.Proofs.YtaglicdidpgkpaaGreatDoor
end

/- Images: numbers of four bytes; what is wrong with bytes. Own work. -/
section
set_option maxRecDepth 100000
set_option linter.unusedVariables false
namespace Go.Proofs.YtaglicdidpgkpaaGreatDoor
open Go Go.Vc

theorem b64_ofNat (n : Nat) : b64 (n : Int) = BitVec.ofNat 64 n := by
 apply BitVec.eq_of_toNat_eq
 simp only [BitVec.toNat_ofInt, BitVec.toNat_ofNat]; omega
theorem or_low {x y : Int} (k : Nat) (hx : 0 ≤ x ∧ x < 2 ^ k) (hy : 0 ≤ y) (hxy : x + y * 2 ^ k < 2 ^ 63) : bits .or .i64 x (y * 2 ^ k) = x + y * 2 ^ k := by
 obtain ⟨a, rfl⟩ := Int.eq_ofNat_of_zero_le hx.1
 obtain ⟨b, rfl⟩ := Int.eq_ofNat_of_zero_le hy
 have ha : a < 2 ^ k := by have := hx.2; exact_mod_cast this
 have e1 : ((b : Int) * 2 ^ k) = ((b * 2 ^ k : Nat) : Int) := by simp
 rw [e1] at hxy ⊢
 have : bits .or .i64 (a : Int) ((b * 2 ^ k : Nat) : Int) = IntKind.i64.wrap ((b64 (a : Int) ||| b64 ((b * 2 ^ k : Nat) : Int)).toNat : Int) := rfl
 rw [this, b64_ofNat, b64_ofNat]
 have e2 : a ||| (b * 2 ^ k) = a + b * 2 ^ k := by
  have := Nat.shiftLeft_add_eq_or_of_lt ha b
  rw [Nat.shiftLeft_eq] at this
  rw [Nat.or_comm, ← this]; omega
 have e3 : (BitVec.ofNat 64 a ||| BitVec.ofNat 64 (b * 2 ^ k)).toNat = a + b * 2 ^ k := by
  rw [BitVec.toNat_or, BitVec.toNat_ofNat, BitVec.toNat_ofNat, Nat.mod_eq_of_lt (by omega), Nat.mod_eq_of_lt (by omega), e2]
 rw [e3, IntKind.wrap_i64]; omega
def num4 (bs : List Int) (o : Nat) : Int := bs.getD o 0 + 256 * bs.getD (o + 1) 0 + 65536 * bs.getD (o + 2) 0 + 16777216 * bs.getD (o + 3) 0
theorem or4 {a b c d : Int} (ha : isByte a) (hb : isByte b) (hc : isByte c) (hd : isByte d) :
  bits .or .i64 (bits .or .i64 (bits .or .i64 (IntKind.i64.wrap a) (IntKind.i64.wrap (IntKind.i64.wrap b * 2 ^ 8))) (IntKind.i64.wrap (IntKind.i64.wrap c * 2 ^ 16))) (IntKind.i64.wrap (IntKind.i64.wrap d * 2 ^ 24)) = a + 256 * b + 65536 * c + 16777216 * d := by
 obtain ⟨a1, a2⟩ := ha; obtain ⟨b1, b2⟩ := hb; obtain ⟨c1, c2⟩ := hc; obtain ⟨d1, d2⟩ := hd
 have w : ∀ n : Int, 0 ≤ n ∧ n < 2 ^ 40 → IntKind.i64.wrap n = n := fun n hn => by rw [IntKind.wrap_i64]; omega
 rw [w a (by omega), w b (by omega), w c (by omega), w d (by omega), w (b * 2 ^ 8) (by omega), w (c * 2 ^ 16) (by omega), w (d * 2 ^ 24) (by omega)]
 rw [or_low 8 (by omega) b1 (by omega), or_low 16 (by omega) c1 (by omega), or_low 24 (by omega) d1 (by omega)]
 omega
theorem num4_range {bs : List Int} (hb : bytesOk bs) (o : Nat) : 0 ≤ num4 bs o ∧ num4 bs o < 2 ^ 32 := by
 have g : ∀ x, isByte (bs.getD x 0) := fun x => by
  rw [List.getD_eq_getElem?_getD]
  cases e : bs[x]? with
  | none => exact ⟨by decide, by decide⟩
  | some v => exact hb v (List.mem_iff_getElem?.2 ⟨x, e⟩)
 have g0 := g o; have g1 := g (o + 1); have g2 := g (o + 2); have g3 := g (o + 3)
 unfold isByte at *
 unfold num4; omega
theorem byte_getD {bs : List Int} (hb : bytesOk bs) (x : Nat) : isByte (bs.getD x 0) := by
 rw [List.getD_eq_getElem?_getD]
 cases e : bs[x]? with
 | none => exact ⟨by decide, by decide⟩
 | some v => exact hb v (List.mem_iff_getElem?.2 ⟨x, e⟩)
theorem sub_rd {h : H} {q : Option Addr} {l o n m : Nat} {k : IntKind} {bs : List Int} (rd : hsv h q 1 l (ints k bs)) (ho : o + n ≤ l) (hm : m = o → n = 0) : hsv h (subAddr q o m 1) 1 n (ints k ((bs.drop o).take n)) := by
 have hl : bs.length = l := by have := rd.1; simpa using this
 refine ⟨by rw [ints_length, List.length_take, List.length_drop]; omega, ints_one _ _, ?_⟩
 by_cases c : n = 0
 ·subst c; exact Or.inl rfl
 unfold subAddr
 rw [if_neg (fun y => c (hm y))]
 obtain ⟨_, _, rd⟩ := rd
 rcases rd with rd | ⟨q', rfl, g⟩
 ·have := congrArg List.length rd
  rw [ints_length, List.length_nil] at this; omega
 ·refine Or.inr ⟨_, rfl, ?_⟩
  intro i v hv
  have hi : i < n := by
   have h1 : i < (ints k ((bs.drop o).take n)).length := (List.getElem?_eq_some_iff.1 hv).1
   rw [ints_length, List.length_take] at h1
   exact Nat.lt_of_lt_of_le h1 (Nat.min_le_left _ _)
  have e := g (o + i) v (by
   rw [ints_get] at hv ⊢
   rw [List.getElem?_take_of_lt hi, List.getElem?_drop] at hv
   exact hv)
  rw [Nat.mul_one, add_add]
  exact e
theorem drop_getD (bs : List Int) (o n x : Nat) (hx : x < n) : ((bs.drop o).take n).getD x 0 = bs.getD (o + x) 0 := by
 rw [List.getD_eq_getElem?_getD, List.getD_eq_getElem?_getD, List.getElem?_take_of_lt hx, List.getElem?_drop]
theorem drop_bytes {bs : List Int} (hb : bytesOk bs) (o n : Nat) : bytesOk ((bs.drop o).take n) := fun v hv => hb v (List.mem_of_mem_drop (List.mem_of_mem_take hv))
theorem num4_drop (bs : List Int) (o n : Nat) (hn : 4 ≤ n) : num4 ((bs.drop o).take n) 0 = num4 bs o := by
 unfold num4
 rw [drop_getD _ _ _ _ (by omega), drop_getD _ _ _ _ (by omega), drop_getD _ _ _ _ (by omega), drop_getD _ _ _ _ (by omega)]
 rfl
def markB (x : Nat) : Int := (((ByteArray.mk #[80, 67, 85, 76]).data.toList.getD x 0).toNat : Int)
def mayB (x : Nat) (c : Int) : Bool := if x < 4 then c == markB x else if x = 4 then c == 1 else if x = 5 then decide (c < 8) else if x = 6 then decide (c < 64) else if x = 7 then c == 0 else true
def headW (bs : List Int) : Nat → Nat → Option (Int × Int)
 | 0, _ => none
 | m + 1, x => if x = bs.length then some (6, x) else if mayB x (bs.getD x 0) = true then headW bs m (x + 1) else some (5, x)
def parseW (bs : List Int) : Int × Int :=
 if 524288 < bs.length then (4, 524288) else match headW bs 16 0 with
 | some w => w
 | none => if 524240 < num4 bs 12 then (5, 12) else if (bs.length : Int) < 48 + num4 bs 12 then (6, bs.length) else if 48 + num4 bs 12 < bs.length then (7, 48 + num4 bs 12) else (0, 0)
section
variable {h0 h : H} {A : List Ent} {i j p r b : Nat}
theorem number_sp {Q : Int → H → Prop} {q : Option Addr} {l c : Nat} {bs : List Int} (rd : hsv h q 1 l (ints .u8 bs)) (hb : bytesOk bs) (hl : 4 ≤ l) (k : Q (num4 bs 0) h) : F_image_number q l c Q h := by
 unfold F_image_number G_image_number
 have g : ∀ x, x < l → ∃ q', q = some q' ∧ hc h (q'.add x) = some (.int .u8 (bs.getD x 0)) := fun x hx => hsv_int rd hx
 obtain ⟨q0, e0, g0⟩ := g 0 (by omega)
 obtain ⟨q1, e1, g1⟩ := g 1 (by omega)
 obtain ⟨q2, e2, g2⟩ := g 2 (by omega)
 obtain ⟨q3, e3, g3⟩ := g 3 (by omega)
 rw [add_zero] at g0
 refine ⟨_, e0, by omega, by omega, _, g0, _, e1, by omega, by omega, _, g1, by omega, _, e2, by omega, by omega, _, g2, by omega, _, e3, by omega, by omega, _, g3, by omega, ?_⟩
 rw [or4 (byte_getD hb _) (byte_getD hb _) (byte_getD hb _) (byte_getD hb _)]
 exact k
theorem rnumber_sp {Q : Int → H → Prop} {q : Option Addr} {l c : Nat} {bs : List Int} (rd : hsv h q 1 l (ints .u8 bs)) (hb : bytesOk bs) (hl : 4 ≤ l) (k : Q (num4 bs 0) h) : F_portcullisref11_number q l c Q h := by
 unfold F_portcullisref11_number G_portcullisref11_number
 intro J hJ
 have g : ∀ x, x < l → ∃ q', q = some q' ∧ hc h (q'.add x) = some (.int .u8 (bs.getD x 0)) := fun x hx => hsv_int rd hx
 have S : ∀ n, n ≤ 4 → 0 ≤ n → True := fun _ _ _ => trivial
 have key : num4 bs 0 = gotI bs 4 := by
  have e0 : bits .or .i64 0 (IntKind.i64.wrap (IntKind.i64.wrap (bs.getD 0 0) * 2 ^ (8 * 0))) = IntKind.i64.wrap (bs.getD 0 0) := by
   have := byte_getD hb 0
   unfold isByte at this
   have w : IntKind.i64.wrap (bs.getD 0 0) = bs.getD 0 0 := by rw [IntKind.wrap_i64]; omega
   rw [w]
   have e : IntKind.i64.wrap (bs.getD 0 0 * 2 ^ (8 * 0)) = bs.getD 0 0 * 2 ^ 0 := by rw [IntKind.wrap_i64]; omega
   rw [e, or_low 0 (by omega) this.1 (by omega)]; omega
  unfold gotI gotI gotI gotI gotI
  rw [e0]
  exact (or4 (byte_getD hb _) (byte_getD hb _) (byte_getD hb _) (byte_getD hb _)).symm
 rw [key] at k
 refine loop_st 4 (fun n (x : Int) => [.dv (.one (.int .i64 x)), si n]) (fun n x h' => h' = h ∧ x = gotI bs n) ?_ ?_ 0 0 _ (by omega) ⟨rfl, rfl⟩
 ·rintro n x h1 hn ⟨rfl, rfl⟩ hk
  apply hJ
  rw [ltI_eq, if_pos (by simp; omega)]
  obtain ⟨q1, e1, g1⟩ := g n (by omega)
  have e8 : IntKind.i64.wrap (8 * (n : Int)) = ((8 * n : Nat) : Int) := by rw [wrap_id (by omega)]; omega
  refine ⟨_, e1, by omega, by omega, _, by rw [Int.toNat_natCast, Nat.mul_one]; exact g1, by rw [e8]; omega, ?_⟩
  rw [wrap_succ (by omega), step8_eq (by omega)]
  exact hk _ _ ⟨rfl, rfl⟩
 ·rintro x h1 ⟨rfl, rfl⟩
  apply hJ
  rw [ltI_eq, if_neg (by simp)]
  exact k
theorem may_sp {Q : Bool → H → Prop} (x : Nat) (c : Int) (k : Q (mayB x c) h) : F_image_may (x : Int) c Q h := by
 unfold F_image_may G_image_may
 unfold mayB at k
 by_cases g : x < 4
 ·rw [if_pos g] at k
  rw [ltI_eq, if_pos (by simp; omega)]
  refine ⟨by omega, by omega, ?_⟩
  rw [Int.toNat_natCast]; exact k
 rw [if_neg g] at k
 rw [ltI_eq, if_neg (by simp; omega)]
 by_cases g4 : x = 4
 ·rw [if_pos g4] at k; rw [if_pos (by simp; omega)]; exact k
 rw [if_neg g4] at k; rw [if_neg (by simp; omega)]
 by_cases g5 : x = 5
 ·rw [if_pos g5] at k; rw [if_pos (by simp; omega), ltI_eq]; exact k
 rw [if_neg g5] at k; rw [if_neg (by simp; omega)]
 by_cases g6 : x = 6
 ·rw [if_pos g6] at k; rw [if_pos (by simp; omega), ltI_eq]; exact k
 rw [if_neg g6] at k; rw [if_neg (by simp; omega)]
 by_cases g7 : x = 7
 ·rw [if_pos g7] at k; rw [if_pos (by simp; omega)]; exact k
 rw [if_neg g7] at k; rw [if_neg (by simp; omega)]
 exact k
theorem rmust_sp {Q : Bool → H → Prop} (x : Nat) (c : Int) (k : Q (mayB x c) h) : F_portcullisref11_must (x : Int) c Q h := by
 unfold F_portcullisref11_must G_portcullisref11_must
 intro J hJ
 have way : ∀ bb : Bool, (bb = true ↔ x < 4) → J [.dv (.one (.bool bb))] h := by
  intro bb hbb
  apply hJ
  unfold mayB at k
  by_cases g : x < 4
  ·rw [if_pos g] at k
   rw [if_pos (hbb.2 g)]
   refine ⟨by omega, by omega, ?_⟩
   rw [Int.toNat_natCast]; exact k
  rw [if_neg g] at k
  rw [if_neg (fun y => g (hbb.1 y))]
  by_cases g4 : x = 4
  ·rw [if_pos g4] at k; rw [if_pos (by simp; omega)]; exact k
  rw [if_neg g4] at k; rw [if_neg (by simp; omega)]
  by_cases g5 : x = 5
  ·rw [if_pos g5] at k; rw [if_pos (by simp; omega), ltI_eq]; exact k
  rw [if_neg g5] at k; rw [if_neg (by simp; omega)]
  by_cases g6 : x = 6
  ·rw [if_pos g6] at k; rw [if_pos (by simp; omega), ltI_eq]; exact k
  rw [if_neg g6] at k; rw [if_neg (by simp; omega)]
  by_cases g7 : x = 7
  ·rw [if_pos g7] at k; rw [if_pos (by simp; omega)]; exact k
  rw [if_neg g7] at k; rw [if_neg (by simp; omega)]
  exact k
 by_cases g0 : x = 0
 ·rw [if_pos (by simp; omega)]; exact way _ (by simp; omega)
 rw [if_neg (by simp; omega)]
 by_cases g1 : x = 1
 ·rw [if_pos (by simp; omega)]; exact way _ (by simp; omega)
 rw [if_neg (by simp; omega)]
 by_cases g2 : x = 2
 ·rw [if_pos (by simp; omega)]; exact way _ (by simp; omega)
 rw [if_neg (by simp; omega)]
 exact way _ (by simp; omega)
end
end Go.Proofs.YtaglicdidpgkpaaGreatDoor
end

/- Images: taken apart. Own work. -/
section
set_option maxRecDepth 100000
set_option linter.unusedVariables false
namespace Go.Proofs.YtaglicdidpgkpaaGreatDoor
open Go Go.Vc

abbrev imgL (a b v : Int) (x : Sl) (t : List Int) : List Value := .int .i64 a :: .int .i64 b :: .int .i64 v :: x.v :: ints .u8 t
section
variable {h0 h : H} {A : List Ent} {i j p r b : Nat}
theorem img_len {a b v : Int} {x : Sl} {t : List Int} (ht : t.length = 32) : (imgL a b v x t).length = 36 := by simp [ht]
theorem img_row {a b' v : Int} {x : Sl} {t : List Int} (hs : Sat h0 A h) (m : At A i (blk b (imgL a b' v x t))) (ht : t.length = 32) : hrow h ⟨b, 4, none⟩ .u8 t := by
 refine hs.cs m ?_
 show (ints .u8 t).take (ints .u8 t).length = _
 rw [List.take_length]
theorem img_s4 {a b' v : Int} {x : Sl} {u : List Int} (hu : u.length = 32) : splice (imgL a b' v x (zeros 32)) 4 (ints .u8 u) = imgL a b' v x u := by
 have e : imgL a b' v x (zeros 32) = [.int .i64 a, .int .i64 b', .int .i64 v, x.v] ++ ints .u8 (zeros 32) := rfl
 have e2 : ∀ (vs xs : List Value) (o : Nat) (pre : List Value), splice (pre ++ vs) (pre.length + o) xs = pre ++ splice vs o xs := by
  intro vs xs
  induction xs generalizing vs with
  | nil => intro o pre; rfl
  | cons y ys ih =>
   intro o pre
   rw [splice_cons, splice_cons, set_app pre vs [], Nat.add_assoc]
   exact ih (vs.set o y) (o + 1) pre
 rw [e]
 have := e2 (ints .u8 (zeros 32)) (ints .u8 u) 0 [.int .i64 a, .int .i64 b', .int .i64 v, x.v]
 rw [splice_all _ _ (by simp [hu])] at this
 exact this
theorem Parse_sp {Q : Int → Int → Int → Option Addr → Nat → Nat → List Int → Value → H → Prop} {q : Option Addr} {l c : Nat} {bs : List Int} (hs : Sat h0 A h) (rd : ∀ h', Sat h0 A h' → hsv h' q 1 l (ints .u8 bs)) (hb : bytesOk bs) (hlc : l ≤ c) (hl : l < 2 ^ 50)
  (k1 : ∀ e at_ w h', parseW bs = (e, at_) → e ≠ 0 → Sat h0 (blk w [.int .i64 e, .int .i64 at_] :: A) h' → Q 0 0 0 none 0 0 (zeros 32) (.iface 200 (.pointer (some ⟨w, 0, none⟩))) h')
  (k2 : ∀ (own : Sl) (n : Nat) h', parseW bs = (0, 0) → num4 bs 12 = n → Sat h0 (sE own 1 (ints .u8 bs) :: A) h' → Q (bs.getD 5 0) (bs.getD 6 0) (num4 bs 8) (subAddr own.1 16 (16 + n) 1) n n ((bs.drop (16 + n)).take 32) .nilIface h') :
  F_image_Parse q l c Q h := by
 unfold F_image_Parse G_image_Parse
 try simp only [add_mk, Nat.zero_add, List.append_nil]
 have hbl : bs.length = l := by have := (rd _ hs).1; simpa using this
 intro n7 _ hn; replace hs := Sat.new hs hn; clear hn
 replace hs : Sat h0 (blk n7 (imgL 0 0 0 (none, 0, 0) (zeros 32)) :: A) _ := hs
 have bad : ∀ e at_ h', parseW bs = (e, at_) → e ≠ 0 → Sat h0 (blk n7 (imgL 0 0 0 (none, 0, 0) (zeros 32)) :: A) h' → ∀ (n10 : Nat) (h11 : H), hnew h' n10 [.int .i64 e, .int .i64 at_] h11 → hcan h11 ⟨n7, 0, none⟩ 36 ∧ ∀ h13, h13 = hwr h11 ⟨n7, 0, none⟩ (imgL 0 0 0 (none, 0, 0) (zeros 32)) →
   ∃ i15 : Int, hc h13 ⟨n7, 0, none⟩ = some (.int .i64 i15) ∧ ∃ i16 : Int, hc h13 ⟨n7, 1, none⟩ = some (.int .i64 i16) ∧ ∃ i17 : Int, hc h13 ⟨n7, 2, none⟩ = some (.int .i64 i17) ∧ ∃ (o18 : Option Addr) (n19 n20 : Nat), hc h13 ⟨n7, 3, none⟩ = some (.slice o18 n19 n20) ∧
    ∃ l21 : List Int, l21.length = 32 ∧ hrow h13 ⟨n7, 4, none⟩ .u8 l21 ∧ Q i15 i16 i17 o18 n19 n20 l21 (.iface 200 (.pointer (some ⟨n10, 0, none⟩))) h13 := by
  intro e at_ h' hw he hs n10 h11 hn
  replace hs := Sat.new hs hn
  refine ⟨Sat.can hs (i := 1) (.s .z) (by decide), ?_⟩
  intro h13 e13
  replace hs := Sat.wra hs (i := 1) (.s .z) e13 rfl
  simp only [put] at hs
  refine ⟨_, Sat.ld hs (i := 1) (.s .z) rfl, _, Sat.ld hs (i := 1) (.s .z) rfl, _, Sat.ld hs (i := 1) (.s .z) rfl, _, _, _, Sat.ld hs (i := 1) (.s .z) rfl, _, rfl, img_row hs (.s .z) rfl, ?_⟩
  exact k1 e at_ n10 _ hw he (hs.sub (by (repeat (first | exact List.Sublist.refl _ | apply List.Sublist.cons_cons | apply List.Sublist.cons))))
 by_cases g1 : 524288 < l
 ·rw [ltI_eq, if_pos (by simp; omega)]
  exact bad _ _ _ (by unfold parseW; rw [if_pos (by omega)]) (by decide) hs
 rw [ltI_eq, if_neg (by simp; omega)]
 have hP : parseW bs = match headW bs 16 0 with
  | some w => w
  | none => if 524240 < num4 bs 12 then (5, 12) else if (bs.length : Int) < 48 + num4 bs 12 then (6, bs.length) else if 48 + num4 bs 12 < bs.length then (7, 48 + num4 bs 12) else (0, 0) := by
  unfold parseW; rw [if_neg (by omega)]; try rfl
 clear k1
 generalize hW : headW bs 16 0 = W at hP
 intro J hJ
 refine loop_up 16 (fun x h => Sat h0 (blk n7 (imgL 0 0 0 (none, 0, 0) (zeros 32)) :: A) h ∧ W = headW bs (16 - x) x ∧ x ≤ l) ?_ ?_ 0 _ (by omega) ⟨hs, hW.symm, by omega⟩
 ·rintro x h1 hx ⟨hs, hh, hxl⟩ hk
  apply hJ
  rw [ltI_eq, if_pos (by simp; omega)]
  obtain ⟨m, hm⟩ : ∃ m, 16 - x = m + 1 := ⟨16 - x - 1, by omega⟩
  rw [hm] at hh
  unfold headW at hh
  by_cases g2 : x = l
  ·rw [if_pos (show x = bs.length by omega)] at hh
   rw [if_pos (by simp; omega)]
   exact bad 6 x _ (by rw [hP, hh]) (by decide) hs
  rw [if_neg (show ¬ x = bs.length by omega)] at hh
  rw [if_neg (by simp; omega)]
  obtain ⟨q', hq, g⟩ := hsv_int (rd _ hs.drop) (x := x) (by omega)
  refine ⟨_, hq, by omega, by omega, _, by rw [Int.toNat_natCast, Nat.mul_one]; exact g, ?_⟩
  refine may_sp x _ ?_
  by_cases g3 : mayB x (bs.getD x 0) = true
  ·rw [if_pos g3] at hh
   rw [if_neg (by rw [g3]; decide), wrap_succ (by omega)]
   exact hk _ ⟨hs, by rw [hh, show 16 - (x + 1) = m by omega], by omega⟩
  ·rw [if_neg g3] at hh
   rw [if_pos (by rw [Bool.not_eq_true] at g3; rw [g3]; rfl)]
   exact bad 5 x _ (by rw [hP, hh]) (by decide) hs
 rintro h1 ⟨hs, hh, hxl⟩
 apply hJ
 rw [ltI_eq, if_neg (by simp)]
 clear hJ J
 have hh : W = none := hh
 rw [hh] at hP
 dsimp only at hP
 refine ⟨by omega, by omega, ?_⟩
 have rd12 := sub_rd (o := 12) (n := l - 12) (m := c) (rd _ hs.drop) (by omega) (by omega)
 refine number_sp rd12 (drop_bytes hb _ _) (by omega) ?_
 rw [num4_drop _ _ _ (by omega)]
 obtain ⟨r1, r2⟩ := num4_range hb 12
 obtain ⟨n, hnn⟩ := Int.eq_ofNat_of_zero_le r1
 rw [hnn] at hP r2 ⊢
 have ew : IntKind.i64.wrap (16 + (n : Int)) = ((16 + n : Nat) : Int) := by rw [wrap_id (by omega)]; omega
 have ew2 : IntKind.i64.wrap (((16 + n : Nat) : Int) + 32) = ((48 + n : Nat) : Int) := by rw [wrap_id (by omega)]; omega
 rw [ew, ew2]
 by_cases g2 : 524240 < n
 ·rw [if_pos (by omega)] at hP
  rw [ltI_eq, if_pos (by simp; omega)]
  exact bad 5 12 _ hP (by decide) hs
 rw [if_neg (by omega)] at hP
 rw [ltI_eq, if_neg (by simp; omega)]
 by_cases g3 : l < 48 + n
 ·rw [if_pos (by omega), hbl] at hP
  rw [ltI_eq, if_pos (by simp; omega)]
  exact bad 6 l _ hP (by decide) hs
 rw [if_neg (by omega)] at hP
 rw [ltI_eq, if_neg (by simp; omega)]
 by_cases g4 : 48 + n < l
 ·rw [if_pos (by omega)] at hP
  rw [ltI_eq, if_pos (by simp; omega)]
  exact bad 7 _ _ (by rw [hP]; congr 1) (by decide) hs
 rw [if_neg (by omega)] at hP
 rw [ltI_eq, if_neg (by simp; omega)]
 have hw := hP
 clear bad hP
 have hl48 : l = 48 + n := by omega
 refine ⟨_, rd _ hs.drop, ?_⟩
 refine Sat.app_new hs (by simp [hbl]) rfl (ints_one _ _) (by omega) ?_
 intro o c2 h2 hs
 obtain ⟨own, hown⟩ : ∃ own : Sl, own = (o, l, c2) := ⟨_, rfl⟩
 have hcap := sl_cap hs (i := 0) .z
 replace hs : Sat h0 (sE own 1 (ints .u8 bs) :: blk n7 (imgL 0 0 0 (none, 0, 0) (zeros 32)) :: A) h2 := by rw [hown]; exact hs
 have eo1 : o = own.1 := by rw [hown]
 have eo2 : own.2.1 = l := by rw [hown]
 rw [eo1]
 have B : ∀ x, x < l → ∀ {A' : List Ent} {h' : H}, Sat h0 A h' → ∃ q', q = some q' ∧ hc h' (q'.add x) = some (.int .u8 (bs.getD x 0)) := fun x hx A' h' hs' => hsv_int (rd _ hs') hx
 obtain ⟨q', hq, g5⟩ := hsv_int (rd _ hs.drop.drop) (x := 5) (by omega)
 obtain ⟨q2, hq2, g6⟩ := hsv_int (rd _ hs.drop.drop) (x := 6) (by omega)
 rw [hq] at hq2
 injection hq2 with hq2
 subst hq2
 have c5 : ∀ h', Sat h0 A h' → hcs h' (q'.add 5) [.int .u8 (bs.getD 5 0)] := fun h' hs' => by
  obtain ⟨q2, hq2, g⟩ := hsv_int (rd _ hs') (x := 5) (by omega)
  rw [hq] at hq2; injection hq2 with hq2; subst hq2; exact hcs_one g
 have c6 : ∀ h', Sat h0 A h' → hcs h' (q'.add 6) [.int .u8 (bs.getD 6 0)] := fun h' hs' => by
  obtain ⟨q2, hq2, g⟩ := hsv_int (rd _ hs') (x := 6) (by omega)
  rw [hq] at hq2; injection hq2 with hq2; subst hq2; exact hcs_one g
 have b5 := byte_getD hb 5
 have b6 := byte_getD hb 6
 unfold isByte at b5 b6
 have w5 : IntKind.i64.wrap (bs.getD 5 0) = bs.getD 5 0 := by rw [IntKind.wrap_i64]; omega
 have w6 : IntKind.i64.wrap (bs.getD 6 0) = bs.getD 6 0 := by rw [IntKind.wrap_i64]; omega
 have ht32 : ((bs.drop (16 + n)).take 32).length = 32 := by rw [List.length_take, List.length_drop]; omega
 refine ⟨_, hq, by omega, by omega, _, g5, _, hq, by omega, by omega, _, g6, by omega, by omega, by omega, by omega, by omega, by omega, ?_⟩
 rw [Int.toNat_natCast, Nat.add_sub_cancel_left]
 have rd8 : ∀ h', Sat h0 A h' → hsv h' (subAddr q 8 c 1) 1 (l - 8) (ints .u8 ((bs.drop 8).take (l - 8))) := fun h' hs' => sub_rd (o := 8) (n := l - 8) (m := c) (rd _ hs') (by omega) (by omega)
 rw [w5, w6, show Nat.min (l - (16 + n)) 32 = 32 by show min _ _ = _; omega]
 constructor
 ·refine number_sp (rd8 _ hs.drop.drop) (drop_bytes hb _ _) (by omega) ?_
  rw [num4_drop _ _ _ (by omega)]
  refine ⟨c6 _ hs.drop.drop, c5 _ hs.drop.drop, ?_⟩
  intro nb _ hn; replace hs := Sat.new hs hn; clear hn
  refine ⟨c6 _ hs.drop.drop.drop, c5 _ hs.drop.drop.drop, ?_⟩
  (refine ⟨Sat.can hs (i := 0) .z (by decide), ?_⟩; intro h20 e20; replace hs := Sat.wra hs (i := 0) .z e20 (by rfl); clear e20; simp only [put] at hs; replace hs : Sat h0 (blk nb (imgL (bs.getD 5 0) (bs.getD 6 0) (num4 bs 8) (subAddr own.1 16 (16 + n) 1, n, n) (zeros 32)) :: sE own 1 (ints .u8 bs) :: blk n7 (imgL 0 0 0 (none, 0, 0) (zeros 32)) :: A) h20 := hs; refine ⟨by omega, by omega, _, sub_rd (n := 32) (hs.sv (i := 1) (.s .z)) (by omega) (by omega), Or.inr ⟨_, rfl, Sat.can hs (i := 0) .z (by rw [img_len rfl]; decide)⟩, ?_⟩; intro h21 e21; replace hs := Sat.wr hs (i := 0) .z (o := 4) e21; clear e21; rw [img_s4 (by rw [List.length_take, List.length_drop]; omega)] at hs; simp only [put] at hs; refine ⟨_, Sat.ld hs (i := 0) .z rfl, _, Sat.ld hs (i := 0) .z rfl, _, Sat.ld hs (i := 0) .z rfl, _, _, _, Sat.ld hs (i := 0) .z rfl, _, ht32, img_row hs .z ht32, Sat.can hs (i := 2) (.s (.s .z)) (by decide), ?_⟩; intro h22 e22; replace hs := Sat.wra hs (i := 2) (.s (.s .z)) e22 (by rw [img_len ht32]; rfl); clear e22; simp only [put] at hs; replace hs : Sat h0 (blk nb (imgL (bs.getD 5 0) (bs.getD 6 0) (num4 bs 8) (subAddr own.1 16 (16 + n) 1, n, n) ((bs.drop (16 + n)).take 32)) :: sE own 1 (ints .u8 bs) :: blk n7 (imgL (bs.getD 5 0) (bs.getD 6 0) (num4 bs 8) (subAddr own.1 16 (16 + n) 1, n, n) ((bs.drop (16 + n)).take 32)) :: A) h22 := hs; refine ⟨_, Sat.ld hs (i := 2) (.s (.s .z)) rfl, _, Sat.ld hs (i := 2) (.s (.s .z)) rfl, _, Sat.ld hs (i := 2) (.s (.s .z)) rfl, _, _, _, Sat.ld hs (i := 2) (.s (.s .z)) rfl, _, ht32, img_row hs (.s (.s .z)) ht32, ?_⟩; exact k2 own n _ hw hnn (hs.sub (by (repeat (first | exact List.Sublist.refl _ | apply List.Sublist.cons_cons | apply List.Sublist.cons)))))
 ·intro nb _ hn; replace hs := Sat.new hs hn; clear hn
  refine ⟨c6 _ hs.drop.drop.drop, c5 _ hs.drop.drop.drop, ?_⟩
  refine number_sp (rd8 _ hs.drop.drop.drop) (drop_bytes hb _ _) (by omega) ?_
  rw [num4_drop _ _ _ (by omega)]
  refine ⟨c6 _ hs.drop.drop.drop, c5 _ hs.drop.drop.drop, ?_⟩
  (refine ⟨Sat.can hs (i := 0) .z (by decide), ?_⟩; intro h20 e20; replace hs := Sat.wra hs (i := 0) .z e20 (by rfl); clear e20; simp only [put] at hs; replace hs : Sat h0 (blk nb (imgL (bs.getD 5 0) (bs.getD 6 0) (num4 bs 8) (subAddr own.1 16 (16 + n) 1, n, n) (zeros 32)) :: sE own 1 (ints .u8 bs) :: blk n7 (imgL 0 0 0 (none, 0, 0) (zeros 32)) :: A) h20 := hs; refine ⟨by omega, by omega, _, sub_rd (n := 32) (hs.sv (i := 1) (.s .z)) (by omega) (by omega), Or.inr ⟨_, rfl, Sat.can hs (i := 0) .z (by rw [img_len rfl]; decide)⟩, ?_⟩; intro h21 e21; replace hs := Sat.wr hs (i := 0) .z (o := 4) e21; clear e21; rw [img_s4 (by rw [List.length_take, List.length_drop]; omega)] at hs; simp only [put] at hs; refine ⟨_, Sat.ld hs (i := 0) .z rfl, _, Sat.ld hs (i := 0) .z rfl, _, Sat.ld hs (i := 0) .z rfl, _, _, _, Sat.ld hs (i := 0) .z rfl, _, ht32, img_row hs .z ht32, Sat.can hs (i := 2) (.s (.s .z)) (by decide), ?_⟩; intro h22 e22; replace hs := Sat.wra hs (i := 2) (.s (.s .z)) e22 (by rw [img_len ht32]; rfl); clear e22; simp only [put] at hs; replace hs : Sat h0 (blk nb (imgL (bs.getD 5 0) (bs.getD 6 0) (num4 bs 8) (subAddr own.1 16 (16 + n) 1, n, n) ((bs.drop (16 + n)).take 32)) :: sE own 1 (ints .u8 bs) :: blk n7 (imgL (bs.getD 5 0) (bs.getD 6 0) (num4 bs 8) (subAddr own.1 16 (16 + n) 1, n, n) ((bs.drop (16 + n)).take 32)) :: A) h22 := hs; refine ⟨_, Sat.ld hs (i := 2) (.s (.s .z)) rfl, _, Sat.ld hs (i := 2) (.s (.s .z)) rfl, _, Sat.ld hs (i := 2) (.s (.s .z)) rfl, _, _, _, Sat.ld hs (i := 2) (.s (.s .z)) rfl, _, ht32, img_row hs (.s (.s .z)) ht32, ?_⟩; exact k2 own n _ hw hnn (hs.sub (by (repeat (first | exact List.Sublist.refl _ | apply List.Sublist.cons_cons | apply List.Sublist.cons)))))
end
end Go.Proofs.YtaglicdidpgkpaaGreatDoor
end
