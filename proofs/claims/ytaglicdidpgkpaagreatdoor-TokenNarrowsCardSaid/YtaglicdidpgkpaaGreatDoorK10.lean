/- TokenNarrows: what is proved and its parts, laid together by a program of ours: Sh2 Sh3 Sh4 Mac1 Tk1 Tk2 Tk3 Tk4 -/
import Derived.Test.YtaglicdidpgkpaaGreatDoorK9
set_option autoImplicit false
set_option linter.all false
/- SHA-256 in the program: a piece is taken in. Own work. -/
section
set_option maxRecDepth 100000
set_option linter.unusedVariables false
namespace Go.Proofs.YtaglicdidpgkpaaGreatDoor
open Go Go.Vc

theorem addAdd (a : Addr) (i j : Nat) : (a.add i).add j = a.add (i + j) := by
 unfold Addr.add
 by_cases h : i = 0
 ·subst h; simp
 ·by_cases h2 : j = 0
  ·subst h2; simp
  ·have : ¬ i + j = 0 := by omega
   simp [h, h2]; omega
theorem subRd {h : H} {q : Option Addr} {l o n m : Nat} {k : IntKind} {bs : List Int} (rd : hsv h q 1 l (ints k bs)) (ho : o + n ≤ l) (hm : m = o → n = 0) : hsv h (subAddr q o m 1) 1 n (ints k ((bs.drop o).take n)) := by
 have hl : bs.length = l := by have := rd.1; simpa using this
 refine ⟨by rw [ints_length, List.length_take, List.length_drop]; omega, ints_one _ _, ?_⟩
 by_cases c : n = 0
 ·subst c; exact Or.inl rfl
 unfold subAddr
 rw [if_neg (fun y => c (hm y))]
 obtain ⟨_, _, rd⟩ := rd
 rcases rd with rd | ⟨q', rfl, g⟩
 ·have := congrArg List.length rd
  rw [ints_length, List.length_nil] at this; omega
 ·refine Or.inr ⟨_, rfl, ?_⟩
  intro i v hv
  have hi : i < n := by
   have h1 : i < (ints k ((bs.drop o).take n)).length := (List.getElem?_eq_some_iff.1 hv).1
   rw [ints_length, List.length_take] at h1
   exact Nat.lt_of_lt_of_le h1 (Nat.min_le_left _ _)
  have e := g (o + i) v (by
   rw [ints_get] at hv ⊢
   rw [List.getElem?_take_of_lt hi, List.getElem?_drop] at hv
   exact hv)
  rw [Nat.mul_one, addAdd]
  exact e
theorem setD (l : List Int) (j k : Nat) (v : Int) : (l.set j v).getD k 0 = if j = k ∧ k < l.length then v else l.getD k 0 := by
 rw [List.getD_eq_getElem?_getD, List.getElem?_set]
 by_cases c : j = k
 ·subst c
  by_cases d : j < l.length
  ·simp [d]
  ·simp [d]
 ·simp [c]
theorem setSame (l : List Int) (k : Nat) : l.set k (l.getD k 0) = l := by
 apply List.ext_getElem?
 intro j
 rw [List.getElem?_set]
 by_cases c : k = j
 ·subst c
  by_cases d : k < l.length
  ·simp [d, List.getD, List.getElem?_eq_getElem d]
  ·simp [d]
 ·simp [c]
theorem wM_hi (bs : List Int) : ∀ t k, t ≤ k → (wM bs t).getD k 0 = 0
 | 0, k, _ => by
  show (zeros 64).getD k 0 = 0
  rw [List.getD_eq_getElem?_getD]
  unfold zeros
  rw [List.getElem?_replicate]; split <;> rfl
 | t + 1, k, h => by
  show ((wM bs t).set t _).getD k 0 = 0
  rw [setD, if_neg (by omega)]
  exact wM_hi bs t k (by omega)
theorem turn2_sp {h : H} {Q : Int → H → Prop} (x : Int) (m : Nat) {mi : Int} (e : mi = (m : Int)) (hm : bits .and .u64 (IntKind.u64.wrap (IntKind.i64.wrap (0 - (m : Int)))) 31 = ((32 - m : Nat) : Int)) (h1 : 1 ≤ m) (h2 : m < 32) (q : Q (rotM x m) h) : F_sha_turn x mi Q h := by
 subst e
 exact shTurn_sp x m hm h1 h2 q
section
variable {h0 h : H} {A : List Ent} {i d : Nat}
theorem take_sp {Q : H → Prop} {s sm bs : List Int} {n : Int} {bp : Option Addr} {bc : Nat} (hs : Sat h0 A h) (cd : At A i (blk d (dgL s sm n))) (l1 : s.length = 8) (l2 : sm.length = 64) (hbc : 64 ≤ bc) (rd : ∀ h', Sat h0 A h' → hsv h' bp 1 64 (ints .u8 bs))
  (k : ∀ h', Sat h0 (put A i (blk d (dgL (pieceM s bs) sm n))) h' → Q h') : F_sha_Digest_take ⟨d, 0, none⟩ bp 64 bc Q h := by
 unfold F_sha_Digest_take G_sha_Digest_take
 try simp only [add_mk, Nat.zero_add, List.append_nil]
 intro wn _ hn; replace hs := Sat.new hs hn; clear hn
 intro J10 hJ10
 refine loop_up 16 (fun t h => Sat h0 (blk wn (ints .u32 (wM bs t)) :: A) h) ?_ ?_ 0 _ (by omega) hs
 ·intro t h1 ht hs hk
  apply hJ10
  rw [ltI_eq, if_pos (by simp; omega)]
  have e4 : IntKind.i64.wrap (4 * (t : Int)) = ((4 * t : Nat) : Int) := by rw [wrap_id (by omega)]; push_cast; rfl
  have e8 : IntKind.i64.wrap (((4 * t : Nat) : Int) + 4) = ((4 * t + 4 : Nat) : Int) := by rw [wrap_id (by omega)]; push_cast; rfl
  rw [e4, e8]
  simp only [Int.toNat_natCast, Nat.mul_one]
  refine ⟨by omega, by omega, by omega, ?_⟩
  rw [show 4 * t + 4 - 4 * t = 4 by omega]
  obtain ⟨pc, hpc⟩ : ∃ pc, pc = (bs.drop (4 * t)).take 4 := ⟨_, rfl⟩
  have hlen := wM_len bs t
  intro J13 hJ13
  refine loop_up 4 (fun j h => Sat h0 (blk wn (ints .u32 ((wM bs t).set t (accM pc j))) :: A) h) ?_ ?_ 0 _ (by omega) (by
   have : (wM bs t).set t (accM pc 0) = wM bs t := by
    have := setSame (wM bs t) t
    rw [wM_hi bs t t (Nat.le_refl _)] at this
    exact this
   rw [this]; exact hs)
  ·intro j h2 hj hs hk2
   apply hJ13
   rw [ltI_eq, if_pos (by simp; omega)]
   obtain ⟨q, hq, g⟩ := hsvI (subRd (o := 4 * t) (n := 4) (m := bc) (rd _ hs.drop) (by omega) (by omega)) (x := j) (by omega)
   rw [← hpc] at g
   refine ⟨q, hq, by omega, by omega, _, g, by omega, by omega, ?_⟩
   have gw := hs.ld (i := 0) (b := wn) .z (intsG (k := .u32) (l := (wM bs t).set t (accM pc j)) (i := t) (by simp [hlen]; omega))
   rw [setD, if_pos ⟨rfl, by omega⟩] at gw
   refine ⟨_, gw, by decide, by omega, by omega, ?_⟩
   refine ⟨Sat.can hs (i := 0) .z (by simp [hlen]; omega), ?_⟩
   intro h3 e
   replace hs := Sat.wr hs (i := 0) .z e
   clear e
   rw [intsP, List.set_set] at hs
   rw [wrap_succ (by omega)]
   exact hk2 _ hs
  ·intro h2 hs
   apply hJ13
   rw [ltI_eq, if_neg (by decide), wrap_succ (by omega)]
   refine hk _ ?_
   show Sat h0 (blk wn (ints .u32 ((wM bs t).set t _)) :: A) h2
   rw [if_pos ht, ← hpc]
   exact hs
 ·intro h1 hs
  apply hJ10
  rw [ltI_eq, if_neg (by decide)]
  clear hJ10 J10
  intro J23 hJ23
  refine loop_up 64 (fun t h => 16 ≤ t ∧ Sat h0 (blk wn (ints .u32 (wM bs t)) :: A) h) ?_ ?_ 16 _ (by omega) ⟨by omega, hs⟩
  ·rintro t h2 ht ⟨ht2, hs⟩ hk
   apply hJ23
   rw [ltI_eq, if_pos (by simp; omega)]
   have hlen := wM_len bs t
   have e15 : IntKind.i64.wrap ((t : Int) - 15) = ((t - 15 : Nat) : Int) := by rw [wrap_id (by omega)]; omega
   have e2 : IntKind.i64.wrap ((t : Int) - 2) = ((t - 2 : Nat) : Int) := by rw [wrap_id (by omega)]; omega
   have e16 : IntKind.i64.wrap ((t : Int) - 16) = ((t - 16 : Nat) : Int) := by rw [wrap_id (by omega)]; omega
   have e7 : IntKind.i64.wrap ((t : Int) - 7) = ((t - 7 : Nat) : Int) := by rw [wrap_id (by omega)]; omega
   rw [e15, e2, e16, e7]
   simp only [Int.toNat_natCast, Nat.mul_one]
   have g := fun (x : Nat) (hx : x < 64) => hs.ld (i := 0) (b := wn) .z (intsG (k := .u32) (l := wM bs t) (i := x) (by omega))
   refine ⟨by omega, by omega, _, g _ (by omega), by omega, by omega, _, g _ (by omega), by omega, by omega, _, g _ (by omega), by decide, by omega, by omega, _, g _ (by omega), by decide, ?_⟩
   refine turn2_sp _ 7 rfl (by decide +kernel) (by decide) (by decide) ?_
   refine ⟨hcs_one (g _ (by omega)), hcs_one (g _ (by omega)), ?_⟩
   refine turn2_sp _ 18 rfl (by decide +kernel) (by decide) (by decide) ?_
   refine ⟨hcs_one (g _ (by omega)), hcs_one (g _ (by omega)), ?_⟩
   refine turn2_sp _ 17 rfl (by decide +kernel) (by decide) (by decide) ?_
   refine ⟨hcs_one (g _ (by omega)), hcs_one (g _ (by omega)), ?_⟩
   refine turn2_sp _ 19 rfl (by decide +kernel) (by decide) (by decide) ?_
   refine ⟨hcs_one (g _ (by omega)), hcs_one (g _ (by omega)), by omega, by omega, ?_⟩
   refine ⟨Sat.can hs (i := 0) .z (by simp [hlen]; omega), ?_⟩
   intro h3 e
   replace hs := Sat.wr hs (i := 0) .z e
   clear e
   rw [intsP] at hs
   rw [wrap_succ (by omega)]
   refine hk _ ⟨by omega, ?_⟩
   show Sat h0 (blk wn (ints .u32 ((wM bs t).set t _)) :: A) h3
   rw [if_neg (by omega)]
   exact hs
  ·rintro h2 ⟨_, hs⟩
   apply hJ23
   rw [ltI_eq, if_neg (by decide)]
   clear hJ23 J23
   refine ⟨s, l1, hs.row (i := i + 1) (.s cd) (fun x hx => by rw [Nat.zero_add, dg_s l1 (by omega), List.getElem?_eq_getElem hx]; simp [List.getD, List.getElem?_eq_getElem hx]), ?_⟩
   intro sn _ hn; replace hs := Sat.new hs hn; clear hn
   refine ⟨Sat.can hs (i := 0) .z (by simp [l1, zeros]), ?_⟩
   intro h3 e
   replace hs := Sat.wra hs (i := 0) .z e (by simp [l1, zeros])
   clear e
   simp only [put_zero] at hs
   obtain ⟨w, hw⟩ : ∃ w, w = wM bs 64 := ⟨_, rfl⟩
   have hwl : w.length = 64 := by rw [hw]; exact wM_len _ _
   rw [← hw] at hs
   intro J46 hJ46
   refine loop_up 64 (fun t h => Sat h0 (blk sn (ints .u32 (rM w s t)) :: blk wn (ints .u32 w) :: A) h) ?_ ?_ 0 _ (by omega) hs
   ·intro t h4 ht hs hk
    apply hJ46
    rw [ltI_eq, if_pos (by simp; omega)]
    obtain ⟨a, b, c, dd, e, f, g, hh, hr⟩ := len8 (rM_len w s l1 t)
    rw [hr] at hs
    simp only [Int.toNat_natCast, Nat.mul_one]
    have gk : hc h4 ⟨d, 73 + t, none⟩ = some (.int .u32 (kM.getD t 0)) := hs.ld (i := i + 2) (.s (.s cd)) (dg_k l1 l2 ht)
    have gw : hc h4 ⟨wn, t, none⟩ = some (.int .u32 (w.getD t 0)) := hs.ld (i := 1) (.s .z) (intsG (by omega))
    have g0 : hc h4 ⟨sn, 0, none⟩ = some (.int .u32 a) := hs.ld (i := 0) .z rfl
    have g1 : hc h4 ⟨sn, 1, none⟩ = some (.int .u32 b) := hs.ld (i := 0) .z rfl
    have g2 : hc h4 ⟨sn, 2, none⟩ = some (.int .u32 c) := hs.ld (i := 0) .z rfl
    have g3 : hc h4 ⟨sn, 3, none⟩ = some (.int .u32 dd) := hs.ld (i := 0) .z rfl
    have g4 : hc h4 ⟨sn, 4, none⟩ = some (.int .u32 e) := hs.ld (i := 0) .z rfl
    have g5 : hc h4 ⟨sn, 5, none⟩ = some (.int .u32 f) := hs.ld (i := 0) .z rfl
    have g6 : hc h4 ⟨sn, 6, none⟩ = some (.int .u32 g) := hs.ld (i := 0) .z rfl
    have g7 : hc h4 ⟨sn, 7, none⟩ = some (.int .u32 hh) := hs.ld (i := 0) .z rfl
    refine ⟨by decide, by decide, _, g7, by decide, by decide, _, g4, by decide, by decide, _, g4, by decide, by decide, _, g4, by decide, by decide, _, g4, by decide, by decide, _, g5, by decide, by decide, _, g4, by decide, by decide, _, g6, by omega, by omega, _, gk, by omega, by omega, _, gw, ?_⟩
    refine turn2_sp _ 6 rfl (by decide +kernel) (by decide) (by decide) ?_
    refine ⟨hcs_one gw, hcs_one gk, hcs_one g6, hcs_one g4, hcs_one g5, hcs_one g4, hcs_one g4, hcs_one g4, hcs_one g7, ?_⟩
    refine turn2_sp _ 11 rfl (by decide +kernel) (by decide) (by decide) ?_
    refine ⟨hcs_one gw, hcs_one gk, hcs_one g6, hcs_one g4, hcs_one g5, hcs_one g4, hcs_one g4, hcs_one g7, ?_⟩
    refine turn2_sp _ 25 rfl (by decide +kernel) (by decide) (by decide) ?_
    refine ⟨hcs_one gw, hcs_one gk, hcs_one g6, hcs_one g4, hcs_one g5, hcs_one g4, hcs_one g7, ?_⟩
    refine ⟨by decide, by decide, _, g0, by decide, by decide, _, g0, by decide, by decide, _, g0, by decide, by decide, _, g0, by decide, by decide, _, g1, by decide, by decide, _, g0, by decide, by decide, _, g2, by decide, by decide, _, g1, by decide, by decide, _, g2, ?_⟩
    refine turn2_sp _ 2 rfl (by decide +kernel) (by decide) (by decide) ?_
    refine ⟨hcs_one g2, hcs_one g1, hcs_one g2, hcs_one g0, hcs_one g1, hcs_one g0, hcs_one g0, hcs_one g0, ?_⟩
    refine turn2_sp _ 13 rfl (by decide +kernel) (by decide) (by decide) ?_
    refine ⟨hcs_one g2, hcs_one g1, hcs_one g2, hcs_one g0, hcs_one g1, hcs_one g0, hcs_one g0, ?_⟩
    refine turn2_sp _ 22 rfl (by decide +kernel) (by decide) (by decide) ?_
    refine ⟨hcs_one g2, hcs_one g1, hcs_one g2, hcs_one g0, hcs_one g1, hcs_one g0, ?_⟩
    refine ⟨by decide, by decide, _, g0, by decide, by decide, _, g1, by decide, by decide, _, g2, by decide, by decide, _, g3, by decide, by decide, _, g4, by decide, by decide, _, g5, by decide, by decide, _, g6, ?_⟩
    refine ⟨Sat.can hs (i := 0) .z (by simp), ?_⟩
    intro h5 e5
    replace hs := Sat.wra hs (i := 0) .z e5 rfl
    clear e5
    simp only [put_zero] at hs
    rw [wrap_succ (by omega)]
    refine hk _ ?_
    show Sat h0 (blk sn (ints .u32 (shStepM (rM w s t) _ _)) :: blk wn (ints .u32 w) :: A) h5
    rw [hr]
    exact hs
   ·intro h4 hs
    apply hJ46
    rw [ltI_eq, if_neg (by decide)]
    clear hJ46 J46
    obtain ⟨r, hr⟩ : ∃ r, r = rM w s 64 := ⟨_, rfl⟩
    have hrl : r.length = 8 := by rw [hr]; exact rM_len _ _ l1 _
    rw [← hr] at hs
    intro J89 hJ89
    refine loop_up 8 (fun x h => Sat h0 (blk sn (ints .u32 r) :: blk wn (ints .u32 w) :: put A i (blk d (dgL (aM s r x) sm n))) h) ?_ ?_ 0 _ (by omega) (by
     have : put A i (blk d (dgL (aM s r 0) sm n)) = A := cd.put_self
     rw [this]; exact hs)
    ·intro x h5 hx hs hk
     apply hJ89
     rw [ltI_eq, if_pos (by simp; omega)]
     have cd2 := cd.put (blk d (dgL (aM s r x) sm n))
     have hal := aM_len s r l1 x
     simp only [Int.toNat_natCast, Nat.mul_one]
     refine ⟨by omega, by omega, _, hs.ld (i := i + 2) (.s (.s cd2)) (dg_s hal hx), by omega, by omega, _, hs.ld (i := 0) .z (intsG (by omega)), by omega, by omega, ?_⟩
     refine ⟨Sat.can hs (i := i + 2) (.s (.s cd2)) (by rw [dg_len hal l2]; omega), ?_⟩
     intro h6 e
     replace hs := Sat.wr hs (i := i + 2) (.s (.s cd2)) e
     clear e
     rw [dg_ps hal hx] at hs
     simp only [put_succ, put_put] at hs
     rw [wrap_succ (by omega)]
     exact hk _ hs
    ·intro h5 hs
     apply hJ89
     rw [ltI_eq, if_neg (by decide)]
     refine k _ ?_
     unfold pieceM
     rw [← hw, ← hr]
     exact hs.drop.drop
end
end Go.Proofs.YtaglicdidpgkpaaGreatDoor
end

/- SHA-256 in the program: bytes are written. Own work. -/
section
set_option maxRecDepth 100000
set_option linter.unusedVariables false
namespace Go.Proofs.YtaglicdidpgkpaaGreatDoor
open Go Go.Vc

def blkM (ms : List Int) (i : Nat) : List Int := (ms.drop (64 * i)).take 64
def stM (ms : List Int) : Nat → List Int
 | 0 => sM
 | k + 1 => pieceM (stM ms k) (blkM ms k)
theorem stM_len (ms : List Int) (k : Nat) : (stM ms k).length = 8 := by
 induction k with
 | zero => rfl
 | succ k ih => exact pieceM_len ih
theorem blkM_app {ms xs : List Int} {i : Nat} (h : 64 * (i + 1) ≤ ms.length) : blkM (ms ++ xs) i = blkM ms i := by
 unfold blkM
 rw [List.drop_append_of_le_length (by omega), List.take_append_of_le_length (by rw [List.length_drop]; omega)]
theorem stM_app {ms xs : List Int} : ∀ {k : Nat}, 64 * k ≤ ms.length → stM (ms ++ xs) k = stM ms k
 | 0, _ => rfl
 | k + 1, h => by
  show pieceM (stM (ms ++ xs) k) (blkM (ms ++ xs) k) = pieceM (stM ms k) (blkM ms k)
  rw [stM_app (k := k) (by omega), blkM_app h]
structure DgOk (ms s sm : List Int) (n : Int) : Prop where
 s : s = stM ms (ms.length / 64)
 n : n = (ms.length : Int)
 l : sm.length = 64
 m : sm.take (ms.length % 64) = ms.drop (64 * (ms.length / 64))
theorem DgOk.sl {ms s sm : List Int} {n : Int} (D : DgOk ms s sm n) : s.length = 8 := by rw [D.s]; exact stM_len _ _
section
variable {s sm : List Int} {n : Int}
theorem dg_pm (h1 : s.length = 8) (h2 : sm.length = 64) {o : Nat} {xs : List Int} (hx : o + xs.length ≤ 64) : splice (dgL s sm n) (8 + o) (ints .u8 xs) = dgL s (sm.take o ++ xs ++ sm.drop (o + xs.length)) n := by
 have hl2 : (sm.take o ++ xs ++ sm.drop (o + xs.length)).length = 64 := by simp [h2]; omega
 apply List.ext_getElem?
 intro j
 rw [splice_get, ints_length, dg_len h1 h2]
 by_cases c1 : j < 8
 ·rw [if_neg (by omega), dg_s h1 c1, dg_s h1 c1]
 by_cases c2 : j < 72
 ·obtain ⟨y, rfl⟩ : ∃ y, j = 8 + y := ⟨j - 8, by omega⟩
  rw [dg_m h1 h2 (by omega), dg_m h1 hl2 (by omega)]
  by_cases c3 : o ≤ y ∧ y < o + xs.length
  ·rw [if_pos (by omega), show 8 + y - (8 + o) = y - o by omega, intsG (by omega)]
   congr 2
   rw [List.getD_eq_getElem?_getD, List.getD_eq_getElem?_getD, List.getElem?_append_left (by simp [h2]; omega), List.getElem?_append_right (by simp [h2]; omega)]
   congr 2
   simp [h2]; omega
  ·rw [if_neg (by omega)]
   congr 2
   rw [List.getD_eq_getElem?_getD, List.getD_eq_getElem?_getD]
   by_cases c4 : y < o
   ·rw [List.append_assoc, List.getElem?_append_left (by simp [h2]; omega), List.getElem?_take_of_lt c4]
   ·rw [List.getElem?_append_right (by simp [h2]; omega), List.getElem?_drop]
    congr 2
    simp [h2]; omega
 by_cases c3 : j = 72
 ·subst c3
  rw [if_neg (by omega), dg_n h1 h2, dg_n h1 hl2]
 by_cases c4 : j < 137
 ·obtain ⟨y, rfl⟩ : ∃ y, j = 73 + y := ⟨j - 73, by omega⟩
  rw [if_neg (by omega), dg_k h1 h2 (by omega), dg_k h1 hl2 (by omega)]
 ·rw [if_neg (by omega), List.getElem?_eq_none (by rw [dg_len h1 h2]; omega), List.getElem?_eq_none (by rw [dg_len h1 hl2]; omega)]
end
section
variable {h0 h : H} {A : List Ent} {i d : Nat}
theorem dg_sv {s sm : List Int} {n : Int} (hs : Sat h0 A h) (cd : At A i (blk d (dgL s sm n))) (h1 : s.length = 8) (h2 : sm.length = 64) : hsv h (some ⟨d, 8, none⟩) 1 64 (ints .u8 sm) := by
 refine ⟨by simp [h2], ints_one _ _, Or.inr ⟨_, rfl, ?_⟩⟩
 refine hs.cs1 cd ?_
 intro x hx
 rw [ints_length, h2] at hx
 rw [dg_m h1 h2 hx, intsG (by omega)]
theorem wloop_sp {Q : H → Prop} {T sm : List Int} {N : Int} {j : Nat} {o : Option Addr} {l c : Nat} (hs : Sat h0 (put A i (blk d (dgL (stM T j) sm N))) h) (cd0 : ∃ e, At A i e) (hN : N = (T.length : Int)) (hl : 64 * j + l = T.length) (hc : l ≤ c) (h2 : sm.length = 64)
  (rd : ∀ s' sm' h', Sat h0 (put A i (blk d (dgL s' sm' N))) h' → hsv h' o 1 l (ints .u8 (T.drop (64 * j))))
  (k : ∀ s' sm' h', DgOk T s' sm' N → Sat h0 (put A i (blk d (dgL s' sm' N))) h' → Q h') :
  ∀ (J16 : List SV → H → Prop), (∀ (o17 : Option Addr) (n18 n19 : Nat) (h20 : H), (if leI 64 (n18 : Int) = true then (0 : Int) ≤ 64 ∧ 64 ≤ (n19 : Int) ∧ F_sha_Digest_take ⟨d, 0, none⟩ (subAddr o17 0 n19 1) 64 (n19 - 0)
   (fun h21 => (0 : Int) ≤ 64 ∧ 64 ≤ (n18 : Int) ∧ J16 [.dv (.one (.slice (subAddr o17 64 n19 1) (n18 - 64) (n19 - 64)))] h21) h20
   else ∃ l22 : List Value, hsv h20 o17 1 (n18.min 64) l22 ∧ (l22 = [] ∨ ∃ p23 : Addr, subAddr (some ⟨d, 8, none⟩) 0 64 1 = some p23 ∧ hcan h20 p23 (n18.min 64 * 1)) ∧ ∀ h24 : H, h24 = hwrO h20 (subAddr (some ⟨d, 8, none⟩) 0 64 1) l22 → Q h24) → J16 [.dv (.one (.slice o17 n18 n19))] h20) → J16 [.dv (.one (.slice o l c))] h := by
 intro J hJ
 obtain ⟨e0, cd0⟩ := cd0
 induction hn : l / 64 generalizing j o l c h sm with
 | zero =>
  apply hJ
  have hl64 : l < 64 := by omega
  rw [leI_eq, if_neg (by rw [decide_eq_true_iff]; omega)]
  have cd := cd0.put (blk d (dgL (stM T j) sm N))
  have hsl := stM_len T j
  have R := rd _ _ _ hs
  have hmin : l.min 64 = l := Nat.min_eq_left (by omega)
  rw [hmin]
  have sub0 : subAddr (some ⟨d, 8, none⟩) 0 64 1 = some ⟨d, 8, none⟩ := by unfold subAddr; simp
  rw [sub0]
  have hxl : (T.drop (64 * j)).length = l := by rw [List.length_drop]; omega
  refine ⟨_, R, Or.inr ⟨_, rfl, Sat.can hs cd (by rw [dg_len hsl h2]; omega)⟩, ?_⟩
  intro h1 e
  replace hs := Sat.wr hs cd e
  clear e
  have sp := dg_pm (n := N) (o := 0) (xs := T.drop (64 * j)) hsl h2 (by omega)
  rw [show 8 + 0 = 8 from rfl] at sp
  rw [sp] at hs
  simp only [put_put, List.take_zero, List.nil_append, Nat.zero_add] at hs
  refine k _ _ _ ⟨?_, hN, by simp [h2]; omega, ?_⟩ hs
  ·rw [show T.length / 64 = j by omega]
  ·rw [show T.length % 64 = l by omega, show T.length / 64 = j by omega, List.take_append_of_le_length (by omega), List.take_of_length_le (by omega)]
 | succ m ih =>
  apply hJ
  rw [leI_eq, if_pos (by rw [decide_eq_true_iff]; omega)]
  refine ⟨by decide, by omega, ?_⟩
  have cd := cd0.put (blk d (dgL (stM T j) sm N))
  have hsl := stM_len T j
  refine take_sp (bs := blkM T j) hs cd hsl h2 (by omega) ?_ ?_
  ·intro h' hs'
   have := subRd (o := 0) (n := 64) (m := c) (rd _ _ _ hs') (by omega) (by omega)
   rw [List.drop_zero] at this
   exact this
  ·intro h1 hs
   rw [put_put] at hs
   refine ⟨by decide, by omega, ?_⟩
   refine ih (j := j + 1) (l := l - 64) hs (by omega) (by omega) h2 ?_ (by omega)
   intro s' sm' h' hs'
   have := subRd (o := 64) (n := l - 64) (m := c) (rd _ _ _ hs') (by omega) (by omega)
   rw [List.drop_drop, List.take_of_length_le (by rw [List.length_drop]; omega), show 64 * j + 64 = 64 * (j + 1) by omega] at this
   exact this
theorem shWrite_sp {Q : H → Prop} {ms xs s sm : List Int} {n : Int} {bp : Option Addr} {bl bc : Nat} (hs : Sat h0 A h) (cd : At A i (blk d (dgL s sm n))) (D : DgOk ms s sm n) (hml : ms.length + xs.length < 2 ^ 61) (hbc : bl ≤ bc)
  (rd : ∀ s' sm' n' h', Sat h0 (put A i (blk d (dgL s' sm' n'))) h' → hsv h' bp 1 bl (ints .u8 xs))
  (k : ∀ s' sm' n' h', DgOk (ms ++ xs) s' sm' n' → Sat h0 (put A i (blk d (dgL s' sm' n'))) h' → Q h') : F_sha_Digest_Write ⟨d, 0, none⟩ bp bl bc Q h := by
 unfold F_sha_Digest_Write G_sha_Digest_Write
 try simp only [add_mk, Nat.zero_add, List.append_nil]
 have l1 := D.sl
 have l2 := D.l
 have hn := D.n
 have hxl : xs.length = bl := by
  have := (rd s sm n h (by rw [cd.put_self]; exact hs)).1
  simpa using this
 refine ⟨_, hs.ld cd (dg_n l1 l2), by decide, _, hs.ld cd (dg_n l1 l2), ?_⟩
 refine ⟨Sat.can hs cd (by rw [dg_len l1 l2]; omega), ?_⟩
 intro h1 e
 replace hs := Sat.wr hs cd e
 clear e
 rw [dg_pn l1 l2] at hs
 have eN : IntKind.u64.wrap (n + IntKind.u64.wrap (bl : Int)) = ((ms ++ xs).length : Int) := by
  rw [wrapU64, wrapU64, List.length_append, hn]; push_cast; omega
 rw [eN] at hs
 obtain ⟨hv, hhv⟩ : ∃ hv, hv = ms.length % 64 := ⟨_, rfl⟩
 have eH : IntKind.i64.wrap (n.tmod 64) = (hv : Int) := by
  have : n.tmod 64 = (hv : Int) := by
   rw [hn, hhv, Int.tmod_eq_emod_of_nonneg (by omega)]; omega
  rw [this, wrap_id (by omega)]
 rw [eH]
 obtain ⟨T, hT⟩ : ∃ T, T = ms ++ xs := ⟨_, rfl⟩
 have hTl : T.length = ms.length + bl := by rw [hT, List.length_append, hxl]
 rw [← hT] at hs k
 have hmod := Nat.div_add_mod ms.length 64
 have est : s = stM T (ms.length / 64) := by rw [hT, stM_app (by omega)]; exact D.s
 have hdm : ms.drop (64 * (ms.length / 64)) = sm.take hv := by rw [hhv]; exact D.m.symm
 by_cases g : 0 < hv
 ·rw [ltI_eq, if_pos (by simp; exact g)]
  refine ⟨by omega, by omega, ?_⟩
  simp only [Int.toNat_natCast]
  obtain ⟨m, hm⟩ : ∃ m, m = bl.min (64 - hv) := ⟨_, rfl⟩
  have hm1 : m ≤ bl := by rw [hm]; exact Nat.min_le_left _ _
  have hm2 : m ≤ 64 - hv := by rw [hm]; exact Nat.min_le_right _ _
  have hm3 : m = bl ∨ m = 64 - hv := by rw [hm]; rcases Nat.le_total bl (64 - hv) with z | z; exact Or.inl (Nat.min_eq_left z); exact Or.inr (Nat.min_eq_right z)
  rw [← hm]
  have cd1 := cd.put (blk d (dgL s sm (T.length : Int)))
  have sub1 : subAddr (some ⟨d, 8, none⟩) hv 64 1 = some ⟨d, 8 + hv, none⟩ := by
   unfold subAddr
   rw [if_neg (by omega)]; simp
  rw [sub1]
  have R := rd _ _ _ _ hs
  have R2 := subRd (o := 0) (n := m) (m := m + 1) R (by omega) (by omega)
  have sub0 : subAddr bp 0 (m + 1) 1 = bp := by
   unfold subAddr
   rw [if_neg (by omega)]
   cases bp with
   | none => rfl
   | some q => simp [add_zero]
  rw [sub0, List.drop_zero] at R2
  have hxt : (xs.take m).length = m := by rw [List.length_take]; omega
  refine ⟨_, R2, Or.inr ⟨_, rfl, Sat.can hs cd1 (by rw [dg_len l1 l2]; omega)⟩, ?_⟩
  intro h2 e
  replace hs := Sat.wr hs cd1 e
  clear e
  rw [dg_pm l1 l2 (by omega)] at hs
  rw [put_put, hxt] at hs
  refine ⟨by omega, by omega, ?_⟩
  rw [wrap_id (n := (hv : Int) + (m : Int)) (by omega), ltI_eq]
  obtain ⟨sm1, hsm1⟩ : ∃ sm1, sm1 = sm.take hv ++ xs.take m ++ sm.drop (hv + m) := ⟨_, rfl⟩
  rw [← hsm1] at hs
  have hl1 : sm1.length = 64 := by rw [hsm1]; simp [l2]; omega
  have hst : (sm.take hv).length = hv := by rw [List.length_take]; omega
  by_cases gs : hv + m < 64
  ·rw [if_pos (by rw [decide_eq_true_iff]; omega)]
   have hmb : m = bl := by omega
   refine k _ _ _ _ ⟨?_, rfl, hl1, ?_⟩ hs
   ·rw [est, show T.length / 64 = ms.length / 64 by omega]
   ·rw [show T.length % 64 = hv + m by omega, show T.length / 64 = ms.length / 64 by omega, hsm1, List.take_append_of_le_length (by simp [l2]; omega), List.take_of_length_le (by simp [l2]; omega)]
    rw [hT, List.drop_append_of_le_length (by omega), hdm, List.take_of_length_le (l := xs) (i := m) (by omega)]
  ·rw [if_neg (by rw [decide_eq_true_iff]; omega)]
   have hm64 : hv + m = 64 := by omega
   have cd2 := cd.put (blk d (dgL s sm1 (T.length : Int)))
   have sub8 : subAddr (some ⟨d, 8, none⟩) 0 64 1 = some ⟨d, 8, none⟩ := by unfold subAddr; simp
   rw [sub8]
   refine take_sp (bs := sm1) hs cd2 l1 hl1 (by omega) (fun h' hs' => dg_sv hs' cd2 l1 hl1) ?_
   intro h3 hs
   rw [put_put] at hs
   have hb : sm1 = blkM T (ms.length / 64) := by
    unfold blkM
    rw [hT, List.drop_append_of_le_length (by omega), hdm, hsm1, List.drop_of_length_le (by omega), List.append_nil, List.take_append, List.take_of_length_le (l := sm.take hv) (i := 64) (by omega), hst, show 64 - hv = m by omega]
   rw [est, show pieceM (stM T (ms.length / 64)) sm1 = stM T (ms.length / 64 + 1) by rw [hb]; rfl] at hs
   refine wloop_sp (T := T) (j := ms.length / 64 + 1) (l := bl - m) (c := bc - m) hs ⟨_, cd⟩ rfl (by omega) (by omega) hl1 ?_ (fun s' sm' h' D' hs' => k s' sm' _ h' D' hs')
   intro s' sm' h' hs'
   have := subRd (o := m) (n := bl - m) (m := bc) (rd _ _ _ _ hs') (by omega) (by omega)
   rw [List.take_of_length_le (by rw [List.length_drop]; omega)] at this
   have hd : T.drop (64 * (ms.length / 64 + 1)) = xs.drop m := by
    rw [hT, List.drop_append, List.drop_of_length_le (by omega), List.nil_append, show 64 * (ms.length / 64 + 1) - ms.length = m by omega]
   rw [hd]
   exact this
 ·rw [ltI_eq, if_neg (by simp; omega)]
  have hv0 : hv = 0 := by omega
  rw [est] at hs
  refine wloop_sp (T := T) (j := ms.length / 64) (l := bl) (c := bc) hs ⟨_, cd⟩ rfl (by omega) hbc l2 ?_ (fun s' sm' h' D' hs' => k s' sm' _ h' D' hs')
  intro s' sm' h' hs'
  have hd : T.drop (64 * (ms.length / 64)) = xs := by
   rw [hT, List.drop_append, List.drop_of_length_le (by omega), List.nil_append, show 64 * (ms.length / 64) - ms.length = 0 by omega, List.drop_zero]
  rw [hd]
  exact rd _ _ _ _ hs'
end
end Go.Proofs.YtaglicdidpgkpaaGreatDoor
end

/- SHA-256 in the program: the hash. Own work. -/
section
set_option maxRecDepth 100000
set_option linter.unusedVariables false
namespace Go.Proofs.YtaglicdidpgkpaaGreatDoor
open Go Go.Vc

def zM (n : Nat) : Nat := (119 - n % 64) % 64
def lenB (n i : Nat) : Int := IntKind.u8.wrap ((IntKind.u64.wrap (8 * (n : Int))).fdiv (2 ^ min (56 - 8 * i) 64))
def endM (n : Nat) : Nat → List Int
 | 0 => (zeros 73).set 0 128
 | i + 1 => (endM n i).set (1 + zM n + i) (lenB n i)
def tailM (n : Nat) : List Int := (endM n 8).take (9 + zM n)
def outB (s : List Int) (t : Nat) : Int := IntKind.u8.wrap ((s.getD (t / 4) 0).fdiv (2 ^ min (24 - 8 * (t % 4)) 32))
def oM (s : List Int) : Nat → List Int
 | 0 => zeros 32
 | t + 1 => (oM s t).set t (outB s t)
def fullM (ms : List Int) : List Int := ms ++ tailM ms.length
def shaM (ms : List Int) : List Int := oM (stM (fullM ms) ((fullM ms).length / 64)) 32
theorem endM_len (n i : Nat) : (endM n i).length = 73 := by
 induction i with
 | zero => simp [endM, zeros]
 | succ i ih => simp [endM, ih]
theorem oM_len (s : List Int) (t : Nat) : (oM s t).length = 32 := by
 induction t with
 | zero => simp [oM, zeros]
 | succ t ih => simp [oM, ih]
theorem shaM_len (ms : List Int) : (shaM ms).length = 32 := oM_len _ _
theorem zM_lt (n : Nat) : zM n < 64 := Nat.mod_lt _ (by decide)
theorem tailM_len (n : Nat) : (tailM n).length = 9 + zM n := by
 have := zM_lt n
 unfold tailM
 rw [List.length_take, endM_len]; omega
theorem dg_new : DgOk [] sM (zeros 64) 0 := ⟨rfl, rfl, by simp [zeros], rfl⟩
section
variable {h0 h : H} {A : List Ent} {i d : Nat}
theorem blk_sv {b : Nat} {k : IntKind} {ms : List Int} (hs : Sat h0 A h) (m : At A i (blk b (ints k ms))) {n : Nat} (hn : n ≤ ms.length) : hsv h (some ⟨b, 0, none⟩) 1 n (ints k (ms.take n)) := by
 refine ⟨by rw [ints_length, List.length_take]; omega, ints_one _ _, Or.inr ⟨_, rfl, ?_⟩⟩
 refine hs.cs1 m ?_
 intro x hx
 rw [ints_length, List.length_take] at hx
 rw [Nat.zero_add, ints_get, ints_get, List.getElem?_take_of_lt (by omega)]
theorem getM {l : List Int} {k : IntKind} {x : Nat} (hx : x < l.length) : l[x]?.map (Value.int k) = some (.int k (l.getD x 0)) := by
 rw [List.getElem?_eq_getElem hx]; simp [List.getD, List.getElem?_eq_getElem hx]
theorem start_sp {Q : List Int → H → Prop} (hs : Sat h0 A h) (k : ∀ h', Sat h0 A h' → Q sM h') : F_sha_start Q h := by
 unfold F_sha_start G_sha_start
 intro b _ hn; replace hs := Sat.new hs hn; clear hn
 refine ⟨Sat.can hs (i := 0) .z (by simp [zeros]), ?_⟩
 intro h2 e
 replace hs := Sat.wra hs (i := 0) .z e (by simp [zeros])
 clear e
 simp only [put_zero] at hs
 exact ⟨sM, rfl, hs.row0 .z, k _ hs.drop⟩
theorem rounds_sp {Q : List Int → H → Prop} (hs : Sat h0 A h) (k : ∀ h', Sat h0 A h' → Q kM h') : F_sha_rounds Q h := by
 unfold F_sha_rounds G_sha_rounds
 intro b _ hn; replace hs := Sat.new hs hn; clear hn
 refine ⟨Sat.can hs (i := 0) .z (by simp [zeros]), ?_⟩
 intro h2 e
 replace hs := Sat.wra hs (i := 0) .z e (by simp [zeros])
 clear e
 simp only [put_zero] at hs
 exact ⟨kM, rfl, hs.row0 .z, k _ hs.drop⟩
theorem NewD_sp {Q : Option Addr → H → Prop} (hs : Sat h0 A h) (k : ∀ d h', Sat h0 (blk d (dgL sM (zeros 64) 0) :: A) h' → Q (some ⟨d, 0, none⟩) h') : F_sha_New Q h := by
 unfold F_sha_New G_sha_New
 refine start_sp hs ?_
 intro h1 hs
 refine rounds_sp hs ?_
 intro h2 hs
 intro d _ hn; replace hs := Sat.new hs hn; clear hn
 exact k _ _ hs
theorem shCopy_sp {Q : Option Addr → H → Prop} {s sm : List Int} {n : Int} (hs : Sat h0 A h) (cd : At A i (blk d (dgL s sm n))) (l1 : s.length = 8) (l2 : sm.length = 64)
  (k : ∀ c h', Sat h0 (blk c (dgL s sm n) :: A) h' → Q (some ⟨c, 0, none⟩) h') : F_sha_Digest_Copy ⟨d, 0, none⟩ Q h := by
 unfold F_sha_Digest_Copy G_sha_Digest_Copy
 try simp only [add_mk, Nat.zero_add]
 refine ⟨s, l1, hs.row cd (fun x hx => by rw [Nat.zero_add, dg_s l1 (by omega), getM hx]), sm, l2, hs.row cd (fun x hx => by rw [dg_m l1 l2 (by omega), getM hx]), n, hs.ld cd (dg_n l1 l2), kM, kM_len, hs.row cd (fun x hx => by rw [dg_k l1 l2 (by rw [kM_len] at hx; exact hx), getM hx]), ?_⟩
 intro c _ hn; replace hs := Sat.new hs hn; clear hn
 refine ⟨Sat.can hs (i := 0) .z (by simp [zeros, l1, l2, kM_len]), ?_⟩
 intro h2 e
 replace hs := Sat.wra hs (i := 0) .z e (by simp [zeros, l1, l2, kM_len])
 clear e
 simp only [put_zero] at hs
 exact k _ _ hs
theorem Sum_sp {Q : List Int → H → Prop} {ms s sm : List Int} {n : Int} (hs : Sat h0 A h) (cd : At A i (blk d (dgL s sm n))) (D : DgOk ms s sm n) (hml : ms.length < 2 ^ 60) (k : ∀ h', Sat h0 A h' → Q (shaM ms) h') : F_sha_Digest_Sum ⟨d, 0, none⟩ Q h := by
 unfold F_sha_Digest_Sum G_sha_Digest_Sum
 try simp only [add_mk, Nat.zero_add, List.append_nil]
 have l1 := D.sl
 have l2 := D.l
 have hn := D.n
 have hz := zM_lt ms.length
 intro ob _ hn5; replace hs := Sat.new hs hn5; clear hn5
 refine shCopy_sp hs cd.s l1 l2 ?_
 intro c h1 hs
 intro eb _ hn10; replace hs := Sat.new hs hn10; clear hn10
 refine ⟨by decide, by decide, ?_⟩
 refine ⟨Sat.can hs (i := 0) .z (by simp [zeros]), ?_⟩
 intro h2 e
 replace hs := Sat.wr hs (i := 0) .z e
 clear e
 rw [intsP] at hs
 simp only [put_zero] at hs
 replace hs : Sat h0 (blk eb (ints .u8 (endM ms.length 0)) :: blk c (dgL s sm n) :: blk ob (ints .u8 (zeros 32)) :: A) h2 := hs
 refine ⟨_, hs.ld cd.s.s.s (dg_n l1 l2), by decide, by decide, ?_⟩
 have e1 : n.tmod 64 = ((ms.length % 64 : Nat) : Int) := by rw [hn, Int.tmod_eq_emod_of_nonneg (by omega)]; omega
 have e2 : (IntKind.i64.wrap (119 - IntKind.i64.wrap (n.tmod 64))).tmod 64 = (zM ms.length : Int) := by
  rw [e1, wrap_id (n := ((ms.length % 64 : Nat) : Int)) (by omega), wrap_id (by omega)]
  unfold zM
  rw [Int.tmod_eq_emod_of_nonneg (by omega)]; omega
 rw [e2, wrap_id (n := 1 + (zM ms.length : Int)) (by omega)]
 intro J16 hJ16
 refine loop_up 8 (fun t h => Sat h0 (blk eb (ints .u8 (endM ms.length t)) :: blk c (dgL s sm n) :: blk ob (ints .u8 (zeros 32)) :: A) h) ?_ ?_ 0 _ (by omega) hs
 ·intro t h3 ht hs hk
  apply hJ16
  rw [ltI_eq, if_pos (by simp; omega)]
  have hel := endM_len ms.length t
  have e3 : IntKind.i64.wrap (56 - IntKind.i64.wrap (8 * (t : Int))) = ((56 - 8 * t : Nat) : Int) := by rw [wrap_id (n := 8 * (t : Int)) (by omega), wrap_id (by omega)]; omega
  have e4 : IntKind.i64.wrap (1 + (zM ms.length : Int) + (t : Int)) = ((1 + zM ms.length + t : Nat) : Int) := by rw [wrap_id (by omega)]; push_cast; rfl
  rw [e3, e4]
  simp only [Int.toNat_natCast, Nat.mul_one]
  refine ⟨_, hs.ld cd.s.s.s (dg_n l1 l2), by omega, by omega, by omega, ?_⟩
  refine ⟨Sat.can hs (i := 0) .z (by simp [hel]; omega), ?_⟩
  intro h4 e
  replace hs := Sat.wr hs (i := 0) .z e
  clear e
  rw [intsP] at hs
  simp only [put_zero] at hs
  rw [wrap_succ (by omega)]
  refine hk _ ?_
  rw [hn] at hs ⊢
  exact hs
 ·intro h3 hs
  apply hJ16
  rw [ltI_eq, if_neg (by decide)]
  clear hJ16 J16
  have hel := endM_len ms.length 8
  have e4 : IntKind.i64.wrap (1 + (zM ms.length : Int) + 8) = ((9 + zM ms.length : Nat) : Int) := by rw [wrap_id (by omega)]; push_cast; omega
  rw [e4]
  simp only [Int.toNat_natCast, Nat.mul_one]
  have sub0 : subAddr (some ⟨eb, 0, none⟩) 0 73 1 = some ⟨eb, 0, none⟩ := by unfold subAddr; simp
  rw [sub0, Nat.sub_zero]
  refine ⟨by omega, by omega, _, rfl, ?_⟩
  have htl := tailM_len ms.length
  refine shWrite_sp (xs := tailM ms.length) hs (i := 1) (.s .z) D (by omega) (by omega) ?_ ?_
  ·intro s' sm' n' h' hs'
   simp only [put_succ, put_zero] at hs'
   exact blk_sv hs' .z (by omega)
  intro s' sm' n' h4 D' hs
  simp only [put_succ, put_zero] at hs
  intro hb _ hn24; replace hs := Sat.new hs hn24; clear hn24
  refine ⟨_, rfl, s', D'.sl, hs.row (i := 2) (.s (.s .z)) (fun x hx => by rw [Nat.zero_add, dg_s D'.sl (by have := D'.sl; omega), getM hx]), ?_⟩
  have hs8 := D'.sl
  have hst : s' = stM (fullM ms) ((fullM ms).length / 64) := D'.s
  intro J29 hJ29
  refine loop_up 8 (fun t h => Sat h0 (blk hb (ints .u8 (oM s' (4 * t))) :: blk eb (ints .u8 (endM ms.length 8)) :: blk c (dgL s' sm' n') :: blk ob (ints .u8 (zeros 32)) :: A) h) ?_ ?_ 0 _ (by omega) hs
  ·intro t h5 ht hs hk
   apply hJ29
   rw [ltI_eq, if_pos (by simp; omega)]
   refine ⟨by omega, by omega, ?_⟩
   simp only [Int.toNat_natCast]
   intro J32 hJ32
   refine loop_up 4 (fun x h => Sat h0 (blk hb (ints .u8 (oM s' (4 * t + x))) :: blk eb (ints .u8 (endM ms.length 8)) :: blk c (dgL s' sm' n') :: blk ob (ints .u8 (zeros 32)) :: A) h) ?_ ?_ 0 _ (by omega) hs
   ·intro x h6 hx hs hk2
    apply hJ32
    rw [ltI_eq, if_pos (by simp; omega)]
    have hol := oM_len s' (4 * t + x)
    have e5 : IntKind.i64.wrap (24 - IntKind.i64.wrap (8 * (x : Int))) = ((24 - 8 * x : Nat) : Int) := by rw [wrap_id (n := 8 * (x : Int)) (by omega), wrap_id (by omega)]; omega
    have e6 : IntKind.i64.wrap (IntKind.i64.wrap (4 * (t : Int)) + (x : Int)) = ((4 * t + x : Nat) : Int) := by rw [wrap_id (n := 4 * (t : Int)) (by omega), wrap_id (by omega)]; push_cast; rfl
    rw [e5, e6]
    simp only [Int.toNat_natCast, Nat.mul_one]
    refine ⟨by omega, by omega, by omega, ?_⟩
    refine ⟨Sat.can hs (i := 0) .z (by simp [hol]; omega), ?_⟩
    intro h7 e
    replace hs := Sat.wr hs (i := 0) .z e
    clear e
    rw [intsP] at hs
    simp only [put_zero] at hs
    rw [wrap_succ (by omega)]
    refine hk2 _ ?_
    have eo : outB s' (4 * t + x) = IntKind.u8.wrap ((s'.getD t 0).fdiv (2 ^ min (24 - 8 * x) 32)) := by
     unfold outB
     rw [show (4 * t + x) / 4 = t by omega, show (4 * t + x) % 4 = x by omega]
    rw [← eo] at hs
    exact hs
   ·intro h6 hs
    apply hJ32
    rw [ltI_eq, if_neg (by decide), wrap_succ (by omega)]
    exact hk _ hs
  ·intro h5 hs
   apply hJ29
   rw [ltI_eq, if_neg (by decide)]
   refine ⟨_, oM_len _ _, hs.row0 .z, ?_⟩
   refine ⟨Sat.can hs (i := 3) (.s (.s (.s .z))) (by simp [zeros]), ?_⟩
   intro h6 e
   replace hs := Sat.wra hs (i := 3) (.s (.s (.s .z))) e (by simp [zeros, oM_len])
   clear e
   simp only [put_succ, put_zero] at hs
   refine ⟨_, oM_len _ _, hs.row0 (i := 3) (.s (.s (.s .z))), ?_⟩
   rw [hst]
   exact k _ hs.drop.drop.drop.drop
theorem ShaOf_sp {Q : List Int → H → Prop} {bs : List Int} {bp : Option Addr} {bl bc : Nat} (hs : Sat h0 A h) (hbc : bl ≤ bc) (hbl : bl < 2 ^ 60) (rd : ∀ h', Sat h0 A h' → hsv h' bp 1 bl (ints .u8 bs)) (k : ∀ h', Sat h0 A h' → Q (shaM bs) h') : F_sha_Of bp bl bc Q h := by
 unfold F_sha_Of G_sha_Of
 simp only [List.append_nil]
 have hxl : bs.length = bl := by have := (rd _ hs).1; simpa using this
 intro ob _ hn; replace hs := Sat.new hs hn; clear hn
 refine NewD_sp hs ?_
 intro d h1 hs
 refine ⟨_, rfl, ?_⟩
 refine shWrite_sp (xs := bs) hs (i := 0) .z dg_new (by simp; omega) hbc (fun s' sm' n' h' hs' => rd _ hs'.drop.drop) ?_
 intro s' sm' n' h2 D hs
 simp only [put_zero] at hs
 refine ⟨_, rfl, ?_⟩
 refine Sum_sp hs (i := 0) .z D (by simp; omega) ?_
 intro h3 hs
 rw [List.nil_append]
 refine ⟨Sat.can hs (i := 1) (.s .z) (by simp [zeros, shaM_len]), ?_⟩
 intro h4 e
 replace hs := Sat.wra hs (i := 1) (.s .z) e (by simp [zeros, shaM_len])
 clear e
 simp only [put_succ, put_zero] at hs
 exact ⟨_, shaM_len _, hs.row0 (i := 1) (.s .z), k _ hs.drop.drop⟩
end
end Go.Proofs.YtaglicdidpgkpaaGreatDoor
end

/- HMAC in the program. Own work. -/
section
set_option maxRecDepth 100000
set_option linter.unusedVariables false
namespace Go.Proofs.YtaglicdidpgkpaaGreatDoor
open Go Go.Vc

def keyM (key : List Int) : List Int := if 64 < key.length then shaM key else key
def kbM (key : List Int) : List Int := keyM key ++ zeros (64 - (keyM key).length)
def xM (kb : List Int) (x : Int) : Nat → List Int
 | 0 => zeros 64
 | t + 1 => (xM kb x t).set t (bits .xor .u8 (kb.getD t 0) x)
def innerM (key : List Int) : List Int := xM (kbM key) 54 64
def outerM (key : List Int) : List Int := xM (kbM key) 92 64
def macM (key b : List Int) : List Int := shaM (outerM key ++ shaM (innerM key ++ b))
theorem xM_len (kb : List Int) (x : Int) (t : Nat) : (xM kb x t).length = 64 := by
 induction t with
 | zero => simp [xM, zeros]
 | succ t ih => simp [xM, ih]
theorem keyM_len (key : List Int) : (keyM key).length ≤ 64 := by
 unfold keyM
 split
 ·rw [shaM_len]; omega
 ·omega
theorem kbM_len (key : List Int) : (kbM key).length = 64 := by
 have := keyM_len key
 unfold kbM
 simp [zeros]; omega
theorem macM_len (key b : List Int) : (macM key b).length = 32 := shaM_len _
theorem spliceI {k : IntKind} {l xs : List Int} {o : Nat} (h : o + xs.length ≤ l.length) : splice (ints k l) o (ints k xs) = ints k (l.take o ++ xs ++ l.drop (o + xs.length)) := by
 apply List.ext_getElem?
 intro j
 rw [splice_get, ints_length, ints_length]
 by_cases c : o ≤ j ∧ j < o + xs.length ∧ j < l.length
 ·rw [if_pos c, ints_get, ints_get, List.getElem?_append_left (by simp; omega), List.getElem?_append_right (by simp; omega)]
  congr 2
  simp; omega
 ·rw [if_neg c, ints_get, ints_get]
  congr 1
  by_cases c2 : j < o
  ·rw [List.append_assoc, List.getElem?_append_left (by simp; omega), List.getElem?_take_of_lt c2]
  ·by_cases c3 : j < l.length
   ·rw [List.getElem?_append_right (by simp; omega), List.getElem?_drop]
    congr 1
    simp; omega
   ·rw [List.getElem?_eq_none (by omega), List.getElem?_eq_none (by simp; omega)]
section
variable {h0 h : H} {A : List Ent} {i d m : Nat}
abbrev macL (d : Nat) (key : List Int) : List Value := .pointer (some ⟨d, 0, none⟩) :: ints .u8 (outerM key)
theorem blk_svo {b : Nat} {k : IntKind} {pre : List Value} {ms : List Int} (hs : Sat h0 A h) (m : At A i (blk b (pre ++ ints k ms))) : hsv h (some ⟨b, pre.length, none⟩) 1 ms.length (ints k ms) := by
 refine ⟨by simp, ints_one _ _, Or.inr ⟨_, rfl, ?_⟩⟩
 refine hs.cs1 m ?_
 intro x hx
 rw [List.getElem?_append_right (by omega)]
 congr 1; omega
theorem MacNew_sp {Q : Option Addr → H → Prop} {key : List Int} {kp : Option Addr} {kl kc : Nat} (hs : Sat h0 A h) (hkc : kl ≤ kc) (hkl : kl < 2 ^ 60) (rd : ∀ h', Sat h0 A h' → hsv h' kp 1 kl (ints .u8 key))
  (k : ∀ m d s sm n h', DgOk (innerM key) s sm n → Sat h0 (blk d (dgL s sm n) :: blk m (macL d key) :: A) h' → Q (some ⟨m, 0, none⟩) h') : F_mac_New kp kl kc Q h := by
 unfold F_mac_New G_mac_New
 try simp only [add_mk, Nat.zero_add, List.append_nil]
 have hxl : key.length = kl := by have := (rd _ hs).1; simpa using this
 intro kb _ hn; replace hs := Sat.new hs hn; clear hn
 intro J11 hJ11
 -- the block key
 have way : ∀ (p : Option Addr) (l c : Nat) h', Sat h0 (blk kb (ints .u8 (zeros 64)) :: A) h' → hsv h' p 1 l (ints .u8 (keyM key)) → J11 [.dv (.one (.slice p l c))] h' := by
  intro p l c h2 hs rd2
  have hl2 : (keyM key).length = l := by have := rd2.1; simpa using this
  have hk64 := keyM_len key
  apply hJ11
  have sub0 : ∀ x, subAddr (some ⟨x, 0, none⟩) 0 64 1 = some ⟨x, 0, none⟩ := by intro x; unfold subAddr; simp
  rw [show l.min 64 = l from Nat.min_eq_left (by omega), sub0]
  refine ⟨_, rd2, Or.inr ⟨_, rfl, Sat.can hs (i := 0) .z (by simp [zeros]; omega)⟩, ?_⟩
  intro h3 e
  replace hs := Sat.wr hs (i := 0) .z e
  clear e
  rw [spliceI (by simp [zeros]; omega)] at hs
  have ekb : (zeros 64).take 0 ++ keyM key ++ (zeros 64).drop (0 + (keyM key).length) = kbM key := by
   unfold kbM
   rw [List.take_zero, List.nil_append, Nat.zero_add]
   unfold zeros
   rw [List.drop_replicate]
  rw [ekb] at hs
  simp only [put_zero] at hs
  refine NewD_sp hs ?_
  intro d h4 hs
  intro m _ hn; replace hs := Sat.new hs hn; clear hn
  intro ib _ hn; replace hs := Sat.new hs hn; clear hn
  have kl64 := kbM_len key
  refine ⟨_, kl64, hs.row0 (i := 3) (.s (.s (.s .z))), ?_⟩
  intro J29 hJ29
  refine loop_up 64 (fun t h => Sat h0 (blk ib (ints .u8 (xM (kbM key) 54 t)) :: blk m (.pointer (some ⟨d, 0, none⟩) :: ints .u8 (xM (kbM key) 92 t)) :: blk d (dgL sM (zeros 64) 0) :: blk kb (ints .u8 (kbM key)) :: A) h) ?_ ?_ 0 _ (by omega) hs
  ·intro t h5 ht hs hk
   apply hJ29
   rw [ltI_eq, if_pos (by simp; omega)]
   have x1 := xM_len (kbM key) 54 t
   have x2 := xM_len (kbM key) 92 t
   simp only [Int.toNat_natCast, Nat.mul_one]
   refine ⟨by omega, by omega, by omega, by omega, ?_⟩
   refine ⟨Sat.can hs (i := 0) .z (by simp [x1]; omega), ?_⟩
   intro h6 e
   replace hs := Sat.wr hs (i := 0) .z e
   clear e
   rw [intsP] at hs
   simp only [put_zero] at hs
   refine ⟨by omega, by omega, ?_⟩
   refine ⟨Sat.can hs (i := 1) (.s .z) (by simp [x2]; omega), ?_⟩
   intro h7 e
   replace hs := Sat.wr hs (i := 1) (.s .z) e
   clear e
   have es : splice (.pointer (some ⟨d, 0, none⟩) :: ints .u8 (xM (kbM key) 92 t)) (1 + t) [.int .u8 (bits .xor .u8 ((kbM key).getD t 0) 92)] = .pointer (some ⟨d, 0, none⟩) :: ints .u8 (xM (kbM key) 92 (t + 1)) := by
    show (Value.pointer (some ⟨d, 0, none⟩) :: ints .u8 (xM (kbM key) 92 t)).set (1 + t) _ = _
    rw [show 1 + t = t + 1 by omega, List.set_cons_succ, ints_set]; rfl
   rw [es] at hs
   simp only [put_succ, put_zero] at hs
   rw [wrap_succ (by omega)]
   exact hk _ hs
  ·intro h5 hs
   apply hJ29
   rw [ltI_eq, if_neg (by decide)]
   refine ⟨_, hs.ld (i := 1) (.s .z) rfl, _, rfl, ?_⟩
   have il : (innerM key).length = 64 := xM_len _ _ _
   refine shWrite_sp (xs := innerM key) hs (i := 2) (.s (.s .z)) dg_new (by simp [il]) (by omega) ?_ ?_
   ·intro s' sm' n' h' hs'
    simp only [put_succ, put_zero] at hs'
    have := blk_sv hs' (i := 0) .z (n := 64) (by rw [xM_len]; omega)
    rw [List.take_of_length_le (by rw [xM_len]; omega)] at this
    exact this
   ·intro s' sm' n' h6 D hs
    simp only [put_succ, put_zero] at hs
    rw [List.nil_append] at D
    replace hs := hs.front (i := 2) (.s (.s .z))
    simp only [del] at hs
    exact k m d s' sm' n' _ D (hs.sub (by (repeat (first | exact List.Sublist.refl _ | apply List.Sublist.cons_cons | apply List.Sublist.cons))))
 by_cases g : 64 < kl
 ·rw [ltI_eq, if_pos (by rw [decide_eq_true_iff]; omega)]
  refine ShaOf_sp (bs := key) hs hkc hkl (fun h' hs' => rd _ hs'.drop) ?_
  intro h2 hs
  intro hb _ hn; replace hs := Sat.new hs hn; clear hn
  refine ⟨Sat.can hs (i := 0) .z (by simp [zeros]), ?_⟩
  intro h3 e
  replace hs := Sat.wra hs (i := 0) .z e (by simp [zeros, shaM_len])
  clear e
  simp only [put_zero] at hs
  have ek : keyM key = shaM key := by unfold keyM; rw [if_pos (by omega)]
  refine way _ _ _ _ hs.drop ?_
  rw [ek]
  have := blk_sv hs (i := 0) .z (n := 32) (by rw [shaM_len]; omega)
  rw [List.take_of_length_le (by rw [shaM_len]; omega)] at this
  have sub0 : subAddr (some ⟨hb, 0, none⟩) 0 32 1 = some ⟨hb, 0, none⟩ := by unfold subAddr; simp
  rw [sub0]
  exact this
 ·rw [ltI_eq, if_neg (by rw [decide_eq_true_iff]; omega)]
  have ek : keyM key = key := by unfold keyM; rw [if_neg (by omega)]
  refine way _ _ _ _ hs ?_
  rw [ek]
  exact rd _ hs.drop
theorem MacSum_sp {Q : List Int → H → Prop} {key ms s sm : List Int} {n : Int} {j : Nat} (hs : Sat h0 A h) (cm : At A j (blk m (macL d key))) (cd : At A i (blk d (dgL s sm n))) (D : DgOk ms s sm n) (hml : ms.length < 2 ^ 60)
  (k : ∀ h', Sat h0 A h' → Q (shaM (outerM key ++ shaM ms)) h') : F_mac_Mac_Sum ⟨m, 0, none⟩ Q h := by
 unfold F_mac_Mac_Sum G_mac_Mac_Sum
 try simp only [add_mk, Nat.zero_add, List.append_nil]
 have sub0 : ∀ x o l, 0 < l → subAddr (some ⟨x, o, none⟩) 0 l 1 = some ⟨x, o, none⟩ := by
  intro x o l hl
  unfold subAddr
  rw [if_neg (by omega)]; simp
 have ol : (outerM key).length = 64 := xM_len _ _ _
 have cm2 : At A j (blk m ([.pointer (some ⟨d, 0, none⟩)] ++ ints .u8 (outerM key))) := by simpa only [List.cons_append, List.nil_append] using cm
 intro ob _ hn; replace hs := Sat.new hs hn; clear hn
 refine ⟨_, hs.ld cm.s rfl, _, rfl, ?_⟩
 refine Sum_sp hs cd.s D hml ?_
 intro h1 hs
 intro hb _ hn; replace hs := Sat.new hs hn; clear hn
 refine ⟨Sat.can hs (i := 0) .z (by simp [zeros]), ?_⟩
 intro h2 e
 replace hs := Sat.wra hs (i := 0) .z e (by simp [zeros, shaM_len])
 clear e
 simp only [put_zero] at hs
 refine NewD_sp hs ?_
 intro d2 h3 hs
 rw [sub0 _ _ _ (by decide), sub0 _ _ _ (by decide)]
 refine ⟨_, rfl, ?_⟩
 refine shWrite_sp (xs := outerM key) hs (i := 0) .z dg_new (by simp [ol]) (by omega) ?_ ?_
 ·intro s' sm' n' h' hs'
  simp only [put_zero] at hs'
  have := blk_svo (k := .u8) (ms := outerM key) (pre := [.pointer (some ⟨d, 0, none⟩)]) hs' cm2.s.s.s
  rw [ol] at this
  exact this
 intro s1 sm1 n1 h4 D1 hs
 simp only [put_zero] at hs
 rw [List.nil_append] at D1
 refine ⟨_, rfl, ?_⟩
 refine shWrite_sp (xs := shaM ms) hs (i := 0) .z D1 (by simp [ol, shaM_len]) (by omega) ?_ ?_
 ·intro s' sm' n' h' hs'
  simp only [put_zero] at hs'
  have := blk_sv hs' (i := 1) (.s .z) (n := 32) (by rw [shaM_len]; omega)
  rw [List.take_of_length_le (by rw [shaM_len]; omega)] at this
  exact this
 intro s2 sm2 n2 h5 D2 hs
 simp only [put_zero] at hs
 refine ⟨_, rfl, ?_⟩
 refine Sum_sp hs (i := 0) .z D2 (by simp [ol, shaM_len]) ?_
 intro h6 hs
 refine ⟨Sat.can hs (i := 2) (.s (.s .z)) (by simp [zeros, shaM_len]), ?_⟩
 intro h7 e
 replace hs := Sat.wra hs (i := 2) (.s (.s .z)) e (by simp [zeros, shaM_len])
 clear e
 simp only [put_succ, put_zero] at hs
 exact ⟨_, shaM_len _, hs.row0 (i := 2) (.s (.s .z)), k _ hs.drop.drop.drop⟩
theorem MacOf_sp {Q : List Int → H → Prop} {key b : List Int} {kp bp : Option Addr} {kl kc bl bc : Nat} (hs : Sat h0 A h) (hkc : kl ≤ kc) (hkl : kl < 2 ^ 60) (hbc : bl ≤ bc) (hbl : bl < 2 ^ 59)
  (rk : ∀ h', Sat h0 A h' → hsv h' kp 1 kl (ints .u8 key)) (rb : ∀ h', Sat h0 A h' → hsv h' bp 1 bl (ints .u8 b)) (k : ∀ h', Sat h0 A h' → Q (macM key b) h') : F_mac_Of kp kl kc bp bl bc Q h := by
 unfold F_mac_Of G_mac_Of
 try simp only [add_mk, Nat.zero_add, List.append_nil]
 have hxl : b.length = bl := by have := (rb _ hs).1; simpa using this
 have il : (innerM key).length = 64 := xM_len _ _ _
 intro ob _ hn; replace hs := Sat.new hs hn; clear hn
 refine MacNew_sp (key := key) hs hkc hkl (fun h' hs' => rk _ hs'.drop) ?_
 intro m d s sm n h1 D hs
 refine ⟨_, rfl, _, hs.ld (i := 1) (.s .z) rfl, _, rfl, ?_⟩
 refine shWrite_sp (xs := b) hs (i := 0) .z D (by rw [il]; omega) hbc (fun s' sm' n' h' hs' => rb _ hs'.drop.drop.drop) ?_
 intro s' sm' n' h2 D2 hs
 simp only [put_zero] at hs
 refine ⟨_, rfl, ?_⟩
 refine MacSum_sp hs (j := 1) (i := 0) (.s .z) .z D2 (by rw [List.length_append, il]; omega) ?_
 intro h3 hs
 refine ⟨Sat.can hs (i := 2) (.s (.s .z)) (by simp [zeros, shaM_len]), ?_⟩
 intro h4 e
 replace hs := Sat.wra hs (i := 2) (.s (.s .z)) e (by simp [zeros, shaM_len])
 clear e
 simp only [put_succ, put_zero] at hs
 exact ⟨_, shaM_len _, hs.row0 (i := 2) (.s (.s .z)), k _ hs.drop.drop.drop⟩
end
end Go.Proofs.YtaglicdidpgkpaaGreatDoor
end

/- Tokens: caveats, whether they may be, their bytes. Own work. -/
section
set_option maxRecDepth 100000
set_option linter.unusedVariables false
namespace Go.Proofs.YtaglicdidpgkpaaGreatDoor
open Go Go.Vc

structure CvM where
 kind : Int
 slot : Int
 frm : Int
 to : Int
 set : Int
abbrev cvV (c : CvM) : List Value := [.int .i64 c.kind, .int .i64 c.slot, .int .i64 c.frm, .int .i64 c.to, .int .u64 c.set]
def CvM.may (c : CvM) : Prop :=
 (c.kind = 1 ∧ (0 ≤ c.slot ∧ c.slot < 8) ∧ c.frm = 0 ∧ c.to = 0 ∧ c.set = 0) ∨
 (c.kind = 2 ∧ (0 ≤ c.frm ∧ c.frm ≤ c.to ∧ c.to < 4294967296) ∧ c.slot = 0 ∧ c.set = 0) ∨
 (c.kind = 3 ∧ (c.set ≠ 0 ∧ bits .andNot .u64 c.set 16382 = 0) ∧ c.slot = 0 ∧ c.frm = 0 ∧ c.to = 0) ∨
 (c.kind = 4 ∧ (0 ≤ c.slot ∧ c.slot < 8) ∧ (0 ≤ c.frm ∧ c.frm ≤ 4611686018427387904) ∧ c.to = 0 ∧ c.set = 0) ∨
 (c.kind = 5 ∧ (0 ≤ c.slot ∧ c.slot < 8) ∧ (0 ≤ c.to ∧ c.to ≤ 4611686018427387904) ∧ c.frm = 0 ∧ c.set = 0)
instance instDecCv (c : CvM) : Decidable c.may := by unfold CvM.may; infer_instance
def ofV (c : CvM) : Value :=
 if c.kind = 1 then .iface 230 (.agg ⟨[.int .i64 c.slot]⟩)
 else if c.kind = 2 then .iface 232 (.agg ⟨[.int .i64 c.frm, .int .i64 c.to]⟩)
 else if c.kind = 3 then .iface 234 (.agg ⟨[.int .u64 c.set]⟩)
 else if c.kind = 4 then .iface 236 (.agg ⟨[.int .i64 c.slot, .int .i64 c.frm]⟩)
 else if c.kind = 5 then .iface 238 (.agg ⟨[.int .i64 c.slot, .int .i64 c.to]⟩)
 else .nilIface
theorem callIv_of {t : TypeId} {u : Value} {f : FuncId} {name : String} {run : Run} {d : DV} {Q : List DV → H → Prop} {h : H} (hm : ∀ w, (method (PP.types.size + Made.depth) t u name).run PP w = .ok (f, u) w) (hr : RunOk PP f run) (hd : d.ok) (hu : u = d.flat) (hrun : run [d] Q h) :
  callIv PP (.iface t u) name [] Q h := by
 refine ⟨t, u, f, u, rfl, hm, ?_⟩
 have := hr [d] Q h (by intro x hx; simp at hx; subst hx; exact hd) hrun
 rw [hu]
 exact this
section
variable {h0 h : H} {A : List Ent} {i d : Nat}
theorem slot_sp24 {Q : Bool → H → Prop} (n : Int) (q : Q (decide (0 ≤ n ∧ n < 8)) h) : F_token_slot n Q h := by
 unfold F_token_slot G_token_slot
 by_cases c : 0 ≤ n
 ·rw [leI_eq, if_pos (by simpa using c), ltI_eq]
  simpa [c] using q
 ·rw [leI_eq, if_neg (by simpa using c)]
  simpa [c] using q
theorem value_sp24 {Q : Bool → H → Prop} (n : Int) (q : Q (decide (0 ≤ n ∧ n ≤ 4611686018427387904)) h) : F_token_value n Q h := by
 unfold F_token_value G_token_value
 by_cases c : 0 ≤ n
 ·rw [leI_eq, if_pos (by simpa using c)]
  intro i hi
  subst hi
  rw [leI_eq]
  simpa [c] using q
 ·rw [leI_eq, if_neg (by simpa using c)]
  simpa [c] using q
theorem of_sp24 {Q : Value → H → Prop} (c : CvM) (hs : Sat h0 A h) (k : ∀ h', Sat h0 A h' → Q (ofV c) h') : F_token_of c.kind c.slot c.frm c.to c.set Q h := by
 unfold F_token_of G_token_of
 try simp only [add_mk, Nat.zero_add]
 intro b _ hn; replace hs := Sat.new hs hn; clear hn
 have K := k _ hs.drop
 unfold ofV at K
 refine ⟨_, hs.ld (i := 0) .z rfl, ?_⟩
 by_cases c1 : c.kind = 1
 ·rw [if_pos (by simpa using c1)]
  rw [if_pos c1] at K
  exact ⟨_, hs.ld (i := 0) .z rfl, K⟩
 rw [if_neg (by simpa using c1)]
 rw [if_neg c1] at K
 by_cases c2 : c.kind = 2
 ·rw [if_pos (by simpa using c2)]
  rw [if_pos c2] at K
  exact ⟨_, hs.ld (i := 0) .z rfl, _, hs.ld (i := 0) .z rfl, K⟩
 rw [if_neg (by simpa using c2)]
 rw [if_neg c2] at K
 by_cases c3 : c.kind = 3
 ·rw [if_pos (by simpa using c3)]
  rw [if_pos c3] at K
  exact ⟨_, hs.ld (i := 0) .z rfl, K⟩
 rw [if_neg (by simpa using c3)]
 rw [if_neg c3] at K
 by_cases c4 : c.kind = 4
 ·rw [if_pos (by simpa using c4)]
  rw [if_pos c4] at K
  exact ⟨_, hs.ld (i := 0) .z rfl, _, hs.ld (i := 0) .z rfl, K⟩
 rw [if_neg (by simpa using c4)]
 rw [if_neg c4] at K
 by_cases c5 : c.kind = 5
 ·rw [if_pos (by simpa using c5)]
  rw [if_pos c5] at K
  exact ⟨_, hs.ld (i := 0) .z rfl, _, hs.ld (i := 0) .z rfl, K⟩
 rw [if_neg (by simpa using c5)]
 rw [if_neg c5] at K
 exact K
def toldC (c : CvM) : CvM :=
 if c.kind = 1 then ⟨1, c.slot, 0, 0, 0⟩ else if c.kind = 2 then ⟨2, 0, c.frm, c.to, 0⟩ else if c.kind = 3 then ⟨3, 0, 0, 0, c.set⟩ else if c.kind = 4 then ⟨4, c.slot, c.frm, 0, 0⟩ else ⟨5, c.slot, 0, c.to, 0⟩
theorem told_sp24 {Q : Int → Int → Int → Int → Int → H → Prop} (c : CvM) (hk : 1 ≤ c.kind ∧ c.kind ≤ 5) (hs : Sat h0 A h) (k : ∀ h', Sat h0 A h' → Q (toldC c).kind (toldC c).slot (toldC c).frm (toldC c).to (toldC c).set h') : F_token_told (ofV c) Q h := by
 unfold F_token_told G_token_told
 try simp only [add_mk, Nat.zero_add]
 intro b _ hn; replace hs := Sat.new hs hn; clear hn
 unfold ofV
 unfold toldC at k
 by_cases c1 : c.kind = 1
 ·rw [if_pos c1]
  rw [if_pos c1] at k
  refine Or.inr ⟨_, rfl, ?_⟩
  (repeat first | refine ⟨_, Sat.ld hs (by (repeat (first | exact At.z | apply At.s))) (by rfl), ?_⟩ | refine ⟨_, _, _, Sat.ld hs (by (repeat (first | exact At.z | apply At.s))) (by rfl), ?_⟩ | (intro _ _ hn; replace hs := Sat.new hs hn; clear hn) | refine ⟨Sat.cs hs (by (repeat (first | exact At.z | apply At.s))) (by rfl), ?_⟩ | (refine ⟨Sat.can hs (by (repeat (first | exact At.z | apply At.s))) (by simp), ?_⟩; intro _ e; replace hs := Sat.wr hs (by (repeat (first | exact At.z | apply At.s))) e; clear e; simp only [put, splice, List.set] at hs) | refine ⟨_, rfl, ?_⟩)
  exact k _ hs.drop.drop
 rw [if_neg c1]
 rw [if_neg c1] at k
 by_cases c2 : c.kind = 2
 ·rw [if_pos c2]
  rw [if_pos c2] at k
  refine Or.inl ⟨Or.inr ⟨_, _, rfl, by decide⟩, Or.inr ⟨_, _, rfl, ?_⟩⟩
  (repeat first | refine ⟨_, Sat.ld hs (by (repeat (first | exact At.z | apply At.s))) (by rfl), ?_⟩ | refine ⟨_, _, _, Sat.ld hs (by (repeat (first | exact At.z | apply At.s))) (by rfl), ?_⟩ | (intro _ _ hn; replace hs := Sat.new hs hn; clear hn) | refine ⟨Sat.cs hs (by (repeat (first | exact At.z | apply At.s))) (by rfl), ?_⟩ | (refine ⟨Sat.can hs (by (repeat (first | exact At.z | apply At.s))) (by simp), ?_⟩; intro _ e; replace hs := Sat.wr hs (by (repeat (first | exact At.z | apply At.s))) e; clear e; simp only [put, splice, List.set] at hs) | refine ⟨_, rfl, ?_⟩)
  exact k _ hs.drop.drop
 rw [if_neg c2]
 rw [if_neg c2] at k
 by_cases c3 : c.kind = 3
 ·rw [if_pos c3]
  rw [if_pos c3] at k
  refine Or.inl ⟨Or.inr ⟨_, _, rfl, by decide⟩, Or.inl ⟨Or.inr ⟨_, _, rfl, by decide⟩, Or.inr ⟨_, rfl, ?_⟩⟩⟩
  (repeat first | refine ⟨_, Sat.ld hs (by (repeat (first | exact At.z | apply At.s))) (by rfl), ?_⟩ | refine ⟨_, _, _, Sat.ld hs (by (repeat (first | exact At.z | apply At.s))) (by rfl), ?_⟩ | (intro _ _ hn; replace hs := Sat.new hs hn; clear hn) | refine ⟨Sat.cs hs (by (repeat (first | exact At.z | apply At.s))) (by rfl), ?_⟩ | (refine ⟨Sat.can hs (by (repeat (first | exact At.z | apply At.s))) (by simp), ?_⟩; intro _ e; replace hs := Sat.wr hs (by (repeat (first | exact At.z | apply At.s))) e; clear e; simp only [put, splice, List.set] at hs) | refine ⟨_, rfl, ?_⟩)
  exact k _ hs.drop.drop
 rw [if_neg c3]
 rw [if_neg c3] at k
 by_cases c4 : c.kind = 4
 ·rw [if_pos c4]
  rw [if_pos c4] at k
  refine Or.inl ⟨Or.inr ⟨_, _, rfl, by decide⟩, Or.inl ⟨Or.inr ⟨_, _, rfl, by decide⟩, Or.inl ⟨Or.inr ⟨_, _, rfl, by decide⟩, Or.inr ⟨_, _, rfl, ?_⟩⟩⟩⟩
  (repeat first | refine ⟨_, Sat.ld hs (by (repeat (first | exact At.z | apply At.s))) (by rfl), ?_⟩ | refine ⟨_, _, _, Sat.ld hs (by (repeat (first | exact At.z | apply At.s))) (by rfl), ?_⟩ | (intro _ _ hn; replace hs := Sat.new hs hn; clear hn) | refine ⟨Sat.cs hs (by (repeat (first | exact At.z | apply At.s))) (by rfl), ?_⟩ | (refine ⟨Sat.can hs (by (repeat (first | exact At.z | apply At.s))) (by simp), ?_⟩; intro _ e; replace hs := Sat.wr hs (by (repeat (first | exact At.z | apply At.s))) e; clear e; simp only [put, splice, List.set] at hs) | refine ⟨_, rfl, ?_⟩)
  exact k _ hs.drop.drop
 rw [if_neg c4]
 rw [if_neg c4] at k
 have c5 : c.kind = 5 := by omega
 ·rw [if_pos c5]
  refine Or.inl ⟨Or.inr ⟨_, _, rfl, by decide⟩, Or.inl ⟨Or.inr ⟨_, _, rfl, by decide⟩, Or.inl ⟨Or.inr ⟨_, _, rfl, by decide⟩, Or.inl ⟨Or.inr ⟨_, _, rfl, by decide⟩, Or.inr ⟨_, _, rfl, ?_⟩⟩⟩⟩⟩
  (repeat first | refine ⟨_, Sat.ld hs (by (repeat (first | exact At.z | apply At.s))) (by rfl), ?_⟩ | refine ⟨_, _, _, Sat.ld hs (by (repeat (first | exact At.z | apply At.s))) (by rfl), ?_⟩ | (intro _ _ hn; replace hs := Sat.new hs hn; clear hn) | refine ⟨Sat.cs hs (by (repeat (first | exact At.z | apply At.s))) (by rfl), ?_⟩ | (refine ⟨Sat.can hs (by (repeat (first | exact At.z | apply At.s))) (by simp), ?_⟩; intro _ e; replace hs := Sat.wr hs (by (repeat (first | exact At.z | apply At.s))) e; clear e; simp only [put, splice, List.set] at hs) | refine ⟨_, rfl, ?_⟩)
  exact k _ hs.drop.drop
theorem onSlot_sp {Q : Bool → H → Prop} (s : Int) (hs : Sat h0 A h) (k : ∀ h', Sat h0 A h' → Q (decide (0 ≤ s ∧ s < 8)) h') : F_token_onSlot_may s Q h := by
 unfold F_token_onSlot_may G_token_onSlot_may
 (repeat first | refine ⟨_, Sat.ld hs (by (repeat (first | exact At.z | apply At.s))) (by rfl), ?_⟩ | refine ⟨_, _, _, Sat.ld hs (by (repeat (first | exact At.z | apply At.s))) (by rfl), ?_⟩ | (intro _ _ hn; replace hs := Sat.new hs hn; clear hn) | refine ⟨Sat.cs hs (by (repeat (first | exact At.z | apply At.s))) (by rfl), ?_⟩ | (refine ⟨Sat.can hs (by (repeat (first | exact At.z | apply At.s))) (by simp), ?_⟩; intro _ e; replace hs := Sat.wr hs (by (repeat (first | exact At.z | apply At.s))) e; clear e; simp only [put, splice, List.set] at hs) | refine ⟨_, rfl, ?_⟩)
 exact slot_sp24 _ (k _ hs.drop)
theorem versions_sp {Q : Bool → H → Prop} (a b : Int) (hs : Sat h0 A h) (k : ∀ h', Sat h0 A h' → Q (decide (0 ≤ a ∧ a ≤ b ∧ b < 4294967296)) h') : F_token_versions_may a b Q h := by
 unfold F_token_versions_may G_token_versions_may
 try simp only [add_mk, Nat.zero_add]
 (repeat first | refine ⟨_, Sat.ld hs (by (repeat (first | exact At.z | apply At.s))) (by rfl), ?_⟩ | refine ⟨_, _, _, Sat.ld hs (by (repeat (first | exact At.z | apply At.s))) (by rfl), ?_⟩ | (intro _ _ hn; replace hs := Sat.new hs hn; clear hn) | refine ⟨Sat.cs hs (by (repeat (first | exact At.z | apply At.s))) (by rfl), ?_⟩ | (refine ⟨Sat.can hs (by (repeat (first | exact At.z | apply At.s))) (by simp), ?_⟩; intro _ e; replace hs := Sat.wr hs (by (repeat (first | exact At.z | apply At.s))) e; clear e; simp only [put, splice, List.set] at hs) | refine ⟨_, rfl, ?_⟩)
 have K := k _ hs.drop
 rw [leI_eq]
 by_cases c1 : 0 ≤ a
 ·rw [if_pos (by simpa using c1)]
  (repeat first | refine ⟨_, Sat.ld hs (by (repeat (first | exact At.z | apply At.s))) (by rfl), ?_⟩ | refine ⟨_, _, _, Sat.ld hs (by (repeat (first | exact At.z | apply At.s))) (by rfl), ?_⟩ | (intro _ _ hn; replace hs := Sat.new hs hn; clear hn) | refine ⟨Sat.cs hs (by (repeat (first | exact At.z | apply At.s))) (by rfl), ?_⟩ | (refine ⟨Sat.can hs (by (repeat (first | exact At.z | apply At.s))) (by simp), ?_⟩; intro _ e; replace hs := Sat.wr hs (by (repeat (first | exact At.z | apply At.s))) e; clear e; simp only [put, splice, List.set] at hs) | refine ⟨_, rfl, ?_⟩)
  rw [leI_eq]
  by_cases c2 : a ≤ b
  ·rw [if_pos (by simpa using c2)]
   (repeat first | refine ⟨_, Sat.ld hs (by (repeat (first | exact At.z | apply At.s))) (by rfl), ?_⟩ | refine ⟨_, _, _, Sat.ld hs (by (repeat (first | exact At.z | apply At.s))) (by rfl), ?_⟩ | (intro _ _ hn; replace hs := Sat.new hs hn; clear hn) | refine ⟨Sat.cs hs (by (repeat (first | exact At.z | apply At.s))) (by rfl), ?_⟩ | (refine ⟨Sat.can hs (by (repeat (first | exact At.z | apply At.s))) (by simp), ?_⟩; intro _ e; replace hs := Sat.wr hs (by (repeat (first | exact At.z | apply At.s))) e; clear e; simp only [put, splice, List.set] at hs) | refine ⟨_, rfl, ?_⟩)
   intro z hz
   subst hz
   rw [ltI_eq]
   simpa [c1, c2] using K
  ·rw [if_neg (by simpa using c2)]
   simpa [c1, c2] using K
 ·rw [if_neg (by simpa using c1)]
  simpa [c1] using K
theorem ofKinds_sp {Q : Bool → H → Prop} (s : Int) (hs : Sat h0 A h) (k : ∀ h', Sat h0 A h' → Q (decide (s ≠ 0 ∧ bits .andNot .u64 s 16382 = 0)) h') : F_token_ofKinds_may s Q h := by
 unfold F_token_ofKinds_may G_token_ofKinds_may
 (repeat first | refine ⟨_, Sat.ld hs (by (repeat (first | exact At.z | apply At.s))) (by rfl), ?_⟩ | refine ⟨_, _, _, Sat.ld hs (by (repeat (first | exact At.z | apply At.s))) (by rfl), ?_⟩ | (intro _ _ hn; replace hs := Sat.new hs hn; clear hn) | refine ⟨Sat.cs hs (by (repeat (first | exact At.z | apply At.s))) (by rfl), ?_⟩ | (refine ⟨Sat.can hs (by (repeat (first | exact At.z | apply At.s))) (by simp), ?_⟩; intro _ e; replace hs := Sat.wr hs (by (repeat (first | exact At.z | apply At.s))) e; clear e; simp only [put, splice, List.set] at hs) | refine ⟨_, rfl, ?_⟩)
 have K := k _ hs.drop
 by_cases c1 : s = 0
 ·rw [if_neg (by simpa using c1)]
  simpa [c1] using K
 ·rw [if_pos (by simpa using c1)]
  (repeat first | refine ⟨_, Sat.ld hs (by (repeat (first | exact At.z | apply At.s))) (by rfl), ?_⟩ | refine ⟨_, _, _, Sat.ld hs (by (repeat (first | exact At.z | apply At.s))) (by rfl), ?_⟩ | (intro _ _ hn; replace hs := Sat.new hs hn; clear hn) | refine ⟨Sat.cs hs (by (repeat (first | exact At.z | apply At.s))) (by rfl), ?_⟩ | (refine ⟨Sat.can hs (by (repeat (first | exact At.z | apply At.s))) (by simp), ?_⟩; intro _ e; replace hs := Sat.wr hs (by (repeat (first | exact At.z | apply At.s))) e; clear e; simp only [put, splice, List.set] at hs) | refine ⟨_, rfl, ?_⟩)
  by_cases c2 : bits .andNot .u64 s 16382 = 0
  ·rw [show (bits .andNot .u64 s 16382 == 0) = true by simpa using c2]
   rw [decide_eq_true ⟨c1, c2⟩] at K
   exact K
  ·rw [show (bits .andNot .u64 s 16382 == 0) = false by simpa using c2]
   rw [decide_eq_false (fun y => c2 y.2)] at K
   exact K
theorem atLeast_sp {Q : Bool → H → Prop} (a b : Int) (hs : Sat h0 A h) (k : ∀ h', Sat h0 A h' → Q (decide ((0 ≤ a ∧ a < 8) ∧ 0 ≤ b ∧ b ≤ 4611686018427387904)) h') : F_token_atLeast_may a b Q h := by
 unfold F_token_atLeast_may G_token_atLeast_may
 try simp only [add_mk, Nat.zero_add]
 (repeat first | refine ⟨_, Sat.ld hs (by (repeat (first | exact At.z | apply At.s))) (by rfl), ?_⟩ | refine ⟨_, _, _, Sat.ld hs (by (repeat (first | exact At.z | apply At.s))) (by rfl), ?_⟩ | (intro _ _ hn; replace hs := Sat.new hs hn; clear hn) | refine ⟨Sat.cs hs (by (repeat (first | exact At.z | apply At.s))) (by rfl), ?_⟩ | (refine ⟨Sat.can hs (by (repeat (first | exact At.z | apply At.s))) (by simp), ?_⟩; intro _ e; replace hs := Sat.wr hs (by (repeat (first | exact At.z | apply At.s))) e; clear e; simp only [put, splice, List.set] at hs) | refine ⟨_, rfl, ?_⟩)
 have K := k _ hs.drop
 refine slot_sp24 _ ?_
 by_cases c : 0 ≤ a ∧ a < 8
 ·rw [if_pos (by simpa using c)]
  (repeat first | refine ⟨_, Sat.ld hs (by (repeat (first | exact At.z | apply At.s))) (by rfl), ?_⟩ | refine ⟨_, _, _, Sat.ld hs (by (repeat (first | exact At.z | apply At.s))) (by rfl), ?_⟩ | (intro _ _ hn; replace hs := Sat.new hs hn; clear hn) | refine ⟨Sat.cs hs (by (repeat (first | exact At.z | apply At.s))) (by rfl), ?_⟩ | (refine ⟨Sat.can hs (by (repeat (first | exact At.z | apply At.s))) (by simp), ?_⟩; intro _ e; replace hs := Sat.wr hs (by (repeat (first | exact At.z | apply At.s))) e; clear e; simp only [put, splice, List.set] at hs) | refine ⟨_, rfl, ?_⟩)
  refine value_sp24 _ ?_
  simpa [c] using K
 ·rw [if_neg (by simpa using c)]
  rw [decide_eq_false (fun y => c y.1)] at K
  exact K
theorem atMost_sp {Q : Bool → H → Prop} (a b : Int) (hs : Sat h0 A h) (k : ∀ h', Sat h0 A h' → Q (decide ((0 ≤ a ∧ a < 8) ∧ 0 ≤ b ∧ b ≤ 4611686018427387904)) h') : F_token_atMost_may a b Q h := by
 unfold F_token_atMost_may G_token_atMost_may
 try simp only [add_mk, Nat.zero_add]
 (repeat first | refine ⟨_, Sat.ld hs (by (repeat (first | exact At.z | apply At.s))) (by rfl), ?_⟩ | refine ⟨_, _, _, Sat.ld hs (by (repeat (first | exact At.z | apply At.s))) (by rfl), ?_⟩ | (intro _ _ hn; replace hs := Sat.new hs hn; clear hn) | refine ⟨Sat.cs hs (by (repeat (first | exact At.z | apply At.s))) (by rfl), ?_⟩ | (refine ⟨Sat.can hs (by (repeat (first | exact At.z | apply At.s))) (by simp), ?_⟩; intro _ e; replace hs := Sat.wr hs (by (repeat (first | exact At.z | apply At.s))) e; clear e; simp only [put, splice, List.set] at hs) | refine ⟨_, rfl, ?_⟩)
 have K := k _ hs.drop
 refine slot_sp24 _ ?_
 by_cases c : 0 ≤ a ∧ a < 8
 ·rw [if_pos (by simpa using c)]
  (repeat first | refine ⟨_, Sat.ld hs (by (repeat (first | exact At.z | apply At.s))) (by rfl), ?_⟩ | refine ⟨_, _, _, Sat.ld hs (by (repeat (first | exact At.z | apply At.s))) (by rfl), ?_⟩ | (intro _ _ hn; replace hs := Sat.new hs hn; clear hn) | refine ⟨Sat.cs hs (by (repeat (first | exact At.z | apply At.s))) (by rfl), ?_⟩ | (refine ⟨Sat.can hs (by (repeat (first | exact At.z | apply At.s))) (by simp), ?_⟩; intro _ e; replace hs := Sat.wr hs (by (repeat (first | exact At.z | apply At.s))) e; clear e; simp only [put, splice, List.set] at hs) | refine ⟨_, rfl, ?_⟩)
  refine value_sp24 _ ?_
  simpa [c] using K
 ·rw [if_neg (by simpa using c)]
  rw [decide_eq_false (fun y => c y.1)] at K
  exact K
end
end Go.Proofs.YtaglicdidpgkpaaGreatDoor
end

/- Tokens: whether they may be; bytes; copies; what a tag is of. Own work. -/
section
set_option maxRecDepth 100000
set_option linter.unusedVariables false
namespace Go.Proofs.YtaglicdidpgkpaaGreatDoor
open Go Go.Vc

theorem notNil (t : TypeId) (v : Value) : (!isNilI (.iface t v)) = true := rfl
def eightM (n : Int) (t : Nat) : List Int := (List.range t).map fun i => IntKind.u8.wrap (n.fdiv (2 ^ min (8 * i) 64))
theorem eightM_len (n : Int) (t : Nat) : (eightM n t).length = t := by simp [eightM]
def cbM (c : CvM) : List Int := [IntKind.u8.wrap c.kind, IntKind.u8.wrap c.slot] ++ eightM (IntKind.u64.wrap c.frm) 8 ++ eightM (IntKind.u64.wrap c.to) 8 ++ eightM c.set 8
theorem cbM_len (c : CvM) : (cbM c).length = 26 := by simp [cbM, eightM_len]
def cvsV : List CvM → List Value
 | [] => []
 | c :: r => cvV c ++ cvsV r
theorem cvsV_len (cs : List CvM) : (cvsV cs).length = cs.length * 5 := by
 induction cs with
 | nil => rfl
 | cons c r ih => simp [cvsV, ih]; omega
theorem cvsV_get (cs : List CvM) (i j : Nat) (hi : i < cs.length) (hj : j < 5) : (cvsV cs)[i * 5 + j]? = (cvV cs[i])[j]? := by
 induction cs generalizing i with
 | nil => simp at hi
 | cons c r ih =>
  show (cvV c ++ cvsV r)[i * 5 + j]? = _
  cases i with
  | zero => rw [List.getElem?_append_left (by simp; omega)]; simp
  | succ i =>
   rw [List.getElem?_append_right (by simp; omega)]
   have := ih i (by simpa using hi)
   rw [show (i + 1) * 5 + j - (cvV c).length = i * 5 + j by simp; omega, this]
   rfl
theorem cvsV_app (a b : List CvM) : cvsV (a ++ b) = cvsV a ++ cvsV b := by
 induction a with
 | nil => rfl
 | cons c r ih => simp [cvsV, ih]
theorem cv_rd {h : H} {p : Option Addr} {l : Nat} {cs : List CvM} (rd : hsv h p 5 l (cvsV cs)) {i : Nat} (hi : i < l) : ∃ (q : Addr) (hl : i < cs.length), p = some q ∧ hc h (q.add (i * 5)) = some (.int .i64 cs[i].kind) ∧ hc h ((q.add (i * 5)).add 1) = some (.int .i64 cs[i].slot) ∧ hc h ((q.add (i * 5)).add 2) = some (.int .i64 cs[i].frm) ∧ hc h ((q.add (i * 5)).add 3) = some (.int .i64 cs[i].to) ∧ hc h ((q.add (i * 5)).add 4) = some (.int .u64 cs[i].set) := by
 have hl : i < cs.length := by have := rd.1; rw [cvsV_len] at this; omega
 obtain ⟨q, hq, g0⟩ := hsv_get rd (i := i * 5 + 0) (by rw [cvsV_get cs i 0 hl (by decide)]; rfl)
 obtain ⟨q1, hq1, g1⟩ := hsv_get rd (i := i * 5 + 1) (by rw [cvsV_get cs i 1 hl (by decide)]; rfl)
 obtain ⟨q2, hq2, g2⟩ := hsv_get rd (i := i * 5 + 2) (by rw [cvsV_get cs i 2 hl (by decide)]; rfl)
 obtain ⟨q3, hq3, g3⟩ := hsv_get rd (i := i * 5 + 3) (by rw [cvsV_get cs i 3 hl (by decide)]; rfl)
 obtain ⟨q4, hq4, g4⟩ := hsv_get rd (i := i * 5 + 4) (by rw [cvsV_get cs i 4 hl (by decide)]; rfl)
 rw [hq] at hq1 hq2 hq3 hq4
 cases hq1; cases hq2; cases hq3; cases hq4
 refine ⟨q, hl, hq, ?_, ?_, ?_, ?_, ?_⟩
 ·simpa using g0
 ·rw [addAdd]; exact g1
 ·rw [addAdd]; exact g2
 ·rw [addAdd]; exact g3
 ·rw [addAdd]; exact g4
section
variable {h0 h : H} {A : List Ent} {i d : Nat}
theorem CMay_sp {Q : Bool → H → Prop} (c : CvM) (hs : Sat h0 A h) (k : ∀ h', Sat h0 A h' → Q (decide c.may) h') : F_token_Caveat_may c.kind c.slot c.frm c.to c.set Q h := by
 unfold F_token_Caveat_may G_token_Caveat_may
 try simp only [add_mk, Nat.zero_add]
 intro b _ hn; replace hs := Sat.new hs hn; clear hn
 refine ⟨_, hs.ld (i := 0) .z rfl, _, hs.ld (i := 0) .z rfl, _, hs.ld (i := 0) .z rfl, _, hs.ld (i := 0) .z rfl, _, hs.ld (i := 0) .z rfl, ?_⟩
 refine of_sp24 c hs ?_
 intro h1 hs
 have fin : ∀ (x : Bool) h', (1 ≤ c.kind ∧ c.kind ≤ 5) → (x = true → ((toldC c).kind == c.kind && ((toldC c).slot == c.slot && ((toldC c).frm == c.frm && ((toldC c).to == c.to && ((toldC c).set == c.set && true))))) = decide c.may) → (x = false → decide c.may = false) → Sat h0 (blk b (cvV c) :: A) h' →
   if x = true then ∃ i24 : Int, hc h' ⟨b, 0, none⟩ = some (.int .i64 i24) ∧ ∃ i25 : Int, hc h' ⟨b, 1, none⟩ = some (.int .i64 i25) ∧ ∃ i26 : Int, hc h' ⟨b, 2, none⟩ = some (.int .i64 i26) ∧ ∃ i27 : Int, hc h' ⟨b, 3, none⟩ = some (.int .i64 i27) ∧ ∃ i28 : Int, hc h' ⟨b, 4, none⟩ = some (.int .u64 i28) ∧
    F_token_told (ofV c) (fun i29 i30 i31 i32 i33 h34 => hcs h34 ⟨b, 0, none⟩ [.int .i64 i24, .int .i64 i25, .int .i64 i26, .int .i64 i27, .int .u64 i28] ∧ Q (i29 == i24 && (i30 == i25 && (i31 == i26 && (i32 == i27 && (i33 == i28 && true))))) h34) h'
   else Q false h' := by
  intro x h2 hk h3 h4 hs
  cases x with
  | true =>
   rw [if_pos rfl]
   refine ⟨_, hs.ld (i := 0) .z rfl, _, hs.ld (i := 0) .z rfl, _, hs.ld (i := 0) .z rfl, _, hs.ld (i := 0) .z rfl, _, hs.ld (i := 0) .z rfl, ?_⟩
   refine told_sp24 c hk hs ?_
   intro h5 hs
   refine ⟨Sat.cs hs (i := 0) .z rfl, ?_⟩
   rw [h3 rfl]
   exact k _ hs.drop
  | false =>
   rw [if_neg (by decide)]
   have := k _ hs.drop
   rw [h4 rfl] at this
   exact this
 by_cases c1 : c.kind = 1
 ·have e : ofV c = .iface 230 (.agg ⟨[.int .i64 c.slot]⟩) := by unfold ofV; rw [if_pos c1]
  have F := fin (decide (0 ≤ c.slot ∧ c.slot < 8))
  rw [e] at F ⊢
  refine ⟨rfl, ?_⟩
  rw [if_pos (notNil _ _)]
  refine callIv_of (f := id_token_onSlot_may) (d := .agg [.c (.int .i64 c.slot)]) (fun w => by kernel_rfl) R_token_onSlot_may (by intro x hx; simp at hx; subst hx; rfl) rfl ?_
  show F_token_onSlot_may c.slot _ h1
  refine onSlot_sp _ hs ?_
  intro h2 hs
  refine ⟨_, _, rfl, _, rfl, rfl, ?_⟩
  refine F _ (by omega) (fun y => ?_) (fun y => ?_) hs
  ·have y := of_decide_eq_true y
   rw [Bool.eq_iff_iff]
   unfold toldC
   rw [if_pos c1]
   simp only [Bool.and_eq_true, beq_iff_eq, decide_eq_true_eq, and_true]
   unfold CvM.may
   try generalize bits .andNot .u64 c.set 16382 = z at *
   clear F fin
   (try dsimp only)
   refine ⟨fun w => ?_, fun w => ?_⟩
   ·omega
   ·(repeat' apply And.intro) <;> first | omega | exact trivial | simp
  ·have y := of_decide_eq_false y
   rw [decide_eq_false_iff_not]
   unfold CvM.may
   try generalize bits .andNot .u64 c.set 16382 = z at *
   omega
 by_cases c2 : c.kind = 2
 ·have e : ofV c = .iface 232 (.agg ⟨[.int .i64 c.frm, .int .i64 c.to]⟩) := by unfold ofV; rw [if_neg c1, if_pos c2]
  have F := fin (decide (0 ≤ c.frm ∧ c.frm ≤ c.to ∧ c.to < 4294967296))
  rw [e] at F ⊢
  refine ⟨rfl, ?_⟩
  rw [if_pos (notNil _ _)]
  refine callIv_of (f := id_token_versions_may) (d := .agg [.c (.int .i64 c.frm), .c (.int .i64 c.to)]) (fun w => by kernel_rfl) R_token_versions_may (by intro x hx; simp at hx; rcases hx with rfl | rfl <;> rfl) rfl ?_
  show F_token_versions_may c.frm c.to _ h1
  refine versions_sp _ _ hs ?_
  intro h2 hs
  refine ⟨_, _, rfl, _, rfl, rfl, ?_⟩
  refine F _ (by omega) (fun y => ?_) (fun y => ?_) hs
  ·have y := of_decide_eq_true y
   rw [Bool.eq_iff_iff]
   unfold toldC
   rw [if_neg c1, if_pos c2]
   simp only [Bool.and_eq_true, beq_iff_eq, decide_eq_true_eq, and_true]
   unfold CvM.may
   try generalize bits .andNot .u64 c.set 16382 = z at *
   clear F fin
   (try dsimp only)
   refine ⟨fun w => ?_, fun w => ?_⟩
   ·omega
   ·(repeat' apply And.intro) <;> first | omega | exact trivial | simp
  ·have y := of_decide_eq_false y
   rw [decide_eq_false_iff_not]
   unfold CvM.may
   try generalize bits .andNot .u64 c.set 16382 = z at *
   omega
 by_cases c3 : c.kind = 3
 ·have e : ofV c = .iface 234 (.agg ⟨[.int .u64 c.set]⟩) := by unfold ofV; rw [if_neg c1, if_neg c2, if_pos c3]
  have F := fin (decide (c.set ≠ 0 ∧ bits .andNot .u64 c.set 16382 = 0))
  rw [e] at F ⊢
  refine ⟨rfl, ?_⟩
  rw [if_pos (notNil _ _)]
  refine callIv_of (f := id_token_ofKinds_may) (d := .agg [.c (.int .u64 c.set)]) (fun w => by kernel_rfl) R_token_ofKinds_may (by intro x hx; simp at hx; subst hx; rfl) rfl ?_
  show F_token_ofKinds_may c.set _ h1
  refine ofKinds_sp _ hs ?_
  intro h2 hs
  refine ⟨_, _, rfl, _, rfl, rfl, ?_⟩
  refine F _ (by omega) (fun y => ?_) (fun y => ?_) hs
  ·have y := of_decide_eq_true y
   rw [Bool.eq_iff_iff]
   unfold toldC
   rw [if_neg c1, if_neg c2, if_pos c3]
   simp only [Bool.and_eq_true, beq_iff_eq, decide_eq_true_eq, and_true]
   unfold CvM.may
   try generalize bits .andNot .u64 c.set 16382 = z at *
   clear F fin
   (try dsimp only)
   refine ⟨fun w => ?_, fun w => ?_⟩
   ·omega
   ·(repeat' apply And.intro) <;> first | omega | exact trivial | simp
  ·have y := of_decide_eq_false y
   rw [decide_eq_false_iff_not]
   unfold CvM.may
   try generalize bits .andNot .u64 c.set 16382 = z at *
   omega
 by_cases c4 : c.kind = 4
 ·have e : ofV c = .iface 236 (.agg ⟨[.int .i64 c.slot, .int .i64 c.frm]⟩) := by unfold ofV; rw [if_neg c1, if_neg c2, if_neg c3, if_pos c4]
  have F := fin (decide ((0 ≤ c.slot ∧ c.slot < 8) ∧ 0 ≤ c.frm ∧ c.frm ≤ 4611686018427387904))
  rw [e] at F ⊢
  refine ⟨rfl, ?_⟩
  rw [if_pos (notNil _ _)]
  refine callIv_of (f := id_token_atLeast_may) (d := .agg [.c (.int .i64 c.slot), .c (.int .i64 c.frm)]) (fun w => by kernel_rfl) R_token_atLeast_may (by intro x hx; simp at hx; rcases hx with rfl | rfl <;> rfl) rfl ?_
  show F_token_atLeast_may c.slot c.frm _ h1
  refine atLeast_sp _ _ hs ?_
  intro h2 hs
  refine ⟨_, _, rfl, _, rfl, rfl, ?_⟩
  refine F _ (by omega) (fun y => ?_) (fun y => ?_) hs
  ·have y := of_decide_eq_true y
   rw [Bool.eq_iff_iff]
   unfold toldC
   rw [if_neg c1, if_neg c2, if_neg c3, if_pos c4]
   simp only [Bool.and_eq_true, beq_iff_eq, decide_eq_true_eq, and_true]
   unfold CvM.may
   try generalize bits .andNot .u64 c.set 16382 = z at *
   clear F fin
   (try dsimp only)
   refine ⟨fun w => ?_, fun w => ?_⟩
   ·omega
   ·(repeat' apply And.intro) <;> first | omega | exact trivial | simp
  ·have y := of_decide_eq_false y
   rw [decide_eq_false_iff_not]
   unfold CvM.may
   try generalize bits .andNot .u64 c.set 16382 = z at *
   omega
 by_cases c5 : c.kind = 5
 ·have e : ofV c = .iface 238 (.agg ⟨[.int .i64 c.slot, .int .i64 c.to]⟩) := by unfold ofV; rw [if_neg c1, if_neg c2, if_neg c3, if_neg c4, if_pos c5]
  have F := fin (decide ((0 ≤ c.slot ∧ c.slot < 8) ∧ 0 ≤ c.to ∧ c.to ≤ 4611686018427387904))
  rw [e] at F ⊢
  refine ⟨rfl, ?_⟩
  rw [if_pos (notNil _ _)]
  refine callIv_of (f := id_token_atMost_may) (d := .agg [.c (.int .i64 c.slot), .c (.int .i64 c.to)]) (fun w => by kernel_rfl) R_token_atMost_may (by intro x hx; simp at hx; rcases hx with rfl | rfl <;> rfl) rfl ?_
  show F_token_atMost_may c.slot c.to _ h1
  refine atMost_sp _ _ hs ?_
  intro h2 hs
  refine ⟨_, _, rfl, _, rfl, rfl, ?_⟩
  refine F _ (by omega) (fun y => ?_) (fun y => ?_) hs
  ·have y := of_decide_eq_true y
   rw [Bool.eq_iff_iff]
   unfold toldC
   rw [if_neg c1, if_neg c2, if_neg c3, if_neg c4]
   simp only [Bool.and_eq_true, beq_iff_eq, decide_eq_true_eq, and_true]
   unfold CvM.may
   try generalize bits .andNot .u64 c.set 16382 = z at *
   clear F fin
   (try dsimp only)
   refine ⟨fun w => ?_, fun w => ?_⟩
   ·omega
   ·(repeat' apply And.intro) <;> first | omega | exact trivial | simp
  ·have y := of_decide_eq_false y
   rw [decide_eq_false_iff_not]
   unfold CvM.may
   try generalize bits .andNot .u64 c.set 16382 = z at *
   omega
 have e : ofV c = .nilIface := by unfold ofV; rw [if_neg c1, if_neg c2, if_neg c3, if_neg c4, if_neg c5]
 rw [e]
 refine ⟨rfl, ?_⟩
 rw [if_neg (by decide)]
 have := k _ hs.drop
 rw [decide_eq_false (by unfold CvM.may; omega)] at this
 exact this
end
end Go.Proofs.YtaglicdidpgkpaaGreatDoor
end

/- Tokens: bytes, copies, messages, tags. Own work. -/
section
set_option maxRecDepth 100000
set_option linter.unusedVariables false
namespace Go.Proofs.YtaglicdidpgkpaaGreatDoor
open Go Go.Vc

theorem loopS {J : List SV → H → Prop} {σ : Type} (N : Nat) (S : Nat → σ → List SV) (Inv : Nat → σ → H → Prop) (step : ∀ i s h, i < N → Inv i s h → (∀ s' h', Inv (i + 1) s' h' → J (S (i + 1) s') h') → J (S i s) h)
  (exit : ∀ s h, Inv N s h → J (S N s) h) (i : Nat) (s : σ) (h : H) (hi : i ≤ N) (inv : Inv i s h) : J (S i s) h := by
 generalize e : N - i = n
 induction n generalizing i s h with
 | zero =>
  have : i = N := by omega
  subst this; exact exit s h inv
 | succ n ih => exact step i s h (by omega) inv fun s' h' inv' => ih (i + 1) s' h' (by omega) inv' (by omega)
theorem capS {h0 h : H} {A : List Ent} (hs : Sat h0 A h) {i : Nat} {p : Option Addr} {l c sz : Nat} {vs : List Value} (m : At A i (slE p l c sz vs)) : l ≤ c := by
 obtain ⟨f, hp, _⟩ := hs.take m
 obtain ⟨bs, o, _⟩ := slE_P.1 hp
 exact o.2.1
def beginsL : List Int := [112, 111, 114, 116, 99, 117, 108, 108, 105, 115, 32, 116, 111, 107, 101, 110, 0]
def msgM (id : List Int) : List Int := beginsL ++ [IntKind.u8.wrap (id.length : Int)] ++ id
section
variable {h0 h : H} {A : List Ent} {i d : Nat}
theorem eight_sp24 {Q : Option Addr → Nat → Nat → H → Prop} {p : Option Addr} {l c : Nat} {bs : List Int} (n : Int) (hs : Sat h0 A h) (m : At A i (slE p l c 1 (ints .u8 bs))) (hb : l + 8 ≤ 2 ^ 40)
  (k : ∀ p' c' h', Sat h0 (put A i (slE p' (l + 8) c' 1 (ints .u8 (bs ++ eightM n 8)))) h' → Q p' (l + 8) c' h') : F_token_eight p l c n Q h := by
 unfold F_token_eight G_token_eight
 intro J hJ
 refine loopS 8 (fun t (s : Option Addr × Nat) => [.dv (.one (.slice s.1 (l + t) s.2)), si t]) (fun t s h => Sat h0 (put A i (slE s.1 (l + t) s.2 1 (ints .u8 (bs ++ eightM n t)))) h) ?_ ?_ 0 (p, c) _ (by omega) (by
  have : put A i (slE p (l + 0) c 1 (ints .u8 (bs ++ eightM n 0))) = A := by simpa [eightM] using m.put_self
  rw [this]; exact hs)
 ·rintro t ⟨p1, c1⟩ h1 ht hs hk
  dsimp only at hs ⊢
  apply hJ
  rw [ltI_eq, if_pos (by simp; omega)]
  have e8 : IntKind.i64.wrap (8 * (t : Int)) = ((8 * t : Nat) : Int) := by rw [wrap_id (by omega)]; push_cast; rfl
  rw [e8, Int.toNat_natCast]
  refine ⟨by omega, ?_⟩
  intro b _ hn; replace hs := Sat.new hs hn; clear hn
  refine ⟨_, hs.bv (i := 0) (l := 1) .z rfl (ints_one .u8 [IntKind.u8.wrap (n.fdiv (2 ^ min (8 * t) 64))]), ?_⟩
  refine Sat.app hs (i := i + 1) (vs := ints .u8 [IntKind.u8.wrap (n.fdiv (2 ^ min (8 * t) 64))]) (.s (m.put _)) rfl rfl (ints_one _ _) (by omega) ?_
  intro p' c' h2 hs
  simp only [put_succ, put_put] at hs
  rw [wrap_succ (by omega)]
  have := hk (p', c') h2
  dsimp only at this
  refine this ?_
  have e : eightM n (t + 1) = eightM n t ++ [IntKind.u8.wrap (n.fdiv (2 ^ min (8 * t) 64))] := by unfold eightM; rw [List.range_succ, List.map_append]; rfl
  rw [e, ← List.append_assoc]
  have e2 : ints .u8 (bs ++ eightM n t ++ [IntKind.u8.wrap (n.fdiv (2 ^ min (8 * t) 64))]) = ints .u8 (bs ++ eightM n t) ++ ints .u8 [IntKind.u8.wrap (n.fdiv (2 ^ min (8 * t) 64))] := by unfold ints; rw [List.map_append]
  rw [e2]
  exact hs.drop
 ·rintro ⟨p1, c1⟩ h1 hs
  apply hJ
  rw [ltI_eq, if_neg (by decide)]
  exact k _ _ _ hs
theorem cbytes_sp {Q : Option Addr → Nat → Nat → H → Prop} (c : CvM) (hs : Sat h0 A h) (k : ∀ p' c' h', Sat h0 (slE p' 26 c' 1 (ints .u8 (cbM c)) :: A) h' → Q p' 26 c' h') : F_token_Caveat_bytes c.kind c.slot c.frm c.to c.set Q h := by
 unfold F_token_Caveat_bytes G_token_Caveat_bytes
 try simp only [add_mk, Nat.zero_add]
 intro b _ hn; replace hs := Sat.new hs hn; clear hn
 refine ⟨_, hs.ld (i := 0) .z rfl, _, hs.ld (i := 0) .z rfl, ?_⟩
 intro b2 _ hn; replace hs := Sat.new hs hn; clear hn
 refine ⟨_, hs.ld (i := 1) (.s .z) rfl, _, hs.ld (i := 1) (.s .z) rfl, _, hs.ld (i := 1) (.s .z) rfl, ?_⟩
 replace hs := hs.as_sl (i := 0) (l := 2) (sz := 1) .z rfl (ints_one .u8 [IntKind.u8.wrap c.kind, IntKind.u8.wrap c.slot])
 rw [put_zero] at hs
 refine eight_sp24 (bs := [IntKind.u8.wrap c.kind, IntKind.u8.wrap c.slot]) _ hs (i := 0) .z (by decide) ?_
 intro p1 c1 h1 hs
 rw [put_zero] at hs
 refine ⟨hcs_one (hs.ld (i := 1) (.s .z) rfl), hcs_one (hs.ld (i := 1) (.s .z) rfl), ?_⟩
 refine eight_sp24 _ hs (i := 0) .z (by decide) ?_
 intro p2 c2 h2 hs
 rw [put_zero] at hs
 refine ⟨hcs_one (hs.ld (i := 1) (.s .z) rfl), ?_⟩
 refine eight_sp24 _ hs (i := 0) .z (by decide) ?_
 intro p3 c3 h3 hs
 rw [put_zero] at hs
 refine k p3 c3 h3 ?_
 exact hs.sub (by (repeat (first | exact List.Sublist.refl _ | apply List.Sublist.cons_cons | apply List.Sublist.cons)))
theorem clone1_sp {Q : Option Addr → Nat → Nat → H → Prop} {p : Option Addr} {l c : Nat} {vs : List Value} (hs : Sat h0 A h) (hl : l < 2 ^ 47) (rd : ∀ h', Sat h0 A h' → hsv h' p 1 l vs)
  (k : ∀ p' c' h', (p.isNone = true → p' = none ∧ l = 0) → Sat h0 (slE p' l c' 1 vs :: A) h' → Q p' l c' h') : F_slices_Clone_byte_byte p l c Q h := by
 unfold F_slices_Clone_byte_byte G_slices_Clone_byte_byte
 have R := rd _ hs
 by_cases g : p.isNone = true
 ·rw [if_pos g]
  have hp : p = none := by simpa using g
  subst hp
  have e := hsv_none R
  subst e
  have hl0 : l = 0 := by have := R.1; simp at this; omega
  subst hl0
  exact k none 0 h (fun _ => ⟨rfl, rfl⟩) (hs.sl_nil 1 none)
 ·rw [if_neg g]
  intro b _ hn; replace hs := Sat.new hs hn; clear hn
  have R2 := rd _ hs.drop
  refine ⟨vs, R2, ?_⟩
  refine Sat.app_new hs R2.1 rfl R2.2.1 (by omega) ?_
  intro p' c' h1 hs
  exact k _ _ _ (fun y => absurd y g) (hs.sub (by (repeat (first | exact List.Sublist.refl _ | apply List.Sublist.cons_cons | apply List.Sublist.cons))))
theorem clone5_sp {Q : Option Addr → Nat → Nat → H → Prop} {p : Option Addr} {l c : Nat} {vs : List Value} (hs : Sat h0 A h) (hl : l < 2 ^ 40) (rd : ∀ h', Sat h0 A h' → hsv h' p 5 l vs)
  (k : ∀ p' c' h', Sat h0 (slE p' l c' 5 vs :: A) h' → Q p' l c' h') : F_slices_Clone_token_Caveat_token_Caveat p l c Q h := by
 unfold F_slices_Clone_token_Caveat_token_Caveat G_slices_Clone_token_Caveat_token_Caveat
 have R := rd _ hs
 by_cases g : p.isNone = true
 ·rw [if_pos g]
  have hp : p = none := by simpa using g
  subst hp
  have e := hsv_none R
  subst e
  have hl0 : l = 0 := by have := R.1; simp at this; omega
  subst hl0
  exact k none 0 h (hs.sl_nil 5 none)
 ·rw [if_neg g]
  intro b _ hn; replace hs := Sat.new hs hn; clear hn
  have R2 := rd _ hs.drop
  refine ⟨vs, R2, ?_⟩
  refine Sat.app_new hs R2.1 rfl R2.2.1 (by omega) ?_
  intro p' c' h1 hs
  exact k _ _ _ (hs.sub (by (repeat (first | exact List.Sublist.refl _ | apply List.Sublist.cons_cons | apply List.Sublist.cons))))
theorem index_sp {Q : Int → H → Prop} {p : Option Addr} {l c : Nat} {cs : List CvM} (hs : Sat h0 A h) (hl : l < 2 ^ 40) (rd : ∀ h', Sat h0 A h' → hsv h' p 5 l (cvsV cs))
  (k : ∀ r h', Sat h0 A h' → ((0 ≤ r ∧ ¬ ∀ c ∈ cs, c.may) ∨ (r = -1 ∧ ∀ c ∈ cs, c.may)) → Q r h') : F_slices_IndexFunc_token_Caveat_token_Caveat p l c (.func (.func id_token_Token_may_1) ⟨[]⟩ ⟨[]⟩) Q h := by
 unfold F_slices_IndexFunc_token_Caveat_token_Caveat G_slices_IndexFunc_token_Caveat_token_Caveat
 have hcl : cs.length = l := by have := (rd _ hs).1; rw [cvsV_len] at this; omega
 intro J hJ
 refine loop_up l (fun t h => (∀ j (hj : j < cs.length), j < t → cs[j].may) ∧ Sat h0 A h) ?_ ?_ 0 _ (by omega) ⟨fun j _ y => by omega, hs⟩
 ·rintro t h1 ht ⟨hm, hs⟩ hk
  apply hJ
  rw [ltI_eq, if_pos (by simp; omega)]
  obtain ⟨q, hl2, hq, g0, g1, g2, g3, g4⟩ := cv_rd (rd _ hs) (i := t) ht
  refine ⟨q, hq, by omega, by omega, ?_⟩
  simp only [Int.toNat_natCast]
  refine ⟨_, g0, _, g1, _, g2, _, g3, _, g4, ?_⟩
  refine callFn_dv (f := id_token_Token_may_1) R_token_Token_may_1 (xs := []) (ys := []) (args := [.agg [.c (.int .i64 cs[t].kind), .c (.int .i64 cs[t].slot), .c (.int .i64 cs[t].frm), .c (.int .i64 cs[t].to), .c (.int .u64 cs[t].set)]]) ?_ ?_
  ·intro x hx
   simp at hx
   subst hx
   intro y hy
   simp at hy
   rcases hy with rfl | rfl | rfl | rfl | rfl <;> rfl
  ·show F_token_Token_may_1 cs[t].kind cs[t].slot cs[t].frm cs[t].to cs[t].set _ h1
   unfold F_token_Token_may_1 G_token_Token_may_1
   try simp only [add_mk, Nat.zero_add]
   intro b _ hn; replace hs := Sat.new hs hn; clear hn
   refine ⟨_, hs.ld (i := 0) .z rfl, _, hs.ld (i := 0) .z rfl, _, hs.ld (i := 0) .z rfl, _, hs.ld (i := 0) .z rfl, _, hs.ld (i := 0) .z rfl, ?_⟩
   refine CMay_sp cs[t] hs ?_
   intro h2 hs
   refine ⟨_, _, rfl, _, rfl, rfl, ?_⟩
   by_cases g : cs[t].may
   ·rw [if_neg (by simp [g]), wrap_succ (by omega)]
    refine hk _ ⟨fun j hj hjt => ?_, hs.drop⟩
    by_cases e : j = t
    ·subst e; exact g
    ·exact hm j hj (by omega)
   ·rw [if_pos (by simp [g])]
    exact k _ _ hs.drop (Or.inl ⟨by omega, fun y => g (y _ (List.getElem_mem hl2))⟩)
 ·rintro h1 ⟨hm, hs⟩
  apply hJ
  rw [ltI_eq, if_neg (by simp)]
  refine k _ _ hs (Or.inr ⟨rfl, fun c hc => ?_⟩)
  obtain ⟨j, hj, rfl⟩ := List.getElem_of_mem hc
  exact hm j hj (by omega)
def TokMay (key : Int) (id : List Int) (cs : List CvM) : Prop := (0 ≤ key ∧ key < 64) ∧ (1 ≤ id.length ∧ id.length ≤ 64) ∧ cs.length ≤ 32 ∧ ∀ c ∈ cs, c.may
instance (key : Int) (id : List Int) (cs : List CvM) : Decidable (TokMay key id cs) := by unfold TokMay; infer_instance
theorem tmay_sp {Q : Bool → H → Prop} {key : Int} {id tag : List Int} {cs : List CvM} {ip cp : Option Addr} {il ic cl cc : Nat} (hs : Sat h0 A h) (hil : id.length = il) (hl : cl < 2 ^ 40) (hcl : cs.length = cl) (rc : ∀ h', Sat h0 A h' → hsv h' cp 5 cl (cvsV cs))
  (k : ∀ h', Sat h0 A h' → Q (decide (TokMay key id cs)) h') : F_token_Token_may key ip il ic cp cl cc tag Q h := by
 unfold F_token_Token_may G_token_Token_may
 try simp only [add_mk, Nat.zero_add]
 intro b _ hn; replace hs := Sat.new hs hn; clear hn
 have no : ¬ TokMay key id cs → Q false _ := fun y => by
  have := k _ hs.drop
  rw [decide_eq_false y] at this
  exact this
 refine ⟨_, hs.ld (i := 0) .z rfl, ?_⟩
 rw [leI_eq]
 by_cases c1 : 0 ≤ key
 case neg =>
  rw [if_neg (by simpa using c1)]
  exact no fun y => c1 y.1.1
 rw [if_pos (by simpa using c1)]
 refine ⟨_, hs.ld (i := 0) .z rfl, ?_⟩
 rw [ltI_eq]
 by_cases c2 : key < 64
 case neg =>
  rw [if_neg (by simpa using c2)]
  exact no fun y => c2 y.1.2
 rw [if_pos (by simpa using c2)]
 refine ⟨_, _, _, hs.ld (i := 0) .z rfl, ?_⟩
 rw [leI_eq]
 by_cases c3 : 1 ≤ il
 case neg =>
  rw [if_neg (by simp; omega)]
  exact no fun y => c3 (by have := y.2.1.1; omega)
 rw [if_pos (by simp; omega)]
 refine ⟨_, _, _, hs.ld (i := 0) .z rfl, ?_⟩
 rw [leI_eq]
 by_cases c4 : il ≤ 64
 case neg =>
  rw [if_neg (by simp; omega)]
  exact no fun y => c4 (by have := y.2.1.2; omega)
 rw [if_pos (by simp; omega)]
 refine ⟨_, _, _, hs.ld (i := 0) .z rfl, ?_⟩
 rw [leI_eq]
 by_cases c5 : cl ≤ 32
 case neg =>
  rw [if_neg (by simp; omega)]
  exact no fun y => c5 (by have := y.2.2.1; omega)
 rw [if_pos (by simp; omega)]
 refine ⟨_, _, _, hs.ld (i := 0) .z rfl, ?_⟩
 unfold F_slices_ContainsFunc_token_Caveat_token_Caveat G_slices_ContainsFunc_token_Caveat_token_Caveat
 refine index_sp hs hl (fun h' hs' => rc _ hs'.drop) ?_
 intro r h2 hs hr
 have K := k _ hs.drop
 rw [leI_eq]
 rcases hr with ⟨r1, r2⟩ | ⟨r1, r2⟩
 ·rw [decide_eq_true r1]
  rw [decide_eq_false (fun y => r2 y.2.2.2)] at K
  exact K
 ·rw [decide_eq_false (by omega)]
  rw [decide_eq_true ⟨⟨c1, c2⟩, ⟨by omega, by omega⟩, by omega, r2⟩] at K
  exact K
theorem ints_app (k : IntKind) (a b : List Int) : ints k (a ++ b) = ints k a ++ ints k b := by unfold ints; rw [List.map_append]
theorem message_sp {Q : Option Addr → Nat → Nat → H → Prop} {p : Option Addr} {l c : Nat} {id : List Int} (hs : Sat h0 A h) (hl : l < 2 ^ 40) (rd : ∀ h', Sat h0 A h' → hsv h' p 1 l (ints .u8 id))
  (k : ∀ p' c' h', 18 + l ≤ c' → Sat h0 (slE p' (18 + l) c' 1 (ints .u8 (msgM id)) :: A) h' → Q p' (18 + l) c' h') : F_token_message p l c Q h := by
 unfold F_token_message G_token_message
 have hil : id.length = l := by have := (rd _ hs).1; simpa using this
 intro b _ hn; replace hs := Sat.new hs hn; clear hn
 refine ⟨_, rfl, ?_⟩
 intro h2 e
 replace hs := hs.mark (i := 0) .z e
 clear e
 intro b2 _ hn; replace hs := Sat.new hs hn; clear hn
 refine ⟨_, hs.bv (i := 0) (l := 1) .z rfl (ints_one .u8 [IntKind.u8.wrap (l : Int)]), ?_⟩
 replace hs := hs.as_sl (i := 1) (l := 17) (sz := 1) (.s .z) rfl (ints_one .u8 beginsL)
 simp only [put_succ, put_zero] at hs
 refine Sat.app hs (i := 1) (vs := ints .u8 [IntKind.u8.wrap (l : Int)]) (.s .z) rfl rfl (ints_one _ _) (by decide) ?_
 intro p1 c1 h3 hs
 simp only [put_succ, put_zero] at hs
 have R := rd _ hs.drop.drop
 refine ⟨_, R, ?_⟩
 refine Sat.app hs (i := 1) (vs := ints .u8 id) (.s .z) (by simp [hil]) rfl (ints_one _ _) (by omega) ?_
 intro p2 c2 h4 hs
 simp only [put_succ, put_zero] at hs
 have hs2 : Sat h0 (slE p2 (18 + l) c2 1 (ints .u8 (msgM id)) :: A) h4 := by
  have e : ints .u8 (msgM id) = ints .u8 beginsL ++ ints .u8 [IntKind.u8.wrap (l : Int)] ++ ints .u8 id := by
   unfold msgM; rw [ints_app, ints_app, hil]
  rw [e]
  exact hs.drop
 exact k p2 c2 h4 (capS hs2 (i := 0) .z) hs2
theorem next_sp24 {Q : List Int → H → Prop} {tag : List Int} (c : CvM) (ht : tag.length = 32) (hs : Sat h0 A h) (k : ∀ h', Sat h0 A h' → Q (macM tag (cbM c)) h') : F_token_next tag c.kind c.slot c.frm c.to c.set Q h := by
 unfold F_token_next G_token_next
 try simp only [add_mk, Nat.zero_add, List.append_nil]
 intro tb _ hn; replace hs := Sat.new hs hn; clear hn
 intro cb _ hn; replace hs := Sat.new hs hn; clear hn
 intro ob _ hn; replace hs := Sat.new hs hn; clear hn
 refine ⟨_, hs.ld (i := 1) (.s .z) rfl, _, hs.ld (i := 1) (.s .z) rfl, _, hs.ld (i := 1) (.s .z) rfl, _, hs.ld (i := 1) (.s .z) rfl, _, hs.ld (i := 1) (.s .z) rfl, ?_⟩
 refine cbytes_sp c hs ?_
 intro p1 c1 h1 hs
 refine MacOf_sp (key := tag) (b := cbM c) hs (by decide) (by decide) (capS hs (i := 0) .z) (by decide) ?_ (fun h' hs' => hs'.sv (i := 0) .z) ?_
 ·intro h' hs'
  have := blk_sv hs' (i := 3) (.s (.s (.s .z))) (n := 32) (by omega)
  rw [List.take_of_length_le (by omega)] at this
  exact this
 intro h2 hs
 refine ⟨Sat.can hs (i := 1) (.s .z) (by simp [zeros, macM_len]), ?_⟩
 intro h3 e
 replace hs := Sat.wra hs (i := 1) (.s .z) e (by simp [zeros, macM_len])
 clear e
 simp only [put_succ, put_zero] at hs
 exact ⟨_, macM_len _ _, hs.row0 (i := 1) (.s .z), k _ hs.drop.drop.drop.drop⟩
end
end Go.Proofs.YtaglicdidpgkpaaGreatDoor
end

/- Tokens: rings of keys, Issue, Put. Own work. -/
section
set_option maxRecDepth 100000
set_option linter.unusedVariables false
namespace Go.Proofs.YtaglicdidpgkpaaGreatDoor
open Go Go.Vc

abbrev tokL (key : Int) (ip : Option Addr) (il ic : Nat) (cp : Option Addr) (cl cc : Nat) (tag : List Int) : List Value := .int .i64 key :: .slice ip il ic :: .slice cp cl cc :: ints .u8 tag
abbrev tok0 : List Value := tokL 0 none 0 0 none 0 0 (zeros 32)
theorem zeros_len (n : Nat) : (zeros n).length = n := by simp [zeros]
section
variable {h0 h : H} {A : List Ent} {i j d r m : Nat}
theorem tok_row {b : Nat} {key : Int} {ip cp : Option Addr} {il ic cl cc : Nat} {tag : List Int} (hs : Sat h0 A h) (c : At A i (blk b (tokL key ip il ic cp cl cc tag))) : hrow h ⟨b, 3, none⟩ .u8 tag :=
 hs.row c fun x hx => by
  show (Value.int .i64 key :: .slice ip il ic :: .slice cp cl cc :: ints .u8 tag)[3 + x]? = _
  rw [show 3 + x = x + 1 + 1 + 1 by omega, List.getElem?_cons_succ, List.getElem?_cons_succ, List.getElem?_cons_succ, ints_get]
theorem has_sp {Q : Bool → H → Prop} (key : Int) {es : List (Value × DV)} {b : Bool} {op : Option Addr} {ol oc : Nat} (hs : Sat h0 A h) (cr : At A i (blk r [.map (some m)])) (cm : At A j (mapE m es)) (hl : mlook (.int .i64 key) (.one (.slice none 0 0)) es = some (.one (.slice op ol oc), b))
  (q : Q b h) : F_keys_Ring_Has ⟨r, 0, none⟩ key Q h := by
 unfold F_keys_Ring_Has G_keys_Ring_Has
 exact ⟨_, hs.ld cr rfl, _, _, _, hs.mapAt cm, hl, _, _, _, rfl, q⟩
theorem keys1_sp {Q : Option Addr → Int → Int → H → Prop} {key : Int} {bs : List Int} {p : Addr} {bp : Option Addr} {bl bc : Nat} (hs : Sat h0 A h) (hk : 0 ≤ key ∧ key < 64) (hb : 1 ≤ bl ∧ bl ≤ 256)
  (r0 : ∀ h', Sat h0 A h' → hc h' p = some (.int .i64 key)) (r1 : ∀ h', Sat h0 A h' → hc h' (p.add 1) = some (.slice bp bl bc)) (rd : ∀ h', Sat h0 A h' → hsv h' bp 1 bl (ints .u8 bs))
  (k : ∀ r m p' c' h', bl ≤ c' → Sat h0 (slE p' bl c' 1 (ints .u8 bs) :: blk r [.map (some m)] :: mapE m [(.int .i64 key, .one (.slice p' bl c'))] :: A) h' → Q (some ⟨r, 0, none⟩) 0 0 h') : F_keys_New (some p) 1 1 Q h := by
 unfold F_keys_New G_keys_New
 try simp only [add_mk, Nat.zero_add]
 rw [ltI_eq, if_neg (by decide)]
 intro m _ hn; replace hs := hs.mapNew hn; clear hn
 intro r _ hn; replace hs := Sat.new hs hn; clear hn
 intro J hJ
 apply hJ
 rw [ltI_eq, if_pos (by decide)]
 refine ⟨p, rfl, by decide, by decide, ?_⟩
 simp only [Int.toNat_zero, Nat.zero_mul, add_zero]
 refine ⟨_, r0 _ hs.drop.drop, _, _, _, r1 _ hs.drop.drop, ?_⟩
 intro b _ hn; replace hs := Sat.new hs hn; clear hn
 refine ⟨Sat.can hs (i := 0) .z (by simp), ?_⟩
 intro h2 e
 replace hs := Sat.wra hs (i := 0) .z e rfl
 clear e
 simp only [put_zero] at hs
 intro J26 hJ26
 have way : J26 [.dv (.one (.bool false))] h2 := by
  apply hJ26
  rw [if_neg (by decide)]
  refine ⟨_, _, _, hs.ld (i := 0) .z rfl, ?_⟩
  rw [ltI_eq, if_neg (by simp; omega)]
  refine ⟨_, _, _, hs.ld (i := 0) .z rfl, ?_⟩
  rw [ltI_eq, if_neg (by simp; omega)]
  refine ⟨_, hs.ld (i := 0) .z rfl, ?_⟩
  refine has_sp key hs (i := 1) (j := 2) (.s .z) (.s (.s .z)) rfl ?_
  rw [if_neg (by decide)]
  refine ⟨_, hs.ld (i := 1) (.s .z) rfl, _, hs.ld (i := 0) .z rfl, _, _, _, hs.ld (i := 0) .z rfl, ?_⟩
  refine clone1_sp (vs := ints .u8 bs) hs (by omega) (fun h' hs' => rd _ hs'.drop.drop.drop) ?_
  intro p' c' h3 _ hs
  refine ⟨hcs_one (hs.ld (i := 1) (.s .z) rfl), hcs_one (hs.ld (i := 2) (.s (.s .z)) rfl), _, _, _, rfl, hs.mapAt (i := 3) (.s (.s (.s .z))), rfl, ?_⟩
  intro h4 e
  replace hs := hs.mapSet (i := 3) (.s (.s (.s .z))) e
  clear e
  simp only [put_succ, put_zero] at hs
  apply hJ
  rw [ltI_eq, if_neg (by decide)]
  exact k r m p' c' _ (capS hs (i := 0) .z) (hs.sub (by (repeat (first | exact List.Sublist.refl _ | apply List.Sublist.cons_cons | apply List.Sublist.cons))))
 refine ⟨_, hs.ld (i := 0) .z rfl, ?_⟩
 rw [ltI_eq, if_neg (by simp; omega)]
 refine ⟨_, hs.ld (i := 0) .z rfl, ?_⟩
 rw [leI_eq, decide_eq_false (by omega)]
 exact way
theorem sign_sp {Q : List Int → Int → H → Prop} {key : Int} {es : List (Value × DV)} {sp bp : Option Addr} {sl sc bl bc : Nat} {secret b : List Int} (hs : Sat h0 A h) (cr : At A i (blk r [.map (some m)])) (cm : At A j (mapE m es)) (hl : mlook (.int .i64 key) (.one (.slice none 0 0)) es = some (.one (.slice sp sl sc), true))
  (hsc : sl ≤ sc) (hsl : sl < 2 ^ 40) (hbc : bl ≤ bc) (hbl : bl < 2 ^ 40) (rs : ∀ h', Sat h0 A h' → hsv h' sp 1 sl (ints .u8 secret)) (rb : ∀ h', Sat h0 A h' → hsv h' bp 1 bl (ints .u8 b)) (k : ∀ h', Sat h0 A h' → Q (macM secret b) 0 h') : F_keys_Ring_Sign ⟨r, 0, none⟩ key bp bl bc Q h := by
 unfold F_keys_Ring_Sign G_keys_Ring_Sign
 simp only [List.append_nil]
 intro ob _ hn; replace hs := Sat.new hs hn; clear hn
 refine ⟨_, hs.ld cr.s rfl, _, _, _, hs.mapAt cm.s, hl, _, _, _, rfl, ?_⟩
 rw [if_neg (by decide)]
 refine MacOf_sp (key := secret) (b := b) hs hsc (by omega) hbc (by omega) (fun h' hs' => rs _ hs'.drop) (fun h' hs' => rb _ hs'.drop) ?_
 intro h2 hs
 refine ⟨Sat.can hs (i := 0) .z (by simp [zeros]), ?_⟩
 intro h3 e
 replace hs := Sat.wra hs (i := 0) .z e (by simp [zeros, macM_len])
 clear e
 simp only [put_zero] at hs
 exact ⟨_, macM_len _ _, hs.row0 .z, k _ hs.drop⟩
theorem issue_sp {Q : Int → Option Addr → Nat → Nat → Option Addr → Nat → Nat → List Int → Int → H → Prop} {key : Int} {es : List (Value × DV)} {sp ip : Option Addr} {sl sc il ic : Nat} {secret id : List Int} (hs : Sat h0 A h) (cr : At A i (blk r [.map (some m)])) (cm : At A j (mapE m es)) (hl : mlook (.int .i64 key) (.one (.slice none 0 0)) es = some (.one (.slice sp sl sc), true))
  (hsc : sl ≤ sc) (hsl : sl < 2 ^ 40) (hi : 1 ≤ il ∧ il ≤ 64) (rs : ∀ h', Sat h0 A h' → hsv h' sp 1 sl (ints .u8 secret)) (ri : ∀ h', Sat h0 A h' → hsv h' ip 1 il (ints .u8 id))
  (k : ∀ p' c' h', il ≤ c' → Sat h0 (slE p' il c' 1 (ints .u8 id) :: A) h' → Q key p' il c' none 0 0 (macM secret (msgM id)) 0 h') : F_token_Issue ⟨r, 0, none⟩ key ip il ic Q h := by
 unfold F_token_Issue G_token_Issue
 try simp only [add_mk, Nat.zero_add, List.append_nil]
 intro tb _ hn; replace hs := Sat.new hs hn; clear hn
 intro J hJ
 refine has_sp key hs cr.s cm.s hl ?_
 rw [if_neg (by decide), ltI_eq, if_neg (by simp; omega), ltI_eq, if_neg (by simp; omega)]
 apply hJ
 clear hJ J
 refine message_sp (id := id) hs (by omega) (fun h' hs' => ri _ hs'.drop) ?_
 intro p1 c1 h1 hc1 hs
 have hil : id.length = il := by have := (ri _ hs.drop.drop).1; simpa using this
 refine sign_sp (b := msgM id) hs cr.s.s cm.s.s hl hsc hsl hc1 (by omega) (fun h' hs' => rs _ hs'.drop.drop) (fun h' hs' => hs'.sv (i := 0) .z) ?_
 intro h2 hs
 intro gb _ hn; replace hs := Sat.new hs hn; clear hn
 refine ⟨Sat.can hs (i := 0) .z (by simp [zeros]), ?_⟩
 intro h3 e
 replace hs := Sat.wra hs (i := 0) .z e (by simp [zeros, macM_len])
 clear e
 simp only [put_zero] at hs
 rw [if_neg (by decide)]
 refine ⟨_, macM_len _ _, hs.row0 .z, ?_⟩
 refine clone1_sp (vs := ints .u8 id) hs (by omega) (fun h' hs' => ri _ hs'.drop.drop.drop) ?_
 intro p2 c2 h4 _ hs
 refine ⟨Sat.cs hs (i := 1) (.s .z) (by rw [List.drop_zero, List.take_of_length_le (Nat.le_refl _)]), ?_⟩
 refine ⟨Sat.can hs (i := 3) (.s (.s (.s .z))) (by simp [zeros]), ?_⟩
 intro h5 e
 replace hs := Sat.wra hs (i := 3) (.s (.s (.s .z))) e (by simp [zeros, macM_len])
 clear e
 simp only [put_succ, put_zero] at hs
 replace hs : Sat h0 (slE p2 il c2 1 (ints .u8 id) :: blk gb (ints .u8 (macM secret (msgM id))) :: slE p1 (18 + il) c1 1 (ints .u8 (msgM id)) :: blk tb (tokL key p2 il c2 none 0 0 (macM secret (msgM id))) :: A) h5 := hs
 have t3 := At.s (x := slE p2 il c2 1 (ints .u8 id)) (At.s (x := blk gb (ints .u8 (macM secret (msgM id)))) (At.s (x := slE p1 (18 + il) c1 1 (ints .u8 (msgM id))) (At.z (A := A) (e := blk tb (tokL key p2 il c2 none 0 0 (macM secret (msgM id)))))))
 refine ⟨_, hs.ld t3 rfl, _, _, _, hs.ld t3 rfl, _, _, _, hs.ld t3 rfl, _, macM_len _ _, tok_row hs t3, ?_⟩
 exact k p2 c2 h5 (capS hs (i := 0) .z) (hs.sub (by (repeat (first | exact List.Sublist.refl _ | apply List.Sublist.cons_cons | apply List.Sublist.cons))))
def cbsM : List CvM → List Int
 | [] => []
 | c :: r => cbM c ++ cbsM r
theorem cbsM_app (a : List CvM) (c : CvM) : cbsM (a ++ [c]) = cbsM a ++ cbM c := by
 induction a with
 | nil => simp [cbsM]
 | cons x r ih => simp [cbsM, ih]
def headM24 (key : Int) (id : List Int) (cs : List CvM) : List Int := [80, 67, 84, 75, 1] ++ [IntKind.u8.wrap key, IntKind.u8.wrap (id.length : Int), IntKind.u8.wrap (cs.length : Int)] ++ id
def putM24 (key : Int) (id : List Int) (cs : List CvM) (tag : List Int) : List Int := headM24 key id cs ++ cbsM cs ++ tag
theorem cbsM_len (cs : List CvM) : (cbsM cs).length = cs.length * 26 := by
 induction cs with
 | nil => rfl
 | cons x r ih => simp [cbsM, ih, cbM_len]; omega
theorem headM24_len (key : Int) (id : List Int) (cs : List CvM) : (headM24 key id cs).length = 8 + id.length := by simp [headM24]; omega
theorem put24_sp {Q : Option Addr → Nat → Nat → Int → H → Prop} {key : Int} {id tag : List Int} {cs : List CvM} {ip cp : Option Addr} {il ic cl cc : Nat} (hs : Sat h0 A h) (ht : tag.length = 32) (hl : cl < 2 ^ 40)
  (ri : ∀ h', Sat h0 A h' → hsv h' ip 1 il (ints .u8 id)) (rc : ∀ h', Sat h0 A h' → hsv h' cp 5 cl (cvsV cs))
  (k1 : ¬ TokMay key id cs → ∀ h', Sat h0 A h' → Q none 0 0 5 h')
  (k2 : TokMay key id cs → ∀ p c h', (putM24 key id cs tag).length ≤ c → Sat h0 (slE p (putM24 key id cs tag).length c 1 (ints .u8 (putM24 key id cs tag)) :: A) h' → Q p (putM24 key id cs tag).length c 0 h') :
  F_token_Put key ip il ic cp cl cc tag Q h := by
 unfold F_token_Put G_token_Put
 try simp only [add_mk, Nat.zero_add, List.append_nil]
 have hil : id.length = il := by have := (ri _ hs).1; simpa using this
 have hcl : cs.length = cl := by have := (rc _ hs).1; rw [cvsV_len] at this; omega
 intro tb _ hn; replace hs := Sat.new hs hn; clear hn
 replace hs : Sat h0 (blk tb (tokL key ip il ic cp cl cc tag) :: A) _ := hs
 refine ⟨_, hs.ld (i := 0) .z rfl, _, _, _, hs.ld (i := 0) .z rfl, _, _, _, hs.ld (i := 0) .z rfl, tag, ht, tok_row hs (i := 0) .z, ?_⟩
 refine tmay_sp (id := id) (cs := cs) hs hil hl hcl (fun h' hs' => rc _ hs'.drop) ?_
 intro h1 hs
 by_cases g : TokMay key id cs
 case neg =>
  rw [if_pos (by simp [g])]
  exact k1 g _ hs.drop
 rw [if_neg (by simp [g])]
 have K2 := k2 g
 clear k1 k2
 obtain ⟨_, ⟨i1, i2⟩, c32, _⟩ := g
 intro b1 _ hn; replace hs := Sat.new hs hn; clear hn
 refine ⟨_, rfl, ?_⟩
 intro h2 e
 replace hs := hs.mark (i := 0) .z e
 clear e
 refine ⟨_, hs.ld (i := 1) (.s .z) rfl, _, _, _, hs.ld (i := 1) (.s .z) rfl, _, _, _, hs.ld (i := 1) (.s .z) rfl, ?_⟩
 intro b2 _ hn; replace hs := Sat.new hs hn; clear hn
 refine ⟨_, hs.bv (i := 0) (l := 3) .z rfl (ints_one .u8 [IntKind.u8.wrap key, IntKind.u8.wrap (il : Int), IntKind.u8.wrap (cl : Int)]), ?_⟩
 replace hs := hs.as_sl (i := 1) (l := 5) (sz := 1) (.s .z) rfl (ints_one .u8 [80, 67, 84, 75, 1])
 simp only [put_succ, put_zero] at hs
 refine Sat.app hs (i := 1) (vs := ints .u8 [IntKind.u8.wrap key, IntKind.u8.wrap (il : Int), IntKind.u8.wrap (cl : Int)]) (.s .z) rfl rfl (ints_one _ _) (by decide) ?_
 intro p1 c1 h3 hs
 simp only [put_succ, put_zero] at hs
 replace hs := hs.drop
 refine ⟨_, _, _, hs.ld (i := 1) (.s .z) rfl, _, ri _ hs.drop.drop, ?_⟩
 refine Sat.app hs (i := 0) (vs := ints .u8 id) .z (by simp [hil]) rfl (ints_one _ _) (by omega) ?_
 intro p2 c2 h4 hs
 simp only [put_zero] at hs
 refine ⟨_, _, _, hs.ld (i := 1) (.s .z) rfl, ?_⟩
 have e0 : ints .u8 [80, 67, 84, 75, 1] ++ ints .u8 [IntKind.u8.wrap key, IntKind.u8.wrap (il : Int), IntKind.u8.wrap (cl : Int)] ++ ints .u8 id = ints .u8 (headM24 key id cs ++ cbsM (cs.take 0)) := by
  unfold headM24
  rw [List.take_zero, hil, hcl]
  show _ = ints .u8 (_ ++ [])
  rw [List.append_nil, ints_app, ints_app]
 replace hs : Sat h0 (slE p2 (8 + il) c2 1 (ints .u8 (headM24 key id cs ++ cbsM (cs.take 0))) :: blk tb (tokL key ip il ic cp cl cc tag) :: A) h4 := by
  rw [← e0]; exact hs
 intro J57 hJ57
 refine loopS cl (fun t (s : Option Addr × Nat) => [.dv (.one (.slice s.1 (8 + il + t * 26) s.2)), si t]) (fun t s h => Sat h0 (slE s.1 (8 + il + t * 26) s.2 1 (ints .u8 (headM24 key id cs ++ cbsM (cs.take t))) :: blk tb (tokL key ip il ic cp cl cc tag) :: A) h) ?_ ?_ 0 (p2, c2) _ (by omega) (by simpa using hs)
 ·rintro t ⟨p3, c3⟩ h5 htl hs hk
  dsimp only at hs ⊢
  apply hJ57
  rw [ltI_eq, if_pos (by simp; omega)]
  obtain ⟨q, hl2, hq, g0, g1, g2, g3, g4⟩ := cv_rd (rc _ hs.drop.drop) (i := t) htl
  refine ⟨q, hq, by omega, by omega, ?_⟩
  simp only [Int.toNat_natCast]
  refine ⟨_, g0, _, g1, _, g2, _, g3, _, g4, ?_⟩
  intro b3 _ hn; replace hs := Sat.new hs hn; clear hn
  refine ⟨Sat.can hs (i := 0) .z (by simp), ?_⟩
  intro h6 e
  replace hs := Sat.wra hs (i := 0) .z e rfl
  clear e
  simp only [put_zero] at hs
  refine ⟨_, hs.ld (i := 0) .z rfl, _, hs.ld (i := 0) .z rfl, _, hs.ld (i := 0) .z rfl, _, hs.ld (i := 0) .z rfl, _, hs.ld (i := 0) .z rfl, ?_⟩
  refine cbytes_sp cs[t] hs ?_
  intro p4 c4 h7 hs
  refine ⟨_, hs.sv (i := 0) .z, ?_⟩
  refine Sat.app hs (i := 2) (vs := ints .u8 (cbM cs[t])) (.s (.s .z)) (by simp [cbM_len]) rfl (ints_one _ _) (by omega) ?_
  intro p5 c5 h8 hs
  simp only [put_succ, put_zero] at hs
  rw [wrap_succ (by omega)]
  have := hk (p5, c5) h8
  dsimp only at this
  rw [show 8 + il + (t + 1) * 26 = 8 + il + t * 26 + 26 by omega] at this
  refine this ?_
  have e1 : cs.take (t + 1) = cs.take t ++ [cs[t]] := by rw [List.take_succ, List.getElem?_eq_getElem hl2]; rfl
  rw [e1, cbsM_app, ← List.append_assoc, ints_app .u8 _ (cbM cs[t])]
  exact hs.drop.drop
 ·rintro ⟨p3, c3⟩ h5 hs
  dsimp only at hs ⊢
  apply hJ57
  rw [ltI_eq, if_neg (by simp)]
  rw [List.take_of_length_le (by omega)] at hs
  have sub0 : subAddr (some ⟨tb, 3, none⟩) 0 32 1 = some ⟨tb, 3, none⟩ := by unfold subAddr; simp
  rw [sub0]
  have R : hsv h5 (some ⟨tb, 3, none⟩) 1 32 (ints .u8 tag) := by
   refine ⟨by simp [ht], ints_one _ _, Or.inr ⟨_, rfl, ?_⟩⟩
   exact tok_row hs (i := 1) (.s .z)
  refine ⟨_, R, ?_⟩
  refine Sat.app hs (i := 0) (vs := ints .u8 tag) .z (by simp [ht]) rfl (ints_one _ _) (by omega) ?_
  intro p4 c4 h6 hs
  simp only [put_zero] at hs
  have hlen : (putM24 key id cs tag).length = 8 + il + cl * 26 + 32 := by
   unfold putM24
   rw [List.length_append, List.length_append, headM24_len, cbsM_len, hil, hcl, ht]
  rw [← ints_app] at hs
  have K := K2 p4 c4 h6
  rw [hlen] at K
  refine K (capS hs (i := 0) .z) ?_
  exact hs.sub (by (repeat (first | exact List.Sublist.refl _ | apply List.Sublist.cons_cons | apply List.Sublist.cons)))
end
end Go.Proofs.YtaglicdidpgkpaaGreatDoor
end
