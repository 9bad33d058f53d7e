/- StreamPieces: what is proved and its parts, laid together by a program of ours: Sh3 Sh4 Mac1 Tk1 Tk2 Tk3 Tk4 Tk6 Tk7 Tr2 Tr4 Tr6 At Rs1 Rs2 Rm1 -/
import Derived.Test.YteedolonhdbieaaGreatDoorRows
import Derived.Test.YteedolonhdbieaaGreatDoorK8
set_option autoImplicit false
set_option linter.all false
/- SHA-256 in the program: bytes are written. Own work. -/
section
set_option maxRecDepth 100000
set_option linter.unusedVariables false
namespace Go.Proofs.YteedolonhdbieaaGreatDoor
open Go Go.Vc

def blkM (ms : List Int) (i : Nat) : List Int := (ms.drop (64 * i)).take 64
def stM (ms : List Int) : Nat → List Int
 | 0 => sM
 | k + 1 => pieceM (stM ms k) (blkM ms k)
theorem stM_len (ms : List Int) (k : Nat) : (stM ms k).length = 8 := by
 induction k with
 | zero => rfl
 | succ k ih => exact pieceM_len ih
theorem blkM_app {ms xs : List Int} {i : Nat} (h : 64 * (i + 1) ≤ ms.length) : blkM (ms ++ xs) i = blkM ms i := by
 unfold blkM
 rw [List.drop_append_of_le_length (by omega), List.take_append_of_le_length (by rw [List.length_drop]; omega)]
theorem stM_app {ms xs : List Int} : ∀ {k : Nat}, 64 * k ≤ ms.length → stM (ms ++ xs) k = stM ms k
 | 0, _ => rfl
 | k + 1, h => by
  show pieceM (stM (ms ++ xs) k) (blkM (ms ++ xs) k) = pieceM (stM ms k) (blkM ms k)
  rw [stM_app (k := k) (by omega), blkM_app h]
structure DgOk (ms s sm : List Int) (n : Int) : Prop where
 s : s = stM ms (ms.length / 64)
 n : n = (ms.length : Int)
 l : sm.length = 64
 m : sm.take (ms.length % 64) = ms.drop (64 * (ms.length / 64))
theorem DgOk.sl {ms s sm : List Int} {n : Int} (D : DgOk ms s sm n) : s.length = 8 := by rw [D.s]; exact stM_len _ _
section
variable {s sm : List Int} {n : Int}
theorem dg_pm (h1 : s.length = 8) (h2 : sm.length = 64) {o : Nat} {xs : List Int} (hx : o + xs.length ≤ 64) : splice (dgL s sm n) (8 + o) (ints .u8 xs) = dgL s (sm.take o ++ xs ++ sm.drop (o + xs.length)) n := by
 have hl2 : (sm.take o ++ xs ++ sm.drop (o + xs.length)).length = 64 := by simp [h2]; omega
 apply List.ext_getElem?
 intro j
 rw [splice_get, ints_length, dg_len h1 h2]
 by_cases c1 : j < 8
 ·rw [if_neg (by omega), dg_s h1 c1, dg_s h1 c1]
 by_cases c2 : j < 72
 ·obtain ⟨y, rfl⟩ : ∃ y, j = 8 + y := ⟨j - 8, by omega⟩
  rw [dg_m h1 h2 (by omega), dg_m h1 hl2 (by omega)]
  by_cases c3 : o ≤ y ∧ y < o + xs.length
  ·rw [if_pos (by omega), show 8 + y - (8 + o) = y - o by omega, intsG (by omega)]
   congr 2
   rw [List.getD_eq_getElem?_getD, List.getD_eq_getElem?_getD, List.getElem?_append_left (by simp [h2]; omega), List.getElem?_append_right (by simp [h2]; omega)]
   congr 2
   simp [h2]; omega
  ·rw [if_neg (by omega)]
   congr 2
   rw [List.getD_eq_getElem?_getD, List.getD_eq_getElem?_getD]
   by_cases c4 : y < o
   ·rw [List.append_assoc, List.getElem?_append_left (by simp [h2]; omega), List.getElem?_take_of_lt c4]
   ·rw [List.getElem?_append_right (by simp [h2]; omega), List.getElem?_drop]
    congr 2
    simp [h2]; omega
 by_cases c3 : j = 72
 ·subst c3
  rw [if_neg (by omega), dg_n h1 h2, dg_n h1 hl2]
 by_cases c4 : j < 137
 ·obtain ⟨y, rfl⟩ : ∃ y, j = 73 + y := ⟨j - 73, by omega⟩
  rw [if_neg (by omega), dg_k h1 h2 (by omega), dg_k h1 hl2 (by omega)]
 ·rw [if_neg (by omega), List.getElem?_eq_none (by rw [dg_len h1 h2]; omega), List.getElem?_eq_none (by rw [dg_len h1 hl2]; omega)]
end
section
variable {h0 h : H} {A : List Ent} {i d : Nat}
theorem dg_sv {s sm : List Int} {n : Int} (hs : Sat h0 A h) (cd : At A i (blk d (dgL s sm n))) (h1 : s.length = 8) (h2 : sm.length = 64) : hsv h (some ⟨d, 8, none⟩) 1 64 (ints .u8 sm) := by
 refine ⟨by simp [h2], ints_one _ _, Or.inr ⟨_, rfl, ?_⟩⟩
 refine hs.cs1 cd ?_
 intro x hx
 rw [ints_length, h2] at hx
 rw [dg_m h1 h2 hx, intsG (by omega)]
theorem wloop_sp {Q : H → Prop} {T sm : List Int} {N : Int} {j : Nat} {o : Option Addr} {l c : Nat} (hs : Sat h0 (put A i (blk d (dgL (stM T j) sm N))) h) (cd0 : ∃ e, At A i e) (hN : N = (T.length : Int)) (hl : 64 * j + l = T.length) (hc : l ≤ c) (h2 : sm.length = 64)
  (rd : ∀ s' sm' h', Sat h0 (put A i (blk d (dgL s' sm' N))) h' → hsv h' o 1 l (ints .u8 (T.drop (64 * j))))
  (k : ∀ s' sm' h', DgOk T s' sm' N → Sat h0 (put A i (blk d (dgL s' sm' N))) h' → Q h') :
  ∀ (J16 : List SV → H → Prop), (∀ (o17 : Option Addr) (n18 n19 : Nat) (h20 : H), (if leI 64 (n18 : Int) = true then (0 : Int) ≤ 64 ∧ 64 ≤ (n19 : Int) ∧ F_sha_Digest_take ⟨d, 0, none⟩ (subAddr o17 0 n19 1) 64 (n19 - 0)
   (fun h21 => (0 : Int) ≤ 64 ∧ 64 ≤ (n18 : Int) ∧ J16 [.dv (.one (.slice (subAddr o17 64 n19 1) (n18 - 64) (n19 - 64)))] h21) h20
   else ∃ l22 : List Value, hsv h20 o17 1 (n18.min 64) l22 ∧ (l22 = [] ∨ ∃ p23 : Addr, subAddr (some ⟨d, 8, none⟩) 0 64 1 = some p23 ∧ hcan h20 p23 (n18.min 64 * 1)) ∧ ∀ h24 : H, h24 = hwrO h20 (subAddr (some ⟨d, 8, none⟩) 0 64 1) l22 → Q h24) → J16 [.dv (.one (.slice o17 n18 n19))] h20) → J16 [.dv (.one (.slice o l c))] h := by
 intro J hJ
 obtain ⟨e0, cd0⟩ := cd0
 induction hn : l / 64 generalizing j o l c h sm with
 | zero =>
  apply hJ
  have hl64 : l < 64 := by omega
  rw [leI_eq, if_neg (by rw [decide_eq_true_iff]; omega)]
  have cd := cd0.put (blk d (dgL (stM T j) sm N))
  have hsl := stM_len T j
  have R := rd _ _ _ hs
  have hmin : l.min 64 = l := Nat.min_eq_left (by omega)
  rw [hmin]
  have sub0 : subAddr (some ⟨d, 8, none⟩) 0 64 1 = some ⟨d, 8, none⟩ := by unfold subAddr; simp
  rw [sub0]
  have hxl : (T.drop (64 * j)).length = l := by rw [List.length_drop]; omega
  refine ⟨_, R, Or.inr ⟨_, rfl, Sat.can hs cd (by rw [dg_len hsl h2]; omega)⟩, ?_⟩
  intro h1 e
  replace hs := Sat.wr hs cd e
  clear e
  have sp := dg_pm (n := N) (o := 0) (xs := T.drop (64 * j)) hsl h2 (by omega)
  rw [show 8 + 0 = 8 from rfl] at sp
  rw [sp] at hs
  simp only [put_put, List.take_zero, List.nil_append, Nat.zero_add] at hs
  refine k _ _ _ ⟨?_, hN, by simp [h2]; omega, ?_⟩ hs
  ·rw [show T.length / 64 = j by omega]
  ·rw [show T.length % 64 = l by omega, show T.length / 64 = j by omega, List.take_append_of_le_length (by omega), List.take_of_length_le (by omega)]
 | succ m ih =>
  apply hJ
  rw [leI_eq, if_pos (by rw [decide_eq_true_iff]; omega)]
  refine ⟨by decide, by omega, ?_⟩
  have cd := cd0.put (blk d (dgL (stM T j) sm N))
  have hsl := stM_len T j
  refine take_sp (bs := blkM T j) hs cd hsl h2 (by omega) ?_ ?_
  ·intro h' hs'
   have := subRd (o := 0) (n := 64) (m := c) (rd _ _ _ hs') (by omega) (by omega)
   rw [List.drop_zero] at this
   exact this
  ·intro h1 hs
   rw [put_put] at hs
   refine ⟨by decide, by omega, ?_⟩
   refine ih (j := j + 1) (l := l - 64) hs (by omega) (by omega) h2 ?_ (by omega)
   intro s' sm' h' hs'
   have := subRd (o := 64) (n := l - 64) (m := c) (rd _ _ _ hs') (by omega) (by omega)
   rw [List.drop_drop, List.take_of_length_le (by rw [List.length_drop]; omega), show 64 * j + 64 = 64 * (j + 1) by omega] at this
   exact this
theorem shWrite_sp {Q : H → Prop} {ms xs s sm : List Int} {n : Int} {bp : Option Addr} {bl bc : Nat} (hs : Sat h0 A h) (cd : At A i (blk d (dgL s sm n))) (D : DgOk ms s sm n) (hml : ms.length + xs.length < 2 ^ 61) (hbc : bl ≤ bc)
  (rd : ∀ s' sm' n' h', Sat h0 (put A i (blk d (dgL s' sm' n'))) h' → hsv h' bp 1 bl (ints .u8 xs))
  (k : ∀ s' sm' n' h', DgOk (ms ++ xs) s' sm' n' → Sat h0 (put A i (blk d (dgL s' sm' n'))) h' → Q h') : F_sha_Digest_Write ⟨d, 0, none⟩ bp bl bc Q h := by
 unfold F_sha_Digest_Write G_sha_Digest_Write
 try simp only [add_mk, Nat.zero_add, List.append_nil]
 have l1 := D.sl
 have l2 := D.l
 have hn := D.n
 have hxl : xs.length = bl := by
  have := (rd s sm n h (by rw [cd.put_self]; exact hs)).1
  simpa using this
 refine ⟨_, hs.ld cd (dg_n l1 l2), by decide, _, hs.ld cd (dg_n l1 l2), ?_⟩
 refine ⟨Sat.can hs cd (by rw [dg_len l1 l2]; omega), ?_⟩
 intro h1 e
 replace hs := Sat.wr hs cd e
 clear e
 rw [dg_pn l1 l2] at hs
 have eN : IntKind.u64.wrap (n + IntKind.u64.wrap (bl : Int)) = ((ms ++ xs).length : Int) := by
  rw [wrapU64, wrapU64, List.length_append, hn]; push_cast; omega
 rw [eN] at hs
 obtain ⟨hv, hhv⟩ : ∃ hv, hv = ms.length % 64 := ⟨_, rfl⟩
 have eH : IntKind.i64.wrap (n.tmod 64) = (hv : Int) := by
  have : n.tmod 64 = (hv : Int) := by
   rw [hn, hhv, Int.tmod_eq_emod_of_nonneg (by omega)]; omega
  rw [this, wrap_id (by omega)]
 rw [eH]
 obtain ⟨T, hT⟩ : ∃ T, T = ms ++ xs := ⟨_, rfl⟩
 have hTl : T.length = ms.length + bl := by rw [hT, List.length_append, hxl]
 rw [← hT] at hs k
 have hmod := Nat.div_add_mod ms.length 64
 have est : s = stM T (ms.length / 64) := by rw [hT, stM_app (by omega)]; exact D.s
 have hdm : ms.drop (64 * (ms.length / 64)) = sm.take hv := by rw [hhv]; exact D.m.symm
 by_cases g : 0 < hv
 ·rw [ltI_eq, if_pos (by simp; exact g)]
  refine ⟨by omega, by omega, ?_⟩
  simp only [Int.toNat_natCast]
  obtain ⟨m, hm⟩ : ∃ m, m = bl.min (64 - hv) := ⟨_, rfl⟩
  have hm1 : m ≤ bl := by rw [hm]; exact Nat.min_le_left _ _
  have hm2 : m ≤ 64 - hv := by rw [hm]; exact Nat.min_le_right _ _
  have hm3 : m = bl ∨ m = 64 - hv := by rw [hm]; rcases Nat.le_total bl (64 - hv) with z | z; exact Or.inl (Nat.min_eq_left z); exact Or.inr (Nat.min_eq_right z)
  rw [← hm]
  have cd1 := cd.put (blk d (dgL s sm (T.length : Int)))
  have sub1 : subAddr (some ⟨d, 8, none⟩) hv 64 1 = some ⟨d, 8 + hv, none⟩ := by
   unfold subAddr
   rw [if_neg (by omega)]; simp
  rw [sub1]
  have R := rd _ _ _ _ hs
  have R2 := subRd (o := 0) (n := m) (m := m + 1) R (by omega) (by omega)
  have sub0 : subAddr bp 0 (m + 1) 1 = bp := by
   unfold subAddr
   rw [if_neg (by omega)]
   cases bp with
   | none => rfl
   | some q => simp [add_zero]
  rw [sub0, List.drop_zero] at R2
  have hxt : (xs.take m).length = m := by rw [List.length_take]; omega
  refine ⟨_, R2, Or.inr ⟨_, rfl, Sat.can hs cd1 (by rw [dg_len l1 l2]; omega)⟩, ?_⟩
  intro h2 e
  replace hs := Sat.wr hs cd1 e
  clear e
  rw [dg_pm l1 l2 (by omega)] at hs
  rw [put_put, hxt] at hs
  refine ⟨by omega, by omega, ?_⟩
  rw [wrap_id (n := (hv : Int) + (m : Int)) (by omega), ltI_eq]
  obtain ⟨sm1, hsm1⟩ : ∃ sm1, sm1 = sm.take hv ++ xs.take m ++ sm.drop (hv + m) := ⟨_, rfl⟩
  rw [← hsm1] at hs
  have hl1 : sm1.length = 64 := by rw [hsm1]; simp [l2]; omega
  have hst : (sm.take hv).length = hv := by rw [List.length_take]; omega
  by_cases gs : hv + m < 64
  ·rw [if_pos (by rw [decide_eq_true_iff]; omega)]
   have hmb : m = bl := by omega
   refine k _ _ _ _ ⟨?_, rfl, hl1, ?_⟩ hs
   ·rw [est, show T.length / 64 = ms.length / 64 by omega]
   ·rw [show T.length % 64 = hv + m by omega, show T.length / 64 = ms.length / 64 by omega, hsm1, List.take_append_of_le_length (by simp [l2]; omega), List.take_of_length_le (by simp [l2]; omega)]
    rw [hT, List.drop_append_of_le_length (by omega), hdm, List.take_of_length_le (l := xs) (i := m) (by omega)]
  ·rw [if_neg (by rw [decide_eq_true_iff]; omega)]
   have hm64 : hv + m = 64 := by omega
   have cd2 := cd.put (blk d (dgL s sm1 (T.length : Int)))
   have sub8 : subAddr (some ⟨d, 8, none⟩) 0 64 1 = some ⟨d, 8, none⟩ := by unfold subAddr; simp
   rw [sub8]
   refine take_sp (bs := sm1) hs cd2 l1 hl1 (by omega) (fun h' hs' => dg_sv hs' cd2 l1 hl1) ?_
   intro h3 hs
   rw [put_put] at hs
   have hb : sm1 = blkM T (ms.length / 64) := by
    unfold blkM
    rw [hT, List.drop_append_of_le_length (by omega), hdm, hsm1, List.drop_of_length_le (by omega), List.append_nil, List.take_append, List.take_of_length_le (l := sm.take hv) (i := 64) (by omega), hst, show 64 - hv = m by omega]
   rw [est, show pieceM (stM T (ms.length / 64)) sm1 = stM T (ms.length / 64 + 1) by rw [hb]; rfl] at hs
   refine wloop_sp (T := T) (j := ms.length / 64 + 1) (l := bl - m) (c := bc - m) hs ⟨_, cd⟩ rfl (by omega) (by omega) hl1 ?_ (fun s' sm' h' D' hs' => k s' sm' _ h' D' hs')
   intro s' sm' h' hs'
   have := subRd (o := m) (n := bl - m) (m := bc) (rd _ _ _ _ hs') (by omega) (by omega)
   rw [List.take_of_length_le (by rw [List.length_drop]; omega)] at this
   have hd : T.drop (64 * (ms.length / 64 + 1)) = xs.drop m := by
    rw [hT, List.drop_append, List.drop_of_length_le (by omega), List.nil_append, show 64 * (ms.length / 64 + 1) - ms.length = m by omega]
   rw [hd]
   exact this
 ·rw [ltI_eq, if_neg (by simp; omega)]
  have hv0 : hv = 0 := by omega
  rw [est] at hs
  refine wloop_sp (T := T) (j := ms.length / 64) (l := bl) (c := bc) hs ⟨_, cd⟩ rfl (by omega) hbc l2 ?_ (fun s' sm' h' D' hs' => k s' sm' _ h' D' hs')
  intro s' sm' h' hs'
  have hd : T.drop (64 * (ms.length / 64)) = xs := by
   rw [hT, List.drop_append, List.drop_of_length_le (by omega), List.nil_append, show 64 * (ms.length / 64) - ms.length = 0 by omega, List.drop_zero]
  rw [hd]
  exact rd _ _ _ _ hs'
end
end Go.Proofs.YteedolonhdbieaaGreatDoor
end

/- SHA-256 in the program: the hash. Own work. -/
section
set_option maxRecDepth 100000
set_option linter.unusedVariables false
namespace Go.Proofs.YteedolonhdbieaaGreatDoor
open Go Go.Vc

def zM (n : Nat) : Nat := (119 - n % 64) % 64
def lenB (n i : Nat) : Int := IntKind.u8.wrap ((IntKind.u64.wrap (8 * (n : Int))).fdiv (2 ^ min (56 - 8 * i) 64))
def endM (n : Nat) : Nat → List Int
 | 0 => (zeros 73).set 0 128
 | i + 1 => (endM n i).set (1 + zM n + i) (lenB n i)
def tailM (n : Nat) : List Int := (endM n 8).take (9 + zM n)
def outB (s : List Int) (t : Nat) : Int := IntKind.u8.wrap ((s.getD (t / 4) 0).fdiv (2 ^ min (24 - 8 * (t % 4)) 32))
def oM (s : List Int) : Nat → List Int
 | 0 => zeros 32
 | t + 1 => (oM s t).set t (outB s t)
def fullM (ms : List Int) : List Int := ms ++ tailM ms.length
def shaM (ms : List Int) : List Int := oM (stM (fullM ms) ((fullM ms).length / 64)) 32
theorem endM_len (n i : Nat) : (endM n i).length = 73 := by
 induction i with
 | zero => simp [endM, zeros]
 | succ i ih => simp [endM, ih]
theorem oM_len (s : List Int) (t : Nat) : (oM s t).length = 32 := by
 induction t with
 | zero => simp [oM, zeros]
 | succ t ih => simp [oM, ih]
theorem shaM_len (ms : List Int) : (shaM ms).length = 32 := oM_len _ _
theorem zM_lt (n : Nat) : zM n < 64 := Nat.mod_lt _ (by decide)
theorem tailM_len (n : Nat) : (tailM n).length = 9 + zM n := by
 have := zM_lt n
 unfold tailM
 rw [List.length_take, endM_len]; omega
theorem dg_new : DgOk [] sM (zeros 64) 0 := ⟨rfl, rfl, by simp [zeros], rfl⟩
section
variable {h0 h : H} {A : List Ent} {i d : Nat}
theorem blk_sv {b : Nat} {k : IntKind} {ms : List Int} (hs : Sat h0 A h) (m : At A i (blk b (ints k ms))) {n : Nat} (hn : n ≤ ms.length) : hsv h (some ⟨b, 0, none⟩) 1 n (ints k (ms.take n)) := by
 refine ⟨by rw [ints_length, List.length_take]; omega, ints_one _ _, Or.inr ⟨_, rfl, ?_⟩⟩
 refine hs.cs1 m ?_
 intro x hx
 rw [ints_length, List.length_take] at hx
 rw [Nat.zero_add, ints_get, ints_get, List.getElem?_take_of_lt (by omega)]
theorem getM {l : List Int} {k : IntKind} {x : Nat} (hx : x < l.length) : l[x]?.map (Value.int k) = some (.int k (l.getD x 0)) := by
 rw [List.getElem?_eq_getElem hx]; simp [List.getD, List.getElem?_eq_getElem hx]
theorem start_sp {Q : List Int → H → Prop} (hs : Sat h0 A h) (k : ∀ h', Sat h0 A h' → Q sM h') : F_sha_start Q h := by
 unfold F_sha_start G_sha_start
 intro b _ hn; replace hs := Sat.new hs hn; clear hn
 refine ⟨Sat.can hs (i := 0) .z (by simp [zeros]), ?_⟩
 intro h2 e
 replace hs := Sat.wra hs (i := 0) .z e (by simp [zeros])
 clear e
 simp only [put_zero] at hs
 exact ⟨sM, rfl, hs.row0 .z, k _ hs.drop⟩
theorem rounds_sp {Q : List Int → H → Prop} (hs : Sat h0 A h) (k : ∀ h', Sat h0 A h' → Q kM h') : F_sha_rounds Q h := by
 unfold F_sha_rounds G_sha_rounds
 intro b _ hn; replace hs := Sat.new hs hn; clear hn
 refine ⟨Sat.can hs (i := 0) .z (by simp [zeros]), ?_⟩
 intro h2 e
 replace hs := Sat.wra hs (i := 0) .z e (by simp [zeros])
 clear e
 simp only [put_zero] at hs
 exact ⟨kM, rfl, hs.row0 .z, k _ hs.drop⟩
theorem NewD_sp {Q : Option Addr → H → Prop} (hs : Sat h0 A h) (k : ∀ d h', Sat h0 (blk d (dgL sM (zeros 64) 0) :: A) h' → Q (some ⟨d, 0, none⟩) h') : F_sha_New Q h := by
 unfold F_sha_New G_sha_New
 refine start_sp hs ?_
 intro h1 hs
 refine rounds_sp hs ?_
 intro h2 hs
 intro d _ hn; replace hs := Sat.new hs hn; clear hn
 exact k _ _ hs
theorem shCopy_sp {Q : Option Addr → H → Prop} {s sm : List Int} {n : Int} (hs : Sat h0 A h) (cd : At A i (blk d (dgL s sm n))) (l1 : s.length = 8) (l2 : sm.length = 64)
  (k : ∀ c h', Sat h0 (blk c (dgL s sm n) :: A) h' → Q (some ⟨c, 0, none⟩) h') : F_sha_Digest_Copy ⟨d, 0, none⟩ Q h := by
 unfold F_sha_Digest_Copy G_sha_Digest_Copy
 try simp only [add_mk, Nat.zero_add]
 refine ⟨s, l1, hs.row cd (fun x hx => by rw [Nat.zero_add, dg_s l1 (by omega), getM hx]), sm, l2, hs.row cd (fun x hx => by rw [dg_m l1 l2 (by omega), getM hx]), n, hs.ld cd (dg_n l1 l2), kM, kM_len, hs.row cd (fun x hx => by rw [dg_k l1 l2 (by rw [kM_len] at hx; exact hx), getM hx]), ?_⟩
 intro c _ hn; replace hs := Sat.new hs hn; clear hn
 refine ⟨Sat.can hs (i := 0) .z (by simp [zeros, l1, l2, kM_len]), ?_⟩
 intro h2 e
 replace hs := Sat.wra hs (i := 0) .z e (by simp [zeros, l1, l2, kM_len])
 clear e
 simp only [put_zero] at hs
 exact k _ _ hs
theorem Sum_sp {Q : List Int → H → Prop} {ms s sm : List Int} {n : Int} (hs : Sat h0 A h) (cd : At A i (blk d (dgL s sm n))) (D : DgOk ms s sm n) (hml : ms.length < 2 ^ 60) (k : ∀ h', Sat h0 A h' → Q (shaM ms) h') : F_sha_Digest_Sum ⟨d, 0, none⟩ Q h := by
 unfold F_sha_Digest_Sum G_sha_Digest_Sum
 try simp only [add_mk, Nat.zero_add, List.append_nil]
 have l1 := D.sl
 have l2 := D.l
 have hn := D.n
 have hz := zM_lt ms.length
 intro ob _ hn5; replace hs := Sat.new hs hn5; clear hn5
 refine shCopy_sp hs cd.s l1 l2 ?_
 intro c h1 hs
 intro eb _ hn10; replace hs := Sat.new hs hn10; clear hn10
 refine ⟨by decide, by decide, ?_⟩
 refine ⟨Sat.can hs (i := 0) .z (by simp [zeros]), ?_⟩
 intro h2 e
 replace hs := Sat.wr hs (i := 0) .z e
 clear e
 rw [intsP] at hs
 simp only [put_zero] at hs
 replace hs : Sat h0 (blk eb (ints .u8 (endM ms.length 0)) :: blk c (dgL s sm n) :: blk ob (ints .u8 (zeros 32)) :: A) h2 := hs
 refine ⟨_, hs.ld cd.s.s.s (dg_n l1 l2), by decide, by decide, ?_⟩
 have e1 : n.tmod 64 = ((ms.length % 64 : Nat) : Int) := by rw [hn, Int.tmod_eq_emod_of_nonneg (by omega)]; omega
 have e2 : (IntKind.i64.wrap (119 - IntKind.i64.wrap (n.tmod 64))).tmod 64 = (zM ms.length : Int) := by
  rw [e1, wrap_id (n := ((ms.length % 64 : Nat) : Int)) (by omega), wrap_id (by omega)]
  unfold zM
  rw [Int.tmod_eq_emod_of_nonneg (by omega)]; omega
 rw [e2, wrap_id (n := 1 + (zM ms.length : Int)) (by omega)]
 intro J16 hJ16
 refine loop_up 8 (fun t h => Sat h0 (blk eb (ints .u8 (endM ms.length t)) :: blk c (dgL s sm n) :: blk ob (ints .u8 (zeros 32)) :: A) h) ?_ ?_ 0 _ (by omega) hs
 ·intro t h3 ht hs hk
  apply hJ16
  rw [ltI_eq, if_pos (by simp; omega)]
  have hel := endM_len ms.length t
  have e3 : IntKind.i64.wrap (56 - IntKind.i64.wrap (8 * (t : Int))) = ((56 - 8 * t : Nat) : Int) := by rw [wrap_id (n := 8 * (t : Int)) (by omega), wrap_id (by omega)]; omega
  have e4 : IntKind.i64.wrap (1 + (zM ms.length : Int) + (t : Int)) = ((1 + zM ms.length + t : Nat) : Int) := by rw [wrap_id (by omega)]; push_cast; rfl
  rw [e3, e4]
  simp only [Int.toNat_natCast, Nat.mul_one]
  refine ⟨_, hs.ld cd.s.s.s (dg_n l1 l2), by omega, by omega, by omega, ?_⟩
  refine ⟨Sat.can hs (i := 0) .z (by simp [hel]; omega), ?_⟩
  intro h4 e
  replace hs := Sat.wr hs (i := 0) .z e
  clear e
  rw [intsP] at hs
  simp only [put_zero] at hs
  rw [wrap_succ (by omega)]
  refine hk _ ?_
  rw [hn] at hs ⊢
  exact hs
 ·intro h3 hs
  apply hJ16
  rw [ltI_eq, if_neg (by decide)]
  clear hJ16 J16
  have hel := endM_len ms.length 8
  have e4 : IntKind.i64.wrap (1 + (zM ms.length : Int) + 8) = ((9 + zM ms.length : Nat) : Int) := by rw [wrap_id (by omega)]; push_cast; omega
  rw [e4]
  simp only [Int.toNat_natCast, Nat.mul_one]
  have sub0 : subAddr (some ⟨eb, 0, none⟩) 0 73 1 = some ⟨eb, 0, none⟩ := by unfold subAddr; simp
  rw [sub0, Nat.sub_zero]
  refine ⟨by omega, by omega, _, rfl, ?_⟩
  have htl := tailM_len ms.length
  refine shWrite_sp (xs := tailM ms.length) hs (i := 1) (.s .z) D (by omega) (by omega) ?_ ?_
  ·intro s' sm' n' h' hs'
   simp only [put_succ, put_zero] at hs'
   exact blk_sv hs' .z (by omega)
  intro s' sm' n' h4 D' hs
  simp only [put_succ, put_zero] at hs
  intro hb _ hn24; replace hs := Sat.new hs hn24; clear hn24
  refine ⟨_, rfl, s', D'.sl, hs.row (i := 2) (.s (.s .z)) (fun x hx => by rw [Nat.zero_add, dg_s D'.sl (by have := D'.sl; omega), getM hx]), ?_⟩
  have hs8 := D'.sl
  have hst : s' = stM (fullM ms) ((fullM ms).length / 64) := D'.s
  intro J29 hJ29
  refine loop_up 8 (fun t h => Sat h0 (blk hb (ints .u8 (oM s' (4 * t))) :: blk eb (ints .u8 (endM ms.length 8)) :: blk c (dgL s' sm' n') :: blk ob (ints .u8 (zeros 32)) :: A) h) ?_ ?_ 0 _ (by omega) hs
  ·intro t h5 ht hs hk
   apply hJ29
   rw [ltI_eq, if_pos (by simp; omega)]
   refine ⟨by omega, by omega, ?_⟩
   simp only [Int.toNat_natCast]
   intro J32 hJ32
   refine loop_up 4 (fun x h => Sat h0 (blk hb (ints .u8 (oM s' (4 * t + x))) :: blk eb (ints .u8 (endM ms.length 8)) :: blk c (dgL s' sm' n') :: blk ob (ints .u8 (zeros 32)) :: A) h) ?_ ?_ 0 _ (by omega) hs
   ·intro x h6 hx hs hk2
    apply hJ32
    rw [ltI_eq, if_pos (by simp; omega)]
    have hol := oM_len s' (4 * t + x)
    have e5 : IntKind.i64.wrap (24 - IntKind.i64.wrap (8 * (x : Int))) = ((24 - 8 * x : Nat) : Int) := by rw [wrap_id (n := 8 * (x : Int)) (by omega), wrap_id (by omega)]; omega
    have e6 : IntKind.i64.wrap (IntKind.i64.wrap (4 * (t : Int)) + (x : Int)) = ((4 * t + x : Nat) : Int) := by rw [wrap_id (n := 4 * (t : Int)) (by omega), wrap_id (by omega)]; push_cast; rfl
    rw [e5, e6]
    simp only [Int.toNat_natCast, Nat.mul_one]
    refine ⟨by omega, by omega, by omega, ?_⟩
    refine ⟨Sat.can hs (i := 0) .z (by simp [hol]; omega), ?_⟩
    intro h7 e
    replace hs := Sat.wr hs (i := 0) .z e
    clear e
    rw [intsP] at hs
    simp only [put_zero] at hs
    rw [wrap_succ (by omega)]
    refine hk2 _ ?_
    have eo : outB s' (4 * t + x) = IntKind.u8.wrap ((s'.getD t 0).fdiv (2 ^ min (24 - 8 * x) 32)) := by
     unfold outB
     rw [show (4 * t + x) / 4 = t by omega, show (4 * t + x) % 4 = x by omega]
    rw [← eo] at hs
    exact hs
   ·intro h6 hs
    apply hJ32
    rw [ltI_eq, if_neg (by decide), wrap_succ (by omega)]
    exact hk _ hs
  ·intro h5 hs
   apply hJ29
   rw [ltI_eq, if_neg (by decide)]
   refine ⟨_, oM_len _ _, hs.row0 .z, ?_⟩
   refine ⟨Sat.can hs (i := 3) (.s (.s (.s .z))) (by simp [zeros]), ?_⟩
   intro h6 e
   replace hs := Sat.wra hs (i := 3) (.s (.s (.s .z))) e (by simp [zeros, oM_len])
   clear e
   simp only [put_succ, put_zero] at hs
   refine ⟨_, oM_len _ _, hs.row0 (i := 3) (.s (.s (.s .z))), ?_⟩
   rw [hst]
   exact k _ hs.drop.drop.drop.drop
theorem ShaOf_sp {Q : List Int → H → Prop} {bs : List Int} {bp : Option Addr} {bl bc : Nat} (hs : Sat h0 A h) (hbc : bl ≤ bc) (hbl : bl < 2 ^ 60) (rd : ∀ h', Sat h0 A h' → hsv h' bp 1 bl (ints .u8 bs)) (k : ∀ h', Sat h0 A h' → Q (shaM bs) h') : F_sha_Of bp bl bc Q h := by
 unfold F_sha_Of G_sha_Of
 simp only [List.append_nil]
 have hxl : bs.length = bl := by have := (rd _ hs).1; simpa using this
 intro ob _ hn; replace hs := Sat.new hs hn; clear hn
 refine NewD_sp hs ?_
 intro d h1 hs
 refine ⟨_, rfl, ?_⟩
 refine shWrite_sp (xs := bs) hs (i := 0) .z dg_new (by simp; omega) hbc (fun s' sm' n' h' hs' => rd _ hs'.drop.drop) ?_
 intro s' sm' n' h2 D hs
 simp only [put_zero] at hs
 refine ⟨_, rfl, ?_⟩
 refine Sum_sp hs (i := 0) .z D (by simp; omega) ?_
 intro h3 hs
 rw [List.nil_append]
 refine ⟨Sat.can hs (i := 1) (.s .z) (by simp [zeros, shaM_len]), ?_⟩
 intro h4 e
 replace hs := Sat.wra hs (i := 1) (.s .z) e (by simp [zeros, shaM_len])
 clear e
 simp only [put_succ, put_zero] at hs
 exact ⟨_, shaM_len _, hs.row0 (i := 1) (.s .z), k _ hs.drop.drop⟩
end
end Go.Proofs.YteedolonhdbieaaGreatDoor
end

/- HMAC in the program. Own work. -/
section
set_option maxRecDepth 100000
set_option linter.unusedVariables false
namespace Go.Proofs.YteedolonhdbieaaGreatDoor
open Go Go.Vc

def keyM (key : List Int) : List Int := if 64 < key.length then shaM key else key
def kbM (key : List Int) : List Int := keyM key ++ zeros (64 - (keyM key).length)
def xM (kb : List Int) (x : Int) : Nat → List Int
 | 0 => zeros 64
 | t + 1 => (xM kb x t).set t (bits .xor .u8 (kb.getD t 0) x)
def innerM (key : List Int) : List Int := xM (kbM key) 54 64
def outerM (key : List Int) : List Int := xM (kbM key) 92 64
def macM (key b : List Int) : List Int := shaM (outerM key ++ shaM (innerM key ++ b))
theorem xM_len (kb : List Int) (x : Int) (t : Nat) : (xM kb x t).length = 64 := by
 induction t with
 | zero => simp [xM, zeros]
 | succ t ih => simp [xM, ih]
theorem keyM_len (key : List Int) : (keyM key).length ≤ 64 := by
 unfold keyM
 split
 ·rw [shaM_len]; omega
 ·omega
theorem kbM_len (key : List Int) : (kbM key).length = 64 := by
 have := keyM_len key
 unfold kbM
 simp [zeros]; omega
theorem macM_len (key b : List Int) : (macM key b).length = 32 := shaM_len _
theorem spliceI {k : IntKind} {l xs : List Int} {o : Nat} (h : o + xs.length ≤ l.length) : splice (ints k l) o (ints k xs) = ints k (l.take o ++ xs ++ l.drop (o + xs.length)) := by
 apply List.ext_getElem?
 intro j
 rw [splice_get, ints_length, ints_length]
 by_cases c : o ≤ j ∧ j < o + xs.length ∧ j < l.length
 ·rw [if_pos c, ints_get, ints_get, List.getElem?_append_left (by simp; omega), List.getElem?_append_right (by simp; omega)]
  congr 2
  simp; omega
 ·rw [if_neg c, ints_get, ints_get]
  congr 1
  by_cases c2 : j < o
  ·rw [List.append_assoc, List.getElem?_append_left (by simp; omega), List.getElem?_take_of_lt c2]
  ·by_cases c3 : j < l.length
   ·rw [List.getElem?_append_right (by simp; omega), List.getElem?_drop]
    congr 1
    simp; omega
   ·rw [List.getElem?_eq_none (by omega), List.getElem?_eq_none (by simp; omega)]
section
variable {h0 h : H} {A : List Ent} {i d m : Nat}
abbrev macL (d : Nat) (key : List Int) : List Value := .pointer (some ⟨d, 0, none⟩) :: ints .u8 (outerM key)
theorem blk_svo {b : Nat} {k : IntKind} {pre : List Value} {ms : List Int} (hs : Sat h0 A h) (m : At A i (blk b (pre ++ ints k ms))) : hsv h (some ⟨b, pre.length, none⟩) 1 ms.length (ints k ms) := by
 refine ⟨by simp, ints_one _ _, Or.inr ⟨_, rfl, ?_⟩⟩
 refine hs.cs1 m ?_
 intro x hx
 rw [List.getElem?_append_right (by omega)]
 congr 1; omega
theorem MacNew_sp {Q : Option Addr → H → Prop} {key : List Int} {kp : Option Addr} {kl kc : Nat} (hs : Sat h0 A h) (hkc : kl ≤ kc) (hkl : kl < 2 ^ 60) (rd : ∀ h', Sat h0 A h' → hsv h' kp 1 kl (ints .u8 key))
  (k : ∀ m d s sm n h', DgOk (innerM key) s sm n → Sat h0 (blk d (dgL s sm n) :: blk m (macL d key) :: A) h' → Q (some ⟨m, 0, none⟩) h') : F_mac_New kp kl kc Q h := by
 unfold F_mac_New G_mac_New
 try simp only [add_mk, Nat.zero_add, List.append_nil]
 have hxl : key.length = kl := by have := (rd _ hs).1; simpa using this
 intro kb _ hn; replace hs := Sat.new hs hn; clear hn
 intro J11 hJ11
 -- the block key
 have way : ∀ (p : Option Addr) (l c : Nat) h', Sat h0 (blk kb (ints .u8 (zeros 64)) :: A) h' → hsv h' p 1 l (ints .u8 (keyM key)) → J11 [.dv (.one (.slice p l c))] h' := by
  intro p l c h2 hs rd2
  have hl2 : (keyM key).length = l := by have := rd2.1; simpa using this
  have hk64 := keyM_len key
  apply hJ11
  have sub0 : ∀ x, subAddr (some ⟨x, 0, none⟩) 0 64 1 = some ⟨x, 0, none⟩ := by intro x; unfold subAddr; simp
  rw [show l.min 64 = l from Nat.min_eq_left (by omega), sub0]
  refine ⟨_, rd2, Or.inr ⟨_, rfl, Sat.can hs (i := 0) .z (by simp [zeros]; omega)⟩, ?_⟩
  intro h3 e
  replace hs := Sat.wr hs (i := 0) .z e
  clear e
  rw [spliceI (by simp [zeros]; omega)] at hs
  have ekb : (zeros 64).take 0 ++ keyM key ++ (zeros 64).drop (0 + (keyM key).length) = kbM key := by
   unfold kbM
   rw [List.take_zero, List.nil_append, Nat.zero_add]
   unfold zeros
   rw [List.drop_replicate]
  rw [ekb] at hs
  simp only [put_zero] at hs
  refine NewD_sp hs ?_
  intro d h4 hs
  intro m _ hn; replace hs := Sat.new hs hn; clear hn
  intro ib _ hn; replace hs := Sat.new hs hn; clear hn
  have kl64 := kbM_len key
  refine ⟨_, kl64, hs.row0 (i := 3) (.s (.s (.s .z))), ?_⟩
  intro J29 hJ29
  refine loop_up 64 (fun t h => Sat h0 (blk ib (ints .u8 (xM (kbM key) 54 t)) :: blk m (.pointer (some ⟨d, 0, none⟩) :: ints .u8 (xM (kbM key) 92 t)) :: blk d (dgL sM (zeros 64) 0) :: blk kb (ints .u8 (kbM key)) :: A) h) ?_ ?_ 0 _ (by omega) hs
  ·intro t h5 ht hs hk
   apply hJ29
   rw [ltI_eq, if_pos (by simp; omega)]
   have x1 := xM_len (kbM key) 54 t
   have x2 := xM_len (kbM key) 92 t
   simp only [Int.toNat_natCast, Nat.mul_one]
   refine ⟨by omega, by omega, by omega, by omega, ?_⟩
   refine ⟨Sat.can hs (i := 0) .z (by simp [x1]; omega), ?_⟩
   intro h6 e
   replace hs := Sat.wr hs (i := 0) .z e
   clear e
   rw [intsP] at hs
   simp only [put_zero] at hs
   refine ⟨by omega, by omega, ?_⟩
   refine ⟨Sat.can hs (i := 1) (.s .z) (by simp [x2]; omega), ?_⟩
   intro h7 e
   replace hs := Sat.wr hs (i := 1) (.s .z) e
   clear e
   have es : splice (.pointer (some ⟨d, 0, none⟩) :: ints .u8 (xM (kbM key) 92 t)) (1 + t) [.int .u8 (bits .xor .u8 ((kbM key).getD t 0) 92)] = .pointer (some ⟨d, 0, none⟩) :: ints .u8 (xM (kbM key) 92 (t + 1)) := by
    show (Value.pointer (some ⟨d, 0, none⟩) :: ints .u8 (xM (kbM key) 92 t)).set (1 + t) _ = _
    rw [show 1 + t = t + 1 by omega, List.set_cons_succ, ints_set]; rfl
   rw [es] at hs
   simp only [put_succ, put_zero] at hs
   rw [wrap_succ (by omega)]
   exact hk _ hs
  ·intro h5 hs
   apply hJ29
   rw [ltI_eq, if_neg (by decide)]
   refine ⟨_, hs.ld (i := 1) (.s .z) rfl, _, rfl, ?_⟩
   have il : (innerM key).length = 64 := xM_len _ _ _
   refine shWrite_sp (xs := innerM key) hs (i := 2) (.s (.s .z)) dg_new (by simp [il]) (by omega) ?_ ?_
   ·intro s' sm' n' h' hs'
    simp only [put_succ, put_zero] at hs'
    have := blk_sv hs' (i := 0) .z (n := 64) (by rw [xM_len]; omega)
    rw [List.take_of_length_le (by rw [xM_len]; omega)] at this
    exact this
   ·intro s' sm' n' h6 D hs
    simp only [put_succ, put_zero] at hs
    rw [List.nil_append] at D
    replace hs := hs.front (i := 2) (.s (.s .z))
    simp only [del] at hs
    exact k m d s' sm' n' _ D (hs.sub (by (repeat (first | exact List.Sublist.refl _ | apply List.Sublist.cons_cons | apply List.Sublist.cons))))
 by_cases g : 64 < kl
 ·rw [ltI_eq, if_pos (by rw [decide_eq_true_iff]; omega)]
  refine ShaOf_sp (bs := key) hs hkc hkl (fun h' hs' => rd _ hs'.drop) ?_
  intro h2 hs
  intro hb _ hn; replace hs := Sat.new hs hn; clear hn
  refine ⟨Sat.can hs (i := 0) .z (by simp [zeros]), ?_⟩
  intro h3 e
  replace hs := Sat.wra hs (i := 0) .z e (by simp [zeros, shaM_len])
  clear e
  simp only [put_zero] at hs
  have ek : keyM key = shaM key := by unfold keyM; rw [if_pos (by omega)]
  refine way _ _ _ _ hs.drop ?_
  rw [ek]
  have := blk_sv hs (i := 0) .z (n := 32) (by rw [shaM_len]; omega)
  rw [List.take_of_length_le (by rw [shaM_len]; omega)] at this
  have sub0 : subAddr (some ⟨hb, 0, none⟩) 0 32 1 = some ⟨hb, 0, none⟩ := by unfold subAddr; simp
  rw [sub0]
  exact this
 ·rw [ltI_eq, if_neg (by rw [decide_eq_true_iff]; omega)]
  have ek : keyM key = key := by unfold keyM; rw [if_neg (by omega)]
  refine way _ _ _ _ hs ?_
  rw [ek]
  exact rd _ hs.drop
theorem MacSum_sp {Q : List Int → H → Prop} {key ms s sm : List Int} {n : Int} {j : Nat} (hs : Sat h0 A h) (cm : At A j (blk m (macL d key))) (cd : At A i (blk d (dgL s sm n))) (D : DgOk ms s sm n) (hml : ms.length < 2 ^ 60)
  (k : ∀ h', Sat h0 A h' → Q (shaM (outerM key ++ shaM ms)) h') : F_mac_Mac_Sum ⟨m, 0, none⟩ Q h := by
 unfold F_mac_Mac_Sum G_mac_Mac_Sum
 try simp only [add_mk, Nat.zero_add, List.append_nil]
 have sub0 : ∀ x o l, 0 < l → subAddr (some ⟨x, o, none⟩) 0 l 1 = some ⟨x, o, none⟩ := by
  intro x o l hl
  unfold subAddr
  rw [if_neg (by omega)]; simp
 have ol : (outerM key).length = 64 := xM_len _ _ _
 have cm2 : At A j (blk m ([.pointer (some ⟨d, 0, none⟩)] ++ ints .u8 (outerM key))) := by simpa only [List.cons_append, List.nil_append] using cm
 intro ob _ hn; replace hs := Sat.new hs hn; clear hn
 refine ⟨_, hs.ld cm.s rfl, _, rfl, ?_⟩
 refine Sum_sp hs cd.s D hml ?_
 intro h1 hs
 intro hb _ hn; replace hs := Sat.new hs hn; clear hn
 refine ⟨Sat.can hs (i := 0) .z (by simp [zeros]), ?_⟩
 intro h2 e
 replace hs := Sat.wra hs (i := 0) .z e (by simp [zeros, shaM_len])
 clear e
 simp only [put_zero] at hs
 refine NewD_sp hs ?_
 intro d2 h3 hs
 rw [sub0 _ _ _ (by decide), sub0 _ _ _ (by decide)]
 refine ⟨_, rfl, ?_⟩
 refine shWrite_sp (xs := outerM key) hs (i := 0) .z dg_new (by simp [ol]) (by omega) ?_ ?_
 ·intro s' sm' n' h' hs'
  simp only [put_zero] at hs'
  have := blk_svo (k := .u8) (ms := outerM key) (pre := [.pointer (some ⟨d, 0, none⟩)]) hs' cm2.s.s.s
  rw [ol] at this
  exact this
 intro s1 sm1 n1 h4 D1 hs
 simp only [put_zero] at hs
 rw [List.nil_append] at D1
 refine ⟨_, rfl, ?_⟩
 refine shWrite_sp (xs := shaM ms) hs (i := 0) .z D1 (by simp [ol, shaM_len]) (by omega) ?_ ?_
 ·intro s' sm' n' h' hs'
  simp only [put_zero] at hs'
  have := blk_sv hs' (i := 1) (.s .z) (n := 32) (by rw [shaM_len]; omega)
  rw [List.take_of_length_le (by rw [shaM_len]; omega)] at this
  exact this
 intro s2 sm2 n2 h5 D2 hs
 simp only [put_zero] at hs
 refine ⟨_, rfl, ?_⟩
 refine Sum_sp hs (i := 0) .z D2 (by simp [ol, shaM_len]) ?_
 intro h6 hs
 refine ⟨Sat.can hs (i := 2) (.s (.s .z)) (by simp [zeros, shaM_len]), ?_⟩
 intro h7 e
 replace hs := Sat.wra hs (i := 2) (.s (.s .z)) e (by simp [zeros, shaM_len])
 clear e
 simp only [put_succ, put_zero] at hs
 exact ⟨_, shaM_len _, hs.row0 (i := 2) (.s (.s .z)), k _ hs.drop.drop.drop⟩
theorem MacOf_sp {Q : List Int → H → Prop} {key b : List Int} {kp bp : Option Addr} {kl kc bl bc : Nat} (hs : Sat h0 A h) (hkc : kl ≤ kc) (hkl : kl < 2 ^ 60) (hbc : bl ≤ bc) (hbl : bl < 2 ^ 59)
  (rk : ∀ h', Sat h0 A h' → hsv h' kp 1 kl (ints .u8 key)) (rb : ∀ h', Sat h0 A h' → hsv h' bp 1 bl (ints .u8 b)) (k : ∀ h', Sat h0 A h' → Q (macM key b) h') : F_mac_Of kp kl kc bp bl bc Q h := by
 unfold F_mac_Of G_mac_Of
 try simp only [add_mk, Nat.zero_add, List.append_nil]
 have hxl : b.length = bl := by have := (rb _ hs).1; simpa using this
 have il : (innerM key).length = 64 := xM_len _ _ _
 intro ob _ hn; replace hs := Sat.new hs hn; clear hn
 refine MacNew_sp (key := key) hs hkc hkl (fun h' hs' => rk _ hs'.drop) ?_
 intro m d s sm n h1 D hs
 refine ⟨_, rfl, _, hs.ld (i := 1) (.s .z) rfl, _, rfl, ?_⟩
 refine shWrite_sp (xs := b) hs (i := 0) .z D (by rw [il]; omega) hbc (fun s' sm' n' h' hs' => rb _ hs'.drop.drop.drop) ?_
 intro s' sm' n' h2 D2 hs
 simp only [put_zero] at hs
 refine ⟨_, rfl, ?_⟩
 refine MacSum_sp hs (j := 1) (i := 0) (.s .z) .z D2 (by rw [List.length_append, il]; omega) ?_
 intro h3 hs
 refine ⟨Sat.can hs (i := 2) (.s (.s .z)) (by simp [zeros, shaM_len]), ?_⟩
 intro h4 e
 replace hs := Sat.wra hs (i := 2) (.s (.s .z)) e (by simp [zeros, shaM_len])
 clear e
 simp only [put_succ, put_zero] at hs
 exact ⟨_, shaM_len _, hs.row0 (i := 2) (.s (.s .z)), k _ hs.drop.drop.drop⟩
end
end Go.Proofs.YteedolonhdbieaaGreatDoor
end

/- Tokens: caveats, whether they may be, their bytes. Own work. -/
section
set_option maxRecDepth 100000
set_option linter.unusedVariables false
namespace Go.Proofs.YteedolonhdbieaaGreatDoor
open Go Go.Vc

structure CvM where
 kind : Int
 slot : Int
 frm : Int
 to : Int
 set : Int
abbrev cvV (c : CvM) : List Value := [.int .i64 c.kind, .int .i64 c.slot, .int .i64 c.frm, .int .i64 c.to, .int .u64 c.set]
def CvM.may (c : CvM) : Prop :=
 (c.kind = 1 ∧ (0 ≤ c.slot ∧ c.slot < 8) ∧ c.frm = 0 ∧ c.to = 0 ∧ c.set = 0) ∨
 (c.kind = 2 ∧ (0 ≤ c.frm ∧ c.frm ≤ c.to ∧ c.to < 4294967296) ∧ c.slot = 0 ∧ c.set = 0) ∨
 (c.kind = 3 ∧ (c.set ≠ 0 ∧ bits .andNot .u64 c.set 16382 = 0) ∧ c.slot = 0 ∧ c.frm = 0 ∧ c.to = 0) ∨
 (c.kind = 4 ∧ (0 ≤ c.slot ∧ c.slot < 8) ∧ (0 ≤ c.frm ∧ c.frm ≤ 4611686018427387904) ∧ c.to = 0 ∧ c.set = 0) ∨
 (c.kind = 5 ∧ (0 ≤ c.slot ∧ c.slot < 8) ∧ (0 ≤ c.to ∧ c.to ≤ 4611686018427387904) ∧ c.frm = 0 ∧ c.set = 0)
instance instDecCv (c : CvM) : Decidable c.may := by unfold CvM.may; infer_instance
section
variable {h0 h : H} {A : List Ent} {i d : Nat}
end
end Go.Proofs.YteedolonhdbieaaGreatDoor
end

/- Tokens: whether they may be; bytes; copies; what a tag is of. Own work. -/
section
set_option maxRecDepth 100000
set_option linter.unusedVariables false
namespace Go.Proofs.YteedolonhdbieaaGreatDoor
open Go Go.Vc

def cvsV : List CvM → List Value
 | [] => []
 | c :: r => cvV c ++ cvsV r
section
variable {h0 h : H} {A : List Ent} {i d : Nat}
end
end Go.Proofs.YteedolonhdbieaaGreatDoor
end

/- Tokens: bytes, copies, messages, tags. Own work. -/
section
set_option maxRecDepth 100000
set_option linter.unusedVariables false
namespace Go.Proofs.YteedolonhdbieaaGreatDoor
open Go Go.Vc

theorem loopS {J : List SV → H → Prop} {σ : Type} (N : Nat) (S : Nat → σ → List SV) (Inv : Nat → σ → H → Prop) (step : ∀ i s h, i < N → Inv i s h → (∀ s' h', Inv (i + 1) s' h' → J (S (i + 1) s') h') → J (S i s) h)
  (exit : ∀ s h, Inv N s h → J (S N s) h) (i : Nat) (s : σ) (h : H) (hi : i ≤ N) (inv : Inv i s h) : J (S i s) h := by
 generalize e : N - i = n
 induction n generalizing i s h with
 | zero =>
  have : i = N := by omega
  subst this; exact exit s h inv
 | succ n ih => exact step i s h (by omega) inv fun s' h' inv' => ih (i + 1) s' h' (by omega) inv' (by omega)
theorem capS {h0 h : H} {A : List Ent} (hs : Sat h0 A h) {i : Nat} {p : Option Addr} {l c sz : Nat} {vs : List Value} (m : At A i (slE p l c sz vs)) : l ≤ c := by
 obtain ⟨f, hp, _⟩ := hs.take m
 obtain ⟨bs, o, _⟩ := slE_P.1 hp
 exact o.2.1
section
variable {h0 h : H} {A : List Ent} {i d : Nat}
theorem clone1_sp {Q : Option Addr → Nat → Nat → H → Prop} {p : Option Addr} {l c : Nat} {vs : List Value} (hs : Sat h0 A h) (hl : l < 2 ^ 47) (rd : ∀ h', Sat h0 A h' → hsv h' p 1 l vs)
  (k : ∀ p' c' h', (p.isNone = true → p' = none ∧ l = 0) → Sat h0 (slE p' l c' 1 vs :: A) h' → Q p' l c' h') : F_slices_Clone_byte_byte p l c Q h := by
 unfold F_slices_Clone_byte_byte G_slices_Clone_byte_byte
 have R := rd _ hs
 by_cases g : p.isNone = true
 ·rw [if_pos g]
  have hp : p = none := by simpa using g
  subst hp
  have e := hsv_none R
  subst e
  have hl0 : l = 0 := by have := R.1; simp at this; omega
  subst hl0
  exact k none 0 h (fun _ => ⟨rfl, rfl⟩) (hs.sl_nil 1 none)
 ·rw [if_neg g]
  intro b _ hn; replace hs := Sat.new hs hn; clear hn
  have R2 := rd _ hs.drop
  refine ⟨vs, R2, ?_⟩
  refine Sat.app_new hs R2.1 rfl R2.2.1 (by omega) ?_
  intro p' c' h1 hs
  exact k _ _ _ (fun y => absurd y g) (hs.sub (by (repeat (first | exact List.Sublist.refl _ | apply List.Sublist.cons_cons | apply List.Sublist.cons))))
def TokMay (key : Int) (id : List Int) (cs : List CvM) : Prop := (0 ≤ key ∧ key < 64) ∧ (1 ≤ id.length ∧ id.length ≤ 64) ∧ cs.length ≤ 32 ∧ ∀ c ∈ cs, c.may
instance (key : Int) (id : List Int) (cs : List CvM) : Decidable (TokMay key id cs) := by unfold TokMay; infer_instance
theorem ints_app (k : IntKind) (a b : List Int) : ints k (a ++ b) = ints k a ++ ints k b := by unfold ints; rw [List.map_append]
end
end Go.Proofs.YteedolonhdbieaaGreatDoor
end

/- Tokens: rings of keys, Issue, Put. Own work. -/
section
set_option maxRecDepth 100000
set_option linter.unusedVariables false
namespace Go.Proofs.YteedolonhdbieaaGreatDoor
open Go Go.Vc

theorem zeros_len (n : Nat) : (zeros n).length = n := by simp [zeros]
section
variable {h0 h : H} {A : List Ent} {i j d r m : Nat}
theorem has_sp {Q : Bool → H → Prop} (key : Int) {es : List (Value × DV)} {b : Bool} {op : Option Addr} {ol oc : Nat} (hs : Sat h0 A h) (cr : At A i (blk r [.map (some m)])) (cm : At A j (mapE m es)) (hl : mlook (.int .i64 key) (.one (.slice none 0 0)) es = some (.one (.slice op ol oc), b))
  (q : Q b h) : F_keys_Ring_Has ⟨r, 0, none⟩ key Q h := by
 unfold F_keys_Ring_Has G_keys_Ring_Has
 exact ⟨_, hs.ld cr rfl, _, _, _, hs.mapAt cm, hl, _, _, _, rfl, q⟩
theorem sign_sp {Q : List Int → Int → H → Prop} {key : Int} {es : List (Value × DV)} {sp bp : Option Addr} {sl sc bl bc : Nat} {secret b : List Int} (hs : Sat h0 A h) (cr : At A i (blk r [.map (some m)])) (cm : At A j (mapE m es)) (hl : mlook (.int .i64 key) (.one (.slice none 0 0)) es = some (.one (.slice sp sl sc), true))
  (hsc : sl ≤ sc) (hsl : sl < 2 ^ 40) (hbc : bl ≤ bc) (hbl : bl < 2 ^ 40) (rs : ∀ h', Sat h0 A h' → hsv h' sp 1 sl (ints .u8 secret)) (rb : ∀ h', Sat h0 A h' → hsv h' bp 1 bl (ints .u8 b)) (k : ∀ h', Sat h0 A h' → Q (macM secret b) 0 h') : F_keys_Ring_Sign ⟨r, 0, none⟩ key bp bl bc Q h := by
 unfold F_keys_Ring_Sign G_keys_Ring_Sign
 simp only [List.append_nil]
 intro ob _ hn; replace hs := Sat.new hs hn; clear hn
 refine ⟨_, hs.ld cr.s rfl, _, _, _, hs.mapAt cm.s, hl, _, _, _, rfl, ?_⟩
 rw [if_neg (by decide)]
 refine MacOf_sp (key := secret) (b := b) hs hsc (by omega) hbc (by omega) (fun h' hs' => rs _ hs'.drop) (fun h' hs' => rb _ hs'.drop) ?_
 intro h2 hs
 refine ⟨Sat.can hs (i := 0) .z (by simp [zeros]), ?_⟩
 intro h3 e
 replace hs := Sat.wra hs (i := 0) .z e (by simp [zeros, macM_len])
 clear e
 simp only [put_zero] at hs
 exact ⟨_, macM_len _ _, hs.row0 .z, k _ hs.drop⟩
end
end Go.Proofs.YteedolonhdbieaaGreatDoor
end

/- Tokens: Get. Own work. -/
section
set_option maxRecDepth 100000
set_option linter.unusedVariables false
namespace Go.Proofs.YteedolonhdbieaaGreatDoor
open Go Go.Vc

structure TkM where
 key : Int
 id : List Int
 cs : List CvM
 tag : List Int
def isBytes (bs : List Int) : Prop := ∀ n, n ∈ bs → 0 ≤ n ∧ n < 256
section
variable {h0 h : H} {A : List Ent} {i j d : Nat}
end
end Go.Proofs.YteedolonhdbieaaGreatDoor
end

/- Tokens: errors, and answers that the document fixes. Own work. -/
section
set_option maxRecDepth 1000000
set_option linter.unusedVariables false
namespace Go.Proofs.YteedolonhdbieaaGreatDoor
open Go Go.Vc

theorem nIF (t : TypeId) (v : Value) : ¬ isNilI (.iface t v) = true := Bool.false_ne_true
section
variable {h0 h : H} {A : List Ent} {i j d : Nat}
end
end Go.Proofs.YteedolonhdbieaaGreatDoor
end

/- Tokens: the document's Put; whether two are the same; copies. Own work. -/
section
set_option maxRecDepth 100000
set_option linter.unusedVariables false
namespace Go.Proofs.YteedolonhdbieaaGreatDoor
open Go Go.Vc
theorem take_snoc {α : Type} (l : List α) {t : Nat} (h : t < l.length) : l.take (t + 1) = l.take t ++ [l[t]] := by rw [List.take_succ, List.getElem?_eq_getElem h]; rfl
section
variable {h0 h : H} {A : List Ent} {i j d : Nat}
end
end Go.Proofs.YteedolonhdbieaaGreatDoor
end

/- Tokens: as the program has them, and back. Own work. -/
section
set_option maxRecDepth 100000
set_option linter.unusedVariables false
namespace Go.Proofs.YteedolonhdbieaaGreatDoor
open Go Go.Vc
section
variable {h0 h : H} {A : List Ent} {i j d : Nat}
theorem as_sl0 (hs : Sat h0 A h) {i b c sz : Nat} {vs : List Value} (m : At A i (blk b vs)) (hl : vs.length = c * sz) : Sat h0 (put A i (slE (some ⟨b, 0, none⟩) 0 c sz [])) h := by
 refine hs.as m fun f hp => ?_
 obtain ⟨k, hf⟩ := blk_P.1 hp
 refine slE_P.2 ⟨[b], ⟨by simp, by omega, by intro v hv; simp at hv, Or.inr ⟨b, vs, rfl, rfl, by simpa using k, by rw [hl]; simp⟩⟩, fun x => ?_⟩
 rw [hf]; simp
end
end Go.Proofs.YteedolonhdbieaaGreatDoor
end

/- Tokens, plain: there and back. Own work. -/
section
set_option maxRecDepth 100000
set_option linter.unusedVariables false
namespace Go.Proofs.YteedolonhdbieaaGreatDoor
open Go Go.Vc

def CvM.typed (c : CvM) : Prop := has .i64 c.kind ∧ has .i64 c.slot ∧ has .i64 c.frm ∧ has .i64 c.to ∧ has .u64 c.set
end Go.Proofs.YteedolonhdbieaaGreatDoor
end

/- What arguments of the statements are: tokens, bytes. Own work. -/
section
set_option maxRecDepth 100000
set_option linter.unusedVariables false
namespace Go.Proofs.YteedolonhdbieaaGreatDoor
open Go Go.Vc Go.ChangeShapes Go.WideShapes Go.ChangeAt Go.RowKit

theorem xByte24 : xsh PP 8 5 = some [.int .u8] := by kernel_rfl
section
variable {D : Type} {enc : TypeId × Value → D} {W : World}
theorem bytes24_of {p : Option Addr} {l c : Nat} (h : Sli enc PP W 5 p l c) : ∃ ns : List Int, hsv W.heap p 1 l (ints .u8 ns) ∧ isBytes ns ∧ l ≤ c ∧ l + 4096 ≤ 2 ^ 47 := by
 have hb : Tryz.prog.bytesOf 5 = 1 := by kernel_rfl
 have hc : Tryz.prog.cellsOf 5 = 1 := by kernel_rfl
 obtain ⟨ess, h1, h2, h3, _⟩ := h.els xByte24
 have hlc := h.1
 have hr := h.2.1
 rw [hb] at hr
 rw [hc] at h3
 have key : ∀ ess : List (List Value), (∀ es, es ∈ ess → es.length = Tryz.prog.cellsOf 5 ∧ XM enc PP W [XSh.int .u8] es) → ∃ ns : List Int, ess.flatten = ints .u8 ns ∧ isBytes ns := by
  intro ess
  induction ess with
  | nil => intro _; exact ⟨[], rfl, by intro n hn; simp at hn⟩
  | cons x r ih =>
   intro h
   obtain ⟨ns, e, hn⟩ := ih fun es hes => h es (by simp [hes])
   obtain ⟨n, rest, rfl, hh, hr⟩ := (h x (by simp)).2
   simp only [XM] at hr
   subst hr
   refine ⟨n :: ns, by simp [e], ?_⟩
   intro m hm
   rcases List.mem_cons.1 hm with rfl | hm
   ·exact has_u8 hh
   ·exact hn m hm
 obtain ⟨ns, e, hn⟩ := key ess h2
 rw [e] at h3
 refine ⟨ns, h3, hn, hlc, ?_⟩
 unfold reachBytes at hr
 omega
theorem slice24_of {t e : TypeId} {v : Value} {base : Nat} (u : Tryz.prog.underlying t = some (.slice e)) (h : Rdt enc PP W t v.cells.toList) (ho : Value.okWide PP W .any base t v) : ∃ p l c, v = .slice p l c ∧ Sli enc PP W e p l c := by
 obtain ⟨p, l, c, e1, hs⟩ := Rdt.slice u h
 exact ⟨p, l, c, okw_one (by rw [u]) ho e1, hs⟩
structure TokIn (h : H) (key : Int) (id tag : List Int) (cs : List CvM) (ip : Option Addr) (il : Nat) (cp : Option Addr) (cl : Nat) : Prop where
 key : has .i64 key
 ri : hsv h ip 1 il (ints .u8 id)
 rb : isBytes id
 ii : il + 4096 ≤ 2 ^ 47
 rc : hsv h cp 5 cl (cvsV cs)
 ct : ∀ c, c ∈ cs → c.typed
 cc : cl * 40 + 4096 ≤ 2 ^ 47
 tl : tag.length = 32
 tb : isBytes tag
end
end Go.Proofs.YteedolonhdbieaaGreatDoor
end

/- SHA-256 as the document has it: words, a piece. Own work. -/
section
set_option maxRecDepth 100000
set_option linter.unusedVariables false
namespace Go.Proofs.YteedolonhdbieaaGreatDoor
open Go Go.Vc

def isBy (bs : List Int) : Prop := ∀ n, n ∈ bs → 0 ≤ n ∧ n < 256
theorem isBy_get {bs : List Int} (hb : isBy bs) (x : Nat) : 0 ≤ bs.getD x 0 ∧ bs.getD x 0 < 256 := by
 rw [List.getD_eq_getElem?_getD]
 cases e : bs[x]? with
 | none => exact ⟨by decide, by decide⟩
 | some v => exact hb v (List.mem_iff_getElem?.2 ⟨x, e⟩)
theorem or_comm32 (a b : Int) : bits .or .u32 a b = bits .or .u32 b a := by
 have e : ∀ x y : Int, bits .or .u32 x y = IntKind.u32.wrap ((BitVec.ofInt 32 x ||| BitVec.ofInt 32 y).toNat : Int) := fun _ _ => rfl
 rw [e, e, BitVec.or_comm]
theorem wrapU32 (n : Int) : IntKind.u32.wrap n = n % 4294967296 := by simp [IntKind.wrap, IntKind.signed, IntKind.bits]
theorem or_nat32 {x y : Nat} (hx : x < 2 ^ 32) (hy : y < 2 ^ 32) : bits .or .u32 (x : Int) (y : Int) = ((x ||| y : Nat) : Int) := by
 have : bits .or .u32 (x : Int) (y : Int) = IntKind.u32.wrap ((BitVec.ofInt 32 (x : Int) ||| BitVec.ofInt 32 (y : Int)).toNat : Int) := rfl
 rw [this, BitVec.ofInt_natCast, BitVec.ofInt_natCast, BitVec.toNat_or, BitVec.toNat_ofNat, BitVec.toNat_ofNat, Nat.mod_eq_of_lt hx, Nat.mod_eq_of_lt hy, wrapU32]
 have h3 : x ||| y < 2 ^ 32 := Nat.or_lt_two_pow hx hy
 omega
theorem or_hi {a b k : Nat} (hb : b < 2 ^ k) (h : 2 ^ k * a + b < 2 ^ 32) : bits .or .u32 ((2 ^ k * a : Nat) : Int) (b : Int) = ((2 ^ k * a + b : Nat) : Int) := by
 rw [or_nat32 (by omega) (by omega), ← Nat.two_pow_add_eq_or_of_lt hb]
theorem word4 {a b c d : Int} (ha : 0 ≤ a ∧ a < 256) (hb : 0 ≤ b ∧ b < 256) (hc : 0 ≤ c ∧ c < 256) (hd : 0 ≤ d ∧ d < 256) :
  bits .or .u32 (bits .or .u32 (bits .or .u32 (IntKind.u32.wrap (IntKind.u32.wrap a * 2 ^ 24)) (IntKind.u32.wrap (IntKind.u32.wrap b * 2 ^ 16))) (IntKind.u32.wrap (IntKind.u32.wrap c * 2 ^ 8))) (IntKind.u32.wrap d) = accM [a, b, c, d] 4 := by
 obtain ⟨a, rfl⟩ := Int.eq_ofNat_of_zero_le ha.1
 obtain ⟨b, rfl⟩ := Int.eq_ofNat_of_zero_le hb.1
 obtain ⟨c, rfl⟩ := Int.eq_ofNat_of_zero_le hc.1
 obtain ⟨d, rfl⟩ := Int.eq_ofNat_of_zero_le hd.1
 have wa : IntKind.u32.wrap (a : Int) = (a : Int) := by rw [wrapU32]; omega
 have wb : IntKind.u32.wrap (b : Int) = (b : Int) := by rw [wrapU32]; omega
 have wc : IntKind.u32.wrap (c : Int) = (c : Int) := by rw [wrapU32]; omega
 have wd : IntKind.u32.wrap (d : Int) = (d : Int) := by rw [wrapU32]; omega
 have x24 : IntKind.u32.wrap ((a : Int) * 2 ^ 24) = ((2 ^ 24 * a : Nat) : Int) := by rw [wrapU32]; omega
 have x16 : IntKind.u32.wrap ((b : Int) * 2 ^ 16) = ((2 ^ 16 * b : Nat) : Int) := by rw [wrapU32]; omega
 have x8 : IntKind.u32.wrap ((c : Int) * 2 ^ 8) = ((2 ^ 8 * c : Nat) : Int) := by rw [wrapU32]; omega
 rw [wa, wb, wc, wd, x24, x16, x8]
 rw [or_hi (by omega) (by omega)]
 have e1 : (2 ^ 24 * a + 2 ^ 16 * b : Nat) = 2 ^ 16 * (2 ^ 8 * a + b) := by omega
 rw [e1, or_hi (by omega) (by omega)]
 have e2 : (2 ^ 16 * (2 ^ 8 * a + b) + 2 ^ 8 * c : Nat) = 2 ^ 8 * (2 ^ 16 * a + 2 ^ 8 * b + c) := by omega
 rw [e2, or_hi (by omega) (by omega)]
 have s0 : accM [(a : Int), b, c, d] 1 = ((2 ^ 0 * 0 + a : Nat) : Int) := by
  show bits .or .u32 (IntKind.u32.wrap (0 * 2 ^ 8)) (IntKind.u32.wrap (a : Int)) = _
  rw [wa]
  exact or_hi (k := 8) (a := 0) (b := a) (by omega) (by omega)
 have s1 : accM [(a : Int), b, c, d] 2 = ((2 ^ 8 * a + b : Nat) : Int) := by
  show bits .or .u32 (IntKind.u32.wrap (accM [(a : Int), b, c, d] 1 * 2 ^ 8)) (IntKind.u32.wrap (b : Int)) = _
  rw [s0, wb, show IntKind.u32.wrap (((2 ^ 0 * 0 + a : Nat) : Int) * 2 ^ 8) = ((2 ^ 8 * a : Nat) : Int) by rw [wrapU32]; omega]
  exact or_hi (by omega) (by omega)
 have s2 : accM [(a : Int), b, c, d] 3 = ((2 ^ 8 * (2 ^ 8 * a + b) + c : Nat) : Int) := by
  show bits .or .u32 (IntKind.u32.wrap (accM [(a : Int), b, c, d] 2 * 2 ^ 8)) (IntKind.u32.wrap (c : Int)) = _
  rw [s1, wc, show IntKind.u32.wrap (((2 ^ 8 * a + b : Nat) : Int) * 2 ^ 8) = ((2 ^ 8 * (2 ^ 8 * a + b) : Nat) : Int) by rw [wrapU32]; omega]
  exact or_hi (by omega) (by omega)
 have s3 : accM [(a : Int), b, c, d] 4 = ((2 ^ 8 * (2 ^ 8 * (2 ^ 8 * a + b) + c) + d : Nat) : Int) := by
  show bits .or .u32 (IntKind.u32.wrap (accM [(a : Int), b, c, d] 3 * 2 ^ 8)) (IntKind.u32.wrap (d : Int)) = _
  rw [s2, wd, show IntKind.u32.wrap (((2 ^ 8 * (2 ^ 8 * a + b) + c : Nat) : Int) * 2 ^ 8) = ((2 ^ 8 * (2 ^ 8 * (2 ^ 8 * a + b) + c) : Nat) : Int) by rw [wrapU32]; omega]
  exact or_hi (by omega) (by omega)
 rw [s3]
 congr 1
 omega
theorem take4 {bs : List Int} {o : Nat} (h : o + 4 ≤ bs.length) : (bs.drop o).take 4 = [bs.getD o 0, bs.getD (o + 1) 0, bs.getD (o + 2) 0, bs.getD (o + 3) 0] := by
 apply List.ext_getElem (by simp; omega)
 intro i h1 h2
 simp only [List.length_cons, List.length_nil, Nat.zero_add] at h2
 rw [List.getElem_take, List.getElem_drop]
 have g : ∀ x (hx : x < bs.length), bs.getD x 0 = bs[x] := fun x hx => by rw [List.getD_eq_getElem?_getD, List.getElem?_eq_getElem hx]; rfl
 have : i = 0 ∨ i = 1 ∨ i = 2 ∨ i = 3 := by omega
 rcases this with rfl | rfl | rfl | rfl
 ·exact (g o (by omega)).symm
 ·exact (g (o + 1) (by omega)).symm
 ·exact (g (o + 2) (by omega)).symm
 ·exact (g (o + 3) (by omega)).symm
section
variable {h0 h : H} {A : List Ent} {i d : Nat}
theorem turned_sp {Q : Int → H → Prop} (x : Int) (m : Nat) {mi : Int} (e : mi = (m : Int)) (h1 : 1 ≤ m) (h2 : m < 32) (q : Q (rotM x m) h) : F_portcullisref02_turned x mi Q h := by
 subst e
 unfold F_portcullisref02_turned G_portcullisref02_turned
 have e : IntKind.i64.wrap (32 - (m : Int)) = ((32 - m : Nat) : Int) := by rw [wrap_id (by omega)]; omega
 rw [e]
 refine ⟨by omega, by omega, ?_⟩
 rw [Int.toNat_natCast, Int.toNat_natCast, Nat.min_eq_left (by omega), Nat.min_eq_left (by omega), or_comm32]
 exact q
theorem words_sp {Q : List Int → H → Prop} {bs : List Int} {p : Option Addr} {l c : Nat} (hs : Sat h0 A h) (hb : isBy bs) (hl : 64 ≤ l) (rd : ∀ h', Sat h0 A h' → hsv h' p 1 l (ints .u8 bs)) (k : ∀ h', Sat h0 A h' → Q (wM bs 64) h') : F_portcullisref02_words p l c Q h := by
 unfold F_portcullisref02_words G_portcullisref02_words
 try simp only [add_mk, Nat.zero_add, List.append_nil]
 have hbl : bs.length = l := by have := (rd _ hs).1; simpa using this
 intro rb _ hn; replace hs := Sat.new hs hn; clear hn
 intro wn _ hn; replace hs := Sat.new hs hn; clear hn
 refine ⟨Sat.can hs (i := 0) .z (by simp [zeros]), ?_⟩
 intro h2 e
 replace hs := Sat.wra hs (i := 0) .z e rfl
 clear e
 simp only [put_zero] at hs
 obtain ⟨q, hq, _⟩ := hsvI (rd _ hs.drop.drop) (x := 0) (by omega)
 subst hq
 intro J14 hJ14
 refine loop_up 16 (fun t h => Sat h0 (blk wn (ints .u32 (wM bs t)) :: blk rb (ints .u32 (zeros 64)) :: A) h) ?_ ?_ 0 _ (by omega) hs
 ·intro t h1 ht hs hk
  apply hJ14
  rw [ltI_eq, if_pos (by simp; omega)]
  have e0 : IntKind.i64.wrap (4 * (t : Int)) = ((4 * t : Nat) : Int) := by rw [wrap_id (by omega)]; push_cast; rfl
  have e1 : IntKind.i64.wrap (((4 * t : Nat) : Int) + 1) = ((4 * t + 1 : Nat) : Int) := by rw [wrap_id (by omega)]; push_cast; rfl
  have e2 : IntKind.i64.wrap (((4 * t : Nat) : Int) + 2) = ((4 * t + 2 : Nat) : Int) := by rw [wrap_id (by omega)]; push_cast; rfl
  have e3 : IntKind.i64.wrap (((4 * t : Nat) : Int) + 3) = ((4 * t + 3 : Nat) : Int) := by rw [wrap_id (by omega)]; push_cast; rfl
  rw [e0, e1, e2, e3]
  simp only [Int.toNat_natCast, Nat.mul_one]
  have g : ∀ x, x < l → hc h1 (q.add x) = some (.int .u8 (bs.getD x 0)) := by
   intro x hx
   obtain ⟨q', hq', g⟩ := hsvI (rd _ hs.drop.drop) (x := x) hx
   injection hq' with hq'
   subst hq'
   exact g
  refine ⟨q, rfl, by omega, by omega, _, g _ (by omega), by decide, q, rfl, by omega, by omega, _, g _ (by omega), by decide, q, rfl, by omega, by omega, _, g _ (by omega), by decide, q, rfl, by omega, by omega, _, g _ (by omega), by omega, by omega, ?_⟩
  have hlen := wM_len bs t
  refine ⟨Sat.can hs (i := 0) .z (by simp [hlen]; omega), ?_⟩
  intro h3 e
  replace hs := Sat.wr hs (i := 0) .z e
  clear e
  rw [intsP] at hs
  simp only [put_zero] at hs
  rw [wrap_succ (by omega)]
  refine hk _ ?_
  show Sat h0 (blk wn (ints .u32 ((wM bs t).set t _)) :: blk rb (ints .u32 (zeros 64)) :: A) h3
  rw [if_pos ht, take4 (by omega), ← word4 (isBy_get hb _) (isBy_get hb _) (isBy_get hb _) (isBy_get hb _)]
  exact hs
 ·intro h1 hs
  apply hJ14
  rw [ltI_eq, if_neg (by decide)]
  clear hJ14 J14
  intro J27 hJ27
  refine loop_up 64 (fun t h => 16 ≤ t ∧ Sat h0 (blk wn (ints .u32 (wM bs t)) :: blk rb (ints .u32 (zeros 64)) :: A) h) ?_ ?_ 16 _ (by omega) ⟨by omega, hs⟩
  ·rintro t h2 ht ⟨ht2, hs⟩ hk
   apply hJ27
   rw [ltI_eq, if_pos (by simp; omega)]
   have hlen := wM_len bs t
   have e15 : IntKind.i64.wrap ((t : Int) - 15) = ((t - 15 : Nat) : Int) := by rw [wrap_id (by omega)]; omega
   have e2 : IntKind.i64.wrap ((t : Int) - 2) = ((t - 2 : Nat) : Int) := by rw [wrap_id (by omega)]; omega
   have e16 : IntKind.i64.wrap ((t : Int) - 16) = ((t - 16 : Nat) : Int) := by rw [wrap_id (by omega)]; omega
   have e7 : IntKind.i64.wrap ((t : Int) - 7) = ((t - 7 : Nat) : Int) := by rw [wrap_id (by omega)]; omega
   rw [e15, e2, e16, e7]
   simp only [Int.toNat_natCast, Nat.mul_one]
   have g := fun (x : Nat) (hx : x < 64) => hs.ld (i := 0) (b := wn) .z (intsG (k := .u32) (l := wM bs t) (i := x) (by omega))
   refine ⟨by omega, by omega, _, g _ (by omega), by omega, by omega, _, g _ (by omega), ?_⟩
   refine turned_sp _ 7 rfl (by decide) (by decide) ?_
   refine turned_sp _ 18 rfl (by decide) (by decide) ?_
   refine ⟨by decide, ?_⟩
   refine turned_sp _ 17 rfl (by decide) (by decide) ?_
   refine turned_sp _ 19 rfl (by decide) (by decide) ?_
   refine ⟨by decide, by omega, by omega, _, g _ (by omega), by omega, by omega, _, g _ (by omega), by omega, by omega, ?_⟩
   refine ⟨Sat.can hs (i := 0) .z (by simp [hlen]; omega), ?_⟩
   intro h3 e
   replace hs := Sat.wr hs (i := 0) .z e
   clear e
   rw [intsP] at hs
   simp only [put_zero] at hs
   rw [wrap_succ (by omega)]
   refine hk _ ⟨by omega, ?_⟩
   show Sat h0 (blk wn (ints .u32 ((wM bs t).set t _)) :: blk rb (ints .u32 (zeros 64)) :: A) h3
   rw [if_neg (by omega)]
   exact hs
  ·rintro h2 ⟨_, hs⟩
   apply hJ27
   rw [ltI_eq, if_neg (by decide)]
   refine ⟨_, wM_len bs 64, hs.row0 (i := 0) .z, ?_⟩
   refine ⟨Sat.can hs (i := 1) (.s .z) (by simp [zeros]), ?_⟩
   intro h3 e
   replace hs := Sat.wra hs (i := 1) (.s .z) e (by simp [zeros, wM_len])
   clear e
   simp only [put_succ, put_zero] at hs
   exact ⟨_, wM_len bs 64, hs.row0 (i := 1) (.s .z), k _ hs.drop.drop⟩
theorem piece_sp {Q : List Int → H → Prop} {s bs : List Int} {p : Option Addr} {l c : Nat} (hs : Sat h0 A h) (l1 : s.length = 8) (hb : isBy bs) (hl : 64 ≤ l) (rd : ∀ h', Sat h0 A h' → hsv h' p 1 l (ints .u8 bs)) (k : ∀ h', Sat h0 A h' → Q (pieceM s bs) h') : F_portcullisref02_piece s p l c kM Q h := by
 unfold F_portcullisref02_piece G_portcullisref02_piece
 try simp only [add_mk, Nat.zero_add, List.append_nil]
 intro sb _ hn; replace hs := Sat.new hs hn; clear hn
 intro kb _ hn; replace hs := Sat.new hs hn; clear hn
 intro rb _ hn; replace hs := Sat.new hs hn; clear hn
 refine words_sp hs hb hl (fun h' hs' => rd _ hs'.drop.drop.drop) ?_
 intro h1 hs
 obtain ⟨w, hw⟩ : ∃ w, w = wM bs 64 := ⟨_, rfl⟩
 have hwl : w.length = 64 := by rw [hw]; exact wM_len _ _
 rw [← hw]
 intro wn _ hn; replace hs := Sat.new hs hn; clear hn
 refine ⟨Sat.can hs (i := 0) .z (by simp [zeros]), ?_⟩
 intro h2 e
 replace hs := Sat.wra hs (i := 0) .z e (by simp [zeros, hwl])
 clear e
 simp only [put_zero] at hs
 refine ⟨s, l1, hs.row0 (i := 3) (.s (.s (.s .z))), ?_⟩
 intro sn _ hn; replace hs := Sat.new hs hn; clear hn
 refine ⟨Sat.can hs (i := 0) .z (by simp [zeros]), ?_⟩
 intro h3 e
 replace hs := Sat.wra hs (i := 0) .z e (by simp [zeros, l1])
 clear e
 simp only [put_zero] at hs
 intro J31 hJ31
 refine loop_up 64 (fun t h => Sat h0 (blk sn (ints .u32 (rM w s t)) :: blk wn (ints .u32 w) :: blk rb (ints .u32 (zeros 8)) :: blk kb (ints .u32 kM) :: blk sb (ints .u32 s) :: A) h) ?_ ?_ 0 _ (by omega) hs
 ·intro t h4 ht hs hk
  apply hJ31
  rw [ltI_eq, if_pos (by simp; omega)]
  obtain ⟨a, b, c, dd, e, f, g, hh, hr⟩ := len8 (rM_len w s l1 t)
  rw [hr] at hs
  simp only [Int.toNat_natCast, Nat.mul_one]
  have gk : hc h4 ⟨kb, t, none⟩ = some (.int .u32 (kM.getD t 0)) := hs.ld (i := 3) (.s (.s (.s .z))) (intsG (by rw [kM_len]; omega))
  have gw : hc h4 ⟨wn, t, none⟩ = some (.int .u32 (w.getD t 0)) := hs.ld (i := 1) (.s .z) (intsG (by omega))
  have g0 : hc h4 ⟨sn, 0, none⟩ = some (.int .u32 a) := hs.ld (i := 0) .z rfl
  have g1 : hc h4 ⟨sn, 1, none⟩ = some (.int .u32 b) := hs.ld (i := 0) .z rfl
  have g2 : hc h4 ⟨sn, 2, none⟩ = some (.int .u32 c) := hs.ld (i := 0) .z rfl
  have g3 : hc h4 ⟨sn, 3, none⟩ = some (.int .u32 dd) := hs.ld (i := 0) .z rfl
  have g4 : hc h4 ⟨sn, 4, none⟩ = some (.int .u32 e) := hs.ld (i := 0) .z rfl
  have g5 : hc h4 ⟨sn, 5, none⟩ = some (.int .u32 f) := hs.ld (i := 0) .z rfl
  have g6 : hc h4 ⟨sn, 6, none⟩ = some (.int .u32 g) := hs.ld (i := 0) .z rfl
  have g7 : hc h4 ⟨sn, 7, none⟩ = some (.int .u32 hh) := hs.ld (i := 0) .z rfl
  refine ⟨by decide, by decide, _, g0, by decide, by decide, _, g4, by decide, by decide, _, g7, by decide, by decide, _, g5, by decide, by decide, _, g6, by omega, by omega, _, gk, by omega, by omega, _, gw, ?_⟩
  refine turned_sp _ 6 rfl (by decide) (by decide) ?_
  refine ⟨hcs_one gw, hcs_one gk, hcs_one g6, hcs_one g5, hcs_one g7, ?_⟩
  refine turned_sp _ 11 rfl (by decide) (by decide) ?_
  refine ⟨hcs_one gw, hcs_one gk, hcs_one g6, hcs_one g5, hcs_one g7, ?_⟩
  refine turned_sp _ 25 rfl (by decide) (by decide) ?_
  refine ⟨hcs_one gw, hcs_one gk, hcs_one g6, hcs_one g5, hcs_one g7, ?_⟩
  refine ⟨by decide, by decide, _, g1, by decide, by decide, _, g2, by decide, by decide, _, g1, by decide, by decide, _, g2, ?_⟩
  refine turned_sp _ 2 rfl (by decide) (by decide) ?_
  refine ⟨hcs_one g2, hcs_one g1, hcs_one g2, hcs_one g1, ?_⟩
  refine turned_sp _ 13 rfl (by decide) (by decide) ?_
  refine ⟨hcs_one g2, hcs_one g1, hcs_one g2, hcs_one g1, ?_⟩
  refine turned_sp _ 22 rfl (by decide) (by decide) ?_
  refine ⟨hcs_one g2, hcs_one g1, hcs_one g2, hcs_one g1, ?_⟩
  refine ⟨by decide, by decide, _, g0, by decide, by decide, _, g1, by decide, by decide, _, g2, by decide, by decide, _, g3, by decide, by decide, _, g4, by decide, by decide, _, g5, by decide, by decide, _, g6, ?_⟩
  refine ⟨Sat.can hs (i := 0) .z (by simp), ?_⟩
  intro h5 e5
  replace hs := Sat.wra hs (i := 0) .z e5 (by simp)
  clear e5
  simp only [put_zero] at hs
  rw [wrap_succ (by omega)]
  refine hk _ ?_
  show Sat h0 (blk sn (ints .u32 (shStepM (rM w s t) (kM.getD t 0) (w.getD t 0))) :: blk wn (ints .u32 w) :: blk rb (ints .u32 (zeros 8)) :: blk kb (ints .u32 kM) :: blk sb (ints .u32 s) :: A) h5
  rw [hr]
  exact hs
 ·intro h4 hs
  apply hJ31
  rw [ltI_eq, if_neg (by decide)]
  clear hJ31 J31
  obtain ⟨r, hr⟩ : ∃ r, r = rM w s 64 := ⟨_, rfl⟩
  have hrl : r.length = 8 := by rw [hr]; exact rM_len _ _ l1 _
  rw [← hr] at hs
  intro J66 hJ66
  refine loop_up 8 (fun t h => Sat h0 (blk sn (ints .u32 r) :: blk wn (ints .u32 w) :: blk rb (ints .u32 (zeros 8)) :: blk kb (ints .u32 kM) :: blk sb (ints .u32 (aM s r t)) :: A) h) ?_ ?_ 0 _ (by omega) hs
  ·intro t h5 ht hs hk
   apply hJ66
   rw [ltI_eq, if_pos (by simp; omega)]
   have hal := aM_len s r l1 t
   simp only [Int.toNat_natCast, Nat.mul_one]
   refine ⟨by omega, by omega, _, hs.ld (i := 4) (.s (.s (.s (.s .z)))) (intsG (by omega)), by omega, by omega, _, hs.ld (i := 0) .z (intsG (by omega)), by omega, by omega, ?_⟩
   refine ⟨Sat.can hs (i := 4) (.s (.s (.s (.s .z)))) (by simp [hal]; omega), ?_⟩
   intro h6 e
   replace hs := Sat.wr hs (i := 4) (.s (.s (.s (.s .z)))) e
   clear e
   rw [intsP] at hs
   simp only [put_succ, put_zero] at hs
   rw [wrap_succ (by omega)]
   exact hk _ hs
  ·intro h5 hs
   apply hJ66
   rw [ltI_eq, if_neg (by decide)]
   have hpl : (aM s r 8).length = 8 := aM_len s r l1 8
   refine ⟨_, hpl, hs.row0 (i := 4) (.s (.s (.s (.s .z)))), ?_⟩
   refine ⟨Sat.can hs (i := 2) (.s (.s .z)) (by simp [zeros]), ?_⟩
   intro h6 e
   replace hs := Sat.wra hs (i := 2) (.s (.s .z)) e (by simp [zeros, hpl])
   clear e
   simp only [put_succ, put_zero] at hs
   refine ⟨_, hpl, hs.row0 (i := 2) (.s (.s .z)), ?_⟩
   have := k _ hs.drop.drop.drop.drop.drop
   unfold pieceM at this
   rw [← hw, ← hr] at this
   exact this
end
end Go.Proofs.YteedolonhdbieaaGreatDoor
end

/- SHA-256 as the document has it: what comes behind the bytes; the hash. Own work. -/
section
set_option maxRecDepth 100000
set_option linter.unusedVariables false
namespace Go.Proofs.YteedolonhdbieaaGreatDoor
open Go Go.Vc

theorem ext_getD24 {a b : List Int} (hl : a.length = b.length) (h : ∀ x, x < a.length → a.getD x 0 = b.getD x 0) : a = b := by
 apply List.ext_getElem hl
 intro i h1 h2
 have := h i h1
 rwa [List.getD_eq_getElem?_getD, List.getD_eq_getElem?_getD, List.getElem?_eq_getElem h1, List.getElem?_eq_getElem h2] at this
theorem zerosD (n x : Nat) : (zeros n).getD x 0 = 0 := by
 unfold zeros
 rw [List.getD_eq_getElem?_getD, List.getElem?_replicate]; split <;> rfl
theorem endM_get (n : Nat) : ∀ t x, t ≤ 8 → x < 73 → (endM n t).getD x 0 = if x = 0 then 128 else if 1 + zM n ≤ x ∧ x < 1 + zM n + t then lenB n (x - 1 - zM n) else 0
 | 0, x, _, hx => by
  show ((zeros 73).set 0 128).getD x 0 = _
  rw [setD]
  by_cases c : x = 0
  ·subst c; rfl
  ·rw [if_neg (by omega), if_neg c, if_neg (by omega), zerosD]
 | t + 1, x, ht, hx => by
  have hz := zM_lt n
  have ih := endM_get n t x (by omega) hx
  show ((endM n t).set (1 + zM n + t) (lenB n t)).getD x 0 = _
  rw [setD, endM_len]
  by_cases c : 1 + zM n + t = x
  ·subst c
   rw [if_pos ⟨rfl, hx⟩, if_neg (by omega), if_pos (by omega), show 1 + zM n + t - 1 - zM n = t by omega]
  ·rw [if_neg (fun y => c y.1), ih]
   by_cases c0 : x = 0
   ·rw [if_pos c0, if_pos c0]
   ·rw [if_neg c0, if_neg c0]
    by_cases c1 : 1 + zM n ≤ x ∧ x < 1 + zM n + t
    ·rw [if_pos c1, if_pos (by omega)]
    ·rw [if_neg c1, if_neg (by omega)]
def lensM (n : Nat) : List Int := (List.range 8).map (lenB n)
theorem lensM_len (n : Nat) : (lensM n).length = 8 := by simp [lensM]
theorem lensM_get (n : Nat) {t : Nat} (ht : t < 8) : (lensM n).getD t 0 = lenB n t := by
 unfold lensM
 rw [List.getD_eq_getElem?_getD, List.getElem?_map, List.getElem?_range ht]; rfl
theorem appD (a b : List Int) (x : Nat) : (a ++ b).getD x 0 = if x < a.length then a.getD x 0 else b.getD (x - a.length) 0 := by
 rw [List.getD_eq_getElem?_getD]
 split
 ·rename_i c; rw [List.getElem?_append_left c, List.getD_eq_getElem?_getD]
 ·rename_i c; rw [List.getElem?_append_right (by omega), List.getD_eq_getElem?_getD]
theorem tailM_eq (n : Nat) : tailM n = [128] ++ zeros (zM n) ++ lensM n := by
 have hz := zM_lt n
 have hzl : (zeros (zM n)).length = zM n := by simp [zeros]
 refine ext_getD24 ?_ ?_
 ·rw [tailM_len, List.length_append, List.length_append, hzl, lensM_len]; simp; omega
 ·intro x hx
  rw [tailM_len] at hx
  have e1 : (tailM n).getD x 0 = (endM n 8).getD x 0 := by
   unfold tailM
   rw [List.getD_eq_getElem?_getD, List.getElem?_take_of_lt hx, List.getD_eq_getElem?_getD]
  rw [e1, endM_get n 8 x (by omega) (by omega), appD, appD]
  simp only [List.length_append, List.length_cons, List.length_nil, hzl, Nat.zero_add]
  by_cases c0 : x = 0
  ·subst c0
   rw [if_pos rfl, if_pos (by omega), if_pos (by omega)]; rfl
  ·rw [if_neg c0]
   by_cases c1 : x < 1 + zM n
   ·rw [if_neg (by omega), if_pos c1, if_neg (by omega), zerosD]
   ·rw [if_pos (by omega), if_neg c1, lensM_get n (by omega), show x - 1 - zM n = x - (1 + zM n) by omega]
theorem fullM_len (ms : List Int) : (fullM ms).length = ms.length + 9 + zM ms.length := by
 unfold fullM; rw [List.length_append, tailM_len]; omega
theorem fullM_64 (ms : List Int) : (fullM ms).length = 64 * ((fullM ms).length / 64) := by
 rw [fullM_len]; unfold zM; omega
theorem isBy_app {a b : List Int} (ha : isBy a) (hb : isBy b) : isBy (a ++ b) := fun v hv => (List.mem_append.1 hv).elim (ha v) (hb v)
theorem isBy_zeros (n : Nat) : isBy (zeros n) := by
 intro v hv
 unfold zeros at hv
 rw [List.mem_replicate] at hv
 omega
theorem isBy_tail (n : Nat) : isBy (tailM n) := by
 rw [tailM_eq]
 refine isBy_app (isBy_app ?_ (isBy_zeros _)) ?_
 ·intro v hv
  simp only [List.mem_cons, List.not_mem_nil, or_false] at hv
  omega
 ·intro v hv
  unfold lensM at hv
  obtain ⟨i, _, rfl⟩ := List.mem_map.1 hv
  unfold lenB
  rw [IntKind.wrap_u8]; omega
theorem isBy_blk {ms : List Int} (hb : isBy ms) (i : Nat) : isBy (blkM ms i) := fun v hv => hb v (List.mem_of_mem_drop (List.mem_of_mem_take hv))
theorem takeS (l : List Int) {t : Nat} (h : t < l.length) : l.take (t + 1) = l.take t ++ [l.getD t 0] := by
 rw [List.take_succ, List.getElem?_eq_getElem h, List.getD_eq_getElem?_getD, List.getElem?_eq_getElem h]; rfl
theorem intsApp (k : IntKind) (a b : List Int) : ints k (a ++ b) = ints k a ++ ints k b := by unfold ints; rw [List.map_append]
theorem loopN {J : List SV → H → Prop} {σ : Type} (N : Nat) (S : Nat → σ → List SV) (Inv : Nat → σ → H → Prop) (step : ∀ i s h, i < N → Inv i s h → (∀ s' h', Inv (i + 1) s' h' → J (S (i + 1) s') h') → J (S i s) h)
  (exit : ∀ s h, Inv N s h → J (S N s) h) (i : Nat) (s : σ) (h : H) (hi : i ≤ N) (inv : Inv i s h) : J (S i s) h := by
 generalize e : N - i = n
 induction n generalizing i s h with
 | zero =>
  have : i = N := by omega
  subst this; exact exit s h inv
 | succ n ih => exact step i s h (by omega) inv fun s' h' inv' => ih (i + 1) s' h' (by omega) inv' (by omega)
theorem capL {h0 h : H} {A : List Ent} (hs : Sat h0 A h) {i : Nat} {p : Option Addr} {l c sz : Nat} {vs : List Value} (m : At A i (slE p l c sz vs)) : l ≤ c := by
 obtain ⟨f, hp, _⟩ := hs.take m
 obtain ⟨bs, o, _⟩ := slE_P.1 hp
 exact o.2.1
section
variable {h0 h : H} {A : List Ent} {i d : Nat}
theorem padded_sp {Q : Option Addr → Nat → Nat → H → Prop} {ms : List Int} {p : Option Addr} {l c : Nat} (hs : Sat h0 A h) (hl : l < 2 ^ 46) (rd : ∀ h', Sat h0 A h' → hsv h' p 1 l (ints .u8 ms))
  (k : ∀ p' c' h', (fullM ms).length ≤ c' → Sat h0 (slE p' (fullM ms).length c' 1 (ints .u8 (fullM ms)) :: A) h' → Q p' (fullM ms).length c' h') : F_portcullisref02_padded p l c Q h := by
 unfold F_portcullisref02_padded G_portcullisref02_padded
 have hml : ms.length = l := by have := (rd _ hs).1; simpa using this
 have hz := zM_lt l
 refine ⟨_, rd _ hs, ?_⟩
 refine Sat.app_new hs (by simp [hml]) rfl (ints_one _ _) (by omega) ?_
 intro p1 c1 h1 hs
 intro b _ hn; replace hs := Sat.new hs hn; clear hn
 refine ⟨_, hs.bv (i := 0) (l := 1) .z rfl (ints_one .u8 [128]), ?_⟩
 refine Sat.app hs (i := 1) (vs := ints .u8 [128]) (.s .z) rfl rfl (ints_one _ _) (by omega) ?_
 intro p2 c2 h2 hs
 simp only [put_succ, put_zero] at hs
 rw [← intsApp] at hs
 replace hs := hs.drop
 intro J18 hJ18
 refine loopN (zM l) (fun t (s : Option Addr × Nat) => [.dv (.one (.slice s.1 (l + 1 + t) s.2))]) (fun t s h => Sat h0 (slE s.1 (l + 1 + t) s.2 1 (ints .u8 (ms ++ [128] ++ zeros t)) :: A) h) ?_ ?_ 0 (p2, c2) _ (by omega) (by simpa [zeros] using hs)
 ·rintro t ⟨p3, c3⟩ h3 ht hs hk
  dsimp only at hs hk ⊢
  apply hJ18
  refine ⟨by decide, ?_⟩
  have em : (((l + 1 + t : Nat) : Int)).tmod 64 = (((l + 1 + t) % 64 : Nat) : Int) := by rw [Int.tmod_eq_emod_of_nonneg (by omega)]; omega
  rw [em, if_pos (by
   rw [bne_iff_ne]
   intro y
   unfold zM at ht
   omega)]
  intro b _ hn; replace hs := Sat.new hs hn; clear hn
  refine ⟨_, hs.bv (i := 0) (l := 1) .z rfl (ints_one .u8 [0]), ?_⟩
  refine Sat.app hs (i := 1) (vs := ints .u8 [0]) (.s .z) rfl rfl (ints_one _ _) (by omega) ?_
  intro p4 c4 h4 hs
  simp only [put_succ, put_zero] at hs
  rw [← intsApp] at hs
  refine hk (p4, c4) h4 ?_
  have ez : ms ++ [128] ++ zeros (t + 1) = ms ++ [128] ++ zeros t ++ [0] := by
   unfold zeros
   rw [List.replicate_succ', List.append_assoc, List.append_assoc, List.append_assoc]
  dsimp only
  rw [ez]
  exact hs.drop
 ·rintro ⟨p3, c3⟩ h3 hs
  dsimp only at hs ⊢
  apply hJ18
  clear hJ18
  refine ⟨by decide, ?_⟩
  have em : (((l + 1 + zM l : Nat) : Int)).tmod 64 = 56 := by
   rw [Int.tmod_eq_emod_of_nonneg (by omega)]
   unfold zM
   omega
  rw [em, if_neg (by decide)]
  have ew : IntKind.u64.wrap (8 * IntKind.u64.wrap (l : Int)) = IntKind.u64.wrap (8 * (l : Int)) := by rw [wrapU64 (l : Int), wrapU64, wrapU64]; omega
  rw [ew]
  intro J31 hJ31
  refine loopN 8 (fun t (s : Option Addr × Nat) => [.dv (.one (.slice s.1 (l + 1 + zM l + t) s.2)), .dv (.one (.int .i64 (7 - (t : Int))))]) (fun t s h => Sat h0 (slE s.1 (l + 1 + zM l + t) s.2 1 (ints .u8 (ms ++ [128] ++ zeros (zM l) ++ (lensM l).take t)) :: A) h) ?_ ?_ 0 (p3, c3) _ (by omega) (by simpa using hs)
  ·rintro t ⟨p4, c4⟩ h4 ht hs hk
   dsimp only at hs hk ⊢
   apply hJ31
   rw [leI_eq, if_pos (by rw [decide_eq_true_iff]; omega)]
   have e8 : IntKind.i64.wrap (8 * (7 - (t : Int))) = ((56 - 8 * t : Nat) : Int) := by rw [wrap_id (by omega)]; omega
   rw [e8]
   simp only [Int.toNat_natCast]
   refine ⟨by omega, ?_⟩
   intro b _ hn; replace hs := Sat.new hs hn; clear hn
   refine ⟨_, hs.bv (i := 0) (l := 1) .z rfl (ints_one .u8 [lenB l t]), ?_⟩
   refine Sat.app hs (i := 1) (vs := ints .u8 [lenB l t]) (.s .z) rfl rfl (ints_one _ _) (by omega) ?_
   intro p5 c5 h5 hs
   simp only [put_succ, put_zero] at hs
   rw [← intsApp] at hs
   have e1 : IntKind.i64.wrap (7 - (t : Int) - 1) = 7 - ((t + 1 : Nat) : Int) := by rw [wrap_id (by omega)]; omega
   rw [e1]
   refine hk (p5, c5) h5 ?_
   dsimp only
   rw [takeS _ (by rw [lensM_len]; exact ht), lensM_get l ht, ← List.append_assoc]
   exact hs.drop
  ·rintro ⟨p4, c4⟩ h4 hs
   dsimp only at hs ⊢
   apply hJ31
   rw [leI_eq, if_neg (by decide)]
   rw [List.take_of_length_le (by rw [lensM_len]; exact Nat.le_refl _)] at hs
   have ef : ms ++ [128] ++ zeros (zM l) ++ lensM l = fullM ms := by
    unfold fullM
    rw [tailM_eq, hml, List.append_assoc, List.append_assoc, List.append_assoc]
   have efl : (fullM ms).length = l + 1 + zM l + 8 := by rw [fullM_len, hml]; omega
   rw [ef] at hs
   have K := k p4 c4 h4
   rw [efl] at K
   exact K (capL hs (i := 0) .z) hs
theorem rof_sp {Q : List Int → H → Prop} {ms : List Int} {p : Option Addr} {l c : Nat} (hs : Sat h0 A h) (hb : isBy ms) (hl : l < 2 ^ 46) (rd : ∀ h', Sat h0 A h' → hsv h' p 1 l (ints .u8 ms)) (k : ∀ h', Sat h0 A h' → Q (shaM ms) h') : F_portcullisref02_Of p l c Q h := by
 unfold F_portcullisref02_Of G_portcullisref02_Of
 try simp only [add_mk, Nat.zero_add, List.append_nil]
 have hml : ms.length = l := by have := (rd _ hs).1; simpa using this
 intro rb _ hn; replace hs := Sat.new hs hn; clear hn
 refine padded_sp (ms := ms) hs hl (fun h' hs' => rd _ hs'.drop) ?_
 intro p1 c1 h1 hc1 hs
 obtain ⟨F, hF⟩ : ∃ F, F = fullM ms := ⟨_, rfl⟩
 have hbF : isBy F := by rw [hF]; unfold fullM; exact isBy_app hb (isBy_tail _)
 have hFl : F.length < 2 ^ 47 := by rw [hF, fullM_len, hml]; have := zM_lt l; omega
 obtain ⟨N, hN⟩ : ∃ N, N = F.length / 64 := ⟨_, rfl⟩
 have h64 : F.length = 64 * N := by rw [hN, hF]; exact fullM_64 ms
 rw [← hF] at hs hc1 ⊢
 rw [h64] at hs hc1 ⊢
 unfold F_portcullisref02_begins G_portcullisref02_begins
 try simp only [add_mk, Nat.zero_add, List.append_nil]
 intro bb _ hn; replace hs := Sat.new hs hn; clear hn
 refine ⟨Sat.can hs (i := 0) .z (by simp [zeros]), ?_⟩
 intro h2 e
 replace hs := Sat.wra hs (i := 0) .z e (by simp [zeros])
 clear e
 simp only [put_zero] at hs
 refine ⟨sM, rfl, hs.row0 .z, ?_⟩
 replace hs := hs.drop
 intro sb _ hn; replace hs := Sat.new hs hn; clear hn
 refine ⟨Sat.can hs (i := 0) .z (by simp [zeros, sM]), ?_⟩
 intro h3 e
 replace hs := Sat.wra hs (i := 0) .z e (by simp [zeros, sM])
 clear e
 simp only [put_zero] at hs
 unfold F_portcullisref02_rounds G_portcullisref02_rounds
 try simp only [add_mk, Nat.zero_add, List.append_nil]
 intro kb _ hn; replace hs := Sat.new hs hn; clear hn
 refine ⟨Sat.can hs (i := 0) .z (by simp [zeros]), ?_⟩
 intro h4 e
 replace hs := Sat.wra hs (i := 0) .z e (by simp [zeros])
 clear e
 simp only [put_zero] at hs
 refine ⟨kM, rfl, hs.row0 .z, ?_⟩
 replace hs := hs.drop
 intro kc _ hn; replace hs := Sat.new hs hn; clear hn
 refine ⟨Sat.can hs (i := 0) .z (by simp [zeros, kM_len]), ?_⟩
 intro h5 e
 replace hs := Sat.wra hs (i := 0) .z e (by simp [zeros, kM_len])
 clear e
 simp only [put_zero] at hs
 intro J30 hJ30
 refine loopN N (fun t (_ : Unit) => [.dv (.one (.int .i64 ((64 * t : Nat) : Int)))]) (fun t _ h => Sat h0 (blk kc (ints .u32 kM) :: blk sb (ints .u32 (stM F t)) :: slE p1 (64 * N) c1 1 (ints .u8 F) :: blk rb (ints .u8 (zeros 32)) :: A) h) ?_ ?_ 0 () _ (by omega) hs
 ·rintro t _ h6 ht hs hk
  apply hJ30
  rw [ltI_eq, if_pos (by rw [decide_eq_true_iff]; omega)]
  have e64 : IntKind.i64.wrap (((64 * t : Nat) : Int) + 64) = ((64 * (t + 1) : Nat) : Int) := by rw [wrap_id (by omega)]; push_cast; omega
  rw [e64]
  simp only [Int.toNat_natCast]
  have hsl := stM_len F t
  refine ⟨stM F t, hsl, hs.row0 (i := 1) (.s .z), by omega, by omega, by omega, kM, kM_len, hs.row0 (i := 0) .z, ?_⟩
  rw [show 64 * (t + 1) - 64 * t = 64 by omega]
  refine piece_sp (bs := blkM F t) hs hsl (isBy_blk hbF t) (Nat.le_refl _) (fun h' hs' => subRd (o := 64 * t) (n := 64) (m := c1) (hs'.sv (i := 2) (.s (.s .z))) (by omega) (by omega)) ?_
  intro h7 hs
  have hpl : (pieceM (stM F t) (blkM F t)).length = 8 := pieceM_len hsl
  refine ⟨Sat.can hs (i := 1) (.s .z) (by simp [hsl]), ?_⟩
  intro h8 e
  replace hs := Sat.wra hs (i := 1) (.s .z) e (by simp [hsl, hpl])
  clear e
  simp only [put_succ, put_zero] at hs
  exact hk () _ hs
 ·rintro _ h6 hs
  apply hJ30
  clear hJ30
  rw [ltI_eq, if_neg (by rw [decide_eq_true_iff]; omega)]
  obtain ⟨S, hS⟩ : ∃ S, S = stM F N := ⟨_, rfl⟩
  have hSl : S.length = 8 := by rw [hS]; exact stM_len F N
  have hsh : shaM ms = oM S 32 := by unfold shaM; rw [← hF, ← hN, hS]
  rw [← hS] at hs
  intro ob _ hn; replace hs := Sat.new hs hn; clear hn
  refine ⟨Sat.can hs (i := 0) .z (by simp [zeros]), ?_⟩
  intro h7 e
  replace hs := Sat.wra hs (i := 0) .z e rfl
  clear e
  simp only [put_zero] at hs
  intro J44 hJ44
  refine loop_up 32 (fun t h => Sat h0 (blk ob (ints .u8 (oM S t)) :: blk kc (ints .u32 kM) :: blk sb (ints .u32 S) :: slE p1 (64 * N) c1 1 (ints .u8 F) :: blk rb (ints .u8 (zeros 32)) :: A) h) ?_ ?_ 0 _ (by omega) hs
  ·intro t h8 ht hs hk
   apply hJ44
   rw [ltI_eq, if_pos (by simp; omega)]
   have hol := oM_len S t
   have ed : IntKind.i64.wrap ((t : Int).tdiv 4) = ((t / 4 : Nat) : Int) := by
    rw [Int.tdiv_eq_ediv_of_nonneg (by omega), wrap_id (by omega)]; omega
   have em : IntKind.i64.wrap (24 - IntKind.i64.wrap (8 * (t : Int).tmod 4)) = ((24 - 8 * (t % 4) : Nat) : Int) := by
    rw [Int.tmod_eq_emod_of_nonneg (by omega), wrap_id (n := 8 * ((t : Int) % 4)) (by omega), wrap_id (by omega)]; omega
   rw [ed, em]
   simp only [Int.toNat_natCast, Nat.mul_one]
   refine ⟨by decide, by omega, by omega, _, hs.ld (i := 2) (.s (.s .z)) (intsG (by omega)), by decide, by omega, by omega, by omega, ?_⟩
   refine ⟨Sat.can hs (i := 0) .z (by simp [hol]; omega), ?_⟩
   intro h9 e
   replace hs := Sat.wr hs (i := 0) .z e
   clear e
   rw [intsP] at hs
   simp only [put_zero] at hs
   rw [wrap_succ (by omega)]
   exact hk _ hs
  ·intro h8 hs
   apply hJ44
   rw [ltI_eq, if_neg (by decide)]
   rw [← hsh] at hs
   refine ⟨_, shaM_len ms, hs.row0 (i := 0) .z, ?_⟩
   refine ⟨Sat.can hs (i := 4) (.s (.s (.s (.s .z)))) (by simp [zeros]), ?_⟩
   intro h9 e
   replace hs := Sat.wra hs (i := 4) (.s (.s (.s (.s .z)))) e (by simp [zeros, shaM_len])
   clear e
   simp only [put_succ, put_zero] at hs
   exact ⟨_, shaM_len ms, hs.row0 (i := 4) (.s (.s (.s (.s .z)))), k _ hs.drop.drop.drop.drop.drop⟩
end
end Go.Proofs.YteedolonhdbieaaGreatDoor
end

/- HMAC as the document has it. Own work. -/
section
set_option maxRecDepth 100000
set_option linter.unusedVariables false
namespace Go.Proofs.YteedolonhdbieaaGreatDoor
open Go Go.Vc

def ovM (x : Int) (bs : List Int) : List Int := bs.map fun b => bits .xor .u8 b x
theorem xor_by (a b : Int) : 0 ≤ bits .xor .u8 a b ∧ bits .xor .u8 a b < 256 := by
 have : bits .xor .u8 a b = IntKind.u8.wrap ((BitVec.ofInt 8 a ^^^ BitVec.ofInt 8 b).toNat : Int) := rfl
 rw [this, IntKind.wrap_u8]; omega
theorem isBy_ov (x : Int) (bs : List Int) : isBy (ovM x bs) := by
 intro v hv
 unfold ovM at hv
 obtain ⟨b, _, rfl⟩ := List.mem_map.1 hv
 exact xor_by _ _
theorem xM_get (kb : List Int) (x : Int) : ∀ t j, t ≤ 64 → j < 64 → (xM kb x t).getD j 0 = if j < t then bits .xor .u8 (kb.getD j 0) x else 0
 | 0, j, _, hj => by
  show (zeros 64).getD j 0 = _
  rw [if_neg (by omega), zerosD]
 | t + 1, j, ht, hj => by
  have ih := xM_get kb x t j (by omega) hj
  show ((xM kb x t).set t _).getD j 0 = _
  rw [setD, xM_len, ih]
  by_cases c : t = j
  ·subst c
   rw [if_pos ⟨rfl, hj⟩, if_pos (by omega)]
  ·rw [if_neg (fun y => c y.1)]
   by_cases c1 : j < t
   ·rw [if_pos c1, if_pos (by omega)]
   ·rw [if_neg c1, if_neg (by omega)]
theorem xM_ov {kb : List Int} (x : Int) (h : kb.length = 64) : xM kb x 64 = ovM x kb := by
 refine ext_getD24 (by rw [xM_len]; simp [ovM, h]) ?_
 intro j hj
 rw [xM_len] at hj
 rw [xM_get kb x 64 j (by decide) hj, if_pos hj]
 unfold ovM
 rw [List.getD_eq_getElem?_getD, List.getD_eq_getElem?_getD, List.getElem?_map, List.getElem?_eq_getElem (by omega)]
 rfl
theorem isBy_sha (ms : List Int) : isBy (shaM ms) := by
 have : ∀ s t, isBy (oM s t) := by
  intro s t
  induction t with
  | zero => exact isBy_zeros 32
  | succ t ih =>
   intro v hv
   have hv : v ∈ (oM s t).set t (outB s t) := hv
   rcases List.mem_or_eq_of_mem_set hv with h | h
   ·exact ih v h
   ·rw [h]; unfold outB; rw [IntKind.wrap_u8]; omega
 exact this _ _
theorem isBy_mac (key b : List Int) : isBy (macM key b) := isBy_sha _
section
variable {h0 h : H} {A : List Ent} {i d : Nat}
theorem fill_sp {Q : Option Addr → Nat → Nat → H → Prop} {ms : List Int} {p : Option Addr} {l c : Nat} (hs : Sat h0 (slE p l c 1 (ints .u8 ms) :: A) h) (hl : l ≤ 64)
  (k : ∀ p' c' h', Sat h0 (slE p' 64 c' 1 (ints .u8 (ms ++ zeros (64 - l))) :: A) h' → Q p' 64 c' h') :
  ∀ (J21 : List SV → H → Prop), (∀ (o22 : Option Addr) (n23 n24 : Nat) (h25 : H), (if ltI (n23 : Int) 64 = true then ∀ (n26 : Nat) (h27 : H), hnew h25 n26 [.int .u8 0] h27 → ∃ l29 : List Value, hsv h27 (some ⟨n26, 0, none⟩) 1 1 l29 ∧ pApp h27 1 [.int .u8 0] 1 o22 n23 n24 1 l29 fun o30 n31 n32 h33 => J21 [.dv (.one (.slice o30 n31 n32))] h33
   else Q o22 n23 n24 h25) → J21 [.dv (.one (.slice o22 n23 n24))] h25) → J21 [.dv (.one (.slice p l c))] h := by
 intro J hJ
 refine loopN (64 - l) (fun t (s : Option Addr × Nat) => [.dv (.one (.slice s.1 (l + t) s.2))]) (fun t s h => Sat h0 (slE s.1 (l + t) s.2 1 (ints .u8 (ms ++ zeros t)) :: A) h) ?_ ?_ 0 (p, c) _ (by omega) (by simpa [zeros] using hs)
 ·rintro t ⟨p3, c3⟩ h3 ht hs hk
  dsimp only at hs hk ⊢
  apply hJ
  rw [ltI_eq, if_pos (by rw [decide_eq_true_iff]; omega)]
  intro b _ hn; replace hs := Sat.new hs hn; clear hn
  refine ⟨_, hs.bv (i := 0) (l := 1) .z rfl (ints_one .u8 [0]), ?_⟩
  refine Sat.app hs (i := 1) (vs := ints .u8 [0]) (.s .z) rfl rfl (ints_one _ _) (by omega) ?_
  intro p4 c4 h4 hs
  simp only [put_succ, put_zero] at hs
  rw [← intsApp] at hs
  refine hk (p4, c4) h4 ?_
  have ez : ms ++ zeros (t + 1) = ms ++ zeros t ++ [0] := by
   unfold zeros
   rw [List.replicate_succ', List.append_assoc]
  dsimp only
  rw [ez]
  exact hs.drop
 ·rintro ⟨p3, c3⟩ h3 hs
  dsimp only at hs ⊢
  apply hJ
  have e64 : l + (64 - l) = 64 := by omega
  rw [e64] at hs ⊢
  rw [ltI_eq, if_neg (by decide)]
  exact k _ _ _ hs
theorem block_sp {Q : Option Addr → Nat → Nat → H → Prop} {key : List Int} {p : Option Addr} {l c : Nat} (hs : Sat h0 A h) (hb : isBy key) (hl : l < 2 ^ 46) (rd : ∀ h', Sat h0 A h' → hsv h' p 1 l (ints .u8 key))
  (k : ∀ p' c' h', Sat h0 (slE p' 64 c' 1 (ints .u8 (kbM key)) :: A) h' → Q p' 64 c' h') : F_portcullisref03_block p l c Q h := by
 unfold F_portcullisref03_block G_portcullisref03_block
 try simp only [add_mk, Nat.zero_add, List.append_nil]
 have hkl : key.length = l := by have := (rd _ hs).1; simpa using this
 intro eb _ hn; replace hs := Sat.new hs hn; clear hn
 rw [ltI_eq]
 by_cases g : 64 < l
 ·rw [if_pos (by rw [decide_eq_true_iff]; omega)]
  have ek : keyM key = shaM key := by unfold keyM; rw [if_pos (by omega)]
  have ekb : kbM key = shaM key ++ zeros (64 - 32) := by unfold kbM; rw [ek, shaM_len]
  refine rof_sp (ms := key) hs hb hl (fun h' hs' => rd _ hs'.drop) ?_
  intro h1 hs
  intro hb' _ hn; replace hs := Sat.new hs hn; clear hn
  refine ⟨Sat.can hs (i := 0) .z (by simp [zeros]), ?_⟩
  intro h2 e
  replace hs := Sat.wra hs (i := 0) .z e (by simp [zeros, shaM_len])
  clear e
  simp only [put_zero] at hs
  have sub0 : subAddr (some ⟨hb', 0, none⟩) 0 32 1 = some ⟨hb', 0, none⟩ := by unfold subAddr; simp
  rw [sub0]
  refine ⟨_, hs.bv (i := 0) (l := 32) .z (by simp [shaM_len]) (ints_one _ _), ?_⟩
  refine Sat.app_new hs (by simp [shaM_len]) rfl (ints_one _ _) (by decide) ?_
  intro p3 c3 h3 hs
  refine fill_sp hs (by decide) ?_
  intro p4 c4 h4 hs
  rw [← ekb] at hs
  exact k _ _ _ (hs.sub (by (repeat (first | exact List.Sublist.refl _ | apply List.Sublist.cons_cons | apply List.Sublist.cons))))
 ·rw [if_neg (by rw [decide_eq_true_iff]; omega)]
  have ek : keyM key = key := by unfold keyM; rw [if_neg (by omega)]
  have ekb : kbM key = key ++ zeros (64 - l) := by unfold kbM; rw [ek, hkl]
  refine ⟨_, rd _ hs.drop, ?_⟩
  refine Sat.app_new hs (by simp [hkl]) rfl (ints_one _ _) (by omega) ?_
  intro p3 c3 h3 hs
  refine fill_sp hs (by omega) ?_
  intro p4 c4 h4 hs
  rw [← ekb] at hs
  exact k _ _ _ (hs.sub (by (repeat (first | exact List.Sublist.refl _ | apply List.Sublist.cons_cons | apply List.Sublist.cons))))
theorem over_sp {Q : Option Addr → Nat → Nat → H → Prop} {bs : List Int} {p : Option Addr} {l c : Nat} (x : Int) (hs : Sat h0 A h) (hl : l < 2 ^ 46) (rd : ∀ h', Sat h0 A h' → hsv h' p 1 l (ints .u8 bs))
  (k : ∀ p' c' h', Sat h0 (slE p' l c' 1 (ints .u8 (ovM x bs)) :: A) h' → Q p' l c' h') : F_portcullisref03_over p l c x Q h := by
 unfold F_portcullisref03_over G_portcullisref03_over
 have hbl : bs.length = l := by have := (rd _ hs).1; simpa using this
 intro eb _ hn; replace hs := Sat.new hs hn; clear hn
 intro J hJ
 refine loopN l (fun t (s : Option Addr × Nat) => [.dv (.one (.slice s.1 t s.2)), si t]) (fun t s h => Sat h0 (slE s.1 t s.2 1 (ints .u8 (ovM x (bs.take t))) :: A) h) ?_ ?_ 0 (some ⟨eb, 0, none⟩, 0) _ (by omega) (by simpa [ovM] using hs.drop.sl_nil 1 _)
 ·rintro t ⟨p3, c3⟩ h3 ht hs hk
  dsimp only at hs hk ⊢
  apply hJ
  rw [ltI_eq, if_pos (by rw [decide_eq_true_iff]; omega)]
  obtain ⟨q, hq, g⟩ := hsvI (rd _ hs.drop) (x := t) ht
  refine ⟨q, hq, by omega, by omega, ?_⟩
  simp only [Int.toNat_natCast, Nat.mul_one]
  refine ⟨_, g, ?_⟩
  intro b _ hn; replace hs := Sat.new hs hn; clear hn
  refine ⟨_, hs.bv (i := 0) (l := 1) .z rfl (ints_one .u8 [bits .xor .u8 (bs.getD t 0) x]), ?_⟩
  refine Sat.app hs (i := 1) (vs := ints .u8 [bits .xor .u8 (bs.getD t 0) x]) (.s .z) rfl rfl (ints_one _ _) (by omega) ?_
  intro p4 c4 h4 hs
  simp only [put_succ, put_zero] at hs
  rw [← intsApp] at hs
  rw [wrap_succ (by omega)]
  refine hk (p4, c4) h4 ?_
  dsimp only
  rw [takeS bs (by omega)]
  have : ovM x (bs.take t ++ [bs.getD t 0]) = ovM x (bs.take t) ++ [bits .xor .u8 (bs.getD t 0) x] := by unfold ovM; rw [List.map_append]; rfl
  rw [this]
  exact hs.drop
 ·rintro ⟨p3, c3⟩ h3 hs
  dsimp only at hs ⊢
  apply hJ
  rw [ltI_eq, if_neg (by simp)]
  rw [List.take_of_length_le (by omega)] at hs
  exact k _ _ _ hs
theorem rmac_sp {Q : List Int → H → Prop} {key b : List Int} {kp bp : Option Addr} {kl kc bl bc : Nat} (hs : Sat h0 A h) (hkb : isBy key) (hbb : isBy b) (hk : kl < 2 ^ 45) (hb : bl < 2 ^ 45) (rk : ∀ h', Sat h0 A h' → hsv h' kp 1 kl (ints .u8 key)) (rb : ∀ h', Sat h0 A h' → hsv h' bp 1 bl (ints .u8 b))
  (k : ∀ h', Sat h0 A h' → Q (macM key b) h') : F_portcullisref03_Of kp kl kc bp bl bc Q h := by
 unfold F_portcullisref03_Of G_portcullisref03_Of
 try simp only [add_mk, Nat.zero_add, List.append_nil]
 have hbl : b.length = bl := by have := (rb _ hs).1; simpa using this
 intro ob _ hn; replace hs := Sat.new hs hn; clear hn
 refine block_sp (key := key) hs hkb (by omega) (fun h' hs' => rk _ hs'.drop) ?_
 intro p1 c1 h1 hs
 have hkl := kbM_len key
 refine over_sp 54 hs (by decide) (fun h' hs' => hs'.sv (i := 0) .z) ?_
 intro p2 c2 h2 hs
 rw [← xM_ov 54 hkl] at hs
 refine ⟨_, rb _ hs.drop.drop.drop, ?_⟩
 refine Sat.app hs (i := 0) (vs := ints .u8 b) .z (by simp [hbl]) rfl (ints_one _ _) (by omega) ?_
 intro p3 c3 h3 hs
 simp only [put_zero] at hs
 rw [← intsApp] at hs
 have bi : isBy (xM (kbM key) 54 64) := by rw [xM_ov 54 hkl]; exact isBy_ov _ _
 have bo : isBy (xM (kbM key) 92 64) := by rw [xM_ov 92 hkl]; exact isBy_ov _ _
 refine rof_sp (ms := innerM key ++ b) hs (isBy_app bi hbb) (by omega) (fun h' hs' => hs'.sv (i := 0) .z) ?_
 intro h4 hs
 obtain ⟨I, hI⟩ : ∃ I, I = shaM (innerM key ++ b) := ⟨_, rfl⟩
 have hIl : I.length = 32 := by rw [hI]; exact shaM_len _
 have hIb : isBy I := by rw [hI]; exact isBy_sha _
 rw [← hI]
 intro hb' _ hn; replace hs := Sat.new hs hn; clear hn
 refine ⟨Sat.can hs (i := 0) .z (by simp [zeros]), ?_⟩
 intro h5 e
 replace hs := Sat.wra hs (i := 0) .z e (by simp [zeros, hIl])
 clear e
 simp only [put_zero] at hs
 refine over_sp 92 hs (by decide) (fun h' hs' => hs'.sv (i := 2) (.s (.s .z))) ?_
 intro p6 c6 h6 hs
 rw [← xM_ov 92 hkl] at hs
 refine ⟨_, hs.bv (i := 1) (l := 32) (.s .z) (by simp [hIl]) (ints_one _ _), ?_⟩
 refine Sat.app hs (i := 0) (vs := ints .u8 I) .z (by simp [hIl]) rfl (ints_one _ _) (by decide) ?_
 intro p7 c7 h7 hs
 simp only [put_zero] at hs
 rw [← intsApp] at hs
 refine rof_sp (ms := outerM key ++ I) hs (isBy_app bo hIb) (by decide) (fun h' hs' => hs'.sv (i := 0) .z) ?_
 intro h8 hs
 have em : shaM (outerM key ++ I) = macM key b := by unfold macM; rw [hI]
 rw [em]
 refine ⟨Sat.can hs (i := 4) (.s (.s (.s (.s .z)))) (by simp [zeros]), ?_⟩
 intro h9 e
 replace hs := Sat.wra hs (i := 4) (.s (.s (.s (.s .z)))) e (by simp [zeros, macM_len])
 clear e
 simp only [put_succ, put_zero] at hs
 exact ⟨_, macM_len _ _, hs.row0 (i := 4) (.s (.s (.s (.s .z)))), k _ hs.drop.drop.drop.drop.drop⟩
end
end Go.Proofs.YteedolonhdbieaaGreatDoor
end
