/- StreamDoes and its parts, laid together by a program of ours: Im1 Im2 Gt1 Im3 Gt2 Gt3 GtW Tq5 St7 St8 Gt6 Sp0 Gt8 GtA Sp1 -/
import Derived.Test.YteedolonhdbieaaGreatDoorK14
set_option autoImplicit false
set_option linter.all false
section
namespace Go.Proofs.YteedolonhdbieaaGreatDoor
open Go Go.Vc
set_option maxRecDepth 100000
theorem b64_ofNat (n : Nat) : b64 (n : Int) = BitVec.ofNat 64 n := by
 apply BitVec.eq_of_toNat_eq
 simp only [BitVec.toNat_ofInt, BitVec.toNat_ofNat]; omega
theorem or_low {x y : Int} (k : Nat) (hx : 0 ≤ x /\ x < 2 ^ k) (hy : 0 ≤ y) (hxy : x + y * 2 ^ k < 2 ^ 63) : bits .or .i64 x (y * 2 ^ k) = x + y * 2 ^ k := by
 obtain ⟨a, rfl⟩ := Int.eq_ofNat_of_zero_le hx.1
 obtain ⟨b, rfl⟩ := Int.eq_ofNat_of_zero_le hy
 have ha : a < 2 ^ k := by have := hx.2; exact_mod_cast this
 have e1 : ((b : Int) * 2 ^ k) = ((b * 2 ^ k : Nat) : Int) := by simp
 rw [e1] at hxy ⊢
 have : bits .or .i64 (a : Int) ((b * 2 ^ k : Nat) : Int) = IntKind.i64.wrap ((b64 (a : Int) ||| b64 ((b * 2 ^ k : Nat) : Int)).toNat : Int) := rfl
 rw [this, b64_ofNat, b64_ofNat]
 have e2 : a ||| (b * 2 ^ k) = a + b * 2 ^ k := by
  have := Nat.shiftLeft_add_eq_or_of_lt ha b
  rw [Nat.shiftLeft_eq] at this
  rw [Nat.or_comm, ← this]; omega
 have e3 : (BitVec.ofNat 64 a ||| BitVec.ofNat 64 (b * 2 ^ k)).toNat = a + b * 2 ^ k := by
  rw [BitVec.toNat_or, BitVec.toNat_ofNat, BitVec.toNat_ofNat, Nat.mod_eq_of_lt (by omega), Nat.mod_eq_of_lt (by omega), e2]
 rw [e3, IntKind.wrap_i64]; omega
def num4 (bs : List Int) (o : Nat) : Int := bs.getD o 0 + 256 * bs.getD (o + 1) 0 + 65536 * bs.getD (o + 2) 0 + 16777216 * bs.getD (o + 3) 0
theorem or4 {a b c d : Int} (ha : isByte a) (hb : isByte b) (hc : isByte c) (hd : isByte d) :
  bits .or .i64 (bits .or .i64 (bits .or .i64 (IntKind.i64.wrap a) (IntKind.i64.wrap (IntKind.i64.wrap b * 2 ^ 8))) (IntKind.i64.wrap (IntKind.i64.wrap c * 2 ^ 16))) (IntKind.i64.wrap (IntKind.i64.wrap d * 2 ^ 24)) = a + 256 * b + 65536 * c + 16777216 * d := by
 obtain ⟨a1, a2⟩ := ha; obtain ⟨b1, b2⟩ := hb; obtain ⟨c1, c2⟩ := hc; obtain ⟨d1, d2⟩ := hd
 have w : ∀ n : Int, 0 ≤ n /\ n < 2 ^ 40 -> IntKind.i64.wrap n = n := fun n hn => by rw [IntKind.wrap_i64]; omega
 rw [w a (by omega), w b (by omega), w c (by omega), w d (by omega), w (b * 2 ^ 8) (by omega), w (c * 2 ^ 16) (by omega), w (d * 2 ^ 24) (by omega)]
 rw [or_low 8 (by omega) b1 (by omega), or_low 16 (by omega) c1 (by omega), or_low 24 (by omega) d1 (by omega)]
 omega
theorem num4_range {bs : List Int} (hb : bytesOk bs) (o : Nat) : 0 ≤ num4 bs o /\ num4 bs o < 2 ^ 32 := by
 have g : ∀ x, isByte (bs.getD x 0) := fun x => by
  rw [List.getD_eq_getElem?_getD]
  cases e : bs[x]? with
  | none => exact ⟨by decide, by decide⟩
  | some v => exact hb v (List.mem_iff_getElem?.2 ⟨x, e⟩)
 have g0 := g o; have g1 := g (o + 1); have g2 := g (o + 2); have g3 := g (o + 3)
 unfold isByte at *
 unfold num4; omega
theorem byte_getD {bs : List Int} (hb : bytesOk bs) (x : Nat) : isByte (bs.getD x 0) := by
 rw [List.getD_eq_getElem?_getD]
 cases e : bs[x]? with
 | none => exact ⟨by decide, by decide⟩
 | some v => exact hb v (List.mem_iff_getElem?.2 ⟨x, e⟩)
theorem sub_rd {h : H} {q : Option Addr} {l o n m : Nat} {k : IntKind} {bs : List Int} (rd : hsv h q 1 l (ints k bs)) (ho : o + n ≤ l) (hm : m = o -> n = 0) : hsv h (subAddr q o m 1) 1 n (ints k ((bs.drop o).take n)) := by
 have hl : bs.length = l := by have := rd.1; simpa using this
 refine ⟨by rw [ints_length, List.length_take, List.length_drop]; omega, ints_one _ _, ?_⟩
 by_cases c : n = 0
 ·subst c; exact Or.inl rfl
 unfold subAddr
 rw [if_neg (fun y => c (hm y))]
 obtain ⟨_, _, rd⟩ := rd
 rcases rd with rd | ⟨q', rfl, g⟩
 ·have := congrArg List.length rd
  rw [ints_length, List.length_nil] at this; omega
 ·refine Or.inr ⟨_, rfl, ?_⟩
  intro i v hv
  have hi : i < n := by
   have h1 : i < (ints k ((bs.drop o).take n)).length := (List.getElem?_eq_some_iff.1 hv).1
   rw [ints_length, List.length_take] at h1
   exact Nat.lt_of_lt_of_le h1 (Nat.min_le_left _ _)
  have e := g (o + i) v (by
   rw [ints_get] at hv ⊢
   rw [List.getElem?_take_of_lt hi, List.getElem?_drop] at hv
   exact hv)
  rw [Nat.mul_one, add_add]
  exact e
theorem drop_getD (bs : List Int) (o n x : Nat) (hx : x < n) : ((bs.drop o).take n).getD x 0 = bs.getD (o + x) 0 := by
 rw [List.getD_eq_getElem?_getD, List.getD_eq_getElem?_getD, List.getElem?_take_of_lt hx, List.getElem?_drop]
theorem drop_bytes {bs : List Int} (hb : bytesOk bs) (o n : Nat) : bytesOk ((bs.drop o).take n) := fun v hv => hb v (List.mem_of_mem_drop (List.mem_of_mem_take hv))
theorem num4_drop (bs : List Int) (o n : Nat) (hn : 4 ≤ n) : num4 ((bs.drop o).take n) 0 = num4 bs o := by
 unfold num4
 rw [drop_getD _ _ _ _ (by omega), drop_getD _ _ _ _ (by omega), drop_getD _ _ _ _ (by omega), drop_getD _ _ _ _ (by omega)]
 rfl
def markB (x : Nat) : Int := (((ByteArray.mk #[80, 67, 85, 76]).data.toList.getD x 0).toNat : Int)
def mayB (x : Nat) (c : Int) : Bool := if x < 4 then c == markB x else if x = 4 then c == 1 else if x = 5 then decide (c < 8) else if x = 6 then decide (c < 64) else if x = 7 then c == 0 else true
def headW (bs : List Int) : Nat -> Nat -> Option (Int × Int)
 | 0, _ => none
 | m + 1, x => if x = bs.length then some (6, x) else if mayB x (bs.getD x 0) = true then headW bs m (x + 1) else some (5, x)
def parseW (bs : List Int) : Int × Int :=
 if 524288 < bs.length then (4, 524288) else match headW bs 16 0 with
 | some w => w
 | none => if 524240 < num4 bs 12 then (5, 12) else if (bs.length : Int) < 48 + num4 bs 12 then (6, bs.length) else if 48 + num4 bs 12 < bs.length then (7, 48 + num4 bs 12) else (0, 0)
section
variable {h0 h : H} {A : List Ent} {i j p r b : Nat}
theorem number_sp {Q : Int -> H -> Prop} {q : Option Addr} {l c : Nat} {bs : List Int} (rd : hsv h q 1 l (ints .u8 bs)) (hb : bytesOk bs) (hl : 4 ≤ l) (k : Q (num4 bs 0) h) : F_image_number q l c Q h := by
 unfold F_image_number G_image_number
 have g : ∀ x, x < l -> ∃ q', q = some q' /\ hc h (q'.add x) = some (.int .u8 (bs.getD x 0)) := fun x hx => hsv_int rd hx
 obtain ⟨q0, e0, g0⟩ := g 0 (by omega)
 obtain ⟨q1, e1, g1⟩ := g 1 (by omega)
 obtain ⟨q2, e2, g2⟩ := g 2 (by omega)
 obtain ⟨q3, e3, g3⟩ := g 3 (by omega)
 rw [add_zero] at g0
 refine ⟨_, e0, by omega, by omega, _, g0, _, e1, by omega, by omega, _, g1, by omega, _, e2, by omega, by omega, _, g2, by omega, _, e3, by omega, by omega, _, g3, by omega, ?_⟩
 rw [or4 (byte_getD hb _) (byte_getD hb _) (byte_getD hb _) (byte_getD hb _)]
 exact k
theorem rnumber_sp {Q : Int -> H -> Prop} {q : Option Addr} {l c : Nat} {bs : List Int} (rd : hsv h q 1 l (ints .u8 bs)) (hb : bytesOk bs) (hl : 4 ≤ l) (k : Q (num4 bs 0) h) : F_portcullisref11_number q l c Q h := by
 unfold F_portcullisref11_number G_portcullisref11_number
 intro J hJ
 have g : ∀ x, x < l -> ∃ q', q = some q' /\ hc h (q'.add x) = some (.int .u8 (bs.getD x 0)) := fun x hx => hsv_int rd hx
 have S : ∀ n, n ≤ 4 -> 0 ≤ n -> True := fun _ _ _ => trivial
 have key : num4 bs 0 = gotI bs 4 := by
  have e0 : bits .or .i64 0 (IntKind.i64.wrap (IntKind.i64.wrap (bs.getD 0 0) * 2 ^ (8 * 0))) = IntKind.i64.wrap (bs.getD 0 0) := by
   have := byte_getD hb 0
   unfold isByte at this
   have w : IntKind.i64.wrap (bs.getD 0 0) = bs.getD 0 0 := by rw [IntKind.wrap_i64]; omega
   rw [w]
   have e : IntKind.i64.wrap (bs.getD 0 0 * 2 ^ (8 * 0)) = bs.getD 0 0 * 2 ^ 0 := by rw [IntKind.wrap_i64]; omega
   rw [e, or_low 0 (by omega) this.1 (by omega)]; omega
  unfold gotI gotI gotI gotI gotI
  rw [e0]
  exact (or4 (byte_getD hb _) (byte_getD hb _) (byte_getD hb _) (byte_getD hb _)).symm
 rw [key] at k
 refine loop_st 4 (fun n (x : Int) => [.dv (.one (.int .i64 x)), si n]) (fun n x h' => h' = h /\ x = gotI bs n) ?_ ?_ 0 0 _ (by omega) ⟨rfl, rfl⟩
 ·rintro n x h1 hn ⟨rfl, rfl⟩ hk
  apply hJ
  rw [ltI_eq, if_pos (by simp; omega)]
  obtain ⟨q1, e1, g1⟩ := g n (by omega)
  have e8 : IntKind.i64.wrap (8 * (n : Int)) = ((8 * n : Nat) : Int) := by rw [wrap_id (by omega)]; omega
  refine ⟨_, e1, by omega, by omega, _, by rw [Int.toNat_natCast, Nat.mul_one]; exact g1, by rw [e8]; omega, ?_⟩
  rw [wrap_succ (by omega), step8_eq (by omega)]
  exact hk _ _ ⟨rfl, rfl⟩
 ·rintro x h1 ⟨rfl, rfl⟩
  apply hJ
  rw [ltI_eq, if_neg (by simp)]
  exact k
theorem may_sp {Q : Bool -> H -> Prop} (x : Nat) (c : Int) (k : Q (mayB x c) h) : F_image_may (x : Int) c Q h := by
 unfold F_image_may G_image_may
 unfold mayB at k
 by_cases g : x < 4
 ·rw [if_pos g] at k
  rw [ltI_eq, if_pos (by simp; omega)]
  refine ⟨by omega, by omega, ?_⟩
  rw [Int.toNat_natCast]; exact k
 rw [if_neg g] at k
 rw [ltI_eq, if_neg (by simp; omega)]
 by_cases g4 : x = 4
 ·rw [if_pos g4] at k; rw [if_pos (by simp; omega)]; exact k
 rw [if_neg g4] at k; rw [if_neg (by simp; omega)]
 by_cases g5 : x = 5
 ·rw [if_pos g5] at k; rw [if_pos (by simp; omega), ltI_eq]; exact k
 rw [if_neg g5] at k; rw [if_neg (by simp; omega)]
 by_cases g6 : x = 6
 ·rw [if_pos g6] at k; rw [if_pos (by simp; omega), ltI_eq]; exact k
 rw [if_neg g6] at k; rw [if_neg (by simp; omega)]
 by_cases g7 : x = 7
 ·rw [if_pos g7] at k; rw [if_pos (by simp; omega)]; exact k
 rw [if_neg g7] at k; rw [if_neg (by simp; omega)]
 exact k
theorem rmust_sp {Q : Bool -> H -> Prop} (x : Nat) (c : Int) (k : Q (mayB x c) h) : F_portcullisref11_must (x : Int) c Q h := by
 unfold F_portcullisref11_must G_portcullisref11_must
 intro J hJ
 have way : ∀ bb : Bool, (bb = true ↔ x < 4) -> J [.dv (.one (.bool bb))] h := by
  intro bb hbb
  apply hJ
  unfold mayB at k
  by_cases g : x < 4
  ·rw [if_pos g] at k
   rw [if_pos (hbb.2 g)]
   refine ⟨by omega, by omega, ?_⟩
   rw [Int.toNat_natCast]; exact k
  rw [if_neg g] at k
  rw [if_neg (fun y => g (hbb.1 y))]
  by_cases g4 : x = 4
  ·rw [if_pos g4] at k; rw [if_pos (by simp; omega)]; exact k
  rw [if_neg g4] at k; rw [if_neg (by simp; omega)]
  by_cases g5 : x = 5
  ·rw [if_pos g5] at k; rw [if_pos (by simp; omega), ltI_eq]; exact k
  rw [if_neg g5] at k; rw [if_neg (by simp; omega)]
  by_cases g6 : x = 6
  ·rw [if_pos g6] at k; rw [if_pos (by simp; omega), ltI_eq]; exact k
  rw [if_neg g6] at k; rw [if_neg (by simp; omega)]
  by_cases g7 : x = 7
  ·rw [if_pos g7] at k; rw [if_pos (by simp; omega)]; exact k
  rw [if_neg g7] at k; rw [if_neg (by simp; omega)]
  exact k
 by_cases g0 : x = 0
 ·rw [if_pos (by simp; omega)]; exact way _ (by simp; omega)
 rw [if_neg (by simp; omega)]
 by_cases g1 : x = 1
 ·rw [if_pos (by simp; omega)]; exact way _ (by simp; omega)
 rw [if_neg (by simp; omega)]
 by_cases g2 : x = 2
 ·rw [if_pos (by simp; omega)]; exact way _ (by simp; omega)
 rw [if_neg (by simp; omega)]
 exact way _ (by simp; omega)
end
abbrev imgL (a b v : Int) (x : Sl) (t : List Int) : List Value := .int .i64 a :: .int .i64 b :: .int .i64 v :: x.v :: ints .u8 t
section
variable {h0 h : H} {A : List Ent} {i j p r b : Nat}
theorem img_len {a b v : Int} {x : Sl} {t : List Int} (ht : t.length = 32) : (imgL a b v x t).length = 36 := by simp [ht]
theorem img_row {a b' v : Int} {x : Sl} {t : List Int} (hs : Sat h0 A h) (m : At A i (blk b (imgL a b' v x t))) (ht : t.length = 32) : hrow h ⟨b, 4, none⟩ .u8 t := by
 refine hs.cs m ?_
 show (ints .u8 t).take (ints .u8 t).length = _
 rw [List.take_length]
theorem img_s4 {a b' v : Int} {x : Sl} {u : List Int} (hu : u.length = 32) : splice (imgL a b' v x (zeros 32)) 4 (ints .u8 u) = imgL a b' v x u := by
 have e : imgL a b' v x (zeros 32) = [.int .i64 a, .int .i64 b', .int .i64 v, x.v] ++ ints .u8 (zeros 32) := rfl
 have e2 : ∀ (vs xs : List Value) (o : Nat) (pre : List Value), splice (pre ++ vs) (pre.length + o) xs = pre ++ splice vs o xs := by
  intro vs xs
  induction xs generalizing vs with
  | nil => intro o pre; rfl
  | cons y ys ih =>
   intro o pre
   rw [splice_cons, splice_cons, set_app pre vs [], Nat.add_assoc]
   exact ih (vs.set o y) (o + 1) pre
 rw [e]
 have := e2 (ints .u8 (zeros 32)) (ints .u8 u) 0 [.int .i64 a, .int .i64 b', .int .i64 v, x.v]
 rw [splice_all _ _ (by simp [hu])] at this
 exact this
theorem Parse_sp {Q : Int -> Int -> Int -> Option Addr -> Nat -> Nat -> List Int -> Value -> H -> Prop} {q : Option Addr} {l c : Nat} {bs : List Int} (hs : Sat h0 A h) (rd : ∀ h', Sat h0 A h' -> hsv h' q 1 l (ints .u8 bs)) (hb : bytesOk bs) (hlc : l ≤ c) (hl : l < 2 ^ 50)
  (k1 : ∀ e at_ w h', parseW bs = (e, at_) -> e ≠ 0 -> Sat h0 (blk w [.int .i64 e, .int .i64 at_] :: A) h' -> Q 0 0 0 none 0 0 (zeros 32) (.iface 162 (.pointer (some ⟨w, 0, none⟩))) h')
  (k2 : ∀ (own : Sl) (n : Nat) h', parseW bs = (0, 0) -> num4 bs 12 = n -> Sat h0 (sE own 1 (ints .u8 bs) :: A) h' -> Q (bs.getD 5 0) (bs.getD 6 0) (num4 bs 8) (subAddr own.1 16 (16 + n) 1) n n ((bs.drop (16 + n)).take 32) .nilIface h') :
  F_image_Parse q l c Q h := by
 unfold F_image_Parse G_image_Parse
 try simp only [add_mk, Nat.zero_add, List.append_nil]
 have hbl : bs.length = l := by have := (rd _ hs).1; simpa using this
 intro n7 _ hn; replace hs := Sat.new hs hn
 replace hs : Sat h0 (blk n7 (imgL 0 0 0 (none, 0, 0) (zeros 32)) :: A) _ := hs
 have bad : ∀ e at_ h', parseW bs = (e, at_) -> e ≠ 0 -> Sat h0 (blk n7 (imgL 0 0 0 (none, 0, 0) (zeros 32)) :: A) h' -> ∀ (n10 : Nat) (h11 : H), hnew h' n10 [.int .i64 e, .int .i64 at_] h11 -> hcan h11 ⟨n7, 0, none⟩ 36 /\ ∀ h13, h13 = hwr h11 ⟨n7, 0, none⟩ (imgL 0 0 0 (none, 0, 0) (zeros 32)) ->
   ∃ i15 : Int, hc h13 ⟨n7, 0, none⟩ = some (.int .i64 i15) /\ ∃ i16 : Int, hc h13 ⟨n7, 1, none⟩ = some (.int .i64 i16) /\ ∃ i17 : Int, hc h13 ⟨n7, 2, none⟩ = some (.int .i64 i17) /\ ∃ (o18 : Option Addr) (n19 n20 : Nat), hc h13 ⟨n7, 3, none⟩ = some (.slice o18 n19 n20) /\
    ∃ l21 : List Int, l21.length = 32 /\ hrow h13 ⟨n7, 4, none⟩ .u8 l21 /\ Q i15 i16 i17 o18 n19 n20 l21 (.iface 162 (.pointer (some ⟨n10, 0, none⟩))) h13 := by
  intro e at_ h' hw he hs n10 h11 hn
  replace hs := Sat.new hs hn
  refine ⟨Sat.can hs zs1 (by decide), ?_⟩
  intro h13 e13
  replace hs := Sat.wra hs zs1 e13 rfl
  simp only [put] at hs
  refine ⟨_, Sat.ld hs zs1 rfl, _, Sat.ld hs zs1 rfl, _, Sat.ld hs zs1 rfl, _, _, _, Sat.ld hs zs1 rfl, _, rfl, img_row hs zs1 rfl, ?_⟩
  exact k1 e at_ n10 _ hw he (hs.sub (by (repeat (first | exact List.Sublist.refl _ | apply List.Sublist.cons_cons | apply List.Sublist.cons))))
 by_cases g1 : 524288 < l
 ·rw [ltI_eq, if_pos (by simp; omega)]
  exact bad _ _ _ (by unfold parseW; rw [if_pos (by omega)]) (by decide) hs
 rw [ltI_eq, if_neg (by simp; omega)]
 have hP : parseW bs = match headW bs 16 0 with
  | some w => w
  | none => if 524240 < num4 bs 12 then (5, 12) else if (bs.length : Int) < 48 + num4 bs 12 then (6, bs.length) else if 48 + num4 bs 12 < bs.length then (7, 48 + num4 bs 12) else (0, 0) := by
  unfold parseW; rw [if_neg (by omega)]; try rfl
 clear k1
 generalize hW : headW bs 16 0 = W at hP
 intro J hJ
 refine loop_up 16 (fun x h => Sat h0 (blk n7 (imgL 0 0 0 (none, 0, 0) (zeros 32)) :: A) h /\ W = headW bs (16 - x) x /\ x ≤ l) ?_ ?_ 0 _ (by omega) ⟨hs, hW.symm, by omega⟩
 ·rintro x h1 hx ⟨hs, hh, hxl⟩ hk
  apply hJ
  rw [ltI_eq, if_pos (by simp; omega)]
  obtain ⟨m, hm⟩ : ∃ m, 16 - x = m + 1 := ⟨16 - x - 1, by omega⟩
  rw [hm] at hh
  unfold headW at hh
  by_cases g2 : x = l
  ·rw [if_pos (show x = bs.length by omega)] at hh
   rw [if_pos (by simp; omega)]
   exact bad 6 x _ (by rw [hP, hh]) (by decide) hs
  rw [if_neg (show ¬ x = bs.length by omega)] at hh
  rw [if_neg (by simp; omega)]
  obtain ⟨q', hq, g⟩ := hsv_int (rd _ hs.drop) (x := x) (by omega)
  refine ⟨_, hq, by omega, by omega, _, by rw [Int.toNat_natCast, Nat.mul_one]; exact g, ?_⟩
  refine may_sp x _ ?_
  by_cases g3 : mayB x (bs.getD x 0) = true
  ·rw [if_pos g3] at hh
   rw [if_neg (by rw [g3]; decide), wrap_succ (by omega)]
   exact hk _ ⟨hs, by rw [hh, show 16 - (x + 1) = m by omega], by omega⟩
  ·rw [if_neg g3] at hh
   rw [if_pos (by rw [Bool.not_eq_true] at g3; rw [g3]; rfl)]
   exact bad 5 x _ (by rw [hP, hh]) (by decide) hs
 rintro h1 ⟨hs, hh, hxl⟩
 apply hJ
 rw [ltI_eq, if_neg (by simp)]
 clear hJ J
 have hh : W = none := hh
 rw [hh] at hP
 dsimp only at hP
 refine ⟨by omega, by omega, ?_⟩
 have rd12 := sub_rd (o := 12) (n := l - 12) (m := c) (rd _ hs.drop) (by omega) (by omega)
 refine number_sp rd12 (drop_bytes hb _ _) (by omega) ?_
 rw [num4_drop _ _ _ (by omega)]
 obtain ⟨r1, r2⟩ := num4_range hb 12
 obtain ⟨n, hnn⟩ := Int.eq_ofNat_of_zero_le r1
 rw [hnn] at hP r2 ⊢
 have ew : IntKind.i64.wrap (16 + (n : Int)) = ((16 + n : Nat) : Int) := by rw [wrap_id (by omega)]; omega
 have ew2 : IntKind.i64.wrap (((16 + n : Nat) : Int) + 32) = ((48 + n : Nat) : Int) := by rw [wrap_id (by omega)]; omega
 rw [ew, ew2]
 by_cases g2 : 524240 < n
 ·rw [if_pos (by omega)] at hP
  rw [ltI_eq, if_pos (by simp; omega)]
  exact bad 5 12 _ hP (by decide) hs
 rw [if_neg (by omega)] at hP
 rw [ltI_eq, if_neg (by simp; omega)]
 by_cases g3 : l < 48 + n
 ·rw [if_pos (by omega), hbl] at hP
  rw [ltI_eq, if_pos (by simp; omega)]
  exact bad 6 l _ hP (by decide) hs
 rw [if_neg (by omega)] at hP
 rw [ltI_eq, if_neg (by simp; omega)]
 by_cases g4 : 48 + n < l
 ·rw [if_pos (by omega)] at hP
  rw [ltI_eq, if_pos (by simp; omega)]
  exact bad 7 _ _ (by rw [hP]; congr 1) (by decide) hs
 rw [if_neg (by omega)] at hP
 rw [ltI_eq, if_neg (by simp; omega)]
 have hw := hP
 clear bad hP
 have hl48 : l = 48 + n := by omega
 refine ⟨_, rd _ hs.drop, ?_⟩
 refine Sat.app_new hs (by simp [hbl]) rfl (ints_one _ _) (by omega) ?_
 intro o c2 h2 hs
 obtain ⟨own, hown⟩ : ∃ own : Sl, own = (o, l, c2) := ⟨_, rfl⟩
 have hcap := sl_cap hs .z
 replace hs : Sat h0 (sE own 1 (ints .u8 bs) :: blk n7 (imgL 0 0 0 (none, 0, 0) (zeros 32)) :: A) h2 := by rw [hown]; exact hs
 have eo1 : o = own.1 := by rw [hown]
 have eo2 : own.2.1 = l := by rw [hown]
 rw [eo1]
 have B : ∀ x, x < l -> ∀ {A' : List Ent} {h' : H}, Sat h0 A h' -> ∃ q', q = some q' /\ hc h' (q'.add x) = some (.int .u8 (bs.getD x 0)) := fun x hx A' h' hs' => hsv_int (rd _ hs') hx
 obtain ⟨q', hq, g5⟩ := hsv_int (rd _ hs.drop.drop) (x := 5) (by omega)
 obtain ⟨q2, hq2, g6⟩ := hsv_int (rd _ hs.drop.drop) (x := 6) (by omega)
 rw [hq] at hq2
 injection hq2 with hq2
 subst hq2
 have c5 : ∀ h', Sat h0 A h' -> hcs h' (q'.add 5) [.int .u8 (bs.getD 5 0)] := fun h' hs' => by
  obtain ⟨q2, hq2, g⟩ := hsv_int (rd _ hs') (x := 5) (by omega)
  rw [hq] at hq2; injection hq2 with hq2; subst hq2; exact hcs_one g
 have c6 : ∀ h', Sat h0 A h' -> hcs h' (q'.add 6) [.int .u8 (bs.getD 6 0)] := fun h' hs' => by
  obtain ⟨q2, hq2, g⟩ := hsv_int (rd _ hs') (x := 6) (by omega)
  rw [hq] at hq2; injection hq2 with hq2; subst hq2; exact hcs_one g
 have b5 := byte_getD hb 5
 have b6 := byte_getD hb 6
 unfold isByte at b5 b6
 have w5 : IntKind.i64.wrap (bs.getD 5 0) = bs.getD 5 0 := by rw [IntKind.wrap_i64]; omega
 have w6 : IntKind.i64.wrap (bs.getD 6 0) = bs.getD 6 0 := by rw [IntKind.wrap_i64]; omega
 have ht32 : ((bs.drop (16 + n)).take 32).length = 32 := by rw [List.length_take, List.length_drop]; omega
 refine ⟨_, hq, by omega, by omega, _, g5, _, hq, by omega, by omega, _, g6, by omega, by omega, by omega, by omega, by omega, by omega, ?_⟩
 rw [Int.toNat_natCast, Nat.add_sub_cancel_left]
 have rd8 : ∀ h', Sat h0 A h' -> hsv h' (subAddr q 8 c 1) 1 (l - 8) (ints .u8 ((bs.drop 8).take (l - 8))) := fun h' hs' => sub_rd (o := 8) (n := l - 8) (m := c) (rd _ hs') (by omega) (by omega)
 rw [w5, w6, show Nat.min (l - (16 + n)) 32 = 32 by show min _ _ = _; omega]
 constructor
 ·refine number_sp (rd8 _ hs.drop.drop) (drop_bytes hb _ _) (by omega) ?_
  rw [num4_drop _ _ _ (by omega)]
  refine ⟨c6 _ hs.drop.drop, c5 _ hs.drop.drop, ?_⟩
  intro nb _ hn; replace hs := Sat.new hs hn
  refine ⟨c6 _ hs.drop.drop.drop, c5 _ hs.drop.drop.drop, ?_⟩
  (refine ⟨Sat.can hs .z (by decide), ?_⟩; intro h20 e20; replace hs := Sat.wra hs .z e20 (by rfl); clear e20; simp only [put] at hs; replace hs : Sat h0 (blk nb (imgL (bs.getD 5 0) (bs.getD 6 0) (num4 bs 8) (subAddr own.1 16 (16 + n) 1, n, n) (zeros 32)) :: sE own 1 (ints .u8 bs) :: blk n7 (imgL 0 0 0 (none, 0, 0) (zeros 32)) :: A) h20 := hs; refine ⟨by omega, by omega, _, sub_rd (n := 32) (hs.sv zs1) (by omega) (by omega), Or.inr ⟨_, rfl, Sat.can hs .z (by rw [img_len rfl]; decide)⟩, ?_⟩; intro h21 e21; replace hs := Sat.wr hs .z (o := 4) e21; clear e21; rw [img_s4 (by rw [List.length_take, List.length_drop]; omega)] at hs; simp only [put] at hs; refine ⟨_, Sat.ld hs .z rfl, _, Sat.ld hs .z rfl, _, Sat.ld hs .z rfl, _, _, _, Sat.ld hs .z rfl, _, ht32, img_row hs .z ht32, Sat.can hs zs2 (by decide), ?_⟩; intro h22 e22; replace hs := Sat.wra hs zs2 e22 (by rw [img_len ht32]; rfl); clear e22; simp only [put] at hs; replace hs : Sat h0 (blk nb (imgL (bs.getD 5 0) (bs.getD 6 0) (num4 bs 8) (subAddr own.1 16 (16 + n) 1, n, n) ((bs.drop (16 + n)).take 32)) :: sE own 1 (ints .u8 bs) :: blk n7 (imgL (bs.getD 5 0) (bs.getD 6 0) (num4 bs 8) (subAddr own.1 16 (16 + n) 1, n, n) ((bs.drop (16 + n)).take 32)) :: A) h22 := hs; refine ⟨_, Sat.ld hs zs2 rfl, _, Sat.ld hs zs2 rfl, _, Sat.ld hs zs2 rfl, _, _, _, Sat.ld hs zs2 rfl, _, ht32, img_row hs zs2 ht32, ?_⟩; exact k2 own n _ hw hnn (hs.sub (by (repeat (first | exact List.Sublist.refl _ | apply List.Sublist.cons_cons | apply List.Sublist.cons)))))
 ·intro nb _ hn; replace hs := Sat.new hs hn
  refine ⟨c6 _ hs.drop.drop.drop, c5 _ hs.drop.drop.drop, ?_⟩
  refine number_sp (rd8 _ hs.drop.drop.drop) (drop_bytes hb _ _) (by omega) ?_
  rw [num4_drop _ _ _ (by omega)]
  refine ⟨c6 _ hs.drop.drop.drop, c5 _ hs.drop.drop.drop, ?_⟩
  (refine ⟨Sat.can hs .z (by decide), ?_⟩; intro h20 e20; replace hs := Sat.wra hs .z e20 (by rfl); clear e20; simp only [put] at hs; replace hs : Sat h0 (blk nb (imgL (bs.getD 5 0) (bs.getD 6 0) (num4 bs 8) (subAddr own.1 16 (16 + n) 1, n, n) (zeros 32)) :: sE own 1 (ints .u8 bs) :: blk n7 (imgL 0 0 0 (none, 0, 0) (zeros 32)) :: A) h20 := hs; refine ⟨by omega, by omega, _, sub_rd (n := 32) (hs.sv zs1) (by omega) (by omega), Or.inr ⟨_, rfl, Sat.can hs .z (by rw [img_len rfl]; decide)⟩, ?_⟩; intro h21 e21; replace hs := Sat.wr hs .z (o := 4) e21; clear e21; rw [img_s4 (by rw [List.length_take, List.length_drop]; omega)] at hs; simp only [put] at hs; refine ⟨_, Sat.ld hs .z rfl, _, Sat.ld hs .z rfl, _, Sat.ld hs .z rfl, _, _, _, Sat.ld hs .z rfl, _, ht32, img_row hs .z ht32, Sat.can hs zs2 (by decide), ?_⟩; intro h22 e22; replace hs := Sat.wra hs zs2 e22 (by rw [img_len ht32]; rfl); clear e22; simp only [put] at hs; replace hs : Sat h0 (blk nb (imgL (bs.getD 5 0) (bs.getD 6 0) (num4 bs 8) (subAddr own.1 16 (16 + n) 1, n, n) ((bs.drop (16 + n)).take 32)) :: sE own 1 (ints .u8 bs) :: blk n7 (imgL (bs.getD 5 0) (bs.getD 6 0) (num4 bs 8) (subAddr own.1 16 (16 + n) 1, n, n) ((bs.drop (16 + n)).take 32)) :: A) h22 := hs; refine ⟨_, Sat.ld hs zs2 rfl, _, Sat.ld hs zs2 rfl, _, Sat.ld hs zs2 rfl, _, _, _, Sat.ld hs zs2 rfl, _, ht32, img_row hs zs2 ht32, ?_⟩; exact k2 own n _ hw hnn (hs.sub (by (repeat (first | exact List.Sublist.refl _ | apply List.Sublist.cons_cons | apply List.Sublist.cons)))))
end
end Go.Proofs.YteedolonhdbieaaGreatDoor
end
section
namespace Go.Proofs.YteedolonhdbieaaGreatDoor
open Go Go.Vc
set_option maxRecDepth 100000
attribute [local irreducible] macM
def gateM (C : Cm) (L : List Sec) (bs : List Int) : Int :=
 if C.out = true then 8 else if (parseW bs).1 ≠ 0 then (parseW bs).1
 else if C.cfg.slots ≤ bs.getD 5 0 then 5
 else match L.find? (fun x => x.1 == bs.getD 6 0) with
  | none => 13
  | some s => if C.cfg.keys ≤ bs.getD 6 0 then 13 else if (revokedM C (bs.getD 6 0)).1 = true then 14
   else if macM s.2 (bs.take (bs.length - 32)) ≠ (bs.drop (bs.length - 32)).take 32 then 15
   else if num4 bs 8 < (sRead C (bs.getD 5 0)).1 then 16 else if lastM C.cfg < num4 bs 8 then 16 else 0
theorem head_all {bs : List Int} : ∀ (m x : Nat), headW bs m x = none -> ∀ y, x ≤ y -> y < x + m -> mayB y (bs.getD y 0) = true
 | 0, x, _, y, h1, h2 => by omega
 | m + 1, x, h, y, h1, h2 => by
  unfold headW at h
  by_cases c : x = bs.length
  ·rw [if_pos c] at h; cases h
  rw [if_neg c] at h
  by_cases g : mayB x (bs.getD x 0) = true
  ·rw [if_pos g] at h
   by_cases e : y = x
   ·rw [e]; exact g
   ·exact head_all m (x + 1) h y (by omega) (by omega)
  ·rw [if_neg g] at h; cases h
theorem parse_ok {bs : List Int} (hb : bytesOk bs) {n : Nat} (h : parseW bs = (0, 0)) (hn : num4 bs 12 = n) : bs.length = 48 + n /\ (0 ≤ bs.getD 5 0 /\ bs.getD 5 0 < 8) /\ (0 ≤ bs.getD 6 0 /\ bs.getD 6 0 < 64) /\ n ≤ 524240 := by
 unfold parseW at h
 by_cases c1 : 524288 < bs.length
 ·rw [if_pos c1] at h; injection h with h; cases h
 rw [if_neg c1] at h
 have hh : headW bs 16 0 = none := by
  cases e : headW bs 16 0 with
  | none => rfl
  | some w =>
   rw [e] at h
   dsimp only at h
   exfalso
   have key : ∀ m x, headW bs m x = some w -> w.1 ≠ 0 := by
    intro m
    induction m with
    | zero => intro x y; cases y
    | succ m ih =>
     intro x y
     unfold headW at y
     by_cases c : x = bs.length
     ·rw [if_pos c] at y; injection y with y; rw [← y]; exact (by decide : (6 : Int) ≠ 0)
     rw [if_neg c] at y
     by_cases g : mayB x (bs.getD x 0) = true
     ·rw [if_pos g] at y; exact ih _ y
     ·rw [if_neg g] at y; injection y with y; rw [← y]; exact (by decide : (5 : Int) ≠ 0)
   have := key 16 0 e
   rw [h] at this
   exact this rfl
 rw [hh] at h
 dsimp only at h
 have m5 := head_all 16 0 hh 5 (by decide) (by decide)
 have m6 := head_all 16 0 hh 6 (by decide) (by decide)
 have e5 : bs.getD 5 0 < 8 := by
  have : mayB 5 (bs.getD 5 0) = decide (bs.getD 5 0 < 8) := rfl
  rw [this] at m5; exact of_decide_eq_true m5
 have e6 : bs.getD 6 0 < 64 := by
  have : mayB 6 (bs.getD 6 0) = decide (bs.getD 6 0 < 64) := rfl
  rw [this] at m6; exact of_decide_eq_true m6
 have b5 := byte_getD hb 5
 have b6 := byte_getD hb 6
 unfold isByte at b5 b6
 rw [hn] at h
 by_cases c2 : (524240 : Int) < (n : Int)
 ·rw [if_pos c2] at h; injection h with h; cases h
 rw [if_neg c2] at h
 by_cases c3 : (bs.length : Int) < 48 + (n : Int)
 ·rw [if_pos c3] at h; injection h with h; cases h
 rw [if_neg c3] at h
 by_cases c4 : 48 + (n : Int) < bs.length
 ·rw [if_pos c4] at h; injection h with h; cases h
 exact ⟨by omega, ⟨b5.1, e5⟩, ⟨b6.1, e6⟩, by omega⟩
theorem sread_err {C : Cm} (ho : ¬ C.out = true) {slot : Int} (hs : 0 ≤ slot) : (sRead C slot).2 = if C.cfg.slots ≤ slot then 2 else 0 := by
 have a : askedM C slot C.cfg.slots = if C.cfg.slots ≤ slot then 2 else 0 := by unfold askedM; rw [if_neg ho, if_neg (by omega)]
 unfold sRead
 rw [a]
 by_cases g : C.cfg.slots ≤ slot
 ·rw [if_pos g, if_pos (by decide)]
 ·rw [if_neg g, if_neg (by decide)]
theorem callFn_of {f : FuncId} {run : Run} {c : Array Value} {ds : List DV} {Q : List DV -> H -> Prop} {h : H} (hr : RunOk PP f run) (hd : ∀ x, x ∈ ds -> x.ok) (hc : c.toList = ds.map DV.flat) (hrun : run ds Q h) : callFn PP (.func (.func f) (Array.mk []) c) [] Q h := by
 refine ⟨f, Array.mk [], c, rfl, ?_⟩
 have := hr ds Q h hd hrun
 rw [← hc] at this
 simpa using this
theorem addrs_ok (l : List Addr) : ∀ x, x ∈ l.map DV.addr -> x.ok := by
 intro x hx
 obtain ⟨a, _, rfl⟩ := List.mem_map.1 hx
 trivial
section
variable {h0 h : H} {A : List Ent} {i j p r b s m : Nat} {C : Cm}
theorem kcheck_sp {Q : Bool -> Int -> H -> Prop} {key : Int} {bb tag : List Int} {bp : Option Addr} {bl bc : Nat} {R : List SR} {x : SR} (hs : Sat h0 A h) (cr : At A i (blk r [.map (some m)])) (cm : At A j (mapE m (R.map SR.ent))) (gd : SR.good R)
  (rR : ∀ x, x ∈ R -> ∀ h', Sat h0 A h' -> hsv h' x.p 1 x.bytes.length (ints .u8 x.bytes)) (hx : SR.at_ R key = some x) (ht : tag.length = 32) (htb : isBy tag) (hbc : bl ≤ bc) (hbl : bl < 2 ^ 40)
  (rb : ∀ h', Sat h0 A h' -> hsv h' bp 1 bl (ints .u8 bb)) (k : ∀ h', Sat h0 A h' -> Q (decide (macM x.bytes bb = tag)) 0 h') : F_keys_Ring_Check ⟨r, 0, none⟩ key bp bl bc tag Q h := by
 unfold F_keys_Ring_Check G_keys_Ring_Check
 try simp only [add_mk, Nat.zero_add, List.append_nil]
 have hx2 : x ∈ R := List.mem_of_find?_eq_some hx
 have hg := gd x hx2
 have ml : mlook (.int .i64 key) (.one (.slice none 0 0)) (R.map SR.ent) = some (.one (.slice x.p x.bytes.length x.c), true) := by rw [mlook_at, hx]
 intro tb _ hn; replace hs := Sat.new hs hn
 refine sign_sp hs cr.s cm.s ml hg.2.1 (by omega) hbc hbl (fun h' hs' => rR x hx2 _ hs'.drop) (fun h' hs' => rb _ hs'.drop) ?_
 intro h3 hs
 intro nb _ hn; replace hs := Sat.new hs hn
 refine ⟨Sat.can hs .z (by simp [zeros]), ?_⟩
 intro h4 e
 replace hs := Sat.wra (xs := ints .u8 (macM x.bytes bb)) hs .z e (by simp [zeros, macM_len])
 clear e
 simp only [put_zero] at hs
 rw [if_neg (by decide)]
 refine equal_sp (isBy_mac _ _) htb (macM_len _ _) ht (hs.row0 .z) (hs.row0 zs1) ?_
 exact k _ hs.drop.drop
theorem ibody_sp {Q : Option Addr -> Nat -> Nat -> H -> Prop} {bs : List Int} {q : Option Addr} {l c : Nat} (hs : Sat h0 A h) (rd : hsv h q 1 l (ints .u8 bs)) (hl : 32 ≤ l) (hlc : l ≤ c) (hl2 : l < 2 ^ 40)
  (k : ∀ p' c' h', l - 32 ≤ c' -> Sat h0 (slE p' (l - 32) c' 1 (ints .u8 (bs.take (l - 32))) :: A) h' -> Q p' (l - 32) c' h') : F_image_Body q l c Q h := by
 unfold F_image_Body G_image_Body
 have hbl : bs.length = l := by have := rd.1; simpa using this
 rw [ltI_eq, if_neg (by rw [decide_eq_true_iff]; omega)]
 have e : IntKind.i64.wrap ((l : Int) - 32) = ((l - 32 : Nat) : Int) := by rw [wrap_id (by omega)]; omega
 rw [e]
 refine ⟨by omega, by omega, ?_⟩
 simp only [Int.toNat_natCast, Nat.sub_zero]
 have R := subRd (o := 0) (n := l - 32) (m := c) rd (by omega) (by omega)
 rw [List.drop_zero] at R
 refine ⟨_, R, ?_⟩
 replace hs := hs.sl_nil 1 none
 refine Sat.app hs (i := 0) (vs := ints .u8 (bs.take (l - 32))) .z (by simp; omega) rfl (ints_one _ _) (by dsimp only; omega) ?_
 intro p' c' h' hs
 simp only [put_zero, List.nil_append, Nat.zero_add] at hs ⊢
 exact k p' c' h' (capS hs .z) hs
theorem ret0 {Q : Int -> Int -> Int -> Option Addr -> Nat -> Nat -> List Int -> Int -> H -> Prop} {nb : Nat} {a1 a2 a3 : Int} {x : Sl} {t : List Int} (e : Int) (ht : t.length = 32) (hs : Sat h0 A h) (a : At A i (blk nb (imgL a1 a2 a3 x t))) (k : ∀ h', Sat h0 (put A i (blk nb (imgL 0 0 0 (none, 0, 0) (zeros 32)))) h' -> Q 0 0 0 none 0 0 (zeros 32) e h') :
  hcan h ⟨nb, 0, none⟩ 36 /\ ∀ h1, h1 = hwr h ⟨nb, 0, none⟩ (.int .i64 0 :: .int .i64 0 :: .int .i64 0 :: .slice none 0 0 :: ints .u8 (zeros 32)) -> ∃ i1 : Int, hc h1 ⟨nb, 0, none⟩ = some (.int .i64 i1) /\ ∃ i2 : Int, hc h1 ⟨nb, 1, none⟩ = some (.int .i64 i2) /\ ∃ i3 : Int, hc h1 ⟨nb, 2, none⟩ = some (.int .i64 i3) /\
   ∃ (o : Option Addr) (n m : Nat), hc h1 ⟨nb, 3, none⟩ = some (.slice o n m) /\ ∃ l : List Int, l.length = 32 /\ hrow h1 ⟨nb, 4, none⟩ .u8 l /\ Q i1 i2 i3 o n m l e h1 := by
 refine ⟨Sat.can hs a (by simp [ht]), ?_⟩
 intro h1 e1
 replace hs := Sat.wra (xs := imgL 0 0 0 (none, 0, 0) (zeros 32)) hs a e1 (by simp [ht, zeros])
 exact ⟨_, hs.ld (a.put _) rfl, _, hs.ld (a.put _) rfl, _, hs.ld (a.put _) rfl, _, _, _, hs.ld (a.put _) rfl, _, zeros_len 32, img_row hs (a.put _) (zeros_len 32), k _ hs⟩
theorem gate_sp {Q : Int -> Int -> Int -> Option Addr -> Nat -> Nat -> List Int -> Int -> H -> Prop} {mm rr jm jr : Nat} {bs : List Int} {q : Option Addr} {l c : Nat} {R : List SR} (hg : hc h0 ⟨0, 0, none⟩ = some errTypeV) (hs : Sat h0 A h) (ci : At A i (chipE p C)) (cl' : At A j (logE r p)) (st : At A m (storeE s p r))
  (cr : At A jr (blk rr [.map (some mm)])) (cm : At A jm (mapE mm (R.map SR.ent))) (gd : SR.good R) (rR : ∀ x, x ∈ R -> ∀ h', Sat h0 A h' -> hsv h' x.p 1 x.bytes.length (ints .u8 x.bytes))
  (rd : ∀ h', Sat h0 A h' -> hsv h' q 1 l (ints .u8 bs)) (hb : bytesOk bs) (hlc : l ≤ c) (hl : l < 2 ^ 50)
  (k1 : ∀ e, e = gateM C (R.map SR.kv) bs -> e ≠ 0 -> ∀ h', Sat h0 A h' -> Q 0 0 0 none 0 0 (zeros 32) e h')
  (k2 : ∀ (own : Sl) (n : Nat), gateM C (R.map SR.kv) bs = 0 -> parseW bs = (0, 0) -> num4 bs 12 = n -> bs.length = 48 + n -> ∀ h', Sat h0 (sE own 1 (ints .u8 bs) :: A) h' -> Q (bs.getD 5 0) (bs.getD 6 0) (num4 bs 8) (subAddr own.1 16 (16 + n) 1) n n ((bs.drop (16 + n)).take 32) 0 h') :
  F_gate_Check ⟨s, 0, none⟩ ⟨rr, 0, none⟩ q l c Q h := by
 unfold F_gate_Check G_gate_Check
 try simp only [add_mk, Nat.zero_add, List.append_nil]
 have hbl : bs.length = l := by have := (rd _ hs).1; simpa using this
 have ok := chip_ok hs ci
 have w1 : IntKind.i64.wrap (0 + 1) = 1 := by decide
 have w2 : IntKind.i64.wrap (1 + 1) = 2 := by decide
 have w3 : IntKind.i64.wrap (2 + 1) = 3 := by decide
 have w4 : IntKind.i64.wrap (3 + 1) = 4 := by decide
 have w5 : IntKind.i64.wrap (4 + 1) = 5 := by decide
 have w6 : IntKind.i64.wrap (5 + 1) = 6 := by decide
 obtain ⟨G, hG⟩ : ∃ G, G = gateM C (R.map SR.kv) bs := ⟨_, rfl⟩
 have hG0 := hG
 rw [← hG] at k1 k2
 unfold gateM at hG
 intro n13 _ hn; replace hs := Sat.new hs hn
 intro n16 _ hn; replace hs := Sat.new hs hn
 intro n19 _ hn; replace hs := Sat.new hs hn
 intro n22 _ hn; replace hs := Sat.new hs hn
 intro n25 _ hn; replace hs := Sat.new hs hn
 intro n28 _ hn; replace hs := Sat.new hs hn
 obtain ⟨FS, hFS⟩ : ∃ FS : List Value, FS = [.func (.func id_gate_Check_1) (Array.mk []) (Array.mk [.pointer (some ⟨n13, 0, none⟩)]), .func (.func id_gate_Check_2) (Array.mk []) (Array.mk [.pointer (some ⟨n19, 0, none⟩), .pointer (some ⟨n25, 0, none⟩)]), .func (.func id_gate_Check_3) (Array.mk []) (Array.mk [.pointer (some ⟨n13, 0, none⟩), .pointer (some ⟨n25, 0, none⟩)]), .func (.func id_gate_Check_4) (Array.mk []) (Array.mk [.pointer (some ⟨n13, 0, none⟩), .pointer (some ⟨n25, 0, none⟩), .pointer (some ⟨n16, 0, none⟩)]), .func (.func id_gate_Check_5) (Array.mk []) (Array.mk [.pointer (some ⟨n16, 0, none⟩), .pointer (some ⟨n25, 0, none⟩), .pointer (some ⟨n19, 0, none⟩)]), .func (.func id_gate_Check_6) (Array.mk []) (Array.mk [.pointer (some ⟨n13, 0, none⟩), .pointer (some ⟨n25, 0, none⟩)])] := ⟨_, rfl⟩
 rw [← hFS] at hs
 replace hs : Sat h0 (blk n28 FS :: blk n25 (imgL 0 0 0 (none, 0, 0) (zeros 32)) :: blk n22 (imgL 0 0 0 (none, 0, 0) (zeros 32)) :: blk n19 [.slice q l c] :: blk n16 [.pointer (some ⟨rr, 0, none⟩)] :: blk n13 [.pointer (some ⟨s, 0, none⟩)] :: A) _ := hs
 intro J31 hJ31
 apply hJ31
 rw [ltI_eq, if_pos (by decide)]
 refine ⟨_, rfl, by decide, by decide, _, hs.ld (o := 0) .z (by rw [hFS]; rfl), rfl, ?_⟩
 refine callFn_of (ds := [⟨n13, 0, none⟩].map DV.addr) R_gate_Check_1 (addrs_ok _) rfl ?_
 show F_gate_Check_1 ⟨n13, 0, none⟩ _ _
 unfold F_gate_Check_1 G_gate_Check_1
 refine ⟨_, hs.ld zs5 rfl, _, rfl, ?_⟩
 refine sActive_sp hs ci.s.s.s.s.s.s cl'.s.s.s.s.s.s st.s.s.s.s.s.s ?_
 intro h1 hs
 refine ⟨_, _, rfl, _, rfl, rfl, ?_⟩
 rw [sActive_out ok]
 by_cases ho : C.out = true
 ·rw [if_pos ho] at hG ⊢
  rw [if_pos (by decide)]
  refine ret0 8 (zeros_len 32) hs zs2 ?_
  intro h2 hs
  exact k1 8 hG.symm (by decide) _ hs.drop.drop.drop.drop.drop.drop
 rw [if_neg ho] at hG ⊢
 rw [if_neg (by decide), w1]
 -- the image
 apply hJ31
 rw [ltI_eq, if_pos (by decide)]
 refine ⟨_, rfl, by decide, by decide, _, hs.ld (o := 1) .z (by rw [hFS]; rfl), rfl, ?_⟩
 refine callFn_of (ds := [⟨n19, 0, none⟩, ⟨n25, 0, none⟩].map DV.addr) R_gate_Check_2 (addrs_ok _) rfl ?_
 show F_gate_Check_2 ⟨n19, 0, none⟩ ⟨n25, 0, none⟩ _ _
 unfold F_gate_Check_2 G_gate_Check_2
 try simp only [add_mk, Nat.zero_add, List.append_nil]
 refine ⟨_, _, _, hs.ld zs3 rfl, ?_⟩
 refine Parse_sp hs (fun h' hs' => rd _ hs'.drop.drop.drop.drop.drop.drop) hb hlc hl ?_ ?_
 ·intro e at_ w h2 hp he hs
  refine ⟨Sat.can hs zs2 (by simp [zeros]), ?_⟩
  intro h3 e3
  replace hs := Sat.wra (xs := imgL 0 0 0 (none, 0, 0) (zeros 32)) hs zs2 e3 rfl
  clear e3
  simp only [put_succ, put_zero] at hs
  refine ⟨rfl, ?_⟩
  rw [if_neg (nIF _ _)]
  intro n20 _ hn; replace hs := Sat.new hs hn
  refine ⟨Sat.can hs .z (by simp), ?_⟩
  intro h4 e4
  replace hs := Sat.wra hs .z e4 rfl
  clear e4
  simp only [put_zero] at hs
  unfold F_errors_As
  refine Or.inl (Or.inr ⟨⟨w, 0, none⟩, n20, 0, e, rfl, rfl, hc_ext hs.ex hg (fun y => y), ⟨_, hs.ld .z rfl⟩, ?_, hs.ld zs1 rfl, ?_⟩)
  ·have := (Sat.can hs (i := 0) (o := 0) (n := 1) .z (by simp)) 0 (by decide)
   rw [add_zero] at this
   exact this.2
  intro b1 _ hn; replace hs := Sat.new hs hn
  intro b2 _ hn; replace hs := Sat.new hs hn
  intro b3 _ hn; replace hs := Sat.new hs hn
  intro b4 _ hn; replace hs := Sat.new hs hn
  intro h5 e5
  replace hs := Sat.wr hs zs4 e5
  clear e5
  simp only [put_succ, put_zero] at hs
  replace hs := hs.drop.drop.drop.drop
  replace hs : Sat h0 (blk n20 [.int .i64 e] :: _) h5 := hs
  refine ⟨_, hs.ld .z rfl, ?_⟩
  refine ⟨_, _, rfl, _, rfl, rfl, ?_⟩
  rw [if_pos (by simpa using he)]
  replace hs := hs.drop.drop
  refine ret0 e (zeros_len 32) hs zs2 ?_
  intro h6 hs
  refine k1 e ?_ he _ hs.drop.drop.drop.drop.drop.drop
  rw [hp, if_pos he] at hG
  exact hG.symm
 intro own n h2 hp hnn hs
 obtain ⟨pl, p5, p6, pn⟩ := parse_ok hb hp hnn
 have htl : ((bs.drop (16 + n)).take 32).length = 32 := by rw [List.length_take, List.length_drop]; omega
 have htb : isBy ((bs.drop (16 + n)).take 32) := drop_bytes hb _ _
 refine ⟨Sat.can hs zs2 (by simp [zeros]), ?_⟩
 intro h3 e3
 replace hs := Sat.wra (xs := imgL (bs.getD 5 0) (bs.getD 6 0) (num4 bs 8) (subAddr own.1 16 (16 + n) 1, n, n) ((bs.drop (16 + n)).take 32)) hs zs2 e3 (by rw [img_len htl]; rfl)
 clear e3
 simp only [put_succ, put_zero] at hs
 refine ⟨rfl, ?_⟩
 rw [if_pos (by rfl)]
 refine ⟨_, _, rfl, _, rfl, rfl, ?_⟩
 rw [if_neg (by decide), w2]
 rw [hp, if_neg (by decide)] at hG
 -- the slot
 apply hJ31
 rw [ltI_eq, if_pos (by decide)]
 refine ⟨_, rfl, by decide, by decide, _, hs.ld (o := 2) zs1 (by rw [hFS]; rfl), rfl, ?_⟩
 refine callFn_of (ds := [⟨n13, 0, none⟩, ⟨n25, 0, none⟩].map DV.addr) R_gate_Check_3 (addrs_ok _) rfl ?_
 show F_gate_Check_3 ⟨n13, 0, none⟩ ⟨n25, 0, none⟩ _ _
 unfold F_gate_Check_3 G_gate_Check_3
 refine ⟨_, hs.ld zs6 rfl, _, hs.ld zs2 rfl, _, rfl, ?_⟩
 refine sRead_sp hs ci.s.s.s.s.s.s.s cl'.s.s.s.s.s.s.s st.s.s.s.s.s.s.s _ ?_
 intro h4 hs
 have er := sread_err ho p5.1
 by_cases gs : C.cfg.slots ≤ bs.getD 5 0
 ·rw [if_pos gs] at er hG
  rw [er, if_pos (by decide)]
  refine ⟨_, _, rfl, _, rfl, rfl, ?_⟩
  rw [if_pos (by decide)]
  refine ret0 5 (zeros_len 32) hs zs3 ?_
  intro h6 hs
  exact k1 5 hG.symm (by decide) _ hs.drop.drop.drop.drop.drop.drop.drop
 rw [if_neg gs] at er hG
 rw [er, if_neg (by decide)]
 refine ⟨_, _, rfl, _, rfl, rfl, ?_⟩
 rw [if_neg (by decide), w3]
 -- the key
 apply hJ31
 rw [ltI_eq, if_pos (by decide)]
 refine ⟨_, rfl, by decide, by decide, _, hs.ld (o := 3) zs1 (by rw [hFS]; rfl), rfl, ?_⟩
 refine callFn_of (ds := [⟨n13, 0, none⟩, ⟨n25, 0, none⟩, ⟨n16, 0, none⟩].map DV.addr) R_gate_Check_4 (addrs_ok _) rfl ?_
 show F_gate_Check_4 ⟨n13, 0, none⟩ ⟨n25, 0, none⟩ ⟨n16, 0, none⟩ _ _
 unfold F_gate_Check_4 G_gate_Check_4
 try simp only [add_mk, Nat.zero_add]
 refine ⟨_, hs.ld zs6 rfl, _, hs.ld zs2 rfl, _, rfl, ?_⟩
 refine sRevoked_sp hs ci.s.s.s.s.s.s.s st.s.s.s.s.s.s.s _ ?_
 intro h5 hs
 refine ⟨_, hs.ld zs5 rfl, _, hs.ld zs2 rfl, _, rfl, ?_⟩
 refine hasN_sp _ hs cr.s.s.s.s.s.s.s cm.s.s.s.s.s.s.s ?_
 have ekv := at_kv R (bs.getD 6 0)
 cases ex : SR.at_ R (bs.getD 6 0) with
 | none =>
  rw [← ekv, ex] at hG
  rw [if_pos (by simp)]
  refine ⟨_, _, rfl, _, rfl, rfl, ?_⟩
  rw [if_pos (by decide)]
  refine ret0 13 (zeros_len 32) hs zs3 ?_
  intro h6 hs
  exact k1 13 hG.symm (by decide) _ hs.drop.drop.drop.drop.drop.drop.drop
 | some x =>
 rw [← ekv, ex] at hG
 dsimp only [Option.map_some] at hG
 rw [if_neg (by simp)]
 have rv := revoked_err ho p6.1
 by_cases gk : C.cfg.keys ≤ bs.getD 6 0
 ·rw [if_pos gk] at rv hG
  rw [rv, if_pos (by decide)]
  refine ⟨_, _, rfl, _, rfl, rfl, ?_⟩
  rw [if_pos (by decide)]
  refine ret0 13 (zeros_len 32) hs zs3 ?_
  intro h6 hs
  exact k1 13 hG.symm (by decide) _ hs.drop.drop.drop.drop.drop.drop.drop
 rw [if_neg gk] at rv hG
 rw [rv, if_neg (by decide)]
 by_cases gr : (revokedM C (bs.getD 6 0)).1 = true
 ·rw [if_pos gr] at hG ⊢
  refine ⟨_, _, rfl, _, rfl, rfl, ?_⟩
  rw [if_pos (by decide)]
  refine ret0 14 (zeros_len 32) hs zs3 ?_
  intro h6 hs
  exact k1 14 hG.symm (by decide) _ hs.drop.drop.drop.drop.drop.drop.drop
 rw [if_neg gr] at hG ⊢
 refine ⟨_, _, rfl, _, rfl, rfl, ?_⟩
 rw [if_neg (by decide), w4]
 -- the tag
 apply hJ31
 rw [ltI_eq, if_pos (by decide)]
 refine ⟨_, rfl, by decide, by decide, _, hs.ld (o := 4) zs1 (by rw [hFS]; rfl), rfl, ?_⟩
 refine callFn_of (ds := [⟨n16, 0, none⟩, ⟨n25, 0, none⟩, ⟨n19, 0, none⟩].map DV.addr) R_gate_Check_5 (addrs_ok _) rfl ?_
 show F_gate_Check_5 ⟨n16, 0, none⟩ ⟨n25, 0, none⟩ ⟨n19, 0, none⟩ _ _
 unfold F_gate_Check_5 G_gate_Check_5
 try simp only [add_mk, Nat.zero_add, List.append_nil]
 refine ⟨_, hs.ld zs5 rfl, _, hs.ld zs2 rfl, _, _, _, hs.ld zs4 rfl, _, htl, img_row hs zs2 htl, ?_⟩
 refine ibody_sp hs (rd _ hs.drop.drop.drop.drop.drop.drop.drop) (by omega) hlc (by omega) ?_
 intro p' c' h6 hc' hs
 refine ⟨Sat.cs hs zs3 (by show (List.drop 4 (imgL _ _ _ _ _)).take _ = _; rw [List.take_of_length_le (by simp [htl])]; rfl), Sat.cs hs zs3 rfl, Sat.cs hs zs6 rfl, _, rfl, ?_⟩
 refine kcheck_sp (bb := bs.take (l - 32)) hs cr.s.s.s.s.s.s.s.s cm.s.s.s.s.s.s.s.s gd (fun y hy h' hs' => rR y hy _ hs'.drop.drop.drop.drop.drop.drop.drop.drop) ex htl htb hc' (by omega) (fun h' hs' => hs'.sv .z) ?_
 intro h7 hs
 replace hs := hs.drop
 have et : (bs.drop (bs.length - 32)).take 32 = (bs.drop (16 + n)).take 32 := by rw [show bs.length - 32 = 16 + n by omega]
 rw [hbl] at hG et
 rw [et] at hG
 by_cases gt : macM x.bytes (bs.take (l - 32)) = (bs.drop (16 + n)).take 32
 case neg =>
  rw [if_pos gt] at hG
  rw [if_pos (by simp [gt])]
  refine ⟨_, _, rfl, _, rfl, rfl, ?_⟩
  rw [if_pos (by decide)]
  refine ret0 15 (zeros_len 32) hs zs3 ?_
  intro h6 hs
  exact k1 15 hG.symm (by decide) _ hs.drop.drop.drop.drop.drop.drop.drop
 rw [if_neg (by simpa using gt)] at hG
 rw [if_neg (by simp [gt]), if_neg (by decide)]
 refine ⟨_, _, rfl, _, rfl, rfl, ?_⟩
 rw [if_neg (by decide), w5]
 -- the version
 apply hJ31
 rw [ltI_eq, if_pos (by decide)]
 refine ⟨_, rfl, by decide, by decide, _, hs.ld (o := 5) zs1 (by rw [hFS]; rfl), rfl, ?_⟩
 refine callFn_of (ds := [⟨n13, 0, none⟩, ⟨n25, 0, none⟩].map DV.addr) R_gate_Check_6 (addrs_ok _) rfl ?_
 show F_gate_Check_6 ⟨n13, 0, none⟩ ⟨n25, 0, none⟩ _ _
 unfold F_gate_Check_6 G_gate_Check_6
 try simp only [add_mk, Nat.zero_add]
 refine ⟨_, hs.ld zs6 rfl, _, hs.ld zs2 rfl, _, rfl, ?_⟩
 refine sRead_sp hs ci.s.s.s.s.s.s.s cl'.s.s.s.s.s.s.s st.s.s.s.s.s.s.s _ ?_
 intro h8 hs
 rw [er, if_neg (by decide)]
 refine ⟨_, hs.ld zs2 rfl, ?_⟩
 rw [ltI_eq]
 by_cases gv : num4 bs 8 < (sRead C (bs.getD 5 0)).1
 ·rw [if_pos gv] at hG
  rw [if_pos (by simpa using gv)]
  refine ⟨_, _, rfl, _, rfl, rfl, ?_⟩
  rw [if_pos (by decide)]
  refine ret0 16 (zeros_len 32) hs zs3 ?_
  intro h6 hs
  exact k1 16 hG.symm (by decide) _ hs.drop.drop.drop.drop.drop.drop.drop
 rw [if_neg gv] at hG
 rw [if_neg (by simpa using gv)]
 refine ⟨_, hs.ld zs2 rfl, _, hs.ld zs6 rfl, _, rfl, ?_⟩
 refine sLast_sp hs ci.s.s.s.s.s.s.s st.s.s.s.s.s.s.s ?_
 intro h9 hs
 refine ⟨Sat.cs hs zs2 rfl, ?_⟩
 rw [ltI_eq]
 by_cases gl : lastM C.cfg < num4 bs 8
 ·rw [if_pos gl] at hG
  rw [if_pos (by simpa using gl)]
  refine ⟨_, _, rfl, _, rfl, rfl, ?_⟩
  rw [if_pos (by decide)]
  refine ret0 16 (zeros_len 32) hs zs3 ?_
  intro h6 hs
  exact k1 16 hG.symm (by decide) _ hs.drop.drop.drop.drop.drop.drop.drop
 rw [if_neg gl] at hG
 rw [if_neg (by simpa using gl)]
 refine ⟨_, _, rfl, _, rfl, rfl, ?_⟩
 rw [if_neg (by decide), w6]
 apply hJ31
 rw [ltI_eq, if_neg (by decide)]
 refine ⟨_, hs.ld zs2 rfl, _, hs.ld zs2 rfl, _, hs.ld zs2 rfl, _, _, _, hs.ld zs2 rfl, _, htl, img_row hs zs2 htl, ?_⟩
 refine ⟨Sat.can hs zs3 (by simp [zeros]), ?_⟩
 intro h10 e10
 replace hs := Sat.wra (xs := imgL (bs.getD 5 0) (bs.getD 6 0) (num4 bs 8) (subAddr own.1 16 (16 + n) 1, n, n) ((bs.drop (16 + n)).take 32)) hs zs3 e10 (by rw [img_len htl]; rfl)
 clear e10
 simp only [put_succ, put_zero] at hs
 refine ⟨_, hs.ld zs3 rfl, _, hs.ld zs3 rfl, _, hs.ld zs3 rfl, _, _, _, hs.ld zs3 rfl, _, htl, img_row hs zs3 htl, ?_⟩
 exact k2 own n hG hp hnn pl _ (hs.sub (by
  refine List.Sublist.cons_cons _ ?_
  exact (((((List.sublist_cons_self _ _).trans (List.sublist_cons_self _ _)).trans (List.sublist_cons_self _ _)).trans (List.sublist_cons_self _ _)).trans (List.sublist_cons_self _ _)).trans (List.sublist_cons_self _ _)))
end
end Go.Proofs.YteedolonhdbieaaGreatDoor
end
section
namespace Go.Proofs.YteedolonhdbieaaGreatDoor
open Go Go.Vc
set_option maxRecDepth 100000
def tagTo (t : List Int) (n : Nat) : List Int := tab 32 fun x => if x < n then t.getD x 0 else 0
theorem tagTo_len (t : List Int) (n : Nat) : (tagTo t n).length = 32 := by simp [tagTo]
theorem tagTo_zero (t : List Int) : tagTo t 0 = zeros 32 := by
 unfold tagTo
 simp only [Nat.not_lt_zero, if_false]; rfl
theorem tagTo_all {t : List Int} (ht : t.length = 32) : tagTo t 32 = t := by
 refine ext_getD ((tagTo_len t 32).trans ht.symm) fun x hx => ?_
 rw [tagTo_len] at hx
 unfold tagTo
 rw [tab_getD _ hx, if_pos hx]
theorem tagTo_set (t : List Int) {n : Nat} (hn : n < 32) : (tagTo t n).set n (t.getD n 0) = tagTo t (n + 1) := by
 refine ext_getD (by simp [tagTo_len]) fun x hx => ?_
 rw [List.length_set, tagTo_len] at hx
 rw [set_getD]
 unfold tagTo
 rw [tab_getD _ hx, tab_getD _ hx]
 by_cases c : n = x
 ·subst c; rw [if_pos ⟨rfl, by simp; omega⟩, if_pos (by omega)]
 ·rw [if_neg (fun y => c y.1)]
  by_cases d : x < n
  ·rw [if_pos d, if_pos (by omega)]
  ·rw [if_neg d, if_neg (by omega)]
section
variable {h0 h : H} {A : List Ent} {i j p r b : Nat}
theorem img_s1 {a b' v w : Int} {x : Sl} {t : List Int} {n : Nat} (hn : n < t.length) : splice (imgL a b' v x t) (4 + n) [.int .u8 w] = imgL a b' v x (t.set n w) := by
 show (imgL a b' v x t).set (4 + n) (.int .u8 w) = _
 rw [show 4 + n = n + 1 + 1 + 1 + 1 by omega]
 simp only [imgL, List.set_cons_succ, ints_set]
theorem rParse_sp {Q : Int -> Int -> Int -> Option Addr -> Nat -> Nat -> List Int -> Int -> Int -> H -> Prop} {q : Option Addr} {l c : Nat} {bs : List Int} (hs : Sat h0 A h) (rd : ∀ h', Sat h0 A h' -> hsv h' q 1 l (ints .u8 bs)) (hb : bytesOk bs) (hlc : l ≤ c) (hl : l < 2 ^ 50)
  (k1 : ∀ e at_ h', parseW bs = (e, at_) -> e ≠ 0 -> Sat h0 A h' -> Q 0 0 0 none 0 0 (zeros 32) e at_ h')
  (k2 : ∀ (own : Sl) (n : Nat) h', parseW bs = (0, 0) -> num4 bs 12 = n -> own.2.1 = n -> Sat h0 (sE own 1 (ints .u8 ((bs.drop 16).take n)) :: A) h' -> Q (bs.getD 5 0) (bs.getD 6 0) (num4 bs 8) own.1 own.2.1 own.2.2 ((bs.drop (16 + n)).take 32) 0 0 h') :
  F_portcullisref11_Parse q l c Q h := by
 unfold F_portcullisref11_Parse G_portcullisref11_Parse
 try simp only [add_mk, Nat.zero_add, List.append_nil]
 have hbl : bs.length = l := by have := (rd _ hs).1; simpa using this
 intro n7 _ hn; replace hs := Sat.new hs hn
 intro n10 _ hn; replace hs := Sat.new hs hn
 replace hs : Sat h0 (blk n10 [.int .i64 0, .int .i64 0] :: blk n7 (imgL 0 0 0 (none, 0, 0) (zeros 32)) :: A) _ := hs
 have bad : ∀ e at_ h', parseW bs = (e, at_) -> e ≠ 0 -> Sat h0 (blk n10 [.int .i64 0, .int .i64 0] :: blk n7 (imgL 0 0 0 (none, 0, 0) (zeros 32)) :: A) h' -> hcan h' ⟨n7, 0, none⟩ 36 /\ ∀ h13, h13 = hwr h' ⟨n7, 0, none⟩ (imgL 0 0 0 (none, 0, 0) (zeros 32)) -> hcan h13 ⟨n10, 0, none⟩ 2 /\ ∀ h15, h15 = hwr h13 ⟨n10, 0, none⟩ [.int .i64 e, .int .i64 at_] ->
   ∃ i15 : Int, hc h15 ⟨n7, 0, none⟩ = some (.int .i64 i15) /\ ∃ i16 : Int, hc h15 ⟨n7, 1, none⟩ = some (.int .i64 i16) /\ ∃ i17 : Int, hc h15 ⟨n7, 2, none⟩ = some (.int .i64 i17) /\ ∃ (o18 : Option Addr) (n19 n20 : Nat), hc h15 ⟨n7, 3, none⟩ = some (.slice o18 n19 n20) /\
    ∃ l21 : List Int, l21.length = 32 /\ hrow h15 ⟨n7, 4, none⟩ .u8 l21 /\ ∃ i24 : Int, hc h15 ⟨n10, 0, none⟩ = some (.int .i64 i24) /\ ∃ i25 : Int, hc h15 ⟨n10, 1, none⟩ = some (.int .i64 i25) /\ Q i15 i16 i17 o18 n19 n20 l21 i24 i25 h15 := by
  intro e at_ h' hw he hs
  refine ⟨Sat.can hs zs1 (by decide), ?_⟩
  intro h13 e13
  replace hs := Sat.wra hs zs1 e13 rfl
  simp only [put] at hs
  refine ⟨Sat.can hs .z (by decide), ?_⟩
  intro h15 e15
  replace hs := Sat.wra hs .z e15 rfl
  simp only [put] at hs
  refine ⟨_, Sat.ld hs zs1 rfl, _, Sat.ld hs zs1 rfl, _, Sat.ld hs zs1 rfl, _, _, _, Sat.ld hs zs1 rfl, _, rfl, img_row hs zs1 rfl, _, Sat.ld hs .z rfl, _, Sat.ld hs .z rfl, ?_⟩
  exact k1 e at_ _ hw he hs.drop.drop
 by_cases g1 : 524288 < l
 ·rw [ltI_eq, if_pos (by simp; omega)]
  exact bad _ _ _ (by unfold parseW; rw [if_pos (by omega)]) (by decide) hs
 rw [ltI_eq, if_neg (by simp; omega)]
 have hP : parseW bs = match headW bs 16 0 with
  | some w => w
  | none => if 524240 < num4 bs 12 then (5, 12) else if (bs.length : Int) < 48 + num4 bs 12 then (6, bs.length) else if 48 + num4 bs 12 < bs.length then (7, 48 + num4 bs 12) else (0, 0) := by
  unfold parseW; rw [if_neg (by omega)]; try rfl
 clear k1
 generalize hW : headW bs 16 0 = W at hP
 intro J hJ
 refine loop_up 16 (fun x h => Sat h0 (blk n10 [.int .i64 0, .int .i64 0] :: blk n7 (imgL 0 0 0 (none, 0, 0) (zeros 32)) :: A) h /\ W = headW bs (16 - x) x /\ x ≤ l) ?_ ?_ 0 _ (by omega) ⟨hs, hW.symm, by omega⟩
 ·rintro x h1 hx ⟨hs, hh, hxl⟩ hk
  apply hJ
  rw [ltI_eq, if_pos (by simp; omega)]
  obtain ⟨m, hm⟩ : ∃ m, 16 - x = m + 1 := ⟨16 - x - 1, by omega⟩
  rw [hm] at hh
  unfold headW at hh
  by_cases g2 : x = l
  ·rw [if_pos (show x = bs.length by omega)] at hh
   rw [if_pos (by simp; omega)]
   exact bad 6 x _ (by rw [hP, hh]) (by decide) hs
  rw [if_neg (show ¬ x = bs.length by omega)] at hh
  rw [if_neg (by simp; omega)]
  obtain ⟨q', hq, g⟩ := hsv_int (rd _ hs.drop.drop) (x := x) (by omega)
  refine ⟨_, hq, by omega, by omega, _, by rw [Int.toNat_natCast, Nat.mul_one]; exact g, ?_⟩
  refine rmust_sp x _ ?_
  by_cases g3 : mayB x (bs.getD x 0) = true
  ·rw [if_pos g3] at hh
   rw [if_neg (by rw [g3]; decide), wrap_succ (by omega)]
   exact hk _ ⟨hs, by rw [hh, show 16 - (x + 1) = m by omega], by omega⟩
  ·rw [if_neg g3] at hh
   rw [if_pos (by rw [Bool.not_eq_true] at g3; rw [g3]; rfl)]
   exact bad 5 x _ (by rw [hP, hh]) (by decide) hs
 rintro h1 ⟨hs, hh, hxl⟩
 apply hJ
 rw [ltI_eq, if_neg (by simp)]
 clear hJ J
 have hh : W = none := hh
 rw [hh] at hP
 dsimp only at hP
 refine ⟨by omega, by omega, ?_⟩
 have rd12 := sub_rd (o := 12) (n := l - 12) (m := c) (rd _ hs.drop.drop) (by omega) (by omega)
 refine rnumber_sp rd12 (drop_bytes hb _ _) (by omega) ?_
 rw [num4_drop _ _ _ (by omega)]
 obtain ⟨r1, r2⟩ := num4_range hb 12
 obtain ⟨n, hnn⟩ := Int.eq_ofNat_of_zero_le r1
 rw [hnn] at hP r2 ⊢
 by_cases g2 : 524240 < n
 ·rw [if_pos (by omega)] at hP
  rw [ltI_eq, if_pos (by simp; omega)]
  exact bad 5 12 _ hP (by decide) hs
 rw [if_neg (by omega)] at hP
 rw [ltI_eq, if_neg (by simp; omega)]
 have ew : IntKind.i64.wrap ((n : Int) + 16) = ((16 + n : Nat) : Int) := by rw [wrap_id (by omega)]; omega
 have ew2 : IntKind.i64.wrap (((16 + n : Nat) : Int) + 32) = ((48 + n : Nat) : Int) := by rw [wrap_id (by omega)]; omega
 have ew3 : IntKind.i64.wrap (((48 + n : Nat) : Int) - 32) = ((16 + n : Nat) : Int) := by rw [wrap_id (by omega)]; omega
 rw [ew, ew2, ew3]
 by_cases g3 : l < 48 + n
 ·rw [if_pos (by omega), hbl] at hP
  rw [ltI_eq, if_pos (by simp; omega)]
  exact bad 6 l _ hP (by decide) hs
 rw [if_neg (by omega)] at hP
 rw [ltI_eq, if_neg (by simp; omega)]
 by_cases g4 : 48 + n < l
 ·rw [if_pos (by omega)] at hP
  rw [ltI_eq, if_pos (by simp; omega)]
  exact bad 7 _ _ (by rw [hP]; congr 1) (by decide) hs
 rw [if_neg (by omega)] at hP
 rw [ltI_eq, if_neg (by simp; omega)]
 have hw := hP
 clear bad hP
 have hl48 : l = 48 + n := by omega
 intro J100 hJ100
 have ht32 : ((bs.drop (16 + n)).take 32).length = 32 := by rw [List.length_take, List.length_drop]; omega
 have way : ∀ (nb : Nat) h', Sat h0 (blk nb (imgL (bs.getD 5 0) (bs.getD 6 0) (num4 bs 8) (none, 0, 0) (zeros 32)) :: blk n10 [.int .i64 0, .int .i64 0] :: blk n7 (imgL 0 0 0 (none, 0, 0) (zeros 32)) :: A) h' -> J100 [.dv (.addr ⟨nb, 0, none⟩)] h' := by
  intro nb h2 hs
  apply hJ100
  clear hJ100 J100
  try simp only [add_mk, Nat.zero_add]
  intro n103 _ hn; replace hs := Sat.new hs hn
  rw [Int.toNat_natCast, Nat.add_sub_cancel_left]
  refine ⟨by omega, by omega, by omega, _, sub_rd (o := 16) (n := n) (rd _ hs.drop.drop.drop.drop) (by omega) (by omega), ?_⟩
  refine Sat.app_new hs (by simp; omega) rfl (ints_one _ _) (by omega) ?_
  intro o c2 h3 hs
  obtain ⟨own, hown⟩ : ∃ own : Sl, own = (o, n, c2) := ⟨_, rfl⟩
  replace hs : Sat h0 (sE own 1 (ints .u8 ((bs.drop 16).take n)) :: blk n103 [] :: blk nb (imgL (bs.getD 5 0) (bs.getD 6 0) (num4 bs 8) (none, 0, 0) (zeros 32)) :: blk n10 [.int .i64 0, .int .i64 0] :: blk n7 (imgL 0 0 0 (none, 0, 0) (zeros 32)) :: A) h3 := by rw [hown]; exact hs
  have eo1 : o = own.1 := by rw [hown]
  have eo2 : n = own.2.1 := by rw [hown]
  have eo3 : c2 = own.2.2 := by rw [hown]
  refine ⟨Sat.can hs zs2 (by rw [img_len rfl]; decide), ?_⟩
  intro h4 e4
  replace hs := Sat.wr hs zs2 (o := 3) e4
  clear e4
  simp only [put] at hs
  have e5 : splice (imgL (bs.getD 5 0) (bs.getD 6 0) (num4 bs 8) (none, 0, 0) (zeros 32)) 3 [.slice o n c2] = imgL (bs.getD 5 0) (bs.getD 6 0) (num4 bs 8) own (tagTo ((bs.drop (16 + n)).take 32) 0) := by rw [tagTo_zero, hown]; rfl
  rw [e5] at hs
  clear e5
  intro J113 hJ113
  refine loop_up 32 (fun x h => Sat h0 (sE own 1 (ints .u8 ((bs.drop 16).take n)) :: blk n103 [] :: blk nb (imgL (bs.getD 5 0) (bs.getD 6 0) (num4 bs 8) own (tagTo ((bs.drop (16 + n)).take 32) x)) :: blk n10 [.int .i64 0, .int .i64 0] :: blk n7 (imgL 0 0 0 (none, 0, 0) (zeros 32)) :: A) h) ?_ ?_ 0 _ (by omega) hs
  ·intro x h5 hx hs hk
   apply hJ113
   rw [ltI_eq, if_pos (by simp; omega)]
   have e6 : IntKind.i64.wrap (((16 + n : Nat) : Int) + (x : Int)) = ((16 + n + x : Nat) : Int) := by rw [wrap_id (by omega)]; omega
   rw [e6]
   obtain ⟨q', hq, g⟩ := hsv_int (rd _ hs.drop.drop.drop.drop.drop) (x := 16 + n + x) (by omega)
   refine ⟨_, hq, by omega, by omega, _, by rw [Int.toNat_natCast, Nat.mul_one]; exact g, by omega, by omega, ?_⟩
   rw [Int.toNat_natCast, Nat.mul_one]
   refine ⟨Sat.can hs zs2 (by rw [img_len (tagTo_len _ _)]; simp; omega), ?_⟩
   intro h6 e6
   replace hs := Sat.wr hs zs2 (o := 4 + x) e6
   clear e6
   rw [img_s1 (by rw [tagTo_len]; exact hx)] at hs
   have e7 : bs.getD (16 + n + x) 0 = ((bs.drop (16 + n)).take 32).getD x 0 := (drop_getD bs (16 + n) 32 x hx).symm
   rw [e7, tagTo_set _ hx] at hs
   rw [wrap_succ (by omega)]
   exact hk _ hs
  ·intro h5 hs
   rw [tagTo_all ht32] at hs
   apply hJ113
   rw [ltI_eq, if_neg (by simp)]
   refine ⟨_, Sat.ld hs zs2 rfl, _, Sat.ld hs zs2 rfl, _, Sat.ld hs zs2 rfl, _, _, _, Sat.ld hs zs2 rfl, _, ht32, img_row hs zs2 ht32, Sat.can hs zs4 (by decide), ?_⟩
   intro h6 e6
   replace hs := Sat.wra hs zs4 e6 (by rw [img_len ht32]; rfl)
   clear e6
   simp only [put] at hs
   refine ⟨Sat.can hs zs3 (by decide), ?_⟩
   intro h7 e7
   replace hs := Sat.wra hs zs3 e7 (by rfl)
   clear e7
   simp only [put] at hs
   replace hs : Sat h0 (sE own 1 (ints .u8 ((bs.drop 16).take n)) :: blk n103 [] :: blk nb (imgL (bs.getD 5 0) (bs.getD 6 0) (num4 bs 8) own ((bs.drop (16 + n)).take 32)) :: blk n10 [.int .i64 0, .int .i64 0] :: blk n7 (imgL (bs.getD 5 0) (bs.getD 6 0) (num4 bs 8) own ((bs.drop (16 + n)).take 32)) :: A) h7 := hs
   refine ⟨_, Sat.ld hs zs4 rfl, _, Sat.ld hs zs4 rfl, _, Sat.ld hs zs4 rfl, _, _, _, Sat.ld hs zs4 rfl, _, ht32, img_row hs zs4 ht32, _, Sat.ld hs zs3 rfl, _, Sat.ld hs zs3 rfl, ?_⟩
   exact k2 own n _ hw hnn eo2.symm (hs.sub (by (repeat (first | exact List.Sublist.refl _ | apply List.Sublist.cons_cons | apply List.Sublist.cons))))
 obtain ⟨q', hq, g5⟩ := hsv_int (rd _ hs.drop.drop) (x := 5) (by omega)
 obtain ⟨q2, hq2, g6⟩ := hsv_int (rd _ hs.drop.drop) (x := 6) (by omega)
 rw [hq] at hq2
 injection hq2 with hq2
 subst hq2
 have c5 : ∀ h', Sat h0 A h' -> hcs h' (q'.add 5) [.int .u8 (bs.getD 5 0)] := fun h' hs' => by
  obtain ⟨q2, hq2, g⟩ := hsv_int (rd _ hs') (x := 5) (by omega)
  rw [hq] at hq2; injection hq2 with hq2; subst hq2; exact hcs_one g
 have c6 : ∀ h', Sat h0 A h' -> hcs h' (q'.add 6) [.int .u8 (bs.getD 6 0)] := fun h' hs' => by
  obtain ⟨q2, hq2, g⟩ := hsv_int (rd _ hs') (x := 6) (by omega)
  rw [hq] at hq2; injection hq2 with hq2; subst hq2; exact hcs_one g
 have b5 := byte_getD hb 5
 have b6 := byte_getD hb 6
 unfold isByte at b5 b6
 have w5 : IntKind.i64.wrap (bs.getD 5 0) = bs.getD 5 0 := by rw [IntKind.wrap_i64]; omega
 have w6 : IntKind.i64.wrap (bs.getD 6 0) = bs.getD 6 0 := by rw [IntKind.wrap_i64]; omega
 have rd8 : ∀ h', Sat h0 A h' -> hsv h' (subAddr q 8 c 1) 1 (l - 8) (ints .u8 ((bs.drop 8).take (l - 8))) := fun h' hs' => sub_rd (o := 8) (n := l - 8) (m := c) (rd _ hs') (by omega) (by omega)
 refine ⟨_, hq, by omega, by omega, _, g5, _, hq, by omega, by omega, _, g6, by omega, by omega, ?_⟩
 rw [w5, w6]
 constructor
 ·refine rnumber_sp (rd8 _ hs.drop.drop) (drop_bytes hb _ _) (by omega) ?_
  rw [num4_drop _ _ _ (by omega)]
  refine ⟨c6 _ hs.drop.drop, c5 _ hs.drop.drop, ?_⟩
  intro nb _ hn; replace hs := Sat.new hs hn
  refine ⟨c6 _ hs.drop.drop.drop, c5 _ hs.drop.drop.drop, ?_⟩
  refine ⟨Sat.can hs .z (by decide), ?_⟩
  intro h4 e4
  replace hs := Sat.wra hs .z e4 (by rfl)
  exact way nb _ hs
 ·intro nb _ hn; replace hs := Sat.new hs hn
  refine ⟨c6 _ hs.drop.drop.drop, c5 _ hs.drop.drop.drop, ?_⟩
  refine rnumber_sp (rd8 _ hs.drop.drop.drop) (drop_bytes hb _ _) (by omega) ?_
  rw [num4_drop _ _ _ (by omega)]
  refine ⟨c6 _ hs.drop.drop.drop, c5 _ hs.drop.drop.drop, ?_⟩
  refine ⟨Sat.can hs .z (by decide), ?_⟩
  intro h4 e4
  replace hs := Sat.wra hs .z e4 (by rfl)
  exact way nb _ hs
end
end Go.Proofs.YteedolonhdbieaaGreatDoor
end
section
namespace Go.Proofs.YteedolonhdbieaaGreatDoor
open Go Go.Vc
set_option maxRecDepth 100000
attribute [local irreducible] macM
section
variable {h0 h : H} {A : List Ent} {i j p r b s m : Nat} {C : Cm}
theorem rsignN_sp {Q : List Int -> Int -> H -> Prop} {key : Int} {bb : List Int} {bp lp : Option Addr} {bl bc lc : Nat} {R : List SR} {x : SR} (hs : Sat h0 A h) (cr : At A i (blk r [.slice lp R.length lc])) (cl : At A j (slE lp R.length lc 2 (secV R))) (hR : R.length < 2 ^ 40) (gd : SR.good R)
  (rR : ∀ x, x ∈ R -> ∀ h', Sat h0 A h' -> hsv h' x.p 1 x.bytes.length (ints .u8 x.bytes)) (hx : SR.at_ R key = some x) (hbb : isBy bb) (hbl : bl < 2 ^ 40)
  (rb : ∀ h', Sat h0 A h' -> hsv h' bp 1 bl (ints .u8 bb)) (k : ∀ h', Sat h0 A h' -> Q (macM x.bytes bb) 0 h') : F_portcullisref12_Ring_Sign ⟨r, 0, none⟩ key bp bl bc Q h := by
 unfold F_portcullisref12_Ring_Sign G_portcullisref12_Ring_Sign
 try simp only [add_mk, Nat.zero_add, List.append_nil]
 have hx2 : x ∈ R := List.mem_of_find?_eq_some hx
 have hg := gd x hx2
 intro nb _ hn; replace hs := Sat.new hs hn
 refine find_sp key hs cr.s cl.s hR ?_
 rintro n (⟨e, _⟩ | ⟨t, ht, rfl, e⟩)
 ·rw [hx] at e; cases e
 rw [hx] at e
 injection e with e
 rw [ltI_eq, if_neg (by rw [decide_eq_true_iff]; omega)]
 obtain ⟨q2, hq2, g2⟩ := hsv_get (hs.sv cl.s) (secV_get R t ht).2
 refine ⟨_, _, _, hs.ld cr.s rfl, q2, hq2, by omega, by omega, ?_⟩
 simp only [Int.toNat_natCast]
 refine ⟨_, _, _, by rw [addAdd]; exact g2, ?_⟩
 rw [← e]
 refine rmac_sp (key := x.bytes) (b := bb) hs hg.2.2 hbb (by omega) (by omega) (fun h' hs' => rR x hx2 _ hs'.drop) (fun h' hs' => rb _ hs'.drop) ?_
 intro h2 hs
 refine ⟨Sat.can hs .z (by simp [zeros]), ?_⟩
 intro h3 e3
 replace hs := Sat.wra (xs := ints .u8 (macM x.bytes bb)) hs .z e3 (by simp [zeros, macM_len])
 clear e3
 simp only [put_zero] at hs
 exact ⟨_, macM_len _ _, hs.row0 .z, k _ hs.drop⟩
theorem rbody_sp {Q : Option Addr -> Nat -> Nat -> H -> Prop} {bs : List Int} {q : Option Addr} {l c : Nat} (hs : Sat h0 A h) (rd : ∀ h', Sat h0 A h' -> hsv h' q 1 l (ints .u8 bs)) (hl : 32 ≤ l) (hlc : l ≤ c) (hl2 : l < 2 ^ 40)
  (k : ∀ p' c' h', l - 32 ≤ c' -> Sat h0 (slE p' (l - 32) c' 1 (ints .u8 (bs.take (l - 32))) :: A) h' -> Q p' (l - 32) c' h') : F_portcullisref11_Body q l c Q h := by
 unfold F_portcullisref11_Body G_portcullisref11_Body
 have hbl : bs.length = l := by have := (rd _ hs).1; simpa using this
 rw [ltI_eq, if_neg (by rw [decide_eq_true_iff]; omega)]
 intro eb _ hn; replace hs := Sat.new hs hn
 have e : IntKind.i64.wrap ((l : Int) - 32) = ((l - 32 : Nat) : Int) := by rw [wrap_id (by omega)]; omega
 rw [e]
 refine ⟨by omega, by omega, ?_⟩
 simp only [Int.toNat_natCast, Nat.sub_zero]
 have R := subRd (o := 0) (n := l - 32) (m := c) (rd _ hs.drop) (by omega) (by omega)
 rw [List.drop_zero] at R
 refine ⟨_, R, ?_⟩
 replace hs := hs.drop.sl_nil 1 (some ⟨eb, 0, none⟩)
 refine Sat.app hs (i := 0) (vs := ints .u8 (bs.take (l - 32))) .z (by simp; omega) rfl (ints_one _ _) (by dsimp only; omega) ?_
 intro p' c' h' hs
 simp only [put_zero, List.nil_append, Nat.zero_add] at hs ⊢
 exact k p' c' h' (capS hs .z) hs
theorem rgateK_sp {Q : Int -> Int -> Int -> Option Addr -> Nat -> Nat -> List Int -> Int -> H -> Prop} {nb n37 n14 : Nat} {bs T tag : List Int} {own : Sl} {E : List Ent} (hs : Sat h0 (blk nb (ints .u8 (zeros 32)) :: blk n37 (imgL (bs.getD 5 0) (bs.getD 6 0) (num4 bs 8) own tag) :: blk n14 (imgL 0 0 0 (none, 0, 0) (zeros 32)) :: E) h) (cj : At E j (refE r C)) (ho : ¬ C.out = true)
  (hT : T.length = 32) (ht : tag.length = 32) (er : (sRead C (bs.getD 5 0)).2 = 0)
  (k1 : ∀ e, e = (if T ≠ tag then 15 else if num4 bs 8 < (sRead C (bs.getD 5 0)).1 then 16 else if lastM C.cfg < num4 bs 8 then 16 else 0) -> e ≠ 0 -> ∀ h', Sat h0 E h' -> Q 0 0 0 none 0 0 (zeros 32) e h')
  (k2 : (if T ≠ tag then 15 else if num4 bs 8 < (sRead C (bs.getD 5 0)).1 then 16 else if lastM C.cfg < num4 bs 8 then 16 else (0 : Int)) = 0 -> ∀ h', Sat h0 E h' -> Q (bs.getD 5 0) (bs.getD 6 0) (num4 bs 8) own.1 own.2.1 own.2.2 tag 0 h') :
  K1_portcullisref13_Check F_portcullisref10_Last F_portcullisref10_Read ⟨r, 0, none⟩ Q h nb T n37 n14 := by
 unfold K1_portcullisref13_Check
 try simp only [add_mk, Nat.zero_add, List.append_nil]
 intro h2 e
 replace hs := Sat.wra (xs := ints .u8 T) hs .z e (by simp [zeros, hT])
 clear e
 simp only [put_zero] at hs
 refine ⟨T, hT, hs.row0 .z, tag, ht, img_row hs zs1 ht, ?_⟩
 by_cases gt : T = tag
 case neg =>
  rw [if_pos gt] at k1
  rw [if_pos (by simpa using gt)]
  refine ret0 15 (zeros_len 32) hs zs2 ?_
  intro h6 hs
  exact k1 15 rfl (by decide) _ hs.drop.drop.drop
 rw [if_neg (by simpa using gt)] at k1 k2
 rw [if_neg (by simpa using gt)]
 refine ⟨_, hs.ld zs1 rfl, ?_⟩
 refine rRead10_sp hs cj.s.s.s _ ?_
 intro h3 hs
 rw [er, if_neg (by decide)]
 refine ⟨_, hs.ld zs1 rfl, ?_⟩
 rw [ltI_eq]
 by_cases gv : num4 bs 8 < (sRead C (bs.getD 5 0)).1
 ·rw [if_pos gv] at k1
  rw [if_pos (by simpa using gv)]
  refine ret0 16 (zeros_len 32) hs zs2 ?_
  intro h6 hs
  exact k1 16 rfl (by decide) _ hs.drop.drop.drop
 rw [if_neg gv] at k1 k2
 rw [if_neg (by simpa using gv)]
 have ok := ref_ok hs cj.s.s.s
 obtain ⟨_, lc1⟩ := ref_cell hs cj.s.s.s
 refine ⟨_, hs.ld zs1 rfl, _, lc1 0 _ rfl, _, lc1 1 _ rfl, _, lc1 2 _ rfl, _, lc1 3 _ rfl, _, lc1 4 _ rfl, _, lc1 5 _ rfl, _, lc1 6 _ rfl, ?_⟩
 refine rLast10_sp ok.may hs ?_
 intro h4 hs
 refine ⟨Sat.cs hs zs1 rfl, ?_⟩
 rw [ltI_eq]
 by_cases gl : lastM C.cfg < num4 bs 8
 ·rw [if_pos gl] at k1
  rw [if_pos (by simpa using gl)]
  refine ret0 16 (zeros_len 32) hs zs2 ?_
  intro h6 hs
  exact k1 16 rfl (by decide) _ hs.drop.drop.drop
 rw [if_neg gl] at k2
 rw [if_neg (by simpa using gl)]
 refine ⟨_, hs.ld zs1 rfl, _, hs.ld zs1 rfl, _, hs.ld zs1 rfl, _, _, _, hs.ld zs1 rfl, _, ht, img_row hs zs1 ht, ?_⟩
 refine ⟨Sat.can hs zs2 (by simp [zeros]), ?_⟩
 intro h10 e10
 replace hs := Sat.wra (xs := imgL (bs.getD 5 0) (bs.getD 6 0) (num4 bs 8) own tag) hs zs2 e10 (by rw [img_len ht]; rfl)
 clear e10
 simp only [put_succ, put_zero] at hs
 refine ⟨_, hs.ld zs2 rfl, _, hs.ld zs2 rfl, _, hs.ld zs2 rfl, _, _, _, hs.ld zs2 rfl, _, ht, img_row hs zs2 ht, ?_⟩
 exact k2 rfl _ hs.drop.drop.drop
theorem rgate_sp {Q : Int -> Int -> Int -> Option Addr -> Nat -> Nat -> List Int -> Int -> H -> Prop} {rr jl jr lc : Nat} {lp : Option Addr} {bs : List Int} {q : Option Addr} {l c : Nat} {R : List SR} (hs : Sat h0 A h) (cj : At A j (refE r C))
  (cr : At A jr (blk rr [.slice lp R.length lc])) (cm : At A jl (slE lp R.length lc 2 (secV R))) (hR : R.length < 2 ^ 40) (gd : SR.good R) (rR : ∀ x, x ∈ R -> ∀ h', Sat h0 A h' -> hsv h' x.p 1 x.bytes.length (ints .u8 x.bytes))
  (rd : ∀ h', Sat h0 A h' -> hsv h' q 1 l (ints .u8 bs)) (hb : bytesOk bs) (hlc : l ≤ c) (hl : l < 2 ^ 50)
  (k1 : ∀ e, e = gateM C (R.map SR.kv) bs -> e ≠ 0 -> ∀ h', Sat h0 A h' -> Q 0 0 0 none 0 0 (zeros 32) e h')
  (k2 : ∀ (own : Sl) (n : Nat), gateM C (R.map SR.kv) bs = 0 -> parseW bs = (0, 0) -> num4 bs 12 = n -> own.2.1 = n -> ∀ h', Sat h0 (sE own 1 (ints .u8 ((bs.drop 16).take n)) :: A) h' -> Q (bs.getD 5 0) (bs.getD 6 0) (num4 bs 8) own.1 own.2.1 own.2.2 ((bs.drop (16 + n)).take 32) 0 h') :
  F_portcullisref13_Check ⟨r, 0, none⟩ ⟨rr, 0, none⟩ q l c Q h := by
 unfold F_portcullisref13_Check G_portcullisref13_Check
 try simp only [add_mk, Nat.zero_add, List.append_nil]
 have hbl : bs.length = l := by have := (rd _ hs).1; simpa using this
 obtain ⟨G, hG⟩ : ∃ G, G = gateM C (R.map SR.kv) bs := ⟨_, rfl⟩
 rw [← hG] at k1 k2
 unfold gateM at hG
 intro n14 _ hn; replace hs := Sat.new hs hn
 replace hs : Sat h0 (blk n14 (imgL 0 0 0 (none, 0, 0) (zeros 32)) :: A) _ := hs
 obtain ⟨_, lc0⟩ := ref_cell hs cj.s
 refine ⟨_, lc0 11 _ rfl, ?_⟩
 by_cases ho : C.out = true
 ·rw [if_pos ho] at hG ⊢
  refine ret0 8 (zeros_len 32) hs .z ?_
  intro h2 hs
  exact k1 8 hG.symm (by decide) _ hs.drop
 rw [if_neg ho] at hG ⊢
 refine rParse_sp hs (fun h' hs' => rd _ hs'.drop) hb hlc hl ?_ ?_
 ·intro e at_ h2 hp he hs
  intro n37 _ hn; replace hs := Sat.new hs hn
  intro n40 _ hn; replace hs := Sat.new hs hn
  refine ⟨Sat.can hs zs1 (by simp [zeros]), ?_⟩
  intro h3 e3
  replace hs := Sat.wra (xs := imgL 0 0 0 (none, 0, 0) (zeros 32)) hs zs1 e3 rfl
  clear e3
  simp only [put_succ, put_zero] at hs
  refine ⟨Sat.can hs .z (by simp), ?_⟩
  intro h4 e4
  replace hs := Sat.wra hs .z e4 rfl
  clear e4
  simp only [put_zero] at hs
  refine ⟨_, hs.ld .z rfl, ?_⟩
  rw [if_pos (by simpa using he)]
  refine ⟨_, hs.ld .z rfl, Sat.can hs zs2 (by simp [zeros]), ?_⟩
  intro h5 e5
  replace hs := Sat.wra (xs := imgL 0 0 0 (none, 0, 0) (zeros 32)) hs zs2 e5 rfl
  clear e5
  simp only [put_succ, put_zero] at hs
  refine ⟨Sat.cs hs .z rfl, _, hs.ld zs2 rfl, _, hs.ld zs2 rfl, _, hs.ld zs2 rfl, _, _, _, hs.ld zs2 rfl, _, zeros_len 32, img_row hs zs2 (zeros_len 32), ?_⟩
  refine k1 e ?_ he _ hs.drop.drop.drop
  rw [hp, if_pos he] at hG
  exact hG.symm
 intro own n h2 hp hnn hon hs
 obtain ⟨pl, p5, p6, pn⟩ := parse_ok hb hp hnn
 have htl : ((bs.drop (16 + n)).take 32).length = 32 := by rw [List.length_take, List.length_drop]; omega
 rw [hp, if_neg (by decide)] at hG
 intro n37 _ hn; replace hs := Sat.new hs hn
 intro n40 _ hn; replace hs := Sat.new hs hn
 refine ⟨Sat.can hs zs1 (by simp [zeros]), ?_⟩
 intro h3 e3
 replace hs := Sat.wra (xs := imgL (bs.getD 5 0) (bs.getD 6 0) (num4 bs 8) own ((bs.drop (16 + n)).take 32)) hs zs1 e3 (by rw [img_len htl]; rfl)
 clear e3
 simp only [put_succ, put_zero] at hs
 refine ⟨Sat.can hs .z (by simp), ?_⟩
 intro h4 e4
 replace hs := Sat.wra hs .z e4 rfl
 clear e4
 simp only [put_zero] at hs
 refine ⟨_, hs.ld .z rfl, ?_⟩
 rw [if_neg (by decide)]
 replace hs := hs.drop
 replace hs : Sat h0 (blk n37 (imgL (bs.getD 5 0) (bs.getD 6 0) (num4 bs 8) own ((bs.drop (16 + n)).take 32)) :: sE own 1 (ints .u8 ((bs.drop 16).take n)) :: blk n14 (imgL 0 0 0 (none, 0, 0) (zeros 32)) :: A) _ := hs
 obtain ⟨_, lc1⟩ := ref_cell hs cj.s.s.s
 refine ⟨_, hs.ld .z rfl, _, lc1 1 _ rfl, ?_⟩
 rw [leI_eq]
 by_cases gs : C.cfg.slots ≤ bs.getD 5 0
 ·rw [if_pos gs] at hG
  rw [if_pos (by simpa using gs)]
  refine ret0 5 (zeros_len 32) hs zs2 ?_
  intro h6 hs
  exact k1 5 hG.symm (by decide) _ hs.drop.drop.drop
 rw [if_neg gs] at hG
 rw [if_neg (by simpa using gs)]
 have er : (sRead C (bs.getD 5 0)).2 = 0 := by rw [sread_err ho p5.1, if_neg gs]
 intro J69 hJ69
 refine ⟨_, hs.ld .z rfl, ?_⟩
 refine rhas_sp _ hs cr.s.s.s cm.s.s.s hR ?_
 have ekv := at_kv R (bs.getD 6 0)
 cases ex : SR.at_ R (bs.getD 6 0) with
 | none =>
  rw [← ekv, ex] at hG
  rw [if_pos (by simp)]
  refine ret0 13 (zeros_len 32) hs zs2 ?_
  intro h6 hs
  exact k1 13 hG.symm (by decide) _ hs.drop.drop.drop
 | some x =>
 rw [← ekv, ex] at hG
 dsimp only [Option.map_some] at hG
 rw [if_neg (by simp)]
 have rv := revoked_err ho p6.1
 refine ⟨_, hs.ld .z rfl, _, lc1 4 _ rfl, ?_⟩
 rw [leI_eq]
 by_cases gk : C.cfg.keys ≤ bs.getD 6 0
 ·rw [if_pos gk] at hG
  rw [if_pos (by simpa using gk)]
  refine ret0 13 (zeros_len 32) hs zs2 ?_
  intro h6 hs
  exact k1 13 hG.symm (by decide) _ hs.drop.drop.drop
 rw [if_neg gk] at rv hG
 rw [if_neg (by simpa using gk)]
 apply hJ69
 clear hJ69
 refine ⟨_, hs.ld .z rfl, ?_⟩
 unfold F_portcullisref10_Revoked G_portcullisref10_Revoked
 refine rRevoked_sp hs cj.s.s.s _ ?_
 intro h5 hs
 dsimp only
 rw [rv, if_neg (by decide)]
 by_cases gr : (revokedM C (bs.getD 6 0)).1 = true
 ·rw [if_pos gr] at hG ⊢
  refine ret0 14 (zeros_len 32) hs zs2 ?_
  intro h6 hs
  exact k1 14 hG.symm (by decide) _ hs.drop.drop.drop
 rw [if_neg gr] at hG ⊢
 have et : (bs.drop (bs.length - 32)).take 32 = (bs.drop (16 + n)).take 32 := by rw [show bs.length - 32 = 16 + n by omega]
 rw [hbl] at hG et
 rw [et] at hG
 have hbb : isBy (bs.take (l - 32)) := fun v hv => hb v (List.mem_of_mem_take hv)
 have leaf : ∀ nb h', Sat h0 (blk nb (ints .u8 (zeros 32)) :: blk n37 (imgL (bs.getD 5 0) (bs.getD 6 0) (num4 bs 8) own ((bs.drop (16 + n)).take 32)) :: sE own 1 (ints .u8 ((bs.drop 16).take n)) :: blk n14 (imgL 0 0 0 (none, 0, 0) (zeros 32)) :: A) h' -> K1_portcullisref13_Check F_portcullisref10_Last F_portcullisref10_Read ⟨r, 0, none⟩ Q h' nb (macM x.bytes (bs.take (l - 32))) n37 n14 := by
  intro nb h' hs'
  replace hs' := hs'.front (e := sE own 1 (ints .u8 ((bs.drop 16).take n))) zs2
  simp only [del] at hs'
  refine rgateK_sp (own := own) (E := sE own 1 (ints .u8 ((bs.drop 16).take n)) :: A) (hs'.perm ?_) cj.s ho (macM_len _ _) htl er ?_ ?_
  ·exact ((List.Perm.swap _ _ _).trans (List.Perm.cons _ ((List.Perm.swap _ _ _).trans (List.Perm.cons _ (List.Perm.swap _ _ _)))))
  ·intro e he hne h6 hs6
   exact k1 e (by rw [he]; exact hG.symm) hne _ hs6.drop
  ·intro he h6 hs6
   exact k2 own n (by rw [hG]; exact he) hp hnn hon _ hs6
 refine ⟨_, hs.ld .z rfl, ?_, ?_⟩
 ·refine rbody_sp hs (fun h' hs' => rd _ hs'.drop.drop.drop) (by omega) hlc (by omega) ?_
  intro p' c' h6 hc' hs
  refine ⟨Sat.cs hs zs1 rfl, ?_, ?_⟩
  ·refine rsignN_sp (bb := bs.take (l - 32)) hs cr.s.s.s.s cm.s.s.s.s hR gd (fun y hy h' hs' => rR y hy _ hs'.drop.drop.drop.drop) ex hbb (by omega) (fun h' hs' => hs'.sv .z) ?_
   intro h7 hs
   intro nb _ hn; replace hs := Sat.new hs hn
   exact ⟨Sat.can hs .z (by simp [zeros]), leaf _ _ (hs.sub (by (repeat (first | exact List.Sublist.refl _ | apply List.Sublist.cons_cons | apply List.Sublist.cons))))⟩
  ·intro nb _ hn; replace hs := Sat.new hs hn
   refine ⟨Sat.cs hs zs2 rfl, ?_⟩
   refine rsignN_sp (bb := bs.take (l - 32)) hs cr.s.s.s.s.s cm.s.s.s.s.s hR gd (fun y hy h' hs' => rR y hy _ hs'.drop.drop.drop.drop.drop) ex hbb (by omega) (fun h' hs' => hs'.sv zs1) ?_
   intro h7 hs
   exact ⟨Sat.can hs .z (by simp [zeros]), leaf _ _ (hs.sub (by (repeat (first | exact List.Sublist.refl _ | apply List.Sublist.cons_cons | apply List.Sublist.cons))))⟩
 ·intro nb _ hn; replace hs := Sat.new hs hn
  refine ⟨Sat.cs hs zs1 rfl, ?_⟩
  refine rbody_sp hs (fun h' hs' => rd _ hs'.drop.drop.drop.drop) (by omega) hlc (by omega) ?_
  intro p' c' h6 hc' hs
  refine ⟨Sat.cs hs zs2 rfl, ?_⟩
  refine rsignN_sp (bb := bs.take (l - 32)) hs cr.s.s.s.s.s cm.s.s.s.s.s hR gd (fun y hy h' hs' => rR y hy _ hs'.drop.drop.drop.drop.drop) ex hbb (by omega) (fun h' hs' => hs'.sv .z) ?_
  intro h7 hs
  exact ⟨Sat.can hs zs1 (by simp [zeros]), leaf _ _ (hs.sub (by (repeat (first | exact List.Sublist.refl _ | apply List.Sublist.cons_cons | apply List.Sublist.cons))))⟩
end
end Go.Proofs.YteedolonhdbieaaGreatDoor
end
section
namespace Go.Proofs.YteedolonhdbieaaGreatDoor
open Go Go.Vc
set_option maxRecDepth 100000
attribute [local irreducible] macM
def fourL (v : Int) (t : Nat) : List Int := (List.range t).map fun j => IntKind.u8.wrap (v.fdiv (2 ^ (8 * j)))
theorem fourL_len (v : Int) (t : Nat) : (fourL v t).length = t := by simp [fourL]
theorem fourL_succ (v : Int) (t : Nat) : fourL v (t + 1) = fourL v t ++ [IntKind.u8.wrap (v.fdiv (2 ^ (8 * t)))] := by
 unfold fourL; rw [List.range_succ, List.map_append]; rfl
def coverM (slot key ver : Int) (pay : List Int) : List Int := [80, 67, 85, 76, 1, IntKind.u8.wrap slot, IntKind.u8.wrap key, 0] ++ fourL ver 4 ++ fourL (pay.length : Int) 4 ++ pay
theorem coverM_len (slot key ver : Int) (pay : List Int) : (coverM slot key ver pay).length = 16 + pay.length := by
 unfold coverM
 rw [List.length_append, List.length_append, List.length_append, fourL_len, fourL_len]; rfl
def may11 (slot key ver : Int) (n : Nat) : Int :=
 if slot < 0 ∨ 7 < slot ∨ key < 0 ∨ 63 < key ∨ ver < 0 ∨ 4294967295 < ver then 2 else if 524240 < n then 4 else 0
section
variable {h0 h : H} {A : List Ent} {i j p r b s m : Nat} {C : Cm}
theorem rfour_sp {Q : Option Addr -> Nat -> Nat -> H -> Prop} {q : Option Addr} {l c : Nat} {xs : List Int} (v : Int) (hs : Sat h0 (slE q l c 1 (ints .u8 xs) :: A) h) (hl : l < 2 ^ 45)
  (k : ∀ p' c' h', Sat h0 (slE p' (l + 4) c' 1 (ints .u8 (xs ++ fourL v 4)) :: A) h' -> Q p' (l + 4) c' h') : F_portcullisref11_four q l c v Q h := by
 unfold F_portcullisref11_four G_portcullisref11_four
 intro J hJ
 refine loopS 4 (fun t (s : Option Addr × Nat) => [.dv (.one (.slice s.1 (l + t) s.2)), si t]) (fun t s h => Sat h0 (slE s.1 (l + t) s.2 1 (ints .u8 (xs ++ fourL v t)) :: A) h) ?_ ?_ 0 (q, c) _ (by omega) (by simpa [fourL] using hs)
 ·clear hs
  rintro t ⟨p2, c2⟩ h2 ht hs hk
  dsimp only at hs hk ⊢
  apply hJ
  rw [ltI_eq, if_pos (by rw [decide_eq_true_iff]; omega)]
  have e : IntKind.i64.wrap (8 * (t : Int)) = ((8 * t : Nat) : Int) := by rw [wrap_id (by omega)]; push_cast; rfl
  rw [e]
  refine ⟨by omega, ?_⟩
  rw [Int.toNat_natCast, show min (8 * t) 64 = 8 * t by omega]
  intro nb _ hn; replace hs := Sat.new hs hn
  refine ⟨_, hs.bv (i := 0) (l := 1) .z rfl (ints_one .u8 [_]), ?_⟩
  refine Sat.app hs (i := 1) (vs := ints .u8 [_]) zs1 rfl rfl (ints_one .u8 [_]) (by omega) ?_
  intro p3 c3 h3 hs
  simp only [put_succ, put_zero] at hs
  rw [wrap_succ (by omega)]
  refine hk (p3, c3) h3 ?_
  dsimp only
  rw [fourL_succ, ← List.append_assoc, ints_app .u8 _ [_]]
  exact hs.drop
 ·clear hs
  rintro ⟨p2, c2⟩ h2 hs
  dsimp only at hs ⊢
  apply hJ
  rw [ltI_eq, if_neg (by decide)]
  exact k _ _ _ hs
theorem rcover_sp {Q : Option Addr -> Nat -> Nat -> H -> Prop} {slot key ver : Int} {pay tag : List Int} {pp : Option Addr} {pl pc : Nat} (hs : Sat h0 A h) (hp : pl < 2 ^ 44) (rd : ∀ h', Sat h0 A h' -> hsv h' pp 1 pl (ints .u8 pay))
  (k : ∀ p' c' h', Sat h0 (slE p' (16 + pl) c' 1 (ints .u8 (coverM slot key ver pay)) :: A) h' -> Q p' (16 + pl) c' h') : F_portcullisref11_Cover slot key ver pp pl pc tag Q h := by
 unfold F_portcullisref11_Cover G_portcullisref11_Cover
 try simp only [add_mk, Nat.zero_add, List.append_nil]
 have hpl : pay.length = pl := by have := (rd _ hs).1; simpa using this
 intro n10 _ hn; replace hs := Sat.new hs hn
 replace hs : Sat h0 (blk n10 (imgL slot key ver (pp, pl, pc) tag) :: A) _ := hs
 refine ⟨_, hs.ld .z rfl, _, hs.ld .z rfl, ?_⟩
 intro n15 _ hn; replace hs := Sat.new hs hn
 refine ⟨_, hs.ld zs1 rfl, ?_⟩
 replace hs := hs.as_sl (i := 0) (l := 8) (sz := 1) .z rfl (ints_one .u8 [80, 67, 85, 76, 1, IntKind.u8.wrap slot, IntKind.u8.wrap key, 0])
 simp only [put_zero] at hs
 refine rfour_sp (xs := [80, 67, 85, 76, 1, IntKind.u8.wrap slot, IntKind.u8.wrap key, 0]) ver hs (by decide) ?_
 intro p2 c2 h2 hs
 refine ⟨_, _, _, hs.ld zs1 rfl, ?_⟩
 refine rfour_sp (pl : Int) hs (by decide) ?_
 intro p3 c3 h3 hs
 refine ⟨_, _, _, hs.ld zs1 rfl, _, rd _ hs.drop.drop, ?_⟩
 refine Sat.app hs (i := 0) (vs := ints .u8 pay) .z (by simp [hpl]) rfl (ints_one _ _) (by dsimp only; omega) ?_
 intro p4 c4 h4 hs
 simp only [put_zero] at hs
 have e : ints .u8 ([80, 67, 85, 76, 1, IntKind.u8.wrap slot, IntKind.u8.wrap key, 0] ++ fourL ver 4 ++ fourL (pl : Int) 4) ++ ints .u8 pay = ints .u8 (coverM slot key ver pay) := by
  unfold coverM; rw [hpl, ← ints_app]
 rw [e] at hs
 have K := k p4 c4 h4
 rw [show 16 + pl = 8 + 4 + 4 + pl by omega] at K
 exact K (hs.sub (by (repeat (first | exact List.Sublist.refl _ | apply List.Sublist.cons_cons | apply List.Sublist.cons))))
theorem rtagged_sp {Q : Option Addr -> Nat -> Nat -> H -> Prop} {slot key ver : Int} {pay tag : List Int} {pp : Option Addr} {pl pc : Nat} (hs : Sat h0 A h) (ht : tag.length = 32) (hp : pl < 2 ^ 44) (rd : ∀ h', Sat h0 A h' -> hsv h' pp 1 pl (ints .u8 pay))
  (k : ∀ p' c' h', Sat h0 (slE p' (48 + pl) c' 1 (ints .u8 (coverM slot key ver pay ++ tag)) :: A) h' -> 48 + pl ≤ c' -> Q p' (48 + pl) c' h') : F_portcullisref11_Tagged slot key ver pp pl pc tag Q h := by
 unfold F_portcullisref11_Tagged G_portcullisref11_Tagged
 try simp only [add_mk, Nat.zero_add, List.append_nil]
 intro n10 _ hn; replace hs := Sat.new hs hn
 replace hs : Sat h0 (blk n10 (imgL slot key ver (pp, pl, pc) tag) :: A) _ := hs
 refine ⟨_, hs.ld .z rfl, _, hs.ld .z rfl, _, hs.ld .z rfl, _, _, _, hs.ld .z rfl, tag, ht, img_row hs .z ht, ?_⟩
 refine rcover_sp (pay := pay) hs hp (fun h' hs' => rd _ hs'.drop) ?_
 intro p2 c2 h2 hs
 intro J hJ
 refine loopS 32 (fun t (s : Option Addr × Nat) => [.dv (.one (.slice s.1 (16 + pl + t) s.2)), si t]) (fun t s h => Sat h0 (slE s.1 (16 + pl + t) s.2 1 (ints .u8 (coverM slot key ver pay ++ tag.take t)) :: blk n10 (imgL slot key ver (pp, pl, pc) tag) :: A) h) ?_ ?_ 0 (p2, c2) _ (by omega) (by simpa using hs)
 ·clear hs
  rintro t ⟨p6, c6⟩ h6 ht2 hs hk
  dsimp only at hs hk ⊢
  apply hJ
  rw [ltI_eq, if_pos (by rw [decide_eq_true_iff]; omega)]
  have ht3 : t < tag.length := by omega
  refine ⟨by omega, by omega, tag[t], ?_, ?_⟩
  ·simp only [Int.toNat_natCast, Nat.mul_one]
   have := img_row hs zs1 ht t (.int .u8 tag[t]) (by rw [ints_get, List.getElem?_eq_getElem ht3]; rfl)
   first | exact this | (rw [add_mk] at this; exact this)
  intro b3 _ hn; replace hs := Sat.new hs hn
  refine ⟨_, hs.bv (i := 0) (l := 1) .z rfl (ints_one .u8 [tag[t]]), ?_⟩
  refine Sat.app hs (i := 1) (vs := ints .u8 [tag[t]]) zs1 rfl rfl (ints_one _ _) (by omega) ?_
  intro p7 c7 h7 hs
  simp only [put_succ, put_zero] at hs
  rw [wrap_succ (by omega)]
  refine hk (p7, c7) h7 ?_
  dsimp only
  rw [take_snoc _ ht3, ← List.append_assoc, ints_app .u8 _ [tag[t]]]
  exact hs.drop
 ·clear hs
  rintro ⟨p6, c6⟩ h6 hs
  dsimp only at hs ⊢
  apply hJ
  rw [ltI_eq, if_neg (by decide)]
  rw [List.take_of_length_le (by omega)] at hs
  have hc := capS hs .z
  have K := k p6 c6 h6
  rw [show 48 + pl = 16 + pl + 32 by omega] at K
  exact K (hs.sub (by (repeat (first | exact List.Sublist.refl _ | apply List.Sublist.cons_cons | apply List.Sublist.cons)))) hc
theorem rmay11_sp {Q : Int -> H -> Prop} {slot key ver : Int} {tag : List Int} {pp : Option Addr} {pl pc : Nat} (hs : Sat h0 A h) (k : ∀ h', Sat h0 A h' -> Q (may11 slot key ver pl) h') : F_portcullisref11_May slot key ver pp pl pc tag Q h := by
 unfold F_portcullisref11_May G_portcullisref11_May
 try simp only [add_mk, Nat.zero_add, List.append_nil]
 intro n9 _ hn; replace hs := Sat.new hs hn
 replace hs : Sat h0 (blk n9 (imgL slot key ver (pp, pl, pc) tag) :: A) _ := hs
 have K := k _ hs.drop
 clear k
 unfold may11 at K
 intro J hJ
 refine ⟨_, hs.ld .z rfl, ?_⟩
 rw [ltI_eq]
 by_cases g1 : slot < 0
 ·rw [if_pos (by simpa using g1)]
  rw [if_pos (Or.inl g1)] at K; exact K
 rw [if_neg (by simpa using g1)]
 refine ⟨_, hs.ld .z rfl, ?_⟩
 rw [ltI_eq]
 by_cases g2 : 7 < slot
 ·rw [if_pos (by simpa using g2)]
  rw [if_pos (Or.inr (Or.inl g2))] at K; exact K
 rw [if_neg (by simpa using g2)]
 refine ⟨_, hs.ld .z rfl, ?_⟩
 rw [ltI_eq]
 by_cases g3 : key < 0
 ·rw [if_pos (by simpa using g3)]
  rw [if_pos (by omega)] at K; exact K
 rw [if_neg (by simpa using g3)]
 refine ⟨_, hs.ld .z rfl, ?_⟩
 rw [ltI_eq]
 by_cases g4 : 63 < key
 ·rw [if_pos (by simpa using g4)]
  rw [if_pos (by omega)] at K; exact K
 rw [if_neg (by simpa using g4)]
 refine ⟨_, hs.ld .z rfl, ?_⟩
 rw [ltI_eq]
 by_cases g5 : ver < 0
 ·rw [if_pos (by simpa using g5)]
  rw [if_pos (by omega)] at K; exact K
 rw [if_neg (by simpa using g5)]
 refine ⟨_, hs.ld .z rfl, ?_⟩
 intro v25 hv
 subst hv
 rw [ltI_eq]
 by_cases g6 : 4294967295 < ver
 ·rw [if_pos (by simpa using g6)]
  rw [if_pos (by omega)] at K; exact K
 rw [if_neg (by simpa using g6)]
 rw [if_neg (by omega)] at K
 apply hJ
 refine ⟨_, _, _, hs.ld .z rfl, ?_⟩
 dsimp only
 rw [ltI_eq]
 by_cases g7 : 524240 < pl
 ·rw [if_pos (by rw [decide_eq_true_iff]; omega)]
  rw [if_pos g7] at K; exact K
 ·rw [if_neg (by rw [decide_eq_true_iff]; omega)]
  rw [if_neg g7] at K; exact K
theorem rmake_sp {Q : Option Addr -> Nat -> Nat -> Int -> H -> Prop} {slot key ver : Int} {sec pay tag : List Int} {sp pp : Option Addr} {sl sc pl pc : Nat} (hs : Sat h0 A h) (ht : tag.length = 32) (hm : may11 slot key ver pl = 0) (hsb : isBy sec) (hsl : sl < 2 ^ 40) (hpb : isBy pay)
  (rs : ∀ h', Sat h0 A h' -> hsv h' sp 1 sl (ints .u8 sec)) (rd : ∀ h', Sat h0 A h' -> hsv h' pp 1 pl (ints .u8 pay))
  (k : ∀ p' c' h', Sat h0 (slE p' (48 + pl) c' 1 (ints .u8 (coverM slot key ver pay ++ macM sec (coverM slot key ver pay))) :: A) h' -> 48 + pl ≤ c' -> Q p' (48 + pl) c' 0 h') : F_portcullisref11_Make sp sl sc slot key ver pp pl pc tag Q h := by
 unfold F_portcullisref11_Make G_portcullisref11_Make
 try simp only [add_mk, Nat.zero_add, List.append_nil]
 have hpl : pay.length = pl := by have := (rd _ hs).1; simpa using this
 have hp : pl ≤ 524240 := by
  unfold may11 at hm
  by_cases g : slot < 0 ∨ 7 < slot ∨ key < 0 ∨ 63 < key ∨ ver < 0 ∨ 4294967295 < ver
  ·rw [if_pos g] at hm; cases hm
  ·rw [if_neg g] at hm
   by_cases g2 : 524240 < pl
   ·rw [if_pos g2] at hm; cases hm
   ·omega
 have hcb : isBy (coverM slot key ver pay) := by
  intro v hv
  unfold coverM at hv
  have w8 : ∀ n, 0 ≤ IntKind.u8.wrap n /\ IntKind.u8.wrap n < 256 := fun n => by rw [IntKind.wrap_u8]; omega
  have f8 : ∀ v t x, x ∈ fourL v t -> 0 ≤ x /\ x < 256 := by
   intro v t x hx
   unfold fourL at hx
   obtain ⟨j, _, rfl⟩ := List.mem_map.1 hx
   exact w8 _
  rcases List.mem_append.1 hv with hv | hv
  ·rcases List.mem_append.1 hv with hv | hv
   ·rcases List.mem_append.1 hv with hv | hv
    ·simp only [List.mem_cons, List.not_mem_nil, or_false] at hv
     rcases hv with rfl | rfl | rfl | rfl | rfl | rfl | rfl | rfl
     ·decide
     ·decide
     ·decide
     ·decide
     ·decide
     ·exact w8 _
     ·exact w8 _
     ·decide
    ·exact f8 _ _ _ hv
   ·exact f8 _ _ _ hv
  ·exact hpb v hv
 intro n16 _ hn; replace hs := Sat.new hs hn
 replace hs : Sat h0 (blk n16 (imgL slot key ver (pp, pl, pc) tag) :: A) _ := hs
 refine ⟨_, hs.ld .z rfl, _, hs.ld .z rfl, _, hs.ld .z rfl, _, _, _, hs.ld .z rfl, tag, ht, img_row hs .z ht, ?_⟩
 refine rmay11_sp hs ?_
 intro h2 hs
 rw [hm, if_neg (by decide)]
 refine ⟨_, hs.ld .z rfl, _, hs.ld .z rfl, _, hs.ld .z rfl, _, _, _, hs.ld .z rfl, tag, ht, img_row hs .z ht, ?_⟩
 refine rcover_sp (pay := pay) hs (by dsimp only; omega) (fun h' hs' => rd _ hs'.drop) ?_
 intro p2 c2 h3 hs
 refine rmac_sp (key := sec) (b := coverM slot key ver pay) hs hsb hcb (by omega) (by dsimp only; omega) (fun h' hs' => rs _ hs'.drop.drop) (fun h' hs' => hs'.sv .z) ?_
 intro h4 hs
 replace hs := hs.drop
 refine ⟨Sat.can hs .z (by simp [ht]), ?_⟩
 intro h5 e5
 replace hs := Sat.wr hs (i := 0) (o := 4) .z e5
 clear e5
 simp only [put_zero] at hs
 have es : splice (imgL slot key ver (pp, pl, pc) tag) 4 (ints .u8 (macM sec (coverM slot key ver pay))) = imgL slot key ver (pp, pl, pc) (macM sec (coverM slot key ver pay)) := by
  have := splice_append [Value.int .i64 slot, .int .i64 key, .int .i64 ver, .slice pp pl pc] (ints .u8 tag) [] (ints .u8 (macM sec (coverM slot key ver pay))) (by simp [ht, macM_len])
  simpa using this
 rw [es] at hs
 refine ⟨_, hs.ld .z rfl, _, hs.ld .z rfl, _, hs.ld .z rfl, _, _, _, hs.ld .z rfl, _, macM_len _ _, img_row hs .z (macM_len _ _), ?_⟩
 refine rtagged_sp (pay := pay) hs (macM_len _ _) (by dsimp only; omega) (fun h' hs' => rd _ hs'.drop) ?_
 intro p6 c6 h6 hs hc
 exact k _ _ _ (hs.sub (by (repeat (first | exact List.Sublist.refl _ | apply List.Sublist.cons_cons | apply List.Sublist.cons)))) hc
end
end Go.Proofs.YteedolonhdbieaaGreatDoor
end
section
namespace Go.Proofs.YteedolonhdbieaaGreatDoor
open Go Go.Vc
set_option maxRecDepth 1000000
theorem n13 : newM [(1, [7])] = none := by decide
end Go.Proofs.YteedolonhdbieaaGreatDoor
end
section
namespace Go.Proofs.YteedolonhdbieaaGreatDoor
open Go Go.Vc
set_option maxRecDepth 100000
attribute [local irreducible] macM
structure TkIn (h : H) (key : Int) (id tag : List Int) (cs : List CvM) (ip : Option Addr) (il : Nat) (cp : Option Addr) (cl : Nat) : Prop where
 ri : hsv h ip 1 il (ints .u8 id)
 rb : isBy id
 ii : il + 4096 ≤ 2 ^ 47
 rc : hsv h cp 5 cl (cvsV cs)
 tl : tag.length = 32
 tb : isBy tag
section
variable {h0 h : H} {A : List Ent} {i j p r b s m : Nat} {C : Cm}
end
end Go.Proofs.YteedolonhdbieaaGreatDoor
end
section
namespace Go.Proofs.YteedolonhdbieaaGreatDoor
open Go Go.Vc
set_option maxRecDepth 100000
def cntB (C : Cm) (k : Nat) : Nat := cnt C.s.blown (((k : Nat) : Int) * C.cfg.fuses).toNat C.cfg.fuses.toNat
def valB (C : Cm) (k : Nat) : Int := if (cntB C k : Int) * C.cfg.step < numOf C k then numOf C k else (cntB C k : Int) * C.cfg.step
structure Bumped (u : Bool) (C D : Cm) (slot : Nat) (v e : Int) : Prop where
 cfg : D.cfg = C.cfg
 snd : sndU u D
 keys : ∀ q : Nat, C.cfg.slots * C.cfg.fuses ≤ (q : Int) -> D.s.blown.getD q false = C.s.blown.getD q false
 other : ∀ k : Nat, (k : Int) < C.cfg.slots -> k ≠ slot -> valB D k = valB C k
 me : valB D slot = valB C slot ∨ (valB D slot = v /\ valB C slot < v)
 done : e = 0 -> valB D slot = max v (valB C slot)
 bad : e ≠ 0 -> e ≠ 8 -> D = C
def keyB (C : Cm) (k : Nat) : Bool := C.s.blown.getD (C.cfg.slots * C.cfg.fuses + (k : Int)).toNat false
structure RevokedL (u : Bool) (C D : Cm) (key : Nat) (e : Int) : Prop where
 cfg : D.cfg = C.cfg
 snd : sndU u D
 vals : ∀ k : Nat, (k : Int) < C.cfg.slots -> valB D k = valB C k
 other : ∀ k : Nat, k ≠ key -> keyB D k = keyB C k
 up : keyB C key = true -> keyB D key = true
 done : e = 0 -> keyB D key = true /\ D.out = false
 bad : e ≠ 0 -> e ≠ 8 -> D = C
end Go.Proofs.YteedolonhdbieaaGreatDoor
end
section
namespace Go.Proofs.YteedolonhdbieaaGreatDoor
open Go Go.Vc
set_option maxRecDepth 100000
attribute [local irreducible] macM
structure Hands (C : Cm) (L : List Sec) (bs : List Int) (x y : Nat) (s : Sec) : Prop where
 on : C.out = false
 fine : (parseW bs).1 = 0
 slot : bs.getD 5 0 = (x : Int)
 key : bs.getD 6 0 = (y : Int)
 slots : (x : Int) < C.cfg.slots
 keys : (y : Int) < C.cfg.keys
 has : L.find? (fun z => z.1 == (y : Int)) = some s
 may : keyB C y = false
 tag : macM s.2 (bs.take (bs.length - 32)) = (bs.drop (bs.length - 32)).take 32
 low : valB C x ≤ num4 bs 8
 high : num4 bs 8 ≤ lastM C.cfg
structure Lifted (C D : Cm) : Prop where
 cfg : D.cfg = C.cfg
 vals : ∀ k : Nat, (k : Int) < C.cfg.slots -> valB C k ≤ valB D k
 keys : ∀ k : Nat, (k : Int) < C.cfg.keys -> keyB C k = true -> keyB D k = true
end Go.Proofs.YteedolonhdbieaaGreatDoor
end
section
namespace Go.Proofs.YteedolonhdbieaaGreatDoor
open Go Go.Vc
set_option maxRecDepth 100000
attribute [local irreducible] macM
def tellsM (C : Cm) (L : List Sec) (B : List Int) : Int :=
 if (parseW B).1 ≠ 0 /\ (parseW B).1 ≠ 6 then (parseW B).1
 else if 5 < B.length /\ C.cfg.slots ≤ B.getD 5 0 then 5
 else if 6 < B.length /\ (C.cfg.keys ≤ B.getD 6 0 ∨ L.find? (fun x => x.1 == B.getD 6 0) = none) then 13
 else if 6 < B.length /\ (revokedM C (B.getD 6 0)).1 = true then 14 else 0
theorem gate_parse {C : Cm} {L : List Sec} {b : List Int} (ho : C.out = false) (h : (parseW b).1 ≠ 0) : gateM C L b = (parseW b).1 := by
 unfold gateM
 rw [if_neg (by rw [ho]; decide), if_pos h]
theorem gate_cut {C : Cm} {L : List Sec} (b : List Int) (ho : C.out = false) : gateM C L (b.take 524289) = gateM C L b /\ (gateM C L b = 0 -> b.take 524289 = b) := by
 by_cases g : b.length ≤ 524289
 ·rw [List.take_of_length_le g]; exact ⟨rfl, fun _ => rfl⟩
 have e1 : parseW b = (4, 524288) := by unfold parseW; rw [if_pos (by omega)]
 have e2 : parseW (b.take 524289) = (4, 524288) := by unfold parseW; rw [if_pos (by rw [List.length_take]; omega)]
 have g1 : gateM C L b = 4 := by rw [gate_parse ho (by rw [e1]; decide), e1]
 have g2 : gateM C L (b.take 524289) = 4 := by rw [gate_parse ho (by rw [e2]; decide), e2]
 rw [g1, g2]
 exact ⟨rfl, fun y => absurd y (by decide)⟩
end Go.Proofs.YteedolonhdbieaaGreatDoor
end
section
namespace Go.Proofs.YteedolonhdbieaaGreatDoor
open Go Go.Vc
set_option maxRecDepth 100000
attribute [local irreducible] macM
structure Made (bs : List Int) (slot key ver : Int) (pay t : List Int) : Prop where
 fine : parseW bs = (0, 0)
 atSlot : bs.getD 5 0 = slot
 atKey : bs.getD 6 0 = key
 atVer : num4 bs 8 = ver
 n : num4 bs 12 = pay.length
 len : bs.length = 48 + pay.length
 body : bs.take (bs.length - 32) = coverM slot key ver pay
 tag : (bs.drop (bs.length - 32)).take 32 = t
 load : (bs.drop 16).take pay.length = pay
 tag2 : (bs.drop (16 + pay.length)).take 32 = t
section
variable {h0 h : H} {A : List Ent} {i j p r b s m : Nat} {C : Cm}
end
end Go.Proofs.YteedolonhdbieaaGreatDoor
end
section
namespace Go.Proofs.YteedolonhdbieaaGreatDoor
open Go Go.Vc
set_option maxRecDepth 100000
attribute [local irreducible] macM gateM
@[irreducible] def prtP (P : Option Addr) (n : Nat) (xs : List Int) (h : H) (f : Nat -> Prop) : Prop :=
 xs.length = n /\ ((n = 0 /\ ∀ x, ¬ f x) ∨ ∃ b pre post, (n = 0 ∨ P = some ⟨b, pre.length, none⟩) /\ Blk h b (pre ++ ints .u8 xs ++ post) /\ ∀ x, f x ↔ x = b)
def prtE (P : Option Addr) (n : Nat) (xs : List Int) : Ent where
 tag := .of 77
 P := prtP P n xs
 st := by
  unfold prtP; rintro h h' f ⟨e, k⟩ hs
  refine ⟨e, ?_⟩
  rcases k with k | ⟨b, pre, post, k1, k2, k3⟩
  ·exact Or.inl k
  ·exact Or.inr ⟨b, pre, post, k1, k2.of_eq (hs b ((k3 b).2 rfl)), k3⟩
 lt := by
  unfold prtP; rintro h f x ⟨e, k⟩ hx
  rcases k with k | ⟨b, pre, post, k1, k2, k3⟩
  ·exact absurd hx (k.2 x)
  ·rw [(k3 x).1 hx]; exact k2.lt
theorem prtE_P {P : Option Addr} {n : Nat} {xs : List Int} {h : H} {f : Nat -> Prop} : (prtE P n xs).P h f ↔ xs.length = n /\ ((n = 0 /\ ∀ x, ¬ f x) ∨ ∃ b pre post, (n = 0 ∨ P = some ⟨b, pre.length, none⟩) /\ Blk h b (pre ++ ints .u8 xs ++ post) /\ ∀ x, f x ↔ x = b) := by
 show prtP P n xs h f ↔ _; unfold prtP; rfl
section
variable {h0 h : H} {A : List Ent} {i j p r b s m : Nat} {C : Cm}
theorem prt_nil {c sz : Nat} (hs : Sat h0 A h) (a : At A i (sE (none, 0, 0) sz [])) : Sat h0 (put A i (prtE none 0 [])) h := by
 refine hs.as a fun f hp => ?_
 obtain ⟨bs, ⟨_, _, _, h4⟩, hf⟩ := slE_P.1 hp
 refine prtE_P.2 ⟨rfl, Or.inl ⟨rfl, fun x hx => ?_⟩⟩
 rcases h4 with ⟨_, _, rfl⟩ | ⟨b, rest, y, _⟩
 ·simpa using (hf x).1 hx
 ·cases y
theorem prt_of {own : Sl} {bs : List Int} {n : Nat} (hs : Sat h0 A h) (a : At A i (sE own 1 (ints .u8 bs))) (hl : bs.length = 48 + n) : Sat h0 (put A i (prtE (subAddr own.1 16 (16 + n) 1) n ((bs.drop 16).take n))) h := by
 refine hs.as a fun f hp => ?_
 obtain ⟨B, ⟨h1, h2, h3, h4⟩, hf⟩ := slE_P.1 hp
 have hlen : own.2.1 = 48 + n := by simp at h1; omega
 refine prtE_P.2 ⟨by rw [List.length_take, List.length_drop]; omega, Or.inr ?_⟩
 rcases h4 with ⟨y, _, _⟩ | ⟨b, rest, e1, rfl, k, _⟩
 ·omega
 refine ⟨b, ints .u8 (bs.take 16), ints .u8 (bs.drop (16 + n)) ++ rest, ?_, ?_, ?_⟩
 ·by_cases g : n = 0
  ·exact Or.inl g
  ·right
   unfold subAddr
   rw [if_neg (by omega), e1]
   show some ((⟨b, 0, none⟩ : Addr).add (16 * 1)) = _
   rw [add_mk, ints_length, List.length_take, Nat.min_eq_left (by omega)]
 ·have e2 : bs = bs.take 16 ++ (bs.drop 16).take n ++ bs.drop (16 + n) := by
   rw [List.append_assoc, ← List.drop_drop, List.take_append_drop, List.take_append_drop]
  have e3 := congrArg (ints .u8) e2
  rw [ints_app, ints_app] at e3
  rw [e3] at k
  have e4 : ints .u8 (bs.take 16) ++ ints .u8 ((bs.drop 16).take n) ++ (ints .u8 (bs.drop (16 + n)) ++ rest) = ints .u8 (bs.take 16) ++ ints .u8 ((bs.drop 16).take n) ++ ints .u8 (bs.drop (16 + n)) ++ rest := by simp only [List.append_assoc]
  rw [e4]
  exact k
 ·intro x; rw [hf]; simp
end
def tSlot (G : Int) (bs : List Int) : Int := if G = 0 then bs.getD 5 0 else 0
def tKey (G : Int) (bs : List Int) : Int := if G = 0 then bs.getD 6 0 else 0
def tVer (G : Int) (bs : List Int) : Int := if G = 0 then num4 bs 8 else 0
def tPay (G : Int) (bs : List Int) : List Int := if G = 0 then (bs.drop 16).take (num4 bs 12).toNat else []
def tTag (G : Int) (bs : List Int) : List Int := if G = 0 then (bs.drop (16 + (num4 bs 12).toNat)).take 32 else zeros 32
section
variable {h0 h : H} {A : List Ent} {i j p r b s m : Nat} {C : Cm}
theorem gateP_sp {K : Nat -> Int -> H -> Prop} {mm rr jm jr : Nat} {bs : List Int} {q : Option Addr} {l c : Nat} {R : List SR} {L : List Sec} (hg : hc h0 ⟨0, 0, none⟩ = some errTypeV) (hs : Sat h0 A h) (ci : At A i (chipE p C)) (cl' : At A j (logE r p)) (st : At A m (storeE s p r))
  (cr : At A jr (blk rr [.map (some mm)])) (cm : At A jm (mapE mm (R.map SR.ent))) (eR : R.map SR.kv = L) (gd : SR.good R) (rR : ∀ x, x ∈ R -> ∃ y, At A y x.sl)
  (rd : ∀ h', Sat h0 A h' -> hsv h' q 1 l (ints .u8 bs)) (hb : bytesOk bs) (hlc : l ≤ c) (hl : l < 2 ^ 50)
  (k : ∀ nb P h', (tTag (gateM C L bs) bs).length = 32 -> (tPay (gateM C L bs) bs).length < 2 ^ 40 -> Sat h0 (blk nb (imgL (tSlot (gateM C L bs) bs) (tKey (gateM C L bs) bs) (tVer (gateM C L bs) bs) (P, (tPay (gateM C L bs) bs).length, (tPay (gateM C L bs) bs).length) (tTag (gateM C L bs) bs)) :: prtE P (tPay (gateM C L bs) bs).length (tPay (gateM C L bs) bs) :: A) h' -> K nb (gateM C L bs) h') :
  F_gate_Check ⟨s, 0, none⟩ ⟨rr, 0, none⟩ q l c (fun i1 i2 i3 o n m l e h => ∀ nb h', hnew h nb (.int .i64 0 :: .int .i64 0 :: .int .i64 0 :: .slice none 0 0 :: ints .u8 (zeros 32)) h' -> hcan h' ⟨nb, 0, none⟩ 36 /\ ∀ h'', h'' = hwr h' ⟨nb, 0, none⟩ (.int .i64 i1 :: .int .i64 i2 :: .int .i64 i3 :: .slice o n m :: ints .u8 l) -> K nb e h'') h := by
 refine gate_sp (bs := bs) hg hs ci cl' st cr cm gd (fun x hx h' hs' => hs'.sv (rR x hx).choose_spec) rd hb hlc hl ?_ ?_
 ·intro e he hne h5 hs
  rw [eR] at he
  subst he
  replace hs := hs.sl_nil 1 none
  intro n113 _ hn; replace hs := Sat.new hs hn
  refine ⟨Sat.can hs .z (by simp [zeros]), ?_⟩
  intro h6 e6
  replace hs := Sat.wra (xs := imgL 0 0 0 (none, 0, 0) (zeros 32)) hs .z e6 rfl
  clear e6
  simp only [put_zero] at hs
  replace hs := prt_nil (c := 0) hs zs1
  simp only [put_succ, put_zero] at hs
  have e1 : tSlot (gateM C L bs) bs = 0 := if_neg hne
  have e2 : tKey (gateM C L bs) bs = 0 := if_neg hne
  have e3 : tVer (gateM C L bs) bs = 0 := if_neg hne
  have e4 : tPay (gateM C L bs) bs = [] := if_neg hne
  have e5 : tTag (gateM C L bs) bs = zeros 32 := if_neg hne
  have := k n113 none h6
  rw [e1, e2, e3, e4, e5] at this
  exact this (zeros_len 32) (by decide) hs
 ·intro own n hz hp hnn hln h5 hs
  rw [eR] at hz
  have tl32 : ((bs.drop (16 + n)).take 32).length = 32 := by rw [List.length_take, List.length_drop]; omega
  have pl : ((bs.drop 16).take n).length = n := by rw [List.length_take, List.length_drop]; omega
  intro n113 _ hn; replace hs := Sat.new hs hn
  refine ⟨Sat.can hs .z (by simp [zeros]), ?_⟩
  intro h6 e6
  replace hs := Sat.wra (xs := imgL (bs.getD 5 0) (bs.getD 6 0) (num4 bs 8) (subAddr own.1 16 (16 + n) 1, n, n) ((bs.drop (16 + n)).take 32)) hs .z e6 (by rw [img_len tl32]; rfl)
  clear e6
  simp only [put_zero] at hs
  replace hs := prt_of hs zs1 hln
  simp only [put_succ, put_zero] at hs
  have en : (num4 bs 12).toNat = n := by omega
  have e1 : tSlot (gateM C L bs) bs = bs.getD 5 0 := if_pos hz
  have e2 : tKey (gateM C L bs) bs = bs.getD 6 0 := if_pos hz
  have e3 : tVer (gateM C L bs) bs = num4 bs 8 := if_pos hz
  have e4 : tPay (gateM C L bs) bs = (bs.drop 16).take n := by rw [← en]; exact if_pos hz
  have e5 : tTag (gateM C L bs) bs = (bs.drop (16 + n)).take 32 := by rw [← en]; exact if_pos hz
  have := k n113 (subAddr own.1 16 (16 + n) 1) h6
  rw [e1, e2, e3, e4, e5, hz, pl] at this
  exact this tl32 (by have := (parse_ok hb hp hnn).2.2.2; omega) hs
end
end Go.Proofs.YteedolonhdbieaaGreatDoor
end
section
namespace Go.Proofs.YteedolonhdbieaaGreatDoor
open Go Go.Vc
set_option maxRecDepth 100000
attribute [local irreducible] macM gateM
abbrev gtL (st rp : Nat) (o : Option Addr) (l m d : Nat) : List Value := [.pointer (some ⟨st, 0, none⟩), .pointer (some ⟨rp, 0, none⟩), .slice o l m, .pointer (some ⟨d, 0, none⟩)]
abbrev gtA (g st rp : Nat) (o : Option Addr) (m d : Nat) (s sm : List Int) (n : Int) (B : List Int) : List Ent :=
 [blk g (gtL st rp o B.length m d), slE o B.length m 1 (ints .u8 B), blk d (dgL s sm n)]
section
variable {h0 h : H} {A : List Ent} {i j p r b s m : Nat} {C : Cm}
theorem gslot_sp {Q : Int -> H -> Prop} {g rp l c d lg : Nat} {o : Option Addr} (hs : Sat h0 A h) (ag : At A i (blk g (gtL s rp o l c d))) (ci : At A j (chipE p C)) (cl : At A m (logE r p)) {x : Nat} (st : At A x (storeE s p r)) (ho : C.out = false) {v : Int} (hv : isByte v)
  (k : ∀ h', Sat h0 A h' -> Q (if C.cfg.slots ≤ v then 5 else 0) h') : F_stream_Gate_slot ⟨g, 0, none⟩ v Q h := by
 unfold F_stream_Gate_slot G_stream_Gate_slot
 obtain ⟨v0, v1⟩ := hv
 refine ⟨_, hs.ld ag rfl, _, rfl, ?_⟩
 rw [wrap_id (by omega)]
 refine sRead_sp hs ci cl st v ?_
 intro h1 hs
 rw [sread_err (by rw [ho]; decide) v0]
 by_cases c1 : C.cfg.slots ≤ v
 ·rw [if_pos c1] at k ⊢
  rw [if_pos (by decide)]
  exact k _ hs
 ·rw [if_neg c1] at k ⊢
  rw [if_neg (by decide)]
  exact k _ hs
theorem gkey_sp {Q : Int -> H -> Prop} {g rp l c d : Nat} {o : Option Addr} {mm jr jm : Nat} {R : List SR} {L : List Sec} (hs : Sat h0 A h) (ag : At A i (blk g (gtL s rp o l c d))) (ci : At A j (chipE p C)) {x : Nat} (st : At A x (storeE s p r)) (ho : C.out = false)
  (cr : At A jr (blk rp [.map (some mm)])) (cm : At A jm (mapE mm (R.map SR.ent))) (eR : R.map SR.kv = L) {v : Int} (hv : isByte v)
  (k : ∀ h', Sat h0 A h' -> Q (if C.cfg.keys ≤ v ∨ L.find? (fun x => x.1 == v) = none then 13 else if (revokedM C v).1 = true then 14 else 0) h') : F_stream_Gate_key ⟨g, 0, none⟩ v Q h := by
 unfold F_stream_Gate_key G_stream_Gate_key
 try simp only [add_mk, Nat.zero_add, List.append_nil]
 obtain ⟨v0, v1⟩ := hv
 refine ⟨_, hs.ld ag rfl, _, rfl, ?_⟩
 rw [wrap_id (by omega)]
 refine sRevoked_sp hs ci st v ?_
 intro h1 hs
 rw [revoked_err (by rw [ho]; decide) v0]
 by_cases c1 : C.cfg.keys ≤ v
 ·rw [if_pos (Or.inl c1)] at k
  rw [if_pos c1, if_pos (by decide)]
  exact k _ hs
 rw [if_neg c1, if_neg (by decide)]
 refine ⟨_, hs.ld ag rfl, _, rfl, ?_⟩
 refine hasN_sp v hs cr cm ?_
 have e := at_kv R v
 rw [eR] at e
 cases f : SR.at_ R v with
 | none =>
  rw [f] at e
  have e' : L.find? (fun x => x.1 == v) = none := e.symm
  rw [if_pos (Or.inr e')] at k
  rw [if_pos (by simp)]
  exact k _ hs
 | some y =>
  rw [f] at e
  rw [if_neg (fun z => by
   rcases z with z | z
   ·exact c1 z
   ·rw [z] at e; cases e)] at k
  rw [if_neg (by simp)]
  by_cases c2 : (revokedM C v).1 = true
  ·rw [if_pos c2] at k ⊢; exact k _ hs
  ·rw [if_neg c2] at k ⊢; exact k _ hs
theorem tells_sp {Q : Int -> H -> Prop} {g rp c d : Nat} {o : Option Addr} {mm jr jm x y : Nat} {R : List SR} {L : List Sec} {B : List Int} (hg : hc h0 ⟨0, 0, none⟩ = some errTypeV) (hs : Sat h0 A h) (ag : At A i (blk g (gtL s rp o B.length c d))) (ab : At A y (slE o B.length c 1 (ints .u8 B))) (hb : bytesOk B) (hl : B.length < 2 ^ 40)
  (ci : At A j (chipE p C)) (cl : At A m (logE r p)) (st : At A x (storeE s p r)) (ho : C.out = false)
  (cr : At A jr (blk rp [.map (some mm)])) (cm : At A jm (mapE mm (R.map SR.ent))) (eR : R.map SR.kv = L)
  (k : ∀ h', Sat h0 A h' -> Q (tellsM C L B) h') : F_stream_Gate_tells ⟨g, 0, none⟩ Q h := by
 unfold F_stream_Gate_tells G_stream_Gate_tells
 try simp only [add_mk, Nat.zero_add, List.append_nil]
 intro J8 hJ8
 have way : ¬ ((parseW B).1 ≠ 0 /\ (parseW B).1 ≠ 6) -> ∀ h', Sat h0 A h' -> J8 [.dv (.one (.int .i64 0))] h' := by
  clear hs
  intro np h1 hs
  apply hJ8
  clear hJ8
  unfold tellsM at k
  rw [if_neg np] at k
  refine ⟨_, _, _, hs.ld ag rfl, ?_⟩
  intro J14 hJ14
  refine loopS B.length (fun t (s : Unit) => [.dv (.one (.int .i64 0)), si t]) (fun t (s : Unit) h => t ≤ 7 /\ (5 < t -> ¬ C.cfg.slots ≤ B.getD 5 0) /\ (6 < t -> ¬ (C.cfg.keys ≤ B.getD 6 0 ∨ L.find? (fun x => x.1 == B.getD 6 0) = none) /\ ¬ (revokedM C (B.getD 6 0)).1 = true) /\ Sat h0 A h) ?_ ?_ 0 () _ (by omega) ⟨by omega, fun y => by omega, fun y => by omega, hs⟩
  ·clear hs
   rintro t _ h2 ht ⟨t7, k5, k6, hs⟩ hk
   apply hJ14
   rw [ltI_eq, if_pos (by rw [decide_eq_true_iff]; omega)]
   obtain ⟨q1, hq1, g1⟩ := hsv_int (hs.sv ab) (x := t) ht
   have hby := byte_getD hb t
   refine ⟨q1, hq1, by omega, by omega, ?_⟩
   simp only [Int.toNat_natCast, Nat.mul_one]
   refine ⟨_, g1, ?_⟩
   by_cases t5 : t = 5
   ·subst t5
    rw [if_pos (by decide)]
    refine gslot_sp hs ag ci cl st ho hby (lg := 0) ?_
    intro h3 hs
    by_cases c1 : C.cfg.slots ≤ B.getD 5 0
    ·rw [if_pos c1, if_pos (by decide)]
     have := k _ hs
     rw [if_pos ⟨ht, c1⟩] at this
     exact this
    ·rw [if_neg c1, if_neg (by decide), if_neg (by decide), wrap_succ (by omega)]
     exact hk () _ ⟨by omega, fun _ => c1, fun y => by omega, hs⟩
   rw [if_neg (by simp; omega)]
   by_cases t6 : t = 6
   ·subst t6
    rw [if_pos (by decide)]
    refine gkey_sp (L := L) hs ag ci st ho cr cm eR hby ?_
    intro h3 hs
    have kk := k _ hs
    rw [if_neg (fun y => k5 (by omega) y.2)] at kk
    by_cases c1 : C.cfg.keys ≤ B.getD 6 0 ∨ L.find? (fun x => x.1 == B.getD 6 0) = none
    ·rw [if_pos c1, if_pos (by decide)]
     rw [if_pos ⟨ht, c1⟩] at kk
     exact kk
    rw [if_neg c1]
    rw [if_neg (fun y => c1 y.2)] at kk
    by_cases c2 : (revokedM C (B.getD 6 0)).1 = true
    ·rw [if_pos c2, if_pos (by decide)]
     rw [if_pos ⟨ht, c2⟩] at kk
     exact kk
    ·rw [if_neg c2, if_neg (by decide), if_neg (by decide), wrap_succ (by omega)]
     exact hk () _ ⟨by omega, fun _ => k5 (by omega), fun _ => ⟨c1, c2⟩, hs⟩
   rw [if_neg (by simp; omega), if_neg (by decide), ltI_eq]
   by_cases t7' : t = 7
   ·subst t7'
    rw [if_pos (by decide)]
    have kk := k _ hs
    rw [if_neg (fun y => k5 (by omega) y.2), if_neg (fun y => (k6 (by omega)).1 y.2), if_neg (fun y => (k6 (by omega)).2 y.2)] at kk
    exact kk
   ·rw [if_neg (by rw [decide_eq_true_iff]; omega), wrap_succ (by omega)]
    exact hk () _ ⟨by omega, fun y => by omega, fun y => by omega, hs⟩
  ·clear hs
   rintro _ h2 ⟨t7, k5, k6, hs⟩
   apply hJ14
   rw [ltI_eq, if_neg (by rw [decide_eq_true_iff]; omega)]
   have kk := k _ hs
   rw [if_neg (fun y => k5 y.1 y.2), if_neg (fun y => (k6 y.1).1 y.2), if_neg (fun y => (k6 y.1).2 y.2)] at kk
   exact kk
 clear hJ8
 refine ⟨_, _, _, hs.ld ag rfl, ?_⟩
 have hcap := capS hs ab
 refine Parse_sp hs (fun h' hs' => hs'.sv ab) hb hcap (by omega) ?_ ?_
 ·intro e at_ w h2 hp he hs
  intro n40 _ hn; replace hs := Sat.new hs hn
  refine ⟨Sat.can hs .z (by simp [zeros]), ?_⟩
  intro h3 e3
  replace hs := Sat.wra (xs := imgL 0 0 0 (none, 0, 0) (zeros 32)) hs .z e3 rfl
  clear e3
  simp only [put_zero] at hs
  refine ⟨rfl, ?_⟩
  rw [if_pos (by rfl)]
  unfold F_errors_Is
  refine ⟨⟨w, 0, none⟩, e, 6, rfl, rfl, hs.ld zs1 rfl, ?_⟩
  have hp1 : (parseW B).1 = e := by rw [hp]
  dsimp only
  by_cases c6 : e = 6
  ·rw [if_neg (by rw [c6]; decide)]
   exact way (fun y => y.2 (by rw [hp1, c6])) _ hs.drop.drop
  rw [if_pos (by simpa using c6)]
  intro n47 _ hn; replace hs := Sat.new hs hn
  unfold F_errors_As
  refine Or.inl (Or.inr ⟨⟨w, 0, none⟩, n47, 0, e, rfl, rfl, hc_ext hs.ex hg (fun y => y), ⟨_, hs.ld .z rfl⟩, ?_, hs.ld zs2 rfl, ?_⟩)
  ·have := (Sat.can hs (i := 0) (o := 0) (n := 1) .z (by simp)) 0 (by decide)
   rw [add_zero] at this
   exact this.2
  intro b1 _ hn; replace hs := Sat.new hs hn
  intro b2 _ hn; replace hs := Sat.new hs hn
  intro b3 _ hn; replace hs := Sat.new hs hn
  intro b4 _ hn; replace hs := Sat.new hs hn
  intro h5 e5
  replace hs := Sat.wr hs zs4 e5
  clear e5
  simp only [put_succ, put_zero] at hs
  replace hs := hs.drop.drop.drop.drop
  replace hs : Sat h0 (blk n47 [.int .i64 e] :: _) h5 := hs
  refine ⟨_, hs.ld .z rfl, ?_⟩
  have kk := k _ hs.drop.drop.drop
  unfold tellsM at kk
  rw [if_pos ⟨by rw [hp1]; exact he, by rw [hp1]; exact c6⟩, hp1] at kk
  exact kk
 ·intro own n h2 hp hnn hs
  have htl : ((B.drop (16 + n)).take 32).length = 32 := by
   have := (parse_ok hb hp hnn).1
   rw [List.length_take, List.length_drop]; omega
  intro n40 _ hn; replace hs := Sat.new hs hn
  refine ⟨Sat.can hs .z (by simp [zeros]), ?_⟩
  intro h3 e3
  replace hs := Sat.wra (xs := imgL (B.getD 5 0) (B.getD 6 0) (num4 B 8) (subAddr own.1 16 (16 + n) 1, n, n) ((B.drop (16 + n)).take 32)) hs .z e3 (by rw [img_len htl]; rfl)
  clear e3
  simp only [put_zero] at hs
  refine ⟨rfl, ?_⟩
  rw [if_neg (by decide)]
  exact way (fun y => y.1 (by rw [hp])) _ hs.drop.drop
theorem gwrite_sp {Q : Int -> H -> Prop} {g rp c d : Nat} {o : Option Addr} {mm jr jm x : Nat} {s1 sm : List Int} {n : Int} {R : List SR} {L : List Sec} {T xs : List Int} {q : Option Addr} {l lc : Nat} (hg : hc h0 ⟨0, 0, none⟩ = some errTypeV) (hs : Sat h0 (gtA g s rp o c d s1 sm n (T.take 524289) ++ A) h) (D : DgOk T s1 sm n)
  (ci : At A j (chipE p C)) (cl : At A m (logE r p)) (st : At A x (storeE s p r)) (ho : C.out = false)
  (cr : At A jr (blk rp [.map (some mm)])) (cm : At A jm (mapE mm (R.map SR.ent))) (eR : R.map SR.kv = L) (hT : bytesOk T) (hx : bytesOk xs) (hTl : T.length + xs.length < 2 ^ 59) (hlc : l ≤ lc)
  (rd : ∀ B h', Sat h0 (B ++ A) h' -> hsv h' q 1 l (ints .u8 xs))
  (k : ∀ o' c' s1' sm' n' h', DgOk (T ++ xs) s1' sm' n' -> Sat h0 (gtA g s rp o' c' d s1' sm' n' ((T ++ xs).take 524289) ++ A) h' -> Q (tellsM C L ((T ++ xs).take 524289)) h') : F_stream_Gate_Write ⟨g, 0, none⟩ q l lc Q h := by
 unfold F_stream_Gate_Write G_stream_Gate_Write
 try simp only [add_mk, Nat.zero_add, List.append_nil, Nat.sub_zero]
 have hxl : xs.length = l := by have := (rd (gtA g s rp o c d s1 sm n (T.take 524289)) _ hs).1; simpa using this
 have ok := chip_ok hs ci.s.s.s
 obtain ⟨bl, hbl⟩ : ∃ bl, bl = (T.take 524289).length := ⟨_, rfl⟩
 have hbl2 : bl = min 524289 T.length := by rw [hbl, List.length_take]
 replace hs : Sat h0 (blk g (gtL s rp o bl c d) :: slE o bl c 1 (ints .u8 (T.take 524289)) :: blk d (dgL s1 sm n) :: A) h := by rw [hbl]; exact hs
 refine ⟨_, hs.ld .z rfl, _, rfl, ?_⟩
 refine sActive_sp hs ci.s.s.s cl.s.s.s st.s.s.s ?_
 intro h1 hs
 rw [sActive_out ok, ho, if_neg (by decide)]
 refine ⟨_, hs.ld .z rfl, _, rfl, ?_⟩
 refine shWrite_sp (xs := xs) hs zs2 D (by omega) hlc ?_ ?_
 ·intro s' sm' n' h' hs'
  simp only [put_succ, put_zero] at hs'
  exact rd [_, _, _] _ hs'
 intro s' sm' n' h2 D' hs
 simp only [put_succ, put_zero] at hs
 refine ⟨_, _, _, hs.ld .z rfl, _, _, _, hs.ld .z rfl, ?_⟩
 have ew : IntKind.i64.wrap (524289 - (bl : Int)) = ((524289 - bl : Nat) : Int) := by rw [wrap_id (by omega)]; omega
 rw [ew]
 obtain ⟨a, ha⟩ : ∃ a, a = min (524289 - bl) l := ⟨_, rfl⟩
 have ea : (if ((524289 - bl : Nat) : Int) < (l : Int) then ((524289 - bl : Nat) : Int) else (l : Int)) = (a : Int) := by
  rw [ha]; split <;> omega
 rw [ea]
 simp only [Int.toNat_natCast]
 have R1 := subRd (o := 0) (n := a) (m := lc) (rd [_, _, _] _ hs) (by omega) (by omega)
 rw [List.drop_zero] at R1
 refine ⟨by omega, by omega, _, R1, ?_⟩
 refine Sat.app hs (i := 1) (vs := ints .u8 (xs.take a)) zs1 (by simp; omega) rfl (ints_one _ _) (by omega) ?_
 intro o2 c2 h3 hs
 simp only [put_succ, put_zero] at hs
 rw [← ints_app] at hs
 have eT : T.take 524289 ++ xs.take a = (T ++ xs).take 524289 := by
  rw [List.take_append]
  by_cases g1 : T.length ≤ 524289
  ·rw [List.take_of_length_le g1]
   congr 1
   by_cases g2 : 524289 - T.length ≤ l
   ·rw [show a = 524289 - T.length by omega]
   ·rw [show a = l by omega, List.take_of_length_le (by omega), List.take_of_length_le (by omega)]
  ·rw [show a = 0 by omega, show 524289 - T.length = 0 by omega]
 rw [eT] at hs
 have el : bl + a = ((T ++ xs).take 524289).length := by rw [← eT, List.length_append, List.length_take, List.length_take]; omega
 rw [el] at hs ⊢
 refine ⟨Sat.can hs .z (show 2 + 1 ≤ 4 by decide), ?_⟩
 intro h4 e4
 replace hs := Sat.wr hs .z e4
 clear e4
 simp only [put_zero] at hs
 replace hs : Sat h0 (gtA g s rp o2 c2 d s' sm' n' ((T ++ xs).take 524289) ++ A) h4 := hs
 have hb2 : bytesOk ((T ++ xs).take 524289) := fun v hv => by
  rcases List.mem_append.1 (List.mem_of_mem_take hv) with y | y
  ·exact hT v y
  ·exact hx v y
 refine tells_sp (L := L) (B := (T ++ xs).take 524289) hg hs .z zs1 hb2 (by rw [List.length_take]; omega) ci.s.s.s cl.s.s.s st.s.s.s ho cr.s.s.s cm.s.s.s eR ?_
 intro h5 hs
 exact k _ _ _ _ _ _ D' hs
end
end Go.Proofs.YteedolonhdbieaaGreatDoor
end
