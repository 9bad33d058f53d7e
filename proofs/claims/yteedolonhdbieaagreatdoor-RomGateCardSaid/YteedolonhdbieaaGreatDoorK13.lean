/- RomGate: what is proved and its parts, laid together by a program of ours: Im3 Gt2 Gt3 GtW Tq5 St7 St8 Gt6 Sp0 Gt8 GtA Sp2 SpW Sp3 Sp4 Rg0 Rg1 Rg2 RgW -/
import Derived.Test.YteedolonhdbieaaGreatDoorK12
set_option autoImplicit false
set_option linter.all false
/- Images: taken apart by the document. Own work. -/
section
set_option maxRecDepth 100000
set_option linter.unusedVariables false
namespace Go.Proofs.YteedolonhdbieaaGreatDoor
open Go Go.Vc

def tagTo (t : List Int) (n : Nat) : List Int := tab 32 fun x => if x < n then t.getD x 0 else 0
theorem tagTo_len (t : List Int) (n : Nat) : (tagTo t n).length = 32 := by simp [tagTo]
theorem tagTo_zero (t : List Int) : tagTo t 0 = zeros 32 := by
 unfold tagTo
 simp only [Nat.not_lt_zero, if_false]; rfl
theorem tagTo_all {t : List Int} (ht : t.length = 32) : tagTo t 32 = t := by
 refine ext_getD ((tagTo_len t 32).trans ht.symm) fun x hx => ?_
 rw [tagTo_len] at hx
 unfold tagTo
 rw [tab_getD _ hx, if_pos hx]
theorem tagTo_set (t : List Int) {n : Nat} (hn : n < 32) : (tagTo t n).set n (t.getD n 0) = tagTo t (n + 1) := by
 refine ext_getD (by simp [tagTo_len]) fun x hx => ?_
 rw [List.length_set, tagTo_len] at hx
 rw [set_getD]
 unfold tagTo
 rw [tab_getD _ hx, tab_getD _ hx]
 by_cases c : n = x
 ·subst c; rw [if_pos ⟨rfl, by simp; omega⟩, if_pos (by omega)]
 ·rw [if_neg (fun y => c y.1)]
  by_cases d : x < n
  ·rw [if_pos d, if_pos (by omega)]
  ·rw [if_neg d, if_neg (by omega)]
section
variable {h0 h : H} {A : List Ent} {i j p r b : Nat}
theorem img_s1 {a b' v w : Int} {x : Sl} {t : List Int} {n : Nat} (hn : n < t.length) : splice (imgL a b' v x t) (4 + n) [.int .u8 w] = imgL a b' v x (t.set n w) := by
 show (imgL a b' v x t).set (4 + n) (.int .u8 w) = _
 rw [show 4 + n = n + 1 + 1 + 1 + 1 by omega]
 simp only [imgL, List.set_cons_succ, ints_set]
theorem rParse_sp {Q : Int → Int → Int → Option Addr → Nat → Nat → List Int → Int → Int → H → Prop} {q : Option Addr} {l c : Nat} {bs : List Int} (hs : Sat h0 A h) (rd : ∀ h', Sat h0 A h' → hsv h' q 1 l (ints .u8 bs)) (hb : bytesOk bs) (hlc : l ≤ c) (hl : l < 2 ^ 50)
  (k1 : ∀ e at_ h', parseW bs = (e, at_) → e ≠ 0 → Sat h0 A h' → Q 0 0 0 none 0 0 (zeros 32) e at_ h')
  (k2 : ∀ (own : Sl) (n : Nat) h', parseW bs = (0, 0) → num4 bs 12 = n → own.2.1 = n → Sat h0 (sE own 1 (ints .u8 ((bs.drop 16).take n)) :: A) h' → Q (bs.getD 5 0) (bs.getD 6 0) (num4 bs 8) own.1 own.2.1 own.2.2 ((bs.drop (16 + n)).take 32) 0 0 h') :
  F_portcullisref11_Parse q l c Q h := by
 unfold F_portcullisref11_Parse G_portcullisref11_Parse
 try simp only [add_mk, Nat.zero_add, List.append_nil]
 have hbl : bs.length = l := by have := (rd _ hs).1; simpa using this
 intro n7 _ hn; replace hs := Sat.new hs hn; clear hn
 intro n10 _ hn; replace hs := Sat.new hs hn; clear hn
 replace hs : Sat h0 (blk n10 [.int .i64 0, .int .i64 0] :: blk n7 (imgL 0 0 0 (none, 0, 0) (zeros 32)) :: A) _ := hs
 have bad : ∀ e at_ h', parseW bs = (e, at_) → e ≠ 0 → Sat h0 (blk n10 [.int .i64 0, .int .i64 0] :: blk n7 (imgL 0 0 0 (none, 0, 0) (zeros 32)) :: A) h' → hcan h' ⟨n7, 0, none⟩ 36 ∧ ∀ h13, h13 = hwr h' ⟨n7, 0, none⟩ (imgL 0 0 0 (none, 0, 0) (zeros 32)) → hcan h13 ⟨n10, 0, none⟩ 2 ∧ ∀ h15, h15 = hwr h13 ⟨n10, 0, none⟩ [.int .i64 e, .int .i64 at_] →
   ∃ i15 : Int, hc h15 ⟨n7, 0, none⟩ = some (.int .i64 i15) ∧ ∃ i16 : Int, hc h15 ⟨n7, 1, none⟩ = some (.int .i64 i16) ∧ ∃ i17 : Int, hc h15 ⟨n7, 2, none⟩ = some (.int .i64 i17) ∧ ∃ (o18 : Option Addr) (n19 n20 : Nat), hc h15 ⟨n7, 3, none⟩ = some (.slice o18 n19 n20) ∧
    ∃ l21 : List Int, l21.length = 32 ∧ hrow h15 ⟨n7, 4, none⟩ .u8 l21 ∧ ∃ i24 : Int, hc h15 ⟨n10, 0, none⟩ = some (.int .i64 i24) ∧ ∃ i25 : Int, hc h15 ⟨n10, 1, none⟩ = some (.int .i64 i25) ∧ Q i15 i16 i17 o18 n19 n20 l21 i24 i25 h15 := by
  intro e at_ h' hw he hs
  refine ⟨Sat.can hs (i := 1) (.s .z) (by decide), ?_⟩
  intro h13 e13
  replace hs := Sat.wra hs (i := 1) (.s .z) e13 rfl
  simp only [put] at hs
  refine ⟨Sat.can hs (i := 0) .z (by decide), ?_⟩
  intro h15 e15
  replace hs := Sat.wra hs (i := 0) .z e15 rfl
  simp only [put] at hs
  refine ⟨_, Sat.ld hs (i := 1) (.s .z) rfl, _, Sat.ld hs (i := 1) (.s .z) rfl, _, Sat.ld hs (i := 1) (.s .z) rfl, _, _, _, Sat.ld hs (i := 1) (.s .z) rfl, _, rfl, img_row hs (.s .z) rfl, _, Sat.ld hs (i := 0) .z rfl, _, Sat.ld hs (i := 0) .z rfl, ?_⟩
  exact k1 e at_ _ hw he hs.drop.drop
 by_cases g1 : 524288 < l
 ·rw [ltI_eq, if_pos (by simp; omega)]
  exact bad _ _ _ (by unfold parseW; rw [if_pos (by omega)]) (by decide) hs
 rw [ltI_eq, if_neg (by simp; omega)]
 have hP : parseW bs = match headW bs 16 0 with
  | some w => w
  | none => if 524240 < num4 bs 12 then (5, 12) else if (bs.length : Int) < 48 + num4 bs 12 then (6, bs.length) else if 48 + num4 bs 12 < bs.length then (7, 48 + num4 bs 12) else (0, 0) := by
  unfold parseW; rw [if_neg (by omega)]; try rfl
 clear k1
 generalize hW : headW bs 16 0 = W at hP
 intro J hJ
 refine loop_up 16 (fun x h => Sat h0 (blk n10 [.int .i64 0, .int .i64 0] :: blk n7 (imgL 0 0 0 (none, 0, 0) (zeros 32)) :: A) h ∧ W = headW bs (16 - x) x ∧ x ≤ l) ?_ ?_ 0 _ (by omega) ⟨hs, hW.symm, by omega⟩
 ·rintro x h1 hx ⟨hs, hh, hxl⟩ hk
  apply hJ
  rw [ltI_eq, if_pos (by simp; omega)]
  obtain ⟨m, hm⟩ : ∃ m, 16 - x = m + 1 := ⟨16 - x - 1, by omega⟩
  rw [hm] at hh
  unfold headW at hh
  by_cases g2 : x = l
  ·rw [if_pos (show x = bs.length by omega)] at hh
   rw [if_pos (by simp; omega)]
   exact bad 6 x _ (by rw [hP, hh]) (by decide) hs
  rw [if_neg (show ¬ x = bs.length by omega)] at hh
  rw [if_neg (by simp; omega)]
  obtain ⟨q', hq, g⟩ := hsv_int (rd _ hs.drop.drop) (x := x) (by omega)
  refine ⟨_, hq, by omega, by omega, _, by rw [Int.toNat_natCast, Nat.mul_one]; exact g, ?_⟩
  refine rmust_sp x _ ?_
  by_cases g3 : mayB x (bs.getD x 0) = true
  ·rw [if_pos g3] at hh
   rw [if_neg (by rw [g3]; decide), wrap_succ (by omega)]
   exact hk _ ⟨hs, by rw [hh, show 16 - (x + 1) = m by omega], by omega⟩
  ·rw [if_neg g3] at hh
   rw [if_pos (by rw [Bool.not_eq_true] at g3; rw [g3]; rfl)]
   exact bad 5 x _ (by rw [hP, hh]) (by decide) hs
 rintro h1 ⟨hs, hh, hxl⟩
 apply hJ
 rw [ltI_eq, if_neg (by simp)]
 clear hJ J
 have hh : W = none := hh
 rw [hh] at hP
 dsimp only at hP
 refine ⟨by omega, by omega, ?_⟩
 have rd12 := sub_rd (o := 12) (n := l - 12) (m := c) (rd _ hs.drop.drop) (by omega) (by omega)
 refine rnumber_sp rd12 (drop_bytes hb _ _) (by omega) ?_
 rw [num4_drop _ _ _ (by omega)]
 obtain ⟨r1, r2⟩ := num4_range hb 12
 obtain ⟨n, hnn⟩ := Int.eq_ofNat_of_zero_le r1
 rw [hnn] at hP r2 ⊢
 by_cases g2 : 524240 < n
 ·rw [if_pos (by omega)] at hP
  rw [ltI_eq, if_pos (by simp; omega)]
  exact bad 5 12 _ hP (by decide) hs
 rw [if_neg (by omega)] at hP
 rw [ltI_eq, if_neg (by simp; omega)]
 have ew : IntKind.i64.wrap ((n : Int) + 16) = ((16 + n : Nat) : Int) := by rw [wrap_id (by omega)]; omega
 have ew2 : IntKind.i64.wrap (((16 + n : Nat) : Int) + 32) = ((48 + n : Nat) : Int) := by rw [wrap_id (by omega)]; omega
 have ew3 : IntKind.i64.wrap (((48 + n : Nat) : Int) - 32) = ((16 + n : Nat) : Int) := by rw [wrap_id (by omega)]; omega
 rw [ew, ew2, ew3]
 by_cases g3 : l < 48 + n
 ·rw [if_pos (by omega), hbl] at hP
  rw [ltI_eq, if_pos (by simp; omega)]
  exact bad 6 l _ hP (by decide) hs
 rw [if_neg (by omega)] at hP
 rw [ltI_eq, if_neg (by simp; omega)]
 by_cases g4 : 48 + n < l
 ·rw [if_pos (by omega)] at hP
  rw [ltI_eq, if_pos (by simp; omega)]
  exact bad 7 _ _ (by rw [hP]; congr 1) (by decide) hs
 rw [if_neg (by omega)] at hP
 rw [ltI_eq, if_neg (by simp; omega)]
 have hw := hP
 clear bad hP
 have hl48 : l = 48 + n := by omega
 intro J100 hJ100
 have ht32 : ((bs.drop (16 + n)).take 32).length = 32 := by rw [List.length_take, List.length_drop]; omega
 have way : ∀ (nb : Nat) h', Sat h0 (blk nb (imgL (bs.getD 5 0) (bs.getD 6 0) (num4 bs 8) (none, 0, 0) (zeros 32)) :: blk n10 [.int .i64 0, .int .i64 0] :: blk n7 (imgL 0 0 0 (none, 0, 0) (zeros 32)) :: A) h' → J100 [.dv (.addr ⟨nb, 0, none⟩)] h' := by
  intro nb h2 hs
  apply hJ100
  clear hJ100 J100
  try simp only [add_mk, Nat.zero_add]
  intro n103 _ hn; replace hs := Sat.new hs hn; clear hn
  rw [Int.toNat_natCast, Nat.add_sub_cancel_left]
  refine ⟨by omega, by omega, by omega, _, sub_rd (o := 16) (n := n) (rd _ hs.drop.drop.drop.drop) (by omega) (by omega), ?_⟩
  refine Sat.app_new hs (by simp; omega) rfl (ints_one _ _) (by omega) ?_
  intro o c2 h3 hs
  obtain ⟨own, hown⟩ : ∃ own : Sl, own = (o, n, c2) := ⟨_, rfl⟩
  replace hs : Sat h0 (sE own 1 (ints .u8 ((bs.drop 16).take n)) :: blk n103 [] :: blk nb (imgL (bs.getD 5 0) (bs.getD 6 0) (num4 bs 8) (none, 0, 0) (zeros 32)) :: blk n10 [.int .i64 0, .int .i64 0] :: blk n7 (imgL 0 0 0 (none, 0, 0) (zeros 32)) :: A) h3 := by rw [hown]; exact hs
  have eo1 : o = own.1 := by rw [hown]
  have eo2 : n = own.2.1 := by rw [hown]
  have eo3 : c2 = own.2.2 := by rw [hown]
  refine ⟨Sat.can hs (i := 2) (.s (.s .z)) (by rw [img_len rfl]; decide), ?_⟩
  intro h4 e4
  replace hs := Sat.wr hs (i := 2) (.s (.s .z)) (o := 3) e4
  clear e4
  simp only [put] at hs
  have e5 : splice (imgL (bs.getD 5 0) (bs.getD 6 0) (num4 bs 8) (none, 0, 0) (zeros 32)) 3 [.slice o n c2] = imgL (bs.getD 5 0) (bs.getD 6 0) (num4 bs 8) own (tagTo ((bs.drop (16 + n)).take 32) 0) := by rw [tagTo_zero, hown]; rfl
  rw [e5] at hs
  clear e5
  intro J113 hJ113
  refine loop_up 32 (fun x h => Sat h0 (sE own 1 (ints .u8 ((bs.drop 16).take n)) :: blk n103 [] :: blk nb (imgL (bs.getD 5 0) (bs.getD 6 0) (num4 bs 8) own (tagTo ((bs.drop (16 + n)).take 32) x)) :: blk n10 [.int .i64 0, .int .i64 0] :: blk n7 (imgL 0 0 0 (none, 0, 0) (zeros 32)) :: A) h) ?_ ?_ 0 _ (by omega) hs
  ·intro x h5 hx hs hk
   apply hJ113
   rw [ltI_eq, if_pos (by simp; omega)]
   have e6 : IntKind.i64.wrap (((16 + n : Nat) : Int) + (x : Int)) = ((16 + n + x : Nat) : Int) := by rw [wrap_id (by omega)]; omega
   rw [e6]
   obtain ⟨q', hq, g⟩ := hsv_int (rd _ hs.drop.drop.drop.drop.drop) (x := 16 + n + x) (by omega)
   refine ⟨_, hq, by omega, by omega, _, by rw [Int.toNat_natCast, Nat.mul_one]; exact g, by omega, by omega, ?_⟩
   rw [Int.toNat_natCast, Nat.mul_one]
   refine ⟨Sat.can hs (i := 2) (.s (.s .z)) (by rw [img_len (tagTo_len _ _)]; simp; omega), ?_⟩
   intro h6 e6
   replace hs := Sat.wr hs (i := 2) (.s (.s .z)) (o := 4 + x) e6
   clear e6
   rw [img_s1 (by rw [tagTo_len]; exact hx)] at hs
   have e7 : bs.getD (16 + n + x) 0 = ((bs.drop (16 + n)).take 32).getD x 0 := (drop_getD bs (16 + n) 32 x hx).symm
   rw [e7, tagTo_set _ hx] at hs
   rw [wrap_succ (by omega)]
   exact hk _ hs
  ·intro h5 hs
   rw [tagTo_all ht32] at hs
   apply hJ113
   rw [ltI_eq, if_neg (by simp)]
   refine ⟨_, Sat.ld hs (i := 2) (.s (.s .z)) rfl, _, Sat.ld hs (i := 2) (.s (.s .z)) rfl, _, Sat.ld hs (i := 2) (.s (.s .z)) rfl, _, _, _, Sat.ld hs (i := 2) (.s (.s .z)) rfl, _, ht32, img_row hs (.s (.s .z)) ht32, Sat.can hs (i := 4) (.s (.s (.s (.s .z)))) (by decide), ?_⟩
   intro h6 e6
   replace hs := Sat.wra hs (i := 4) (.s (.s (.s (.s .z)))) e6 (by rw [img_len ht32]; rfl)
   clear e6
   simp only [put] at hs
   refine ⟨Sat.can hs (i := 3) (.s (.s (.s .z))) (by decide), ?_⟩
   intro h7 e7
   replace hs := Sat.wra hs (i := 3) (.s (.s (.s .z))) e7 (by rfl)
   clear e7
   simp only [put] at hs
   replace hs : Sat h0 (sE own 1 (ints .u8 ((bs.drop 16).take n)) :: blk n103 [] :: blk nb (imgL (bs.getD 5 0) (bs.getD 6 0) (num4 bs 8) own ((bs.drop (16 + n)).take 32)) :: blk n10 [.int .i64 0, .int .i64 0] :: blk n7 (imgL (bs.getD 5 0) (bs.getD 6 0) (num4 bs 8) own ((bs.drop (16 + n)).take 32)) :: A) h7 := hs
   refine ⟨_, Sat.ld hs (i := 4) (.s (.s (.s (.s .z)))) rfl, _, Sat.ld hs (i := 4) (.s (.s (.s (.s .z)))) rfl, _, Sat.ld hs (i := 4) (.s (.s (.s (.s .z)))) rfl, _, _, _, Sat.ld hs (i := 4) (.s (.s (.s (.s .z)))) rfl, _, ht32, img_row hs (.s (.s (.s (.s .z)))) ht32, _, Sat.ld hs (i := 3) (.s (.s (.s .z))) rfl, _, Sat.ld hs (i := 3) (.s (.s (.s .z))) rfl, ?_⟩
   exact k2 own n _ hw hnn eo2.symm (hs.sub (by (repeat (first | exact List.Sublist.refl _ | apply List.Sublist.cons_cons | apply List.Sublist.cons))))
 obtain ⟨q', hq, g5⟩ := hsv_int (rd _ hs.drop.drop) (x := 5) (by omega)
 obtain ⟨q2, hq2, g6⟩ := hsv_int (rd _ hs.drop.drop) (x := 6) (by omega)
 rw [hq] at hq2
 injection hq2 with hq2
 subst hq2
 have c5 : ∀ h', Sat h0 A h' → hcs h' (q'.add 5) [.int .u8 (bs.getD 5 0)] := fun h' hs' => by
  obtain ⟨q2, hq2, g⟩ := hsv_int (rd _ hs') (x := 5) (by omega)
  rw [hq] at hq2; injection hq2 with hq2; subst hq2; exact hcs_one g
 have c6 : ∀ h', Sat h0 A h' → hcs h' (q'.add 6) [.int .u8 (bs.getD 6 0)] := fun h' hs' => by
  obtain ⟨q2, hq2, g⟩ := hsv_int (rd _ hs') (x := 6) (by omega)
  rw [hq] at hq2; injection hq2 with hq2; subst hq2; exact hcs_one g
 have b5 := byte_getD hb 5
 have b6 := byte_getD hb 6
 unfold isByte at b5 b6
 have w5 : IntKind.i64.wrap (bs.getD 5 0) = bs.getD 5 0 := by rw [IntKind.wrap_i64]; omega
 have w6 : IntKind.i64.wrap (bs.getD 6 0) = bs.getD 6 0 := by rw [IntKind.wrap_i64]; omega
 have rd8 : ∀ h', Sat h0 A h' → hsv h' (subAddr q 8 c 1) 1 (l - 8) (ints .u8 ((bs.drop 8).take (l - 8))) := fun h' hs' => sub_rd (o := 8) (n := l - 8) (m := c) (rd _ hs') (by omega) (by omega)
 refine ⟨_, hq, by omega, by omega, _, g5, _, hq, by omega, by omega, _, g6, by omega, by omega, ?_⟩
 rw [w5, w6]
 constructor
 ·refine rnumber_sp (rd8 _ hs.drop.drop) (drop_bytes hb _ _) (by omega) ?_
  rw [num4_drop _ _ _ (by omega)]
  refine ⟨c6 _ hs.drop.drop, c5 _ hs.drop.drop, ?_⟩
  intro nb _ hn; replace hs := Sat.new hs hn; clear hn
  refine ⟨c6 _ hs.drop.drop.drop, c5 _ hs.drop.drop.drop, ?_⟩
  refine ⟨Sat.can hs (i := 0) .z (by decide), ?_⟩
  intro h4 e4
  replace hs := Sat.wra hs (i := 0) .z e4 (by rfl)
  exact way nb _ hs
 ·intro nb _ hn; replace hs := Sat.new hs hn; clear hn
  refine ⟨c6 _ hs.drop.drop.drop, c5 _ hs.drop.drop.drop, ?_⟩
  refine rnumber_sp (rd8 _ hs.drop.drop.drop) (drop_bytes hb _ _) (by omega) ?_
  rw [num4_drop _ _ _ (by omega)]
  refine ⟨c6 _ hs.drop.drop.drop, c5 _ hs.drop.drop.drop, ?_⟩
  refine ⟨Sat.can hs (i := 0) .z (by decide), ?_⟩
  intro h4 e4
  replace hs := Sat.wra hs (i := 0) .z e4 (by rfl)
  exact way nb _ hs
end
end Go.Proofs.YteedolonhdbieaaGreatDoor
end

/- The gate, the document: whether an image may be started. Own work. -/
section
set_option maxRecDepth 100000
set_option linter.unusedVariables false
namespace Go.Proofs.YteedolonhdbieaaGreatDoor
open Go Go.Vc
attribute [local irreducible] macM

section
variable {h0 h : H} {A : List Ent} {i j p r b s m : Nat} {C : Cm}
theorem rsignN_sp {Q : List Int → Int → H → Prop} {key : Int} {bb : List Int} {bp lp : Option Addr} {bl bc lc : Nat} {R : List SR} {x : SR} (hs : Sat h0 A h) (cr : At A i (blk r [.slice lp R.length lc])) (cl : At A j (slE lp R.length lc 2 (secV R))) (hR : R.length < 2 ^ 40) (gd : SR.good R)
  (rR : ∀ x, x ∈ R → ∀ h', Sat h0 A h' → hsv h' x.p 1 x.bytes.length (ints .u8 x.bytes)) (hx : SR.at_ R key = some x) (hbb : isBy bb) (hbl : bl < 2 ^ 40)
  (rb : ∀ h', Sat h0 A h' → hsv h' bp 1 bl (ints .u8 bb)) (k : ∀ h', Sat h0 A h' → Q (macM x.bytes bb) 0 h') : F_portcullisref12_Ring_Sign ⟨r, 0, none⟩ key bp bl bc Q h := by
 unfold F_portcullisref12_Ring_Sign G_portcullisref12_Ring_Sign
 try simp only [add_mk, Nat.zero_add, List.append_nil]
 have hx2 : x ∈ R := List.mem_of_find?_eq_some hx
 have hg := gd x hx2
 intro nb _ hn; replace hs := Sat.new hs hn; clear hn
 refine find_sp key hs cr.s cl.s hR ?_
 rintro n (⟨e, _⟩ | ⟨t, ht, rfl, e⟩)
 ·rw [hx] at e; cases e
 rw [hx] at e
 injection e with e
 rw [ltI_eq, if_neg (by rw [decide_eq_true_iff]; omega)]
 obtain ⟨q2, hq2, g2⟩ := hsv_get (hs.sv cl.s) (secV_get R t ht).2
 refine ⟨_, _, _, hs.ld cr.s rfl, q2, hq2, by omega, by omega, ?_⟩
 simp only [Int.toNat_natCast]
 refine ⟨_, _, _, by rw [addAdd]; exact g2, ?_⟩
 rw [← e]
 refine rmac_sp (key := x.bytes) (b := bb) hs hg.2.2 hbb (by omega) (by omega) (fun h' hs' => rR x hx2 _ hs'.drop) (fun h' hs' => rb _ hs'.drop) ?_
 intro h2 hs
 refine ⟨Sat.can hs (i := 0) .z (by simp [zeros]), ?_⟩
 intro h3 e3
 replace hs := Sat.wra (xs := ints .u8 (macM x.bytes bb)) hs (i := 0) .z e3 (by simp [zeros, macM_len])
 clear e3
 simp only [put_zero] at hs
 exact ⟨_, macM_len _ _, hs.row0 (i := 0) .z, k _ hs.drop⟩
theorem rbody_sp {Q : Option Addr → Nat → Nat → H → Prop} {bs : List Int} {q : Option Addr} {l c : Nat} (hs : Sat h0 A h) (rd : ∀ h', Sat h0 A h' → hsv h' q 1 l (ints .u8 bs)) (hl : 32 ≤ l) (hlc : l ≤ c) (hl2 : l < 2 ^ 40)
  (k : ∀ p' c' h', l - 32 ≤ c' → Sat h0 (slE p' (l - 32) c' 1 (ints .u8 (bs.take (l - 32))) :: A) h' → Q p' (l - 32) c' h') : F_portcullisref11_Body q l c Q h := by
 unfold F_portcullisref11_Body G_portcullisref11_Body
 have hbl : bs.length = l := by have := (rd _ hs).1; simpa using this
 rw [ltI_eq, if_neg (by rw [decide_eq_true_iff]; omega)]
 intro eb _ hn; replace hs := Sat.new hs hn; clear hn
 have e : IntKind.i64.wrap ((l : Int) - 32) = ((l - 32 : Nat) : Int) := by rw [wrap_id (by omega)]; omega
 rw [e]
 refine ⟨by omega, by omega, ?_⟩
 simp only [Int.toNat_natCast, Nat.sub_zero]
 have R := subRd (o := 0) (n := l - 32) (m := c) (rd _ hs.drop) (by omega) (by omega)
 rw [List.drop_zero] at R
 refine ⟨_, R, ?_⟩
 replace hs := hs.drop.sl_nil 1 (some ⟨eb, 0, none⟩)
 refine Sat.app hs (i := 0) (vs := ints .u8 (bs.take (l - 32))) .z (by simp; omega) rfl (ints_one _ _) (by dsimp only; omega) ?_
 intro p' c' h' hs
 simp only [put_zero, List.nil_append, Nat.zero_add] at hs ⊢
 exact k p' c' h' (capS hs (i := 0) .z) hs
end
end Go.Proofs.YteedolonhdbieaaGreatDoor
end

/- Images, the document: what their tag covers, bytes; whether they may be. Own work. -/
section
set_option maxRecDepth 100000
set_option linter.unusedVariables false
namespace Go.Proofs.YteedolonhdbieaaGreatDoor
open Go Go.Vc
attribute [local irreducible] macM

def fourL (v : Int) (t : Nat) : List Int := (List.range t).map fun j => IntKind.u8.wrap (v.fdiv (2 ^ (8 * j)))
theorem fourL_len (v : Int) (t : Nat) : (fourL v t).length = t := by simp [fourL]
theorem fourL_succ (v : Int) (t : Nat) : fourL v (t + 1) = fourL v t ++ [IntKind.u8.wrap (v.fdiv (2 ^ (8 * t)))] := by
 unfold fourL; rw [List.range_succ, List.map_append]; rfl
def coverM (slot key ver : Int) (pay : List Int) : List Int := [80, 67, 85, 76, 1, IntKind.u8.wrap slot, IntKind.u8.wrap key, 0] ++ fourL ver 4 ++ fourL (pay.length : Int) 4 ++ pay
theorem coverM_len (slot key ver : Int) (pay : List Int) : (coverM slot key ver pay).length = 16 + pay.length := by
 unfold coverM
 rw [List.length_append, List.length_append, List.length_append, fourL_len, fourL_len]; rfl
def may11 (slot key ver : Int) (n : Nat) : Int :=
 if slot < 0 ∨ 7 < slot ∨ key < 0 ∨ 63 < key ∨ ver < 0 ∨ 4294967295 < ver then 2 else if 524240 < n then 4 else 0
section
variable {h0 h : H} {A : List Ent} {i j p r b s m : Nat} {C : Cm}
theorem rfour_sp {Q : Option Addr → Nat → Nat → H → Prop} {q : Option Addr} {l c : Nat} {xs : List Int} (v : Int) (hs : Sat h0 (slE q l c 1 (ints .u8 xs) :: A) h) (hl : l < 2 ^ 45)
  (k : ∀ p' c' h', Sat h0 (slE p' (l + 4) c' 1 (ints .u8 (xs ++ fourL v 4)) :: A) h' → Q p' (l + 4) c' h') : F_portcullisref11_four q l c v Q h := by
 unfold F_portcullisref11_four G_portcullisref11_four
 intro J hJ
 refine loopS 4 (fun t (s : Option Addr × Nat) => [.dv (.one (.slice s.1 (l + t) s.2)), si t]) (fun t s h => Sat h0 (slE s.1 (l + t) s.2 1 (ints .u8 (xs ++ fourL v t)) :: A) h) ?_ ?_ 0 (q, c) _ (by omega) (by simpa [fourL] using hs)
 ·clear hs
  rintro t ⟨p2, c2⟩ h2 ht hs hk
  dsimp only at hs hk ⊢
  apply hJ
  rw [ltI_eq, if_pos (by rw [decide_eq_true_iff]; omega)]
  have e : IntKind.i64.wrap (8 * (t : Int)) = ((8 * t : Nat) : Int) := by rw [wrap_id (by omega)]; push_cast; rfl
  rw [e]
  refine ⟨by omega, ?_⟩
  rw [Int.toNat_natCast, show min (8 * t) 64 = 8 * t by omega]
  intro nb _ hn; replace hs := Sat.new hs hn; clear hn
  refine ⟨_, hs.bv (i := 0) (l := 1) .z rfl (ints_one .u8 [_]), ?_⟩
  refine Sat.app hs (i := 1) (vs := ints .u8 [_]) (.s .z) rfl rfl (ints_one .u8 [_]) (by omega) ?_
  intro p3 c3 h3 hs
  simp only [put_succ, put_zero] at hs
  rw [wrap_succ (by omega)]
  refine hk (p3, c3) h3 ?_
  dsimp only
  rw [fourL_succ, ← List.append_assoc, ints_app .u8 _ [_]]
  exact hs.drop
 ·clear hs
  rintro ⟨p2, c2⟩ h2 hs
  dsimp only at hs ⊢
  apply hJ
  rw [ltI_eq, if_neg (by decide)]
  exact k _ _ _ hs
theorem rcover_sp {Q : Option Addr → Nat → Nat → H → Prop} {slot key ver : Int} {pay tag : List Int} {pp : Option Addr} {pl pc : Nat} (hs : Sat h0 A h) (hp : pl < 2 ^ 44) (rd : ∀ h', Sat h0 A h' → hsv h' pp 1 pl (ints .u8 pay))
  (k : ∀ p' c' h', Sat h0 (slE p' (16 + pl) c' 1 (ints .u8 (coverM slot key ver pay)) :: A) h' → Q p' (16 + pl) c' h') : F_portcullisref11_Cover slot key ver pp pl pc tag Q h := by
 unfold F_portcullisref11_Cover G_portcullisref11_Cover
 try simp only [add_mk, Nat.zero_add, List.append_nil]
 have hpl : pay.length = pl := by have := (rd _ hs).1; simpa using this
 intro n10 _ hn; replace hs := Sat.new hs hn; clear hn
 replace hs : Sat h0 (blk n10 (imgL slot key ver (pp, pl, pc) tag) :: A) _ := hs
 refine ⟨_, hs.ld (i := 0) .z rfl, _, hs.ld (i := 0) .z rfl, ?_⟩
 intro n15 _ hn; replace hs := Sat.new hs hn; clear hn
 refine ⟨_, hs.ld (i := 1) (.s .z) rfl, ?_⟩
 replace hs := hs.as_sl (i := 0) (l := 8) (sz := 1) .z rfl (ints_one .u8 [80, 67, 85, 76, 1, IntKind.u8.wrap slot, IntKind.u8.wrap key, 0])
 simp only [put_zero] at hs
 refine rfour_sp (xs := [80, 67, 85, 76, 1, IntKind.u8.wrap slot, IntKind.u8.wrap key, 0]) ver hs (by decide) ?_
 intro p2 c2 h2 hs
 refine ⟨_, _, _, hs.ld (i := 1) (.s .z) rfl, ?_⟩
 refine rfour_sp (pl : Int) hs (by decide) ?_
 intro p3 c3 h3 hs
 refine ⟨_, _, _, hs.ld (i := 1) (.s .z) rfl, _, rd _ hs.drop.drop, ?_⟩
 refine Sat.app hs (i := 0) (vs := ints .u8 pay) .z (by simp [hpl]) rfl (ints_one _ _) (by dsimp only; omega) ?_
 intro p4 c4 h4 hs
 simp only [put_zero] at hs
 have e : ints .u8 ([80, 67, 85, 76, 1, IntKind.u8.wrap slot, IntKind.u8.wrap key, 0] ++ fourL ver 4 ++ fourL (pl : Int) 4) ++ ints .u8 pay = ints .u8 (coverM slot key ver pay) := by
  unfold coverM; rw [hpl, ← ints_app]
 rw [e] at hs
 have K := k p4 c4 h4
 rw [show 16 + pl = 8 + 4 + 4 + pl by omega] at K
 exact K (hs.sub (by (repeat (first | exact List.Sublist.refl _ | apply List.Sublist.cons_cons | apply List.Sublist.cons))))
theorem rtagged_sp {Q : Option Addr → Nat → Nat → H → Prop} {slot key ver : Int} {pay tag : List Int} {pp : Option Addr} {pl pc : Nat} (hs : Sat h0 A h) (ht : tag.length = 32) (hp : pl < 2 ^ 44) (rd : ∀ h', Sat h0 A h' → hsv h' pp 1 pl (ints .u8 pay))
  (k : ∀ p' c' h', Sat h0 (slE p' (48 + pl) c' 1 (ints .u8 (coverM slot key ver pay ++ tag)) :: A) h' → 48 + pl ≤ c' → Q p' (48 + pl) c' h') : F_portcullisref11_Tagged slot key ver pp pl pc tag Q h := by
 unfold F_portcullisref11_Tagged G_portcullisref11_Tagged
 try simp only [add_mk, Nat.zero_add, List.append_nil]
 intro n10 _ hn; replace hs := Sat.new hs hn; clear hn
 replace hs : Sat h0 (blk n10 (imgL slot key ver (pp, pl, pc) tag) :: A) _ := hs
 refine ⟨_, hs.ld (i := 0) .z rfl, _, hs.ld (i := 0) .z rfl, _, hs.ld (i := 0) .z rfl, _, _, _, hs.ld (i := 0) .z rfl, tag, ht, img_row hs .z ht, ?_⟩
 refine rcover_sp (pay := pay) hs hp (fun h' hs' => rd _ hs'.drop) ?_
 intro p2 c2 h2 hs
 intro J hJ
 refine loopS 32 (fun t (s : Option Addr × Nat) => [.dv (.one (.slice s.1 (16 + pl + t) s.2)), si t]) (fun t s h => Sat h0 (slE s.1 (16 + pl + t) s.2 1 (ints .u8 (coverM slot key ver pay ++ tag.take t)) :: blk n10 (imgL slot key ver (pp, pl, pc) tag) :: A) h) ?_ ?_ 0 (p2, c2) _ (by omega) (by simpa using hs)
 ·clear hs
  rintro t ⟨p6, c6⟩ h6 ht2 hs hk
  dsimp only at hs hk ⊢
  apply hJ
  rw [ltI_eq, if_pos (by rw [decide_eq_true_iff]; omega)]
  have ht3 : t < tag.length := by omega
  refine ⟨by omega, by omega, tag[t], ?_, ?_⟩
  ·simp only [Int.toNat_natCast, Nat.mul_one]
   have := img_row hs (.s .z) ht t (.int .u8 tag[t]) (by rw [ints_get, List.getElem?_eq_getElem ht3]; rfl)
   first | exact this | (rw [add_mk] at this; exact this)
  intro b3 _ hn; replace hs := Sat.new hs hn; clear hn
  refine ⟨_, hs.bv (i := 0) (l := 1) .z rfl (ints_one .u8 [tag[t]]), ?_⟩
  refine Sat.app hs (i := 1) (vs := ints .u8 [tag[t]]) (.s .z) rfl rfl (ints_one _ _) (by omega) ?_
  intro p7 c7 h7 hs
  simp only [put_succ, put_zero] at hs
  rw [wrap_succ (by omega)]
  refine hk (p7, c7) h7 ?_
  dsimp only
  rw [take_snoc _ ht3, ← List.append_assoc, ints_app .u8 _ [tag[t]]]
  exact hs.drop
 ·clear hs
  rintro ⟨p6, c6⟩ h6 hs
  dsimp only at hs ⊢
  apply hJ
  rw [ltI_eq, if_neg (by decide)]
  rw [List.take_of_length_le (by omega)] at hs
  have hc := capS hs (i := 0) .z
  have K := k p6 c6 h6
  rw [show 48 + pl = 16 + pl + 32 by omega] at K
  exact K (hs.sub (by (repeat (first | exact List.Sublist.refl _ | apply List.Sublist.cons_cons | apply List.Sublist.cons)))) hc
theorem rmay11_sp {Q : Int → H → Prop} {slot key ver : Int} {tag : List Int} {pp : Option Addr} {pl pc : Nat} (hs : Sat h0 A h) (k : ∀ h', Sat h0 A h' → Q (may11 slot key ver pl) h') : F_portcullisref11_May slot key ver pp pl pc tag Q h := by
 unfold F_portcullisref11_May G_portcullisref11_May
 try simp only [add_mk, Nat.zero_add, List.append_nil]
 intro n9 _ hn; replace hs := Sat.new hs hn; clear hn
 replace hs : Sat h0 (blk n9 (imgL slot key ver (pp, pl, pc) tag) :: A) _ := hs
 have K := k _ hs.drop
 clear k
 unfold may11 at K
 intro J hJ
 refine ⟨_, hs.ld (i := 0) .z rfl, ?_⟩
 rw [ltI_eq]
 by_cases g1 : slot < 0
 ·rw [if_pos (by simpa using g1)]
  rw [if_pos (Or.inl g1)] at K; exact K
 rw [if_neg (by simpa using g1)]
 refine ⟨_, hs.ld (i := 0) .z rfl, ?_⟩
 rw [ltI_eq]
 by_cases g2 : 7 < slot
 ·rw [if_pos (by simpa using g2)]
  rw [if_pos (Or.inr (Or.inl g2))] at K; exact K
 rw [if_neg (by simpa using g2)]
 refine ⟨_, hs.ld (i := 0) .z rfl, ?_⟩
 rw [ltI_eq]
 by_cases g3 : key < 0
 ·rw [if_pos (by simpa using g3)]
  rw [if_pos (by omega)] at K; exact K
 rw [if_neg (by simpa using g3)]
 refine ⟨_, hs.ld (i := 0) .z rfl, ?_⟩
 rw [ltI_eq]
 by_cases g4 : 63 < key
 ·rw [if_pos (by simpa using g4)]
  rw [if_pos (by omega)] at K; exact K
 rw [if_neg (by simpa using g4)]
 refine ⟨_, hs.ld (i := 0) .z rfl, ?_⟩
 rw [ltI_eq]
 by_cases g5 : ver < 0
 ·rw [if_pos (by simpa using g5)]
  rw [if_pos (by omega)] at K; exact K
 rw [if_neg (by simpa using g5)]
 refine ⟨_, hs.ld (i := 0) .z rfl, ?_⟩
 intro v25 hv
 subst hv
 rw [ltI_eq]
 by_cases g6 : 4294967295 < ver
 ·rw [if_pos (by simpa using g6)]
  rw [if_pos (by omega)] at K; exact K
 rw [if_neg (by simpa using g6)]
 rw [if_neg (by omega)] at K
 apply hJ
 refine ⟨_, _, _, hs.ld (i := 0) .z rfl, ?_⟩
 dsimp only
 rw [ltI_eq]
 by_cases g7 : 524240 < pl
 ·rw [if_pos (by rw [decide_eq_true_iff]; omega)]
  rw [if_pos g7] at K; exact K
 ·rw [if_neg (by rw [decide_eq_true_iff]; omega)]
  rw [if_neg g7] at K; exact K
theorem rmake_sp {Q : Option Addr → Nat → Nat → Int → H → Prop} {slot key ver : Int} {sec pay tag : List Int} {sp pp : Option Addr} {sl sc pl pc : Nat} (hs : Sat h0 A h) (ht : tag.length = 32) (hm : may11 slot key ver pl = 0) (hsb : isBy sec) (hsl : sl < 2 ^ 40) (hpb : isBy pay)
  (rs : ∀ h', Sat h0 A h' → hsv h' sp 1 sl (ints .u8 sec)) (rd : ∀ h', Sat h0 A h' → hsv h' pp 1 pl (ints .u8 pay))
  (k : ∀ p' c' h', Sat h0 (slE p' (48 + pl) c' 1 (ints .u8 (coverM slot key ver pay ++ macM sec (coverM slot key ver pay))) :: A) h' → 48 + pl ≤ c' → Q p' (48 + pl) c' 0 h') : F_portcullisref11_Make sp sl sc slot key ver pp pl pc tag Q h := by
 unfold F_portcullisref11_Make G_portcullisref11_Make
 try simp only [add_mk, Nat.zero_add, List.append_nil]
 have hpl : pay.length = pl := by have := (rd _ hs).1; simpa using this
 have hp : pl ≤ 524240 := by
  unfold may11 at hm
  by_cases g : slot < 0 ∨ 7 < slot ∨ key < 0 ∨ 63 < key ∨ ver < 0 ∨ 4294967295 < ver
  ·rw [if_pos g] at hm; cases hm
  ·rw [if_neg g] at hm
   by_cases g2 : 524240 < pl
   ·rw [if_pos g2] at hm; cases hm
   ·omega
 have hcb : isBy (coverM slot key ver pay) := by
  intro v hv
  unfold coverM at hv
  have w8 : ∀ n, 0 ≤ IntKind.u8.wrap n ∧ IntKind.u8.wrap n < 256 := fun n => by rw [IntKind.wrap_u8]; omega
  have f8 : ∀ v t x, x ∈ fourL v t → 0 ≤ x ∧ x < 256 := by
   intro v t x hx
   unfold fourL at hx
   obtain ⟨j, _, rfl⟩ := List.mem_map.1 hx
   exact w8 _
  rcases List.mem_append.1 hv with hv | hv
  ·rcases List.mem_append.1 hv with hv | hv
   ·rcases List.mem_append.1 hv with hv | hv
    ·simp only [List.mem_cons, List.not_mem_nil, or_false] at hv
     rcases hv with rfl | rfl | rfl | rfl | rfl | rfl | rfl | rfl
     ·decide
     ·decide
     ·decide
     ·decide
     ·decide
     ·exact w8 _
     ·exact w8 _
     ·decide
    ·exact f8 _ _ _ hv
   ·exact f8 _ _ _ hv
  ·exact hpb v hv
 intro n16 _ hn; replace hs := Sat.new hs hn; clear hn
 replace hs : Sat h0 (blk n16 (imgL slot key ver (pp, pl, pc) tag) :: A) _ := hs
 refine ⟨_, hs.ld (i := 0) .z rfl, _, hs.ld (i := 0) .z rfl, _, hs.ld (i := 0) .z rfl, _, _, _, hs.ld (i := 0) .z rfl, tag, ht, img_row hs .z ht, ?_⟩
 refine rmay11_sp hs ?_
 intro h2 hs
 rw [hm, if_neg (by decide)]
 refine ⟨_, hs.ld (i := 0) .z rfl, _, hs.ld (i := 0) .z rfl, _, hs.ld (i := 0) .z rfl, _, _, _, hs.ld (i := 0) .z rfl, tag, ht, img_row hs .z ht, ?_⟩
 refine rcover_sp (pay := pay) hs (by dsimp only; omega) (fun h' hs' => rd _ hs'.drop) ?_
 intro p2 c2 h3 hs
 refine rmac_sp (key := sec) (b := coverM slot key ver pay) hs hsb hcb (by omega) (by dsimp only; omega) (fun h' hs' => rs _ hs'.drop.drop) (fun h' hs' => hs'.sv (i := 0) .z) ?_
 intro h4 hs
 replace hs := hs.drop
 refine ⟨Sat.can hs (i := 0) .z (by simp [ht]), ?_⟩
 intro h5 e5
 replace hs := Sat.wr hs (i := 0) (o := 4) .z e5
 clear e5
 simp only [put_zero] at hs
 have es : splice (imgL slot key ver (pp, pl, pc) tag) 4 (ints .u8 (macM sec (coverM slot key ver pay))) = imgL slot key ver (pp, pl, pc) (macM sec (coverM slot key ver pay)) := by
  have := splice_append [Value.int .i64 slot, .int .i64 key, .int .i64 ver, .slice pp pl pc] (ints .u8 tag) [] (ints .u8 (macM sec (coverM slot key ver pay))) (by simp [ht, macM_len])
  simpa using this
 rw [es] at hs
 refine ⟨_, hs.ld (i := 0) .z rfl, _, hs.ld (i := 0) .z rfl, _, hs.ld (i := 0) .z rfl, _, _, _, hs.ld (i := 0) .z rfl, _, macM_len _ _, img_row hs .z (macM_len _ _), ?_⟩
 refine rtagged_sp (pay := pay) hs (macM_len _ _) (by dsimp only; omega) (fun h' hs' => rd _ hs'.drop) ?_
 intro p6 c6 h6 hs hc
 exact k _ _ _ (hs.sub (by (repeat (first | exact List.Sublist.refl _ | apply List.Sublist.cons_cons | apply List.Sublist.cons)))) hc
theorem same11_sp {Q : Bool → H → Prop} {a b v : Int} {pay tag : List Int} {p1 p2 : Option Addr} {l1 c1 l2 c2 : Nat} (hs : Sat h0 A h) (ht : tag.length = 32) (r1 : ∀ h', Sat h0 A h' → hsv h' p1 1 l1 (ints .u8 pay)) (r2 : ∀ h', Sat h0 A h' → hsv h' p2 1 l2 (ints .u8 pay))
  (k : ∀ h', Sat h0 A h' → Q true h') : F_portcullisref11_Same a b v p1 l1 c1 tag a b v p2 l2 c2 tag Q h := by
 unfold F_portcullisref11_Same G_portcullisref11_Same
 try simp only [add_mk, Nat.zero_add, List.append_nil]
 intro n16 _ hn; replace hs := Sat.new hs hn; clear hn
 intro n19 _ hn; replace hs := Sat.new hs hn; clear hn
 replace hs : Sat h0 (blk n19 (imgL a b v (p2, l2, c2) tag) :: blk n16 (imgL a b v (p1, l1, c1) tag) :: A) _ := hs
 refine ⟨_, hs.ld (i := 1) (.s .z) rfl, _, hs.ld (i := 0) .z rfl, ?_⟩
 rw [if_pos (by simp)]
 refine ⟨_, hs.ld (i := 1) (.s .z) rfl, _, hs.ld (i := 0) .z rfl, ?_⟩
 rw [if_pos (by simp)]
 refine ⟨_, hs.ld (i := 1) (.s .z) rfl, _, hs.ld (i := 0) .z rfl, ?_⟩
 rw [if_pos (by simp)]
 refine ⟨_, _, _, hs.ld (i := 1) (.s .z) rfl, _, r1 _ hs.drop.drop, _, _, _, hs.ld (i := 0) .z rfl, _, r2 _ hs.drop.drop, ?_⟩
 rw [if_pos (by simp)]
 refine ⟨tag, ht, img_row hs (.s .z) ht, tag, ht, img_row hs .z ht, ?_⟩
 have : (tag == tag) = true := by simp
 rw [this]
 exact k _ hs.drop.drop
end
end Go.Proofs.YteedolonhdbieaaGreatDoor
end

/- The gate: answers that the document fixes (reckoned). Own work. -/
section
set_option maxRecDepth 1000000
namespace Go.Proofs.YteedolonhdbieaaGreatDoor
open Go Go.Vc
theorem n13 : newM [(1, [7])] = none := by decide
end Go.Proofs.YteedolonhdbieaaGreatDoor
end

/- TokenChecks: over any chip, keys, tokens, wishes; no act; without power, too. Own work. -/
section
set_option maxRecDepth 100000
set_option linter.unusedVariables false
namespace Go.Proofs.YteedolonhdbieaaGreatDoor
open Go Go.Vc
attribute [local irreducible] macM

structure TkIn (h : H) (key : Int) (id tag : List Int) (cs : List CvM) (ip : Option Addr) (il : Nat) (cp : Option Addr) (cl : Nat) : Prop where
 ri : hsv h ip 1 il (ints .u8 id)
 rb : isBy id
 ii : il + 4096 ≤ 2 ^ 47
 rc : hsv h cp 5 cl (cvsV cs)
 tl : tag.length = 32
 tb : isBy tag
section
variable {h0 h : H} {A : List Ent} {i j p r b s m : Nat} {C : Cm}
end
end Go.Proofs.YteedolonhdbieaaGreatDoor
end

/- The store's laws, plain: what a BumpTo leaves. Own work. -/
section
set_option maxRecDepth 100000
set_option linter.unusedVariables false
namespace Go.Proofs.YteedolonhdbieaaGreatDoor
open Go Go.Vc

theorem blow_pages (C : Cm) (k : Int) : (blowM C k).1.s.pages = C.s.pages ∧ (blowM C k).1.s.erases = C.s.erases ∧ (blowM C k).1.cfg = C.cfg := by
 unfold blowM
 split
 ·exact ⟨rfl, rfl, rfl⟩
 ·dsimp only
  split
  ·exact ⟨rfl, rfl, act_cfg C⟩
  ·rw [act_s]; exact ⟨rfl, rfl, act_cfg C⟩
theorem blow_left {C : Cm} (h : C.left < 0) (k : Int) : (blowM C k).1.left < 0 := by
 unfold blowM
 split
 ·exact h
 ·dsimp only
  split
  ·exact act_left h
  ·exact act_left h
def cntB (C : Cm) (k : Nat) : Nat := cnt C.s.blown (((k : Nat) : Int) * C.cfg.fuses).toNat C.cfg.fuses.toNat
def valB (C : Cm) (k : Nat) : Int := if (cntB C k : Int) * C.cfg.step < numOf C k then numOf C k else (cntB C k : Int) * C.cfg.step
structure Bumped (u : Bool) (C D : Cm) (slot : Nat) (v e : Int) : Prop where
 cfg : D.cfg = C.cfg
 snd : sndU u D
 keys : ∀ q : Nat, C.cfg.slots * C.cfg.fuses ≤ (q : Int) → D.s.blown.getD q false = C.s.blown.getD q false
 other : ∀ k : Nat, (k : Int) < C.cfg.slots → k ≠ slot → valB D k = valB C k
 me : valB D slot = valB C slot ∨ (valB D slot = v ∧ valB C slot < v)
 done : e = 0 → valB D slot = max v (valB C slot)
 bad : e ≠ 0 → e ≠ 8 → D = C
end Go.Proofs.YteedolonhdbieaaGreatDoor
end

/- The store's laws, plain: what a Revoke leaves. Own work. -/
section
set_option maxRecDepth 100000
set_option linter.unusedVariables false
namespace Go.Proofs.YteedolonhdbieaaGreatDoor
open Go Go.Vc

def keyB (C : Cm) (k : Nat) : Bool := C.s.blown.getD (C.cfg.slots * C.cfg.fuses + (k : Int)).toNat false
structure RevokedL (u : Bool) (C D : Cm) (key : Nat) (e : Int) : Prop where
 cfg : D.cfg = C.cfg
 snd : sndU u D
 vals : ∀ k : Nat, (k : Int) < C.cfg.slots → valB D k = valB C k
 other : ∀ k : Nat, k ≠ key → keyB D k = keyB C k
 up : keyB C key = true → keyB D key = true
 done : e = 0 → keyB D key = true ∧ D.out = false
 bad : e ≠ 0 → e ≠ 8 → D = C
end Go.Proofs.YteedolonhdbieaaGreatDoor
end

/- The gate, plain: what is handed off once is handed off no more behind a bump or a revocation. Own work. -/
section
set_option maxRecDepth 100000
set_option linter.unusedVariables false
namespace Go.Proofs.YteedolonhdbieaaGreatDoor
open Go Go.Vc
attribute [local irreducible] macM

structure Hands (C : Cm) (L : List Sec) (bs : List Int) (x y : Nat) (s : Sec) : Prop where
 on : C.out = false
 fine : (parseW bs).1 = 0
 slot : bs.getD 5 0 = (x : Int)
 key : bs.getD 6 0 = (y : Int)
 slots : (x : Int) < C.cfg.slots
 keys : (y : Int) < C.cfg.keys
 has : L.find? (fun z => z.1 == (y : Int)) = some s
 may : keyB C y = false
 tag : macM s.2 (bs.take (bs.length - 32)) = (bs.drop (bs.length - 32)).take 32
 low : valB C x ≤ num4 bs 8
 high : num4 bs 8 ≤ lastM C.cfg
structure Lifted (C D : Cm) : Prop where
 cfg : D.cfg = C.cfg
 vals : ∀ k : Nat, (k : Int) < C.cfg.slots → valB C k ≤ valB D k
 keys : ∀ k : Nat, (k : Int) < C.cfg.keys → keyB C k = true → keyB D k = true
end Go.Proofs.YteedolonhdbieaaGreatDoor
end

/- A gate for pieces, plain: what the bytes tell by now, and what the gate tells of all. Own work. -/
section
set_option maxRecDepth 100000
set_option linter.unusedVariables false
namespace Go.Proofs.YteedolonhdbieaaGreatDoor
open Go Go.Vc
attribute [local irreducible] macM

def tellsM (C : Cm) (L : List Sec) (B : List Int) : Int :=
 if (parseW B).1 ≠ 0 ∧ (parseW B).1 ≠ 6 then (parseW B).1
 else if 5 < B.length ∧ C.cfg.slots ≤ B.getD 5 0 then 5
 else if 6 < B.length ∧ (C.cfg.keys ≤ B.getD 6 0 ∨ L.find? (fun x => x.1 == B.getD 6 0) = none) then 13
 else if 6 < B.length ∧ (revokedM C (B.getD 6 0)).1 = true then 14 else 0
theorem head_some {bs : List Int} : ∀ (m x : Nat) (w : Int × Int), headW bs m x = some w → w.1 = 5 ∨ w.1 = 6
 | 0, x, w, h => by cases h
 | m + 1, x, w, h => by
  unfold headW at h
  by_cases c : x = bs.length
  ·rw [if_pos c] at h; cases h; exact Or.inr rfl
  rw [if_neg c] at h
  by_cases g : mayB x (bs.getD x 0) = true
  ·rw [if_pos g] at h; exact head_some m (x + 1) w h
  ·rw [if_neg g] at h; cases h; exact Or.inl rfl
theorem gate_parse {C : Cm} {L : List Sec} {b : List Int} (ho : C.out = false) (h : (parseW b).1 ≠ 0) : gateM C L b = (parseW b).1 := by
 unfold gateM
 rw [if_neg (by rw [ho]; decide), if_pos h]
end Go.Proofs.YteedolonhdbieaaGreatDoor
end

/- Images that are made: the program's Make; what a made image's bytes say. Own work. -/
section
set_option maxRecDepth 100000
set_option linter.unusedVariables false
namespace Go.Proofs.YteedolonhdbieaaGreatDoor
open Go Go.Vc
attribute [local irreducible] macM

theorem w8_in (n : Int) : 0 ≤ IntKind.u8.wrap n ∧ IntKind.u8.wrap n < 256 := by rw [IntKind.wrap_u8]; omega
theorem cover_by {slot key ver : Int} {pay : List Int} (hpb : isBy pay) : isBy (coverM slot key ver pay) := by
 intro v hv
 unfold coverM at hv
 have f8 : ∀ v t x, x ∈ fourL v t → 0 ≤ x ∧ x < 256 := by
  intro v t x hx
  unfold fourL at hx
  obtain ⟨j, _, rfl⟩ := List.mem_map.1 hx
  exact w8_in _
 rcases List.mem_append.1 hv with hv | hv
 ·rcases List.mem_append.1 hv with hv | hv
  ·rcases List.mem_append.1 hv with hv | hv
   ·simp only [List.mem_cons, List.not_mem_nil, or_false] at hv
    rcases hv with rfl | rfl | rfl | rfl | rfl | rfl | rfl | rfl
    ·decide
    ·decide
    ·decide
    ·decide
    ·decide
    ·exact w8_in _
    ·exact w8_in _
    ·decide
   ·exact f8 _ _ _ hv
  ·exact f8 _ _ _ hv
 ·exact hpb v hv
theorem fourL_all (v : Int) : fourL v 4 = [IntKind.u8.wrap v, IntKind.u8.wrap (v.fdiv (2 ^ 8)), IntKind.u8.wrap (v.fdiv (2 ^ 16)), IntKind.u8.wrap (v.fdiv (2 ^ 24))] := by
 show [IntKind.u8.wrap (v.fdiv (2 ^ 0)), IntKind.u8.wrap (v.fdiv (2 ^ 8)), IntKind.u8.wrap (v.fdiv (2 ^ 16)), IntKind.u8.wrap (v.fdiv (2 ^ 24))] = _
 rw [show (2 : Int) ^ 0 = 1 by decide, Int.fdiv_one]
theorem four_val {v : Int} (h0 : 0 ≤ v) (h1 : v < 4294967296) :
  IntKind.u8.wrap v + 256 * IntKind.u8.wrap (v.fdiv (2 ^ 8)) + 65536 * IntKind.u8.wrap (v.fdiv (2 ^ 16)) + 16777216 * IntKind.u8.wrap (v.fdiv (2 ^ 24)) = v := by
 rw [Int.fdiv_eq_ediv_of_nonneg _ (by decide), Int.fdiv_eq_ediv_of_nonneg _ (by decide), Int.fdiv_eq_ediv_of_nonneg _ (by decide)]
 simp only [IntKind.wrap_u8]
 omega
theorem made_list (slot key ver : Int) (pay t : List Int) : coverM slot key ver pay ++ t = 80 :: 67 :: 85 :: 76 :: 1 :: IntKind.u8.wrap slot :: IntKind.u8.wrap key :: 0 :: IntKind.u8.wrap ver :: IntKind.u8.wrap (ver.fdiv (2 ^ 8)) :: IntKind.u8.wrap (ver.fdiv (2 ^ 16)) :: IntKind.u8.wrap (ver.fdiv (2 ^ 24)) ::
  IntKind.u8.wrap (pay.length : Int) :: IntKind.u8.wrap ((pay.length : Int).fdiv (2 ^ 8)) :: IntKind.u8.wrap ((pay.length : Int).fdiv (2 ^ 16)) :: IntKind.u8.wrap ((pay.length : Int).fdiv (2 ^ 24)) :: (pay ++ t) := by
 unfold coverM
 rw [fourL_all, fourL_all]
 rfl
theorem may11_ok {slot key ver : Int} {n : Nat} (h : may11 slot key ver n = 0) : (0 ≤ slot ∧ slot < 8) ∧ (0 ≤ key ∧ key < 64) ∧ (0 ≤ ver ∧ ver < 4294967296) ∧ n ≤ 524240 := by
 unfold may11 at h
 by_cases g : slot < 0 ∨ 7 < slot ∨ key < 0 ∨ 63 < key ∨ ver < 0 ∨ 4294967295 < ver
 ·rw [if_pos g] at h; cases h
 ·rw [if_neg g] at h
  by_cases g2 : 524240 < n
  ·rw [if_pos g2] at h; cases h
  ·omega
theorem head_none {bs : List Int} : ∀ (m x : Nat), x + m ≤ bs.length → (∀ y, x ≤ y → y < x + m → mayB y (bs.getD y 0) = true) → headW bs m x = none
 | 0, x, _, _ => rfl
 | m + 1, x, h1, h2 => by
  unfold headW
  rw [if_neg (by omega), if_pos (h2 x (by omega) (by omega))]
  exact head_none m (x + 1) (by omega) fun y a b => h2 y (by omega) (by omega)
structure Made (bs : List Int) (slot key ver : Int) (pay t : List Int) : Prop where
 fine : parseW bs = (0, 0)
 atSlot : bs.getD 5 0 = slot
 atKey : bs.getD 6 0 = key
 atVer : num4 bs 8 = ver
 n : num4 bs 12 = pay.length
 len : bs.length = 48 + pay.length
 body : bs.take (bs.length - 32) = coverM slot key ver pay
 tag : (bs.drop (bs.length - 32)).take 32 = t
 load : (bs.drop 16).take pay.length = pay
 tag2 : (bs.drop (16 + pay.length)).take 32 = t
theorem made {slot key ver : Int} {pay t : List Int} (h : may11 slot key ver pay.length = 0) (ht : t.length = 32) : Made (coverM slot key ver pay ++ t) slot key ver pay t := by
 obtain ⟨h1, h2, h3, h4⟩ := may11_ok h
 have hlen : (coverM slot key ver pay ++ t).length = 48 + pay.length := by rw [List.length_append, coverM_len, ht]; omega
 have hc := coverM_len slot key ver pay
 have e5 : (coverM slot key ver pay ++ t).getD 5 0 = slot := by
  rw [made_list]; show IntKind.u8.wrap slot = slot; rw [IntKind.wrap_u8]; omega
 have e6 : (coverM slot key ver pay ++ t).getD 6 0 = key := by
  rw [made_list]; show IntKind.u8.wrap key = key; rw [IntKind.wrap_u8]; omega
 have e8 : num4 (coverM slot key ver pay ++ t) 8 = ver := by
  rw [made_list]; exact four_val h3.1 h3.2
 have e12 : num4 (coverM slot key ver pay ++ t) 12 = (pay.length : Int) := by
  rw [made_list]; exact four_val (by omega) (by omega)
 refine ⟨?_, e5, e6, e8, e12, hlen, ?_, ?_, ?_, ?_⟩
 ·unfold parseW
  rw [if_neg (by omega), head_none 16 0 (by omega) ?_]
  ·dsimp only
   rw [e12, if_neg (by omega), if_neg (by omega), if_neg (by omega)]
  ·intro y _ hy
   have : y = 0 ∨ y = 1 ∨ y = 2 ∨ y = 3 ∨ y = 4 ∨ y = 5 ∨ y = 6 ∨ y = 7 ∨ 8 ≤ y := by omega
   rcases this with rfl | rfl | rfl | rfl | rfl | rfl | rfl | rfl | g
   ·rw [made_list]; rfl
   ·rw [made_list]; rfl
   ·rw [made_list]; rfl
   ·rw [made_list]; rfl
   ·rw [made_list]; rfl
   ·rw [e5]; show decide (slot < 8) = true; rw [decide_eq_true_iff]; omega
   ·rw [e6]; show decide (key < 64) = true; rw [decide_eq_true_iff]; omega
   ·rw [made_list]; rfl
   ·unfold mayB; rw [if_neg (by omega), if_neg (by omega), if_neg (by omega), if_neg (by omega), if_neg (by omega)]
 ·rw [hlen, show 48 + pay.length - 32 = (coverM slot key ver pay).length by omega, List.take_left']
  rfl
 ·rw [hlen, show 48 + pay.length - 32 = (coverM slot key ver pay).length by omega, List.drop_left', List.take_of_length_le (by omega)]
  rfl
 ·rw [made_list]
  show (pay ++ t).take pay.length = pay
  rw [List.take_left']; rfl
 ·rw [← hc, List.drop_left', List.take_of_length_le (by omega)]
  rfl
section
variable {h0 h : H} {A : List Ent} {i j p r b s m : Nat} {C : Cm}
end
end Go.Proofs.YteedolonhdbieaaGreatDoor
end

/- Parts of a block that are owned; what the gate tells, in one form. Own work. -/
section
set_option maxRecDepth 100000
set_option linter.unusedVariables false
namespace Go.Proofs.YteedolonhdbieaaGreatDoor
open Go Go.Vc
attribute [local irreducible] macM gateM

@[irreducible] def prtP (P : Option Addr) (n : Nat) (xs : List Int) (h : H) (f : Nat → Prop) : Prop :=
 xs.length = n ∧ ((n = 0 ∧ ∀ x, ¬ f x) ∨ ∃ b pre post, (n = 0 ∨ P = some ⟨b, pre.length, none⟩) ∧ Blk h b (pre ++ ints .u8 xs ++ post) ∧ ∀ x, f x ↔ x = b)
def prtE (P : Option Addr) (n : Nat) (xs : List Int) : Ent where
 tag := .of 77
 P := prtP P n xs
 st := by
  unfold prtP; rintro h h' f ⟨e, k⟩ hs
  refine ⟨e, ?_⟩
  rcases k with k | ⟨b, pre, post, k1, k2, k3⟩
  ·exact Or.inl k
  ·exact Or.inr ⟨b, pre, post, k1, k2.of_eq (hs b ((k3 b).2 rfl)), k3⟩
 lt := by
  unfold prtP; rintro h f x ⟨e, k⟩ hx
  rcases k with k | ⟨b, pre, post, k1, k2, k3⟩
  ·exact absurd hx (k.2 x)
  ·rw [(k3 x).1 hx]; exact k2.lt
theorem prtE_P {P : Option Addr} {n : Nat} {xs : List Int} {h : H} {f : Nat → Prop} : (prtE P n xs).P h f ↔ xs.length = n ∧ ((n = 0 ∧ ∀ x, ¬ f x) ∨ ∃ b pre post, (n = 0 ∨ P = some ⟨b, pre.length, none⟩) ∧ Blk h b (pre ++ ints .u8 xs ++ post) ∧ ∀ x, f x ↔ x = b) := by
 show prtP P n xs h f ↔ _; unfold prtP; rfl
section
variable {h0 h : H} {A : List Ent} {i j p r b s m : Nat} {C : Cm}
theorem prt_rd {P : Option Addr} {n : Nat} {xs : List Int} (hs : Sat h0 A h) (a : At A i (prtE P n xs)) : hsv h P 1 n (ints .u8 xs) := by
 obtain ⟨f, hp, _⟩ := hs.take a
 obtain ⟨e, k⟩ := prtE_P.1 hp
 refine ⟨by rw [ints_length, e, Nat.mul_one], ints_one _ _, ?_⟩
 have nl : n = 0 → ints .u8 xs = [] := fun y => by rw [List.eq_nil_of_length_eq_zero (e.trans y)]; rfl
 rcases k with k | ⟨b, pre, post, k1, k2, k3⟩
 ·exact Or.inl (nl k.1)
 ·rcases k1 with k1 | k1
  ·exact Or.inl (nl k1)
  ·refine Or.inr ⟨_, k1, k2.hcs fun x hx => ?_⟩
   rw [List.append_assoc, List.getElem?_append_right (by omega), Nat.add_sub_cancel_left, List.getElem?_append_left hx]
theorem prt_nil {c sz : Nat} (hs : Sat h0 A h) (a : At A i (sE (none, 0, 0) sz [])) : Sat h0 (put A i (prtE none 0 [])) h := by
 refine hs.as a fun f hp => ?_
 obtain ⟨bs, ⟨_, _, _, h4⟩, hf⟩ := slE_P.1 hp
 refine prtE_P.2 ⟨rfl, Or.inl ⟨rfl, fun x hx => ?_⟩⟩
 rcases h4 with ⟨_, _, rfl⟩ | ⟨b, rest, y, _⟩
 ·simpa using (hf x).1 hx
 ·cases y
theorem prt_of {own : Sl} {bs : List Int} {n : Nat} (hs : Sat h0 A h) (a : At A i (sE own 1 (ints .u8 bs))) (hl : bs.length = 48 + n) : Sat h0 (put A i (prtE (subAddr own.1 16 (16 + n) 1) n ((bs.drop 16).take n))) h := by
 refine hs.as a fun f hp => ?_
 obtain ⟨B, ⟨h1, h2, h3, h4⟩, hf⟩ := slE_P.1 hp
 have hlen : own.2.1 = 48 + n := by simp at h1; omega
 refine prtE_P.2 ⟨by rw [List.length_take, List.length_drop]; omega, Or.inr ?_⟩
 rcases h4 with ⟨y, _, _⟩ | ⟨b, rest, e1, rfl, k, _⟩
 ·omega
 refine ⟨b, ints .u8 (bs.take 16), ints .u8 (bs.drop (16 + n)) ++ rest, ?_, ?_, ?_⟩
 ·by_cases g : n = 0
  ·exact Or.inl g
  ·right
   unfold subAddr
   rw [if_neg (by omega), e1]
   show some ((⟨b, 0, none⟩ : Addr).add (16 * 1)) = _
   rw [add_mk, ints_length, List.length_take, Nat.min_eq_left (by omega)]
 ·have e2 : bs = bs.take 16 ++ (bs.drop 16).take n ++ bs.drop (16 + n) := by
   rw [List.append_assoc, ← List.drop_drop, List.take_append_drop, List.take_append_drop]
  have e3 := congrArg (ints .u8) e2
  rw [ints_app, ints_app] at e3
  rw [e3] at k
  have e4 : ints .u8 (bs.take 16) ++ ints .u8 ((bs.drop 16).take n) ++ (ints .u8 (bs.drop (16 + n)) ++ rest) = ints .u8 (bs.take 16) ++ ints .u8 ((bs.drop 16).take n) ++ ints .u8 (bs.drop (16 + n)) ++ rest := by simp only [List.append_assoc]
  rw [e4]
  exact k
 ·intro x; rw [hf]; simp
end
def tSlot (G : Int) (bs : List Int) : Int := if G = 0 then bs.getD 5 0 else 0
def tKey (G : Int) (bs : List Int) : Int := if G = 0 then bs.getD 6 0 else 0
def tVer (G : Int) (bs : List Int) : Int := if G = 0 then num4 bs 8 else 0
def tPay (G : Int) (bs : List Int) : List Int := if G = 0 then (bs.drop 16).take (num4 bs 12).toNat else []
def tTag (G : Int) (bs : List Int) : List Int := if G = 0 then (bs.drop (16 + (num4 bs 12).toNat)).take 32 else zeros 32
section
variable {h0 h : H} {A : List Ent} {i j p r b s m : Nat} {C : Cm}
theorem gateP_sp {K : Nat → Int → H → Prop} {mm rr jm jr : Nat} {bs : List Int} {q : Option Addr} {l c : Nat} {R : List SR} {L : List Sec} (hg : hc h0 ⟨0, 0, none⟩ = some errTypeV) (hs : Sat h0 A h) (ci : At A i (chipE p C)) (cl' : At A j (logE r p)) (st : At A m (storeE s p r))
  (cr : At A jr (blk rr [.map (some mm)])) (cm : At A jm (mapE mm (R.map SR.ent))) (eR : R.map SR.kv = L) (gd : SR.good R) (rR : ∀ x, x ∈ R → ∃ y, At A y x.sl)
  (rd : ∀ h', Sat h0 A h' → hsv h' q 1 l (ints .u8 bs)) (hb : bytesOk bs) (hlc : l ≤ c) (hl : l < 2 ^ 50)
  (k : ∀ nb P h', (tTag (gateM C L bs) bs).length = 32 → (tPay (gateM C L bs) bs).length < 2 ^ 40 → Sat h0 (blk nb (imgL (tSlot (gateM C L bs) bs) (tKey (gateM C L bs) bs) (tVer (gateM C L bs) bs) (P, (tPay (gateM C L bs) bs).length, (tPay (gateM C L bs) bs).length) (tTag (gateM C L bs) bs)) :: prtE P (tPay (gateM C L bs) bs).length (tPay (gateM C L bs) bs) :: A) h' → K nb (gateM C L bs) h') :
  F_gate_Check ⟨s, 0, none⟩ ⟨rr, 0, none⟩ q l c (fun i1 i2 i3 o n m l e h => ∀ nb h', hnew h nb (.int .i64 0 :: .int .i64 0 :: .int .i64 0 :: .slice none 0 0 :: ints .u8 (zeros 32)) h' → hcan h' ⟨nb, 0, none⟩ 36 ∧ ∀ h'', h'' = hwr h' ⟨nb, 0, none⟩ (.int .i64 i1 :: .int .i64 i2 :: .int .i64 i3 :: .slice o n m :: ints .u8 l) → K nb e h'') h := by
 refine gate_sp (bs := bs) hg hs ci cl' st cr cm gd (fun x hx h' hs' => hs'.sv (rR x hx).choose_spec) rd hb hlc hl ?_ ?_
 ·intro e he hne h5 hs
  rw [eR] at he
  subst he
  replace hs := hs.sl_nil 1 none
  intro n113 _ hn; replace hs := Sat.new hs hn; clear hn
  refine ⟨Sat.can hs (i := 0) .z (by simp [zeros]), ?_⟩
  intro h6 e6
  replace hs := Sat.wra (xs := imgL 0 0 0 (none, 0, 0) (zeros 32)) hs (i := 0) .z e6 rfl
  clear e6
  simp only [put_zero] at hs
  replace hs := prt_nil (c := 0) hs (i := 1) (.s .z)
  simp only [put_succ, put_zero] at hs
  have e1 : tSlot (gateM C L bs) bs = 0 := if_neg hne
  have e2 : tKey (gateM C L bs) bs = 0 := if_neg hne
  have e3 : tVer (gateM C L bs) bs = 0 := if_neg hne
  have e4 : tPay (gateM C L bs) bs = [] := if_neg hne
  have e5 : tTag (gateM C L bs) bs = zeros 32 := if_neg hne
  have := k n113 none h6
  rw [e1, e2, e3, e4, e5] at this
  exact this (zeros_len 32) (by decide) hs
 ·intro own n hz hp hnn hln h5 hs
  rw [eR] at hz
  have tl32 : ((bs.drop (16 + n)).take 32).length = 32 := by rw [List.length_take, List.length_drop]; omega
  have pl : ((bs.drop 16).take n).length = n := by rw [List.length_take, List.length_drop]; omega
  intro n113 _ hn; replace hs := Sat.new hs hn; clear hn
  refine ⟨Sat.can hs (i := 0) .z (by simp [zeros]), ?_⟩
  intro h6 e6
  replace hs := Sat.wra (xs := imgL (bs.getD 5 0) (bs.getD 6 0) (num4 bs 8) (subAddr own.1 16 (16 + n) 1, n, n) ((bs.drop (16 + n)).take 32)) hs (i := 0) .z e6 (by rw [img_len tl32]; rfl)
  clear e6
  simp only [put_zero] at hs
  replace hs := prt_of hs (i := 1) (.s .z) hln
  simp only [put_succ, put_zero] at hs
  have en : (num4 bs 12).toNat = n := by omega
  have e1 : tSlot (gateM C L bs) bs = bs.getD 5 0 := if_pos hz
  have e2 : tKey (gateM C L bs) bs = bs.getD 6 0 := if_pos hz
  have e3 : tVer (gateM C L bs) bs = num4 bs 8 := if_pos hz
  have e4 : tPay (gateM C L bs) bs = (bs.drop 16).take n := by rw [← en]; exact if_pos hz
  have e5 : tTag (gateM C L bs) bs = (bs.drop (16 + n)).take 32 := by rw [← en]; exact if_pos hz
  have := k n113 (subAddr own.1 16 (16 + n) 1) h6
  rw [e1, e2, e3, e4, e5, hz, pl] at this
  exact this tl32 (by have := (parse_ok hb hp hnn).2.2.2; omega) hs
end
end Go.Proofs.YteedolonhdbieaaGreatDoor
end

/- A gate for pieces: Sum, Digest, New; what law 26 begins with; cut. Own work. -/
section
set_option maxRecDepth 100000
set_option linter.unusedVariables false
namespace Go.Proofs.YteedolonhdbieaaGreatDoor
open Go Go.Vc
attribute [local irreducible] macM gateM

theorem t_err {G : Int} {bs : List Int} (h : G ≠ 0) : tSlot G bs = 0 ∧ tKey G bs = 0 ∧ tVer G bs = 0 ∧ tPay G bs = [] := by
 unfold tSlot tKey tVer tPay
 rw [if_neg h, if_neg h, if_neg h, if_neg h]
 exact ⟨rfl, rfl, rfl, rfl⟩
section
variable {h0 h : H} {A : List Ent} {i j p r b s m : Nat} {C : Cm}
attribute [local irreducible] tSlot tKey tVer tPay tTag in
end
end Go.Proofs.YteedolonhdbieaaGreatDoor
end

/- A gate for pieces: answers that the document fixes (reckoned). Own work. -/
section
set_option maxRecDepth 1000000
namespace Go.Proofs.YteedolonhdbieaaGreatDoor
open Go Go.Vc
def cfg26 : Cfg := ⟨8, 1, 2, 3, 1, 0, 0⟩
theorem cfg26_may : cfg26.may := by decide
def b26 : List Int := coverM 0 0 5 [1, 2, 3] ++ macM [7] (coverM 0 0 5 [1, 2, 3])
theorem n26 : newM [(0, [7])] = none := by decide
end Go.Proofs.YteedolonhdbieaaGreatDoor
end

/- A gate for pieces: what law 26 begins with. Own work. -/
section
set_option maxRecDepth 100000
set_option linter.unusedVariables false
namespace Go.Proofs.YteedolonhdbieaaGreatDoor
open Go Go.Vc
attribute [local irreducible] macM gateM tSlot tKey tVer tPay tTag tellsM

abbrev cfgP (n : Nat) (c : Cfg) : Ent := blk n [.int .i64 c.cells, .int .i64 c.slots, .int .i64 c.fuses, .int .i64 c.step, .int .i64 c.keys, .int .i64 c.erases, .int .i64 c.area]
section
variable {h0 h : H} {A : List Ent} {i j p r b s m : Nat} {C : Cm}
end
end Go.Proofs.YteedolonhdbieaaGreatDoor
end

/- StreamPieces: behind the gate's own answer (K1). Own work. -/
section
set_option maxRecDepth 100000
set_option linter.unusedVariables false
namespace Go.Proofs.YteedolonhdbieaaGreatDoor
open Go Go.Vc
attribute [local irreducible] macM gateM tSlot tKey tVer tPay tTag tellsM parseW

section
variable {h0 h : H} {A : List Ent} {i j p r b s m : Nat} {C : Cm}
theorem copy_sp {K : Option Addr → Nat → Nat → H → Prop} {q : Option Addr} {l nb : Nat} {bs : List Int} (hs : Sat h0 (blk nb [] :: A) h) (rd : hsv h q 1 l (ints .u8 bs)) (hl : l < 2 ^ 47) (k : ∀ p' c' h', Sat h0 (slE p' l c' 1 (ints .u8 bs) :: A) h' → l ≤ c' → K p' l c' h') :
  ∃ (lv : List Value), hsv h q 1 l lv ∧ pApp h 1 [.int .u8 0] 1 (some ⟨nb, 0, none⟩) 0 0 l lv K := by
 have hbl : bs.length = l := by have := rd.1; simpa using this
 replace hs := as_sl0 hs (i := 0) (c := 0) (sz := 1) .z rfl
 simp only [put_zero] at hs
 refine ⟨_, rd, ?_⟩
 refine Sat.app hs (i := 0) (vs := ints .u8 bs) .z (by simp [hbl]) rfl (ints_one _ _) (by omega) ?_
 intro p1 c1 h4 hs
 simp only [put_zero, List.nil_append, Nat.zero_add] at hs ⊢
 exact k _ _ _ hs (capS hs (i := 0) .z)
theorem blow_on {C : Cm} (ho : C.out = false) (hl : C.left < 0) (k : Int) : (blowM C k).1.out = false := by
 have hl' : C.left ≠ 0 := by omega
 unfold blowM
 split
 ·exact ho
 ·dsimp only
  split
  ·exact act_out ho hl'
  ·exact act_out ho hl'
end
end Go.Proofs.YteedolonhdbieaaGreatDoor
end

/- Images, plain: the bytes of what was read are what was read. Own work. -/
section
set_option maxRecDepth 100000
set_option linter.unusedVariables false
namespace Go.Proofs.YteedolonhdbieaaGreatDoor
open Go Go.Vc
attribute [local irreducible] macM

theorem take_more {bs : List Int} {n : Nat} (h : n < bs.length) : bs.take (n + 1) = bs.take n ++ [bs.getD n 0] := by
 rw [List.take_succ, List.getElem?_eq_getElem h, List.getD_eq_getElem?_getD, List.getElem?_eq_getElem h]; rfl
theorem take_16 {bs : List Int} (h : 16 ≤ bs.length) : bs.take 16 = [bs.getD 0 0, bs.getD 1 0, bs.getD 2 0, bs.getD 3 0, bs.getD 4 0, bs.getD 5 0, bs.getD 6 0, bs.getD 7 0, bs.getD 8 0, bs.getD 9 0, bs.getD 10 0, bs.getD 11 0, bs.getD 12 0, bs.getD 13 0, bs.getD 14 0, bs.getD 15 0] := by
 rw [take_more (n := 15) (by omega), take_more (n := 14) (by omega), take_more (n := 13) (by omega), take_more (n := 12) (by omega), take_more (n := 11) (by omega), take_more (n := 10) (by omega), take_more (n := 9) (by omega), take_more (n := 8) (by omega), take_more (n := 7) (by omega), take_more (n := 6) (by omega), take_more (n := 5) (by omega), take_more (n := 4) (by omega), take_more (n := 3) (by omega), take_more (n := 2) (by omega), take_more (n := 1) (by omega), take_more (n := 0) (by omega)]
 rfl
theorem four_num {bs : List Int} (hb : bytesOk bs) (o : Nat) : fourL (num4 bs o) 4 = [bs.getD o 0, bs.getD (o + 1) 0, bs.getD (o + 2) 0, bs.getD (o + 3) 0] := by
 have b0 := byte_getD hb o
 have b1 := byte_getD hb (o + 1)
 have b2 := byte_getD hb (o + 2)
 have b3 := byte_getD hb (o + 3)
 unfold isByte at b0 b1 b2 b3
 rw [fourL_all]
 unfold num4
 generalize bs.getD o 0 = x0 at *
 generalize bs.getD (o + 1) 0 = x1 at *
 generalize bs.getD (o + 2) 0 = x2 at *
 generalize bs.getD (o + 3) 0 = x3 at *
 rw [Int.fdiv_eq_ediv_of_nonneg _ (by decide), Int.fdiv_eq_ediv_of_nonneg _ (by decide), Int.fdiv_eq_ediv_of_nonneg _ (by decide), IntKind.wrap_u8, IntKind.wrap_u8, IntKind.wrap_u8, IntKind.wrap_u8]
 have e1 : (x0 + 256 * x1 + 65536 * x2 + 16777216 * x3) % 256 = x0 := by omega
 have e2 : (x0 + 256 * x1 + 65536 * x2 + 16777216 * x3) / 256 % 256 = x1 := by omega
 have e3 : (x0 + 256 * x1 + 65536 * x2 + 16777216 * x3) / 65536 % 256 = x2 := by omega
 have e4 : (x0 + 256 * x1 + 65536 * x2 + 16777216 * x3) / 16777216 % 256 = x3 := by omega
 show [(x0 + 256 * x1 + 65536 * x2 + 16777216 * x3) % 256, (x0 + 256 * x1 + 65536 * x2 + 16777216 * x3) / 256 % 256, (x0 + 256 * x1 + 65536 * x2 + 16777216 * x3) / 65536 % 256, (x0 + 256 * x1 + 65536 * x2 + 16777216 * x3) / 16777216 % 256] = _
 rw [e1, e2, e3, e4]
theorem head_nil {bs : List Int} (h : parseW bs = (0, 0)) : headW bs 16 0 = none := by
 unfold parseW at h
 by_cases c1 : 524288 < bs.length
 ·rw [if_pos c1] at h; injection h with h; cases h
 rw [if_neg c1] at h
 cases e : headW bs 16 0 with
 | none => rfl
 | some w =>
  rw [e] at h
  dsimp only at h
  have key : ∀ m x, headW bs m x = some w → w.1 ≠ 0 := by
   intro m
   induction m with
   | zero => intro x y; cases y
   | succ m ih =>
    intro x y
    unfold headW at y
    by_cases c : x = bs.length
    ·rw [if_pos c] at y; injection y with y; rw [← y]; exact (by decide : (6 : Int) ≠ 0)
    rw [if_neg c] at y
    by_cases g : mayB x (bs.getD x 0) = true
    ·rw [if_pos g] at y; exact ih _ y
    ·rw [if_neg g] at y; injection y with y; rw [← y]; exact (by decide : (5 : Int) ≠ 0)
  exact absurd (by rw [h]) (key 16 0 e)
theorem cover_back {bs : List Int} (hb : bytesOk bs) {n : Nat} (h : parseW bs = (0, 0)) (hn : num4 bs 12 = n) :
  coverM (bs.getD 5 0) (bs.getD 6 0) (num4 bs 8) ((bs.drop 16).take n) ++ (bs.drop (16 + n)).take 32 = bs := by
 have hl := (parse_ok hb h hn).1
 have ha := head_all 16 0 (head_nil h)
 have m0 : bs.getD 0 0 = 80 := by have := ha 0 (by decide) (by decide); simpa [mayB, markB] using this
 have m1 : bs.getD 1 0 = 67 := by have := ha 1 (by decide) (by decide); simpa [mayB, markB] using this
 have m2 : bs.getD 2 0 = 85 := by have := ha 2 (by decide) (by decide); simpa [mayB, markB] using this
 have m3 : bs.getD 3 0 = 76 := by have := ha 3 (by decide) (by decide); simpa [mayB, markB] using this
 have m4 : bs.getD 4 0 = 1 := by have := ha 4 (by decide) (by decide); simpa [mayB] using this
 have m7 : bs.getD 7 0 = 0 := by have := ha 7 (by decide) (by decide); simpa [mayB] using this
 have b5 := byte_getD hb 5
 have b6 := byte_getD hb 6
 unfold isByte at b5 b6
 have pl : ((bs.drop 16).take n).length = n := by rw [List.length_take, List.length_drop]; omega
 have e16 : [80, 67, 85, 76, 1, IntKind.u8.wrap (bs.getD 5 0), IntKind.u8.wrap (bs.getD 6 0), 0] ++ fourL (num4 bs 8) 4 ++ fourL (((bs.drop 16).take n).length : Int) 4 = bs.take 16 := by
  rw [pl, ← hn, four_num hb, four_num hb, take_16 (by omega), m0, m1, m2, m3, m4, m7, wrap_u8_id (by omega), wrap_u8_id (by omega)]
  rfl
 have e1 : coverM (bs.getD 5 0) (bs.getD 6 0) (num4 bs 8) ((bs.drop 16).take n) = bs.take 16 ++ (bs.drop 16).take n := by
  unfold coverM
  rw [e16]
 rw [e1]
 rw [show (bs.drop (16 + n)).take 32 = (bs.drop 16).drop n from by rw [List.drop_drop, List.take_of_length_le (by rw [List.length_drop]; omega)], List.append_assoc, List.take_append_drop, List.take_append_drop]
end Go.Proofs.YteedolonhdbieaaGreatDoor
end

/- The ROM: its log of events; Mount, Boot, Confirm. Own work. -/
section
set_option maxRecDepth 100000
set_option linter.unusedVariables false
namespace Go.Proofs.YteedolonhdbieaaGreatDoor
open Go Go.Vc
attribute [local irreducible] macM gateM tSlot tKey tVer tPay tTag

abbrev Ev := List Int × Int
abbrev evC (e : Ev) : List Value := ints .u8 e.1 ++ [.int .i64 e.2]
abbrev evV (l : List Ev) : List Value := (l.map evC).flatten
def evOk (l : List Ev) : Prop := ∀ e, e ∈ l → e.1.length = 32
theorem evC_one (e : Ev) : ∀ v, v ∈ evC e → v.oneCell' = true := by
 intro v hv
 rcases List.mem_append.1 hv with y | y
 ·exact ints_one _ _ v y
 ·simp only [List.mem_cons, List.not_mem_nil, or_false] at y; subst y; rfl
theorem sub0 (p : Option Addr) (m sz : Nat) : subAddr p 0 m sz = p := by
 unfold subAddr
 split
 ·rfl
 ·cases p with
  | none => rfl
  | some a => simp [Addr.add]
theorem at_leftR {B : List Ent} {j : Nat} {e : Ent} (a : At B j e) : ∀ X : List Ent, ∃ k, At (X ++ B) k e
 | [] => ⟨j, a⟩
 | x :: X => by obtain ⟨k, hk⟩ := at_leftR a X; exact ⟨k + 1, .s hk⟩
structure Rm where
 handed : Bool
 slot : Int
 ver : Int
 evs : List Ev
 own : List Int
structure RW where
 lo : Nat
 ev : Nat
 eo : Option Addr
 ec : Nat
 own : Sl
def romL (st pc rp : Nat) (x : RW) (M : Rm) : List Value := [.pointer (some ⟨st, 0, none⟩), .pointer (some ⟨pc, 0, none⟩), .pointer (some ⟨rp, 0, none⟩), .pointer (some ⟨x.lo, 0, none⟩), .pointer (some ⟨x.ev, 0, none⟩), x.own.v, .bool M.handed, .int .i64 M.slot, .int .i64 0, .int .i64 M.ver, .slice none 0 0] ++ ints .u8 (zeros 32)
theorem romL_len (st pc rp : Nat) (x : RW) (M : Rm) : (romL st pc rp x M).length = 43 := by unfold romL; simp [zeros]
theorem rom_s6 (st pc rp : Nat) (x : RW) (M : Rm) (b : Bool) : splice (romL st pc rp x M) 6 [.bool b] = romL st pc rp x { M with handed := b } := by kernel_rfl
theorem rom_s7 (st pc rp : Nat) (x : RW) (M : Rm) (a v : Int) : splice (romL st pc rp x M) 7 (.int .i64 a :: .int .i64 0 :: .int .i64 v :: .slice none 0 0 :: ints .u8 [0, 0, 0, 0, 0, 0, 0, 0, 0, 0, 0, 0, 0, 0, 0, 0, 0, 0, 0, 0, 0, 0, 0, 0, 0, 0, 0, 0, 0, 0, 0, 0]) = romL st pc rp x { M with slot := a, ver := v } := by kernel_rfl
abbrev romA (rm st pc rp : Nat) (M : Rm) (x : RW) : List Ent := [blk rm (romL st pc rp x M), blk x.ev [.slice x.eo M.evs.length x.ec], slE x.eo M.evs.length x.ec 33 (evV M.evs), sE x.own 1 (ints .u8 M.own), blk x.lo [.pointer (some ⟨pc, 0, none⟩), .pointer (some ⟨st, 0, none⟩), .pointer (some ⟨rp, 0, none⟩)]]
def romE (rm st pc rp : Nat) (M : Rm) : Ent := exE 7 (fun _ : RW => evOk M.evs ∧ M.evs.length ≤ 1024) (romA rm st pc rp M)
section
variable {h0 h : H} {A : List Ent} {i j p r b s m : Nat} {C : Cm}
theorem capCut {q : Option Addr} {l c sz : Nat} {vs : List Value} (hs : Sat h0 A h) (m : At A i (slE q l c sz vs)) : Sat h0 (put A i (slE q l l sz vs)) h := by
 refine hs.as m fun f hp => ?_
 obtain ⟨bs, ⟨h1, h2, h3, h4⟩, e⟩ := slE_P.1 hp
 refine slE_P.2 ⟨bs, ⟨h1, Nat.le_refl _, h3, ?_⟩, e⟩
 rcases h4 with ⟨e1, e2, e3⟩ | ⟨b, rest, e1, e2, k, e3⟩
 ·exact Or.inl ⟨e1, e1, e3⟩
 ·exact Or.inr ⟨b, rest, e1, e2, k, by simp⟩
theorem cEvents_sp {Q : Option Addr → Nat → Nat → H → Prop} {ev n c : Nat} {o : Option Addr} {vs : List Value} (hs : Sat h0 A h) (ae : At A i (blk ev [.slice o n c])) (ax : At A j (slE o n c 33 vs)) (hn : n ≤ 1024)
  (k : ∀ o' h', Sat h0 (slE o' n n 33 vs :: A) h' → Q o' n n h') : F_chain_Log_Events ⟨ev, 0, none⟩ Q h := by
 unfold F_chain_Log_Events G_chain_Log_Events
 refine ⟨_, _, _, hs.ld ae rfl, ?_⟩
 unfold F_slices_Clone_api_Event_api_Event
 refine clone_body 33 _ 40 (by omega) (by simp [zeros]) _ n vs _ h (hs.sv ax) (by omega) fun p' c' h' bs x o' nn => ?_
 have hs2 := hs.own x o' nn
 unfold F_slices_Clip_api_Event_api_Event G_slices_Clip_api_Event_api_Event
 have hc := capS hs2 .z
 refine ⟨by omega, by omega, by omega, ?_⟩
 rw [Int.toNat_natCast, sub0, Nat.sub_zero]
 have := capCut hs2 .z
 exact k p' h' this
theorem cAdd_sp {Q : Int → H → Prop} {ev c : Nat} {o : Option Addr} {l : List Ev} {d : List Int} {e : Int} (hs : Sat h0 (blk ev [.slice o l.length c] :: slE o l.length c 33 (evV l) :: A) h) (hl : l.length < 1024) (hd : d.length = 32)
  (k : ∀ o' c' h', Sat h0 (blk ev [.slice o' (l.length + 1) c'] :: slE o' (l.length + 1) c' 33 (evV (l ++ [(d, e)])) :: A) h' → Q 0 h') : F_chain_Log_Add ⟨ev, 0, none⟩ d e Q h := by
 unfold F_chain_Log_Add G_chain_Log_Add
 try simp only [add_mk, Nat.zero_add]
 intro n5 _ hn; replace hs := Sat.new hs hn; clear hn
 refine ⟨_, _, _, hs.ld (i := 1) (.s .z) rfl, ?_⟩
 rw [leI_eq, if_neg (by rw [decide_eq_true_iff]; omega)]
 have l32 : (ints .u8 d).length = 32 := by simp [hd]
 refine ⟨_, _, _, hs.ld (i := 1) (.s .z) rfl, d, hd, hs.row (i := 0) .z (fun i hi => by rw [Nat.zero_add, List.getElem?_append_left (by simpa using hi), ints_get]), e, hs.ld (i := 0) .z (by rw [List.getElem?_append_right (by omega), l32]; rfl), ?_⟩
 intro n16 _ hn; replace hs := Sat.new hs hn; clear hn
 refine ⟨Sat.cs hs (i := 2) (.s (.s .z)) rfl, _, hs.bv (i := 0) (l := 1) .z (by simp [hd]) (evC_one (d, e)), ?_⟩
 refine Sat.app hs (i := 3) (vs := evC (d, e)) (.s (.s (.s .z))) (by simp [hd]) (by simp [zeros]) (evC_one (d, e)) (by omega) ?_
 intro o' c' h2 hs
 simp only [put_succ, put_zero] at hs
 refine ⟨Sat.can hs (i := 2) (.s (.s .z)) (by simp), ?_⟩
 intro h3 e3
 replace hs := Sat.wr hs (i := 2) (.s (.s .z)) e3
 clear e3
 simp only [put_succ, put_zero] at hs
 have ee : evV (l ++ [(d, e)]) = evV l ++ evC (d, e) := by simp [evV]
 refine k o' c' h3 ?_
 rw [ee]
 exact hs.drop.drop
theorem bClone_sp {Q : Option Addr → Nat → Nat → H → Prop} {q : Option Addr} {l c : Nat} {bs : List Int} (hs : Sat h0 A h) (rd : hsv h q 1 l (ints .u8 bs)) (hl : l ≤ 2 ^ 47)
  (k : ∀ x : Sl, x.2.1 = l → ∀ h', Sat h0 (sE x 1 (ints .u8 bs) :: A) h' → Q x.1 x.2.1 x.2.2 h') : F_bytes_Clone q l c Q h := by
 unfold F_bytes_Clone
 refine clone_body 1 _ 1 (by omega) rfl _ l _ _ h rd (by omega) fun p' c' h' bs' x o' nn => ?_
 exact k (p', l, c') rfl h' (hs.own x o' nn)
theorem rMount_sp {Q : Option Addr → Int → H → Prop} {X : List SR} {lp op : Option Addr} {ll lc ol oc : Nat} {bs : List Int} (hs : Sat h0 A h) (ci : At A i (chipE p C)) (rl : ∀ h', Sat h0 A h' → SecsAt h' lp ll X) (hll : ll < 2 ^ 47) (ro : ∀ B h', Sat h0 (B ++ A) h' → hsv h' op 1 ol (ints .u8 bs)) (hol : ol < 2 ^ 50)
  (k1 : ∀ e j, newM (X.map SR.kv) = some (e, j) → ∀ h', Sat h0 A h' → Q none e h')
  (k2 : newM (X.map SR.kv) = none → (ol < 1 ∨ 256 < ol) → ∀ h', Sat h0 A h' → Q none 4 h')
  (k3 : newM (X.map SR.kv) = none → ¬ (ol < 1 ∨ 256 < ol) → C.out = true → ∀ h', Sat h0 A h' → Q none 8 h')
  (k4 : newM (X.map SR.kv) = none → ¬ (ol < 1 ∨ 256 < ol) → C.out = false → ∀ rm st lg rp mp R h', R.map SR.kv = X.map SR.kv → SR.good R → Sat h0 (romE rm st p rp ⟨false, 0, 0, [], bs⟩ :: storeE st p lg :: logE lg p :: (ringP rp mp R ++ A)) h' → Q (some ⟨rm, 0, none⟩) 0 h') :
  F_rom_Mount ⟨p, 0, none⟩ lp ll lc op ol oc Q h := by
 unfold F_rom_Mount G_rom_Mount
 obtain ⟨L, hL⟩ : ∃ L, X.map SR.kv = L := ⟨_, rfl⟩
 rw [hL] at k1 k2 k3 k4
 refine keysU_sp hs hL rl hll ?_
 intro o e j' h1 B hs hB
 rcases hB with ⟨a, rfl⟩ | ⟨a, rfl, rp, mp, R, rfl, eR, gR, rfl⟩
 ·rw [if_pos (by simpa using newM_ne a)]
  exact k1 e j' a _ (hs.sub (List.sublist_append_right _ _))
 rw [if_neg (by decide), ltI_eq, ltI_eq]
 have dropR : ∀ {h'}, Sat h0 (ringP rp mp R ++ A) h' → Sat h0 A h' := fun hs' => hs'.sub (List.sublist_append_right _ _)
 by_cases g1 : ol < 1
 ·rw [if_pos (by rw [decide_eq_true_iff]; omega)]
  exact k2 a (Or.inl g1) _ (dropR hs)
 rw [if_neg (by rw [decide_eq_true_iff]; omega)]
 by_cases g2 : 256 < ol
 ·rw [if_pos (by rw [decide_eq_true_iff]; omega)]
  exact k2 a (Or.inr g2) _ (dropR hs)
 rw [if_neg (by rw [decide_eq_true_iff]; omega)]
 have gn : ¬ (ol < 1 ∨ 256 < ol) := fun y => y.elim g1 g2
 obtain ⟨x, ax⟩ := at_leftR ci (ringP rp mp R)
 refine sMount_sp hs ax ?_ ?_
 ·intro ho
  rw [if_pos (by decide)]
  exact k3 a gn ho _ (dropR hs)
 intro ho st lg h2 hs
 rw [if_neg (by decide)]
 refine ⟨_, rfl, _, rfl, ?_⟩
 unfold F_loader_New G_loader_New
 intro lo _ hn; replace hs := Sat.new hs hn; clear hn
 unfold F_chain_New G_chain_New
 intro ev _ hn; replace hs := Sat.new hs hn; clear hn
 refine bClone_sp hs (ro (_ :: _ :: _ :: _ :: ringP rp mp R) _ hs) (by omega) ?_
 intro own hown h3 hs
 intro rm _ hn; replace hs := Sat.new hs hn; clear hn
 refine k4 a gn ho rm st lg rp mp R _ eR gR ?_
 replace hs := hs.sl_nil 33 none
 refine Sat.close (n := 7) (φ := fun _ : RW => evOk [] ∧ ([] : List Ev).length ≤ 1024) (F := romA rm st p rp ⟨false, 0, 0, [], bs⟩) ⟨lo, ev, none, 0, own⟩ ⟨fun e he => (by cases he), Nat.zero_le _⟩ ?_
 have p1 : ∀ (a b c d e : Ent) (Z : List Ent), (a :: b :: c :: d :: e :: Z).Perm (b :: d :: a :: c :: e :: Z) := by
  intro a b c d e Z
  have : [a, b, c, d, e].Perm [b, d, a, c, e] := by
   refine (List.Perm.swap b a _).trans (List.Perm.cons _ ?_)
   exact (((List.Perm.swap d c _).cons a).trans (List.Perm.swap d a _))
  exact this.append_right Z
 exact hs.perm (p1 _ _ _ _ _ _)
theorem rBegun_sp {Q : Int → H → Prop} {rm st rp : Nat} {M : Rm} (hs : Sat h0 (romE rm st p rp M :: A) h) (ci : At A i (chipE p C))
  (k1 : C.out = true → ∀ h', Sat h0 (romE rm st p rp M :: A) h' → Q 8 h')
  (k2 : C.out = false → 1024 ≤ M.evs.length → ∀ h', Sat h0 (romE rm st p rp { M with handed := false } :: A) h' → Q 3 h')
  (k3 : C.out = false → M.evs.length < 1024 → ∀ h', Sat h0 (romE rm st p rp M :: A) h' → Q 0 h') : F_rom_Rom_begun ⟨rm, 0, none⟩ Q h := by
 unfold F_rom_Rom_begun G_rom_Rom_begun
 try simp only [add_mk, Nat.zero_add]
 obtain ⟨x, hx, hs⟩ := hs.open_
 replace hs : Sat h0 (blk rm (romL st p rp x M) :: blk x.ev [.slice x.eo M.evs.length x.ec] :: slE x.eo M.evs.length x.ec 33 (evV M.evs) :: sE x.own 1 (ints .u8 M.own) :: blk x.lo [.pointer (some ⟨p, 0, none⟩), .pointer (some ⟨st, 0, none⟩), .pointer (some ⟨rp, 0, none⟩)] :: A) h := hs
 have cl : ∀ (N : Rm) (y : RW) h', N.evs = M.evs → Sat h0 (romA rm st p rp N y ++ A) h' → Sat h0 (romE rm st p rp N :: A) h' := fun N y h' e hs' => Sat.close (n := 7) (φ := fun _ : RW => evOk N.evs ∧ N.evs.length ≤ 1024) (F := romA rm st p rp N) y (by rw [e]; exact hx) hs'
 refine ⟨_, hs.ld (i := 0) .z rfl, _, rfl, ?_⟩
 refine Out_sp hs (i := i + 5) ci.s.s.s.s.s ?_
 cases ho : C.out with
 | true => rw [if_pos rfl]; exact k1 ho _ (cl M x _ rfl hs)
 | false =>
  rw [if_neg (by decide)]
  refine ⟨_, hs.ld (i := 0) .z rfl, _, rfl, ?_⟩
  refine cEvents_sp hs (i := 1) (.s .z) (j := 2) (.s (.s .z)) hx.2 ?_
  intro o' h1 hs
  replace hs := hs.drop
  rw [leI_eq]
  by_cases g : 1024 ≤ M.evs.length
  ·rw [if_pos (by rw [decide_eq_true_iff]; omega)]
   refine ⟨Sat.can hs (i := 0) .z (by rw [romL_len]; decide), ?_⟩
   intro h2 e2
   replace hs := Sat.wr hs (i := 0) .z e2
   clear e2
   simp only [put_zero, rom_s6] at hs
   exact k2 ho g _ (cl { M with handed := false } x _ rfl hs)
  ·rw [if_neg (by rw [decide_eq_true_iff]; omega)]
   exact k3 ho (by omega) _ (cl M x _ rfl hs)
theorem rTried_sp {Q : H → Prop} {rm st rp : Nat} {M : Rm} {d tag : List Int} {a k' v e : Int} {x : Sl} (hs : Sat h0 (romE rm st p rp M :: A) h) (hd : d.length = 32) (ht : tag.length = 32) (hl : M.evs.length < 1024)
  (k : ∀ h', Sat h0 (romE rm st p rp { M with handed := e == 0, slot := a, ver := v, evs := M.evs ++ [(d, e)] } :: A) h' → Q h') : F_rom_Rom_tried ⟨rm, 0, none⟩ d a k' v x.1 x.2.1 x.2.2 tag e Q h := by
 unfold F_rom_Rom_tried G_rom_Rom_tried
 try simp only [add_mk, Nat.zero_add, List.append_nil]
 obtain ⟨y, hy, hs⟩ := hs.open_
 obtain ⟨Y, hY⟩ : ∃ Y : List Ent, Y = sE y.own 1 (ints .u8 M.own) :: blk y.lo [.pointer (some ⟨p, 0, none⟩), .pointer (some ⟨st, 0, none⟩), .pointer (some ⟨rp, 0, none⟩)] :: A := ⟨_, rfl⟩
 replace hs : Sat h0 (blk rm (romL st p rp y M) :: blk y.ev [.slice y.eo M.evs.length y.ec] :: slE y.eo M.evs.length y.ec 33 (evV M.evs) :: Y) h := by rw [hY]; exact hs
 intro n13 _ hn; replace hs := Sat.new hs hn; clear hn
 intro n16 _ hn; replace hs := Sat.new hs hn; clear hn
 replace hs : Sat h0 (blk n16 (imgL a k' v x tag) :: blk n13 (ints .u8 d) :: blk rm (romL st p rp y M) :: blk y.ev [.slice y.eo M.evs.length y.ec] :: slE y.eo M.evs.length y.ec 33 (evV M.evs) :: Y) _ := hs
 refine ⟨_, hs.ld (i := 2) (.s (.s .z)) rfl, d, hd, hs.row0 (i := 1) (.s .z), _, rfl, ?_⟩
 have p1 : ∀ (N D R E F : Ent), (N :: D :: R :: E :: F :: Y).Perm (E :: F :: N :: D :: R :: Y) := by
  intro N D R E F
  exact (List.perm_append_comm (l₁ := [N, D, R]) (l₂ := [E, F])).append_right Y
 replace hs := hs.perm (p1 _ _ _ _ _)
 refine cAdd_sp hs hl hd ?_
 intro o' c' h2 hs
 refine ⟨_, hs.ld (i := 2) (.s (.s .z)) rfl, _, hs.ld (i := 2) (.s (.s .z)) rfl, Sat.can hs (i := 4) (.s (.s (.s (.s .z)))) (by rw [romL_len]; decide), ?_⟩
 intro h3 e3
 replace hs := Sat.wr hs (i := 4) (.s (.s (.s (.s .z)))) e3
 clear e3
 simp only [put_succ, put_zero, rom_s6] at hs
 refine ⟨Sat.cs hs (i := 2) (.s (.s .z)) rfl, Sat.cs hs (i := 2) (.s (.s .z)) rfl, Sat.can hs (i := 4) (.s (.s (.s (.s .z)))) (by rw [romL_len]; decide), ?_⟩
 intro h4 e4
 replace hs := Sat.wr hs (i := 4) (.s (.s (.s (.s .z)))) e4
 clear e4
 simp only [put_succ, put_zero, rom_s7] at hs
 refine k h4 ?_
 replace hs := (hs.perm (p1 _ _ _ _ _).symm).drop.drop
 refine Sat.close (n := 7) (φ := fun _ : RW => evOk (M.evs ++ [(d, e)]) ∧ (M.evs ++ [(d, e)]).length ≤ 1024) (F := romA rm st p rp { M with handed := e == 0, slot := a, ver := v, evs := M.evs ++ [(d, e)] }) ⟨y.lo, y.ev, o', c', y.own⟩ ⟨fun z hz => ?_, by rw [List.length_append]; simp; omega⟩ ?_
 ·rcases List.mem_append.1 hz with z1 | z1
  ·exact hy.1 z z1
  ·simp only [List.mem_cons, List.not_mem_nil, or_false] at z1; subst z1; exact hd
 ·have el : (M.evs ++ [(d, e)]).length = M.evs.length + 1 := by simp
  rw [hY] at hs
  simp only [romA, el]
  exact hs
end
end Go.Proofs.YteedolonhdbieaaGreatDoor
end

/- The ROM: Boot, Confirm; what the statement's gate tells. Own work. -/
section
set_option maxRecDepth 100000
set_option linter.unusedVariables false
namespace Go.Proofs.YteedolonhdbieaaGreatDoor
open Go Go.Vc
attribute [local irreducible] macM gateM tSlot tKey tVer tPay tTag

theorem parse_zero {bs : List Int} (h : (parseW bs).1 = 0) : parseW bs = (0, 0) := by
 unfold parseW at h ⊢
 by_cases c1 : 524288 < bs.length
 ·rw [if_pos c1] at h; exact absurd h (by decide)
 rw [if_neg c1] at h ⊢
 cases e : headW bs 16 0 with
 | some w =>
  rw [e] at h
  rcases head_some _ _ _ e with y | y
  ·dsimp only at h; rw [y] at h; exact absurd h (by decide)
  ·dsimp only at h; rw [y] at h; exact absurd h (by decide)
 | none =>
  rw [e] at h
  dsimp only at h ⊢
  by_cases g1 : (524240 : Int) < num4 bs 12
  ·rw [if_pos g1] at h; exact absurd (show (5 : Int) = 0 from h) (by decide)
  rw [if_neg g1] at h ⊢
  by_cases g2 : (bs.length : Int) < 48 + num4 bs 12
  ·rw [if_pos g2] at h; exact absurd (show (6 : Int) = 0 from h) (by decide)
  rw [if_neg g2] at h ⊢
  by_cases g3 : 48 + num4 bs 12 < (bs.length : Int)
  ·rw [if_pos g3] at h; exact absurd (show (7 : Int) = 0 from h) (by decide)
  rw [if_neg g3]
theorem gate_parts {C : Cm} {L : List Sec} {bs : List Int} (ho : C.out = false) (hb : bytesOk bs) (h : gateM C L bs = 0) : ∃ n : Nat, parseW bs = (0, 0) ∧ num4 bs 12 = n := by
 have hp : (parseW bs).1 = 0 := by
  by_cases c : (parseW bs).1 = 0
  ·exact c
  ·rw [gate_parse ho c] at h; exact absurd h c
 have := (num4_range hb 12).1
 exact ⟨(num4 bs 12).toNat, parse_zero hp, by omega⟩
section
variable {h0 h : H} {A : List Ent} {i j p r b s m : Nat} {C : Cm}
theorem gateQP_sp {K : Int → H → Prop} {mm rr jm jr nb : Nat} {bs : List Int} {q : Option Addr} {l c : Nat} {R : List SR} {L : List Sec} (hg : hc h0 ⟨0, 0, none⟩ = some errTypeV) (hs : Sat h0 (blk nb (imgL 0 0 0 (none, 0, 0) (zeros 32)) :: A) h) (ci : At A i (chipE p C)) (cl' : At A j (logE r p)) (st : At A m (storeE s p r))
  (cr : At A jr (blk rr [.map (some mm)])) (cm : At A jm (mapE mm (R.map SR.ent))) (eR : R.map SR.kv = L) (gd : SR.good R) (rR : ∀ x, x ∈ R → ∃ y, At A y x.sl)
  (rd : ∀ B h', Sat h0 (B ++ A) h' → hsv h' q 1 l (ints .u8 bs)) (hb : bytesOk bs) (hlc : l ≤ c) (hl : l < 2 ^ 50)
  (k : ∀ P h', (tTag (gateM C L bs) bs).length = 32 → (tPay (gateM C L bs) bs).length < 2 ^ 40 → Sat h0 (blk nb (imgL (tSlot (gateM C L bs) bs) (tKey (gateM C L bs) bs) (tVer (gateM C L bs) bs) (P, (tPay (gateM C L bs) bs).length, (tPay (gateM C L bs) bs).length) (tTag (gateM C L bs) bs)) :: prtE P (tPay (gateM C L bs) bs).length (tPay (gateM C L bs) bs) :: A) h' → K (gateM C L bs) h') :
  F_gate_Check ⟨s, 0, none⟩ ⟨rr, 0, none⟩ q l c (fun i1 i2 i3 o n m l e h => hcan h ⟨nb, 0, none⟩ 36 ∧ ∀ h'', h'' = hwr h ⟨nb, 0, none⟩ (.int .i64 i1 :: .int .i64 i2 :: .int .i64 i3 :: .slice o n m :: ints .u8 l) → K e h'') h := by
 refine gate_sp (bs := bs) hg hs ci.s cl'.s st.s cr.s cm.s gd (fun x hx h' hs' => hs'.sv (rR x hx).choose_spec.s) (fun h' hs' => rd [_] h' hs') hb hlc hl ?_ ?_
 ·intro e he hne h5 hs
  rw [eR] at he
  subst he
  replace hs := (hs.sl_nil 1 none).perm (List.Perm.swap _ _ _)
  refine ⟨Sat.can hs (i := 0) .z (by simp [zeros]), ?_⟩
  intro h6 e6
  replace hs := Sat.wra (xs := imgL 0 0 0 (none, 0, 0) (zeros 32)) hs (i := 0) .z e6 rfl
  clear e6
  simp only [put_zero] at hs
  replace hs := prt_nil (c := 0) hs (i := 1) (.s .z)
  simp only [put_succ, put_zero] at hs
  obtain ⟨e1, e2, e3, e4⟩ := t_err (bs := bs) hne
  have e5 : tTag (gateM C L bs) bs = zeros 32 := by unfold tTag; rw [if_neg hne]
  have := k none h6
  rw [e1, e2, e3, e4, e5] at this
  exact this (zeros_len 32) (by decide) hs
 ·intro own n hz hp hnn hln h5 hs
  rw [eR] at hz
  have tl32 : ((bs.drop (16 + n)).take 32).length = 32 := by rw [List.length_take, List.length_drop]; omega
  have pl : ((bs.drop 16).take n).length = n := by rw [List.length_take, List.length_drop]; omega
  replace hs := hs.perm (List.Perm.swap _ _ _)
  refine ⟨Sat.can hs (i := 0) .z (by simp [zeros]), ?_⟩
  intro h6 e6
  replace hs := Sat.wra (xs := imgL (bs.getD 5 0) (bs.getD 6 0) (num4 bs 8) (subAddr own.1 16 (16 + n) 1, n, n) ((bs.drop (16 + n)).take 32)) hs (i := 0) .z e6 (by rw [img_len tl32]; rfl)
  clear e6
  simp only [put_zero] at hs
  replace hs := prt_of hs (i := 1) (.s .z) hln
  simp only [put_succ, put_zero] at hs
  have en : (num4 bs 12).toNat = n := by omega
  have e1 : tSlot (gateM C L bs) bs = bs.getD 5 0 := by unfold tSlot; rw [if_pos hz]
  have e2 : tKey (gateM C L bs) bs = bs.getD 6 0 := by unfold tKey; rw [if_pos hz]
  have e3 : tVer (gateM C L bs) bs = num4 bs 8 := by unfold tVer; rw [if_pos hz]
  have e4 : tPay (gateM C L bs) bs = (bs.drop 16).take n := by unfold tPay; rw [if_pos hz, en]
  have e5 : tTag (gateM C L bs) bs = (bs.drop (16 + n)).take 32 := by unfold tTag; rw [if_pos hz, en]
  have := k (subAddr own.1 16 (16 + n) 1) h6
  rw [e1, e2, e3, e4, e5, hz, pl] at this
  exact this tl32 (by have := (parse_ok hb hp hnn).2.2.2; omega) hs
theorem rom_lds3 {rm st rp : Nat} {M : Rm} (hs : Sat h0 A h) (a : At A i (romE rm st p rp M)) : hc h ⟨rm, 0, none⟩ = some (.pointer (some ⟨st, 0, none⟩)) ∧ hc h ⟨rm, 1, none⟩ = some (.pointer (some ⟨p, 0, none⟩)) ∧ hc h ⟨rm, 6, none⟩ = some (.bool M.handed) ∧ hc h ⟨rm, 7, none⟩ = some (.int .i64 M.slot) ∧ hc h ⟨rm, 9, none⟩ = some (.int .i64 M.ver) := by
 obtain ⟨x, _, hs⟩ := (hs.front a).open_
 exact ⟨hs.ld (i := 0) .z rfl, hs.ld (i := 0) .z rfl, hs.ld (i := 0) .z rfl, hs.ld (i := 0) .z rfl, hs.ld (i := 0) .z rfl⟩
theorem rom_lds {rm st rp : Nat} {M : Rm} (hs : Sat h0 (romE rm st p rp M :: A) h) : ∃ x : RW, True ∧ hc h ⟨rm, 0, none⟩ = some (.pointer (some ⟨st, 0, none⟩)) ∧ hc h ⟨rm, 2, none⟩ = some (.pointer (some ⟨rp, 0, none⟩)) := by
 obtain ⟨x, _, hs⟩ := hs.open_
 exact ⟨x, trivial, hs.ld (i := 0) .z rfl, hs.ld (i := 0) .z rfl⟩
theorem rom_lds2 {rm st rp : Nat} {M : Rm} {a b : Ent} (hs : Sat h0 (a :: b :: romE rm st p rp M :: A) h) : ∃ x : RW, True ∧ hc h ⟨rm, 0, none⟩ = some (.pointer (some ⟨st, 0, none⟩)) ∧ hc h ⟨rm, 2, none⟩ = some (.pointer (some ⟨rp, 0, none⟩)) := rom_lds hs.drop.drop
theorem img_tail {a b' v : Int} {x : Sl} {t : List Int} (ht : t.length = 32) : ((imgL a b' v x t).drop 4).take (ints .u8 t).length = ints .u8 t := by
 show (ints .u8 t).take (ints .u8 t).length = _
 rw [List.take_length]
theorem bootEnd (a b c d : Ent) (Z : List Ent) {h0 h : H} (hs : Sat h0 (a :: b :: c :: d :: Z) h) : Sat h0 (c :: a :: Z) h := by
 replace hs := hs.sub (show (a :: c :: Z).Sublist (a :: b :: c :: d :: Z) from List.Sublist.cons_cons _ ((List.Sublist.cons_cons _ (List.sublist_cons_self _ _)).trans (List.sublist_cons_self _ _)))
 exact hs.perm (List.Perm.swap _ _ _)
theorem rBoot_sp {Q : Int → Int → Int → Option Addr → Nat → Nat → List Int → Int → H → Prop} {rm st lg rp mp x y : Nat} {M : Rm} {bs : List Int} {q : Option Addr} {l c : Nat} {R : List SR} {L : List Sec} {G : Int} (hG : G = gateM C L bs) (hg : hc h0 ⟨0, 0, none⟩ = some errTypeV) (hs : Sat h0 (romE rm st p rp M :: A) h)
  (ci : At A i (chipE p C)) (cl : At A x (logE lg p)) (cs : At A y (storeE st p lg)) (cr : ∃ j, At A j (blk rp [.map (some mp)])) (cm : ∃ j, At A j (mapE mp (R.map SR.ent))) (eR : R.map SR.kv = L) (gR : SR.good R) (rR : ∀ x, x ∈ R → ∃ y, At A y x.sl)
  (rd : ∀ B h', Sat h0 (B ++ A) h' → hsv h' q 1 l (ints .u8 bs)) (hb : bytesOk bs) (hlc : l ≤ c) (hl : l < 2 ^ 50)
  (k1 : C.out = true → ∀ h', Sat h0 (romE rm st p rp M :: A) h' → Q 0 0 0 none 0 0 (zeros 32) 8 h')
  (k2 : C.out = false → 1024 ≤ M.evs.length → ∀ h', Sat h0 (romE rm st p rp { M with handed := false } :: A) h' → Q 0 0 0 none 0 0 (zeros 32) 3 h')
  (k3 : C.out = false → M.evs.length < 1024 → ∀ P h', (tTag G bs).length = 32 → (tPay G bs).length < 2 ^ 40 → Sat h0 (prtE P (tPay G bs).length (tPay G bs) :: romE rm st p rp { M with handed := G == 0, slot := tSlot G bs, ver := tVer G bs, evs := M.evs ++ [(shaM bs, G)] } :: A) h' → Q (tSlot G bs) (tKey G bs) (tVer G bs) P (tPay G bs).length (tPay G bs).length (tTag G bs) G h') :
  F_rom_Rom_Boot ⟨rm, 0, none⟩ q l c Q h := by
 unfold F_rom_Rom_Boot G_rom_Rom_Boot
 try simp only [add_mk, Nat.zero_add, List.append_nil]
 intro n10 _ hn; replace hs := Sat.new hs hn; clear hn
 replace hs : Sat h0 (romE rm st p rp M :: blk n10 (imgL 0 0 0 (none, 0, 0) (zeros 32)) :: A) _ := hs.perm (List.Perm.swap _ _ _)
 have bad : ∀ (N : Rm) (e : Int) h', e ≠ 0 → Sat h0 (romE rm st p rp N :: blk n10 (imgL 0 0 0 (none, 0, 0) (zeros 32)) :: A) h' → (∀ h'', Sat h0 (romE rm st p rp N :: A) h'' → Q 0 0 0 none 0 0 (zeros 32) e h'') →
   hcan h' ⟨n10, 0, none⟩ 36 ∧ ∀ (h15 : H), h15 = hwr h' ⟨n10, 0, none⟩ (.int .i64 0 :: .int .i64 0 :: .int .i64 0 :: .slice none 0 0 :: ints .u8 (zeros 32)) → ∃ i17 : Int, hc h15 ⟨n10, 0, none⟩ = some (.int .i64 i17) ∧ ∃ i18 : Int, hc h15 ⟨n10, 1, none⟩ = some (.int .i64 i18) ∧ ∃ i19 : Int, hc h15 ⟨n10, 2, none⟩ = some (.int .i64 i19) ∧
    ∃ (o20 : Option Addr) (n21 n22 : Nat), hc h15 ⟨n10, 3, none⟩ = some (.slice o20 n21 n22) ∧ ∃ l23 : List Int, l23.length = 32 ∧ hrow h15 ⟨n10, 4, none⟩ .u8 l23 ∧ Q i17 i18 i19 o20 n21 n22 l23 e h15 := by
  intro N e h' he hs' kk
  refine ⟨Sat.can hs' (i := 1) (.s .z) (by simp [zeros]), ?_⟩
  intro h2 e2
  replace hs' := Sat.wra (xs := imgL 0 0 0 (none, 0, 0) (zeros 32)) hs' (i := 1) (.s .z) e2 rfl
  clear e2
  simp only [put_succ, put_zero] at hs'
  exact ⟨_, hs'.ld (i := 1) (.s .z) rfl, _, hs'.ld (i := 1) (.s .z) rfl, _, hs'.ld (i := 1) (.s .z) rfl, _, _, _, hs'.ld (i := 1) (.s .z) rfl, _, zeros_len 32, img_row hs' (i := 1) (.s .z) (zeros_len 32), kk _ (hs'.sub (List.Sublist.cons_cons _ (List.sublist_cons_self _ _)))⟩
 refine rBegun_sp hs ci.s ?_ ?_ ?_
 ·intro ho h1 hs
  rw [if_pos (by decide)]
  exact bad M 8 h1 (by decide) hs (k1 ho)
 ·intro ho g h1 hs
  rw [if_pos (by decide)]
  exact bad _ 3 h1 (by decide) hs (k2 ho g)
 intro ho g h1 hs
 rw [if_neg (by decide)]
 obtain ⟨w, hw, l0, l2⟩ := rom_lds hs
 have k3 : ∀ (z : C.out = C.out), _ := fun _ => k3 ho
 obtain ⟨j1, a1⟩ := cr
 obtain ⟨j2, a2⟩ := cm
 replace hs := hs.perm (List.Perm.swap _ _ _)
 refine ⟨_, l0, _, l2, ⟨_, rfl, _, rfl, ?_⟩, ?_⟩
 ·refine gateP_sp (L := L) (bs := bs) hg hs ci.s.s cl.s.s cs.s.s a1.s.s a2.s.s eR gR (fun x hx => ⟨_, (rR x hx).choose_spec.s.s⟩) (fun h' hs' => rd [_, _] h' hs') hb hlc hl ?_
  intro nb P h2 tl pl hs
  rw [← hG] at tl pl hs ⊢
  refine ⟨_, hs.ld (i := 0) .z rfl, _, hs.ld (i := 0) .z rfl, _, hs.ld (i := 0) .z rfl, _, _, _, hs.ld (i := 0) .z rfl, _, tl, img_row hs (i := 0) .z tl, ?_⟩
  refine ShaOf_sp hs hlc (by omega) (fun h' hs' => rd [_, _, _, _] h' hs') ?_
  intro h3 hs
  refine ⟨Sat.cs hs (i := 0) .z (by rw [List.drop_zero, List.take_length]), ?_⟩
  replace hs := hs.front (e := romE rm st p rp M) (i := 3) (.s (.s (.s .z)))
  simp only [del] at hs
  refine rTried_sp (x := (P, (tPay G bs).length, (tPay G bs).length)) hs (shaM_len _) tl g ?_
  intro h4 hs
  refine ⟨_, hs.ld (i := 1) (.s .z) rfl, _, hs.ld (i := 1) (.s .z) rfl, _, hs.ld (i := 1) (.s .z) rfl, _, _, _, hs.ld (i := 1) (.s .z) rfl, _, tl, img_row hs (i := 1) (.s .z) tl, Sat.can hs (i := 3) (.s (.s (.s .z))) (by simp [zeros]), ?_⟩
  intro h5 e5
  replace hs := Sat.wra (xs := imgL (tSlot G bs) (tKey G bs) (tVer G bs) (P, (tPay G bs).length, (tPay G bs).length) (tTag G bs)) hs (i := 3) (.s (.s (.s .z))) e5 (by rw [img_len tl, img_len (zeros_len 32)])
  clear e5
  simp only [put_succ, put_zero] at hs
  refine ⟨_, hs.ld (i := 3) (.s (.s (.s .z))) rfl, _, hs.ld (i := 3) (.s (.s (.s .z))) rfl, _, hs.ld (i := 3) (.s (.s (.s .z))) rfl, _, _, _, hs.ld (i := 3) (.s (.s (.s .z))) rfl, _, tl, img_row hs (i := 3) (.s (.s (.s .z))) tl, ?_⟩
  exact k3 rfl g P h5 tl pl (bootEnd _ _ _ _ _ hs)
 ·intro n68 _ hn; replace hs := Sat.new hs hn; clear hn
  obtain ⟨w2, hw2, l02, l22⟩ := rom_lds2 hs
  refine ⟨hcs_one l22, hcs_one l02, _, rfl, _, rfl, ?_⟩
  refine gateQP_sp (L := L) (bs := bs) hg hs ci.s.s cl.s.s cs.s.s a1.s.s a2.s.s eR gR (fun x hx => ⟨_, (rR x hx).choose_spec.s.s⟩) (fun B h' hs' => rd (B ++ [_, _]) h' (by rw [List.append_assoc]; exact hs')) hb hlc hl ?_
  intro P h2 tl pl hs
  rw [← hG] at tl pl hs ⊢
  refine ⟨_, hs.ld (i := 0) .z rfl, _, hs.ld (i := 0) .z rfl, _, hs.ld (i := 0) .z rfl, _, _, _, hs.ld (i := 0) .z rfl, _, tl, img_row hs (i := 0) .z tl, ?_⟩
  refine ShaOf_sp hs hlc (by omega) (fun h' hs' => rd [_, _, _, _] h' hs') ?_
  intro h3 hs
  refine ⟨Sat.cs hs (i := 0) .z (by rw [List.drop_zero, List.take_length]), ?_⟩
  replace hs := hs.front (e := romE rm st p rp M) (i := 3) (.s (.s (.s .z)))
  simp only [del] at hs
  refine rTried_sp (x := (P, (tPay G bs).length, (tPay G bs).length)) hs (shaM_len _) tl g ?_
  intro h4 hs
  refine ⟨_, hs.ld (i := 1) (.s .z) rfl, _, hs.ld (i := 1) (.s .z) rfl, _, hs.ld (i := 1) (.s .z) rfl, _, _, _, hs.ld (i := 1) (.s .z) rfl, _, tl, img_row hs (i := 1) (.s .z) tl, Sat.can hs (i := 3) (.s (.s (.s .z))) (by simp [zeros]), ?_⟩
  intro h5 e5
  replace hs := Sat.wra (xs := imgL (tSlot G bs) (tKey G bs) (tVer G bs) (P, (tPay G bs).length, (tPay G bs).length) (tTag G bs)) hs (i := 3) (.s (.s (.s .z))) e5 (by rw [img_len tl, img_len (zeros_len 32)])
  clear e5
  simp only [put_succ, put_zero] at hs
  refine ⟨_, hs.ld (i := 3) (.s (.s (.s .z))) rfl, _, hs.ld (i := 3) (.s (.s (.s .z))) rfl, _, hs.ld (i := 3) (.s (.s (.s .z))) rfl, _, _, _, hs.ld (i := 3) (.s (.s (.s .z))) rfl, _, tl, img_row hs (i := 3) (.s (.s (.s .z))) tl, ?_⟩
  exact k3 rfl g P h5 tl pl (bootEnd _ _ _ _ _ hs)
theorem rConfirm_sp {Q : Int → H → Prop} {rm st lg rp x y : Nat} {M : Rm} (hs : Sat h0 A h) (ar : At A j (romE rm st p rp M)) (ci : At A i (chipE p C)) (cl : At A x (logE lg p)) (cs : At A y (storeE st p lg))
  (k1 : C.out = true → ∀ h', Sat h0 A h' → Q 8 h') (k2 : C.out = false → M.handed = false → ∀ h', Sat h0 A h' → Q 11 h')
  (k3 : C.out = false → M.handed = true → ∀ h', Sat h0 (put A i (chipE p (sBumpTo C M.slot M.ver).1)) h' → Q (sBumpTo C M.slot M.ver).2 h') (hxi : x ≠ i) (hyi : y ≠ i) : F_rom_Rom_Confirm ⟨rm, 0, none⟩ Q h := by
 unfold F_rom_Rom_Confirm G_rom_Rom_Confirm
 try simp only [add_mk, Nat.zero_add]
 obtain ⟨l0, l1, l6, l7, l9⟩ := rom_lds3 hs ar
 refine ⟨_, l1, _, rfl, ?_⟩
 refine Out_sp hs ci ?_
 cases ho : C.out with
 | true => rw [if_pos rfl]; exact k1 ho _ hs
 | false =>
  rw [if_neg (by decide)]
  refine ⟨_, l6, ?_⟩
  cases hh : M.handed with
  | false => rw [if_pos (by decide)]; exact k2 ho hh _ hs
  | true =>
   rw [if_neg (by decide)]
   refine ⟨_, l0, _, l7, _, l9, _, rfl, ?_⟩
   exact sBumpTo_sp hs ci cl cs hxi hyi _ _ (k3 ho hh)
theorem gate17_sp {Q : Int → H → Prop} {rm st lg rp rr x y z : Nat} {M : Rm} {bs : List Int} {q : Option Addr} {l c : Nat} {lp : Option Addr} {lc : Nat} {R : List SR} {L : List Sec} (hs : Sat h0 A h) (ar : At A z (romE rm st p rp M)) (ci : At A i (chipE p C)) (cl : At A x (logE lg p)) (cs : At A y (storeE st p lg)) (ho : C.out = false) {cf : Cfg} (hcf : C.cfg = cf)
  (dr : At A j (blk rr [.slice lp R.length lc])) (dl : At A m (slE lp R.length lc 2 (secV R))) (eR : R.map SR.kv = L) (lR : R.length < 2 ^ 40) (gR : SR.good R) (rR : ∀ x, x ∈ R → ∃ y, At A y x.sl)
  (rd : ∀ h', Sat h0 A h' → hsv h' q 1 l (ints .u8 bs)) (hb : bytesOk bs) (hlc : l ≤ c) (hl : l < 2 ^ 50)
  (k : ∀ h', Sat h0 A h' → Q (gateM C L bs) h') :
  F_portcullislaw17_gate cf.cells cf.slots cf.fuses cf.step cf.keys cf.erases cf.area ⟨rr, 0, none⟩ ⟨rm, 0, none⟩ q l c Q h := by
 subst hcf
 unfold F_portcullislaw17_gate G_portcullislaw17_gate
 try simp only [add_mk, Nat.zero_add, List.append_nil]
 have ok := chip_ok hs ci
 have hbl : bs.length = l := by have := (rd _ hs).1; simpa using this
 have hG : gateM C L bs = if (parseW bs).1 ≠ 0 then (parseW bs).1
   else if C.cfg.slots ≤ bs.getD 5 0 then 5
   else match L.find? (fun x => x.1 == bs.getD 6 0) with
    | none => 13
    | some s => if C.cfg.keys ≤ bs.getD 6 0 then 13 else if (revokedM C (bs.getD 6 0)).1 = true then 14
     else if macM s.2 (bs.take (bs.length - 32)) ≠ (bs.drop (bs.length - 32)).take 32 then 15
     else if num4 bs 8 < (sRead C (bs.getD 5 0)).1 then 16 else if lastM C.cfg < num4 bs 8 then 16 else 0 := by
  unfold gateM; rw [if_neg (by rw [ho]; decide)]; rfl
 rw [hG] at k
 clear hG
 intro n21 _ hn; replace hs := Sat.new hs hn; clear hn
 replace hs : Sat h0 (cfgP n21 C.cfg :: A) _ := hs
 refine rParse_sp hs (fun h' hs' => rd h' hs'.drop) hb hlc hl ?_ ?_
 ·intro e at_ h2 hp he hs
  intro n34 _ hn; replace hs := Sat.new hs hn; clear hn
  intro n37 _ hn; replace hs := Sat.new hs hn; clear hn
  refine ⟨Sat.can hs (i := 1) (.s .z) (by simp [zeros]), ?_⟩
  intro h3 e3
  replace hs := Sat.wra (xs := imgL 0 0 0 (none, 0, 0) (zeros 32)) hs (i := 1) (.s .z) e3 rfl
  clear e3
  simp only [put_succ, put_zero] at hs
  refine ⟨Sat.can hs (i := 0) .z (by simp), ?_⟩
  intro h4 e4
  replace hs := Sat.wra hs (i := 0) .z e4 rfl
  clear e4
  simp only [put_zero] at hs
  refine ⟨_, hs.ld (i := 0) .z rfl, ?_⟩
  rw [if_pos (by simpa using he)]
  refine ⟨_, hs.ld (i := 0) .z rfl, ?_⟩
  have := k _ hs.drop.drop.drop
  rw [hp, if_pos he] at this
  exact this
 intro own n h2 hp hnn hon hs
 obtain ⟨pl, p5, p6, pn⟩ := parse_ok hb hp hnn
 have tl32 : ((bs.drop (16 + n)).take 32).length = 32 := by rw [List.length_take, List.length_drop]; omega
 rw [hp, if_neg (by decide)] at k
 intro n34 _ hn; replace hs := Sat.new hs hn; clear hn
 intro n37 _ hn; replace hs := Sat.new hs hn; clear hn
 refine ⟨Sat.can hs (i := 1) (.s .z) (by simp [zeros]), ?_⟩
 intro h3 e3
 replace hs := Sat.wra (xs := imgL (bs.getD 5 0) (bs.getD 6 0) (num4 bs 8) own ((bs.drop (16 + n)).take 32)) hs (i := 1) (.s .z) e3 (by rw [img_len tl32]; rfl)
 clear e3
 simp only [put_succ, put_zero] at hs
 refine ⟨Sat.can hs (i := 0) .z (by simp), ?_⟩
 intro h4 e4
 replace hs := Sat.wra hs (i := 0) .z e4 rfl
 clear e4
 simp only [put_zero] at hs
 refine ⟨_, hs.ld (i := 0) .z rfl, ?_⟩
 rw [if_neg (by decide)]
 replace hs := hs.drop
 replace hs : Sat h0 (blk n34 (imgL (bs.getD 5 0) (bs.getD 6 0) (num4 bs 8) own ((bs.drop (16 + n)).take 32)) :: sE own 1 (ints .u8 ((bs.drop 16).take n)) :: cfgP n21 C.cfg :: A) _ := hs
 refine ⟨_, hs.ld (i := 0) .z rfl, _, hs.ld (i := 2) (.s (.s .z)) rfl, ?_⟩
 rw [leI_eq]
 by_cases gs : C.cfg.slots ≤ bs.getD 5 0
 ·rw [if_pos (by simpa using gs)]
  have := k _ hs.drop.drop.drop
  rw [if_pos gs] at this
  exact this
 rw [if_neg gs] at k
 rw [if_neg (by simpa using gs)]
 refine ⟨_, hs.ld (i := 0) .z rfl, ?_⟩
 refine rhas_sp _ hs dr.s.s.s dl.s.s.s lR ?_
 intro J51 hJ51
 have ekv := at_kv R (bs.getD 6 0)
 rw [eR] at ekv
 cases ex : SR.at_ R (bs.getD 6 0) with
 | none =>
  rw [← ekv, ex] at k
  rw [if_pos (by simp)]
  exact k _ hs.drop.drop.drop
 | some sx =>
 rw [← ekv, ex] at k
 dsimp only [Option.map_some] at k
 rw [if_neg (by simp)]
 have rv := revoked_err (C := C) (by rw [ho]; decide) p6.1
 refine ⟨_, hs.ld (i := 0) .z rfl, _, hs.ld (i := 2) (.s (.s .z)) rfl, ?_⟩
 rw [leI_eq]
 by_cases gk : C.cfg.keys ≤ bs.getD 6 0
 ·rw [if_pos (by simpa using gk)]
  have := k _ hs.drop.drop.drop
  rw [if_pos gk] at this
  exact this
 rw [if_neg gk] at rv k
 rw [if_neg (by simpa using gk)]
 apply hJ51
 clear hJ51
 obtain ⟨l0, _⟩ := rom_lds3 hs ar.s.s.s
 refine ⟨_, l0, _, hs.ld (i := 0) .z rfl, _, rfl, ?_⟩
 refine sRevoked_sp hs ci.s.s.s cs.s.s.s _ ?_
 intro h5 hs
 intro J59 hJ59
 rw [rv, if_neg (by decide)]
 by_cases gr : (revokedM C (bs.getD 6 0)).1 = true
 ·rw [if_pos gr]
  have := k _ hs.drop.drop.drop
  rw [if_pos gr] at this
  exact this
 rw [if_neg gr] at k ⊢
 apply hJ59
 clear hJ59
 refine ⟨_, hs.ld (i := 0) .z rfl, _, tl32, img_row hs (i := 0) .z tl32, ?_⟩
 have et : (bs.drop (bs.length - 32)).take 32 = (bs.drop (16 + n)).take 32 := by rw [show bs.length - 32 = 16 + n by omega]
 rw [et, hbl] at k
 have hbb : isBy (bs.take (l - 32)) := fun v hv => hb v (List.mem_of_mem_take hv)
 refine rbody_sp hs (fun h' hs' => rd h' hs'.drop.drop.drop) (by omega) hlc (by omega) ?_
 intro p' c' h6 hc' hs
 refine ⟨Sat.cs hs (i := 1) (.s .z) (by rw [show (4 : Nat) = 4 from rfl]; exact img_tail tl32), Sat.cs hs (i := 1) (.s .z) rfl, ?_⟩
 unfold F_portcullisref12_Ring_Check G_portcullisref12_Ring_Check
 simp only [List.append_nil]
 intro n9 _ hn; replace hs := Sat.new hs hn; clear hn
 refine rsignN_sp (bb := bs.take (l - 32)) hs dr.s.s.s.s.s dl.s.s.s.s.s lR gR (fun y hy h' hs' => hs'.sv (rR y hy).choose_spec.s.s.s.s.s) ex hbb (by omega) (fun h' hs' => hs'.sv (i := 1) (.s .z)) ?_
 intro h7 hs
 intro n15 _ hn; replace hs := Sat.new hs hn; clear hn
 refine ⟨Sat.can hs (i := 0) .z (by simp [zeros]), ?_⟩
 intro h8 e8
 replace hs := Sat.wra (xs := ints .u8 (macM sx.bytes (bs.take (l - 32)))) hs (i := 0) .z e8 (by simp [zeros, macM_len])
 clear e8
 simp only [put_zero] at hs
 rw [if_pos (by decide)]
 refine ⟨_, macM_len _ _, hs.row0 (i := 0) .z, _, tl32, hs.row0 (i := 1) (.s .z), ?_⟩
 replace hs := hs.drop.drop.drop
 by_cases gt : macM sx.bytes (bs.take (l - 32)) = (bs.drop (16 + n)).take 32
 case neg =>
  rw [if_pos (by simpa using gt)]
  have := k _ hs.drop.drop.drop
  rw [if_pos gt] at this
  exact this
 rw [if_neg (by simpa using gt)]
 rw [if_neg (fun y => y gt)] at k
 obtain ⟨l0, _⟩ := rom_lds3 hs ar.s.s.s
 refine ⟨_, l0, _, hs.ld (i := 0) .z rfl, _, rfl, ?_⟩
 refine sRead_sp hs ci.s.s.s cl.s.s.s cs.s.s.s _ ?_
 intro h9 hs
 have er : (sRead C (bs.getD 5 0)).2 = 0 := by rw [sread_err (by rw [ho]; decide) p5.1, if_neg gs]
 rw [er, if_neg (by decide)]
 refine ⟨_, hs.ld (i := 0) .z rfl, ?_⟩
 rw [ltI_eq]
 by_cases gv : num4 bs 8 < (sRead C (bs.getD 5 0)).1
 ·rw [if_pos (by simpa using gv)]
  have := k _ hs.drop.drop.drop
  rw [if_pos gv] at this
  exact this
 rw [if_neg gv] at k
 rw [if_neg (by simpa using gv)]
 refine ⟨_, hs.ld (i := 0) .z rfl, _, hs.ld (i := 2) (.s (.s .z)) rfl, _, hs.ld (i := 2) (.s (.s .z)) rfl, _, hs.ld (i := 2) (.s (.s .z)) rfl, _, hs.ld (i := 2) (.s (.s .z)) rfl, _, hs.ld (i := 2) (.s (.s .z)) rfl, _, hs.ld (i := 2) (.s (.s .z)) rfl, _, hs.ld (i := 2) (.s (.s .z)) rfl, ?_⟩
 refine rLast10_sp ok.may hs ?_
 intro h10 hs
 refine ⟨Sat.cs hs (i := 0) .z rfl, ?_⟩
 rw [ltI_eq]
 have := k _ hs.drop.drop.drop
 by_cases gl : lastM C.cfg < num4 bs 8
 ·rw [if_pos gl] at this
  rw [if_pos (by simpa using gl)]
  exact this
 ·rw [if_neg gl] at this
  rw [if_neg (by simpa using gl)]
  exact this
end
end Go.Proofs.YteedolonhdbieaaGreatDoor
end

/- The ROM: answers that the document fixes (reckoned); chips that no cut awaits. Own work. -/
section
set_option maxRecDepth 1000000
namespace Go.Proofs.YteedolonhdbieaaGreatDoor
open Go Go.Vc
def L17 : List Sec := [(0, [107])]
def a17 : List Int := coverM 0 0 1 [] ++ macM [107] (coverM 0 0 1 [])
def b17 : List Int := coverM 0 0 2 [] ++ macM [107] (coverM 0 0 2 [])
def C17 : Cm := (sBumpTo (freshC cfg26) 0 2).1
theorem g17 : (gateM (freshC cfg26) L17 b17 == 0 && tSlot 0 b17 == 0 && tVer 0 b17 == 2 && (sBumpTo (freshC cfg26) 0 2).2 == 0 && (sRead C17 0).1 == 2 && (sRead C17 0).2 == 0 && gateM C17 L17 a17 == 16 && C17.out == false) = true := by decide +kernel
theorem g17s : gateM (freshC cfg26) L17 b17 = 0 ∧ tSlot 0 b17 = 0 ∧ tVer 0 b17 = 2 ∧ (sBumpTo (freshC cfg26) 0 2).2 = 0 ∧ (sRead C17 0).1 = 2 ∧ (sRead C17 0).2 = 0 ∧ gateM C17 L17 a17 = 16 ∧ C17.out = false := by
 have := g17
 simp only [Bool.and_eq_true, beq_iff_eq] at this
 exact ⟨this.1.1.1.1.1.1.1, this.1.1.1.1.1.1.2, this.1.1.1.1.1.2, this.1.1.1.1.2, this.1.1.1.2, this.1.1.2, this.1.2, this.2⟩
theorem n17 : newM L17 = none := by decide
theorem ab17_ok (v : Int) : bytesOk (coverM 0 0 v [] ++ macM [107] (coverM 0 0 v [])) := by
 intro x hx
 rcases List.mem_append.1 hx with hx | hx
 ·exact (show bytesOk (coverM 0 0 v []) from cover_by (fun n hn => by cases hn)) x hx
 ·exact isBy_mac _ _ x hx
def OnC (c : Cfg) (C : Cm) : Prop := C.out = false ∧ C.left < 0 ∧ C.cfg = c
section
variable {c : Cfg} {C : Cm}
theorem act_onC (h : OnC c C) : OnC c C.act := ⟨act_out h.1 (by have := h.2.1; omega), act_left h.2.1, (act_cfg C).trans h.2.2⟩
theorem program_onC (h : OnC c C) (t q : Int) (x : List Int) : OnC c (programM C t q x).1 := by
 have a := act_onC h
 unfold programM
 split
 ·exact h
 ·exact ⟨a.1, a.2.1, a.2.2⟩
theorem erase_onC (h : OnC c C) (t : Int) : OnC c (eraseM C t).1 := by
 have a := act_onC h
 unfold eraseM
 split
 ·exact h
 ·split
  ·exact h
  ·exact ⟨a.1, a.2.1, a.2.2⟩
theorem blow_onC (h : OnC c C) (k : Int) : OnC c (blowM C k).1 := ⟨blow_on h.1 h.2.1 k, blow_left h.2.1 k, (blow_pages C k).2.2.trans h.2.2⟩
theorem revoke_onC (h : OnC c C) (key : Int) : OnC c (revokeM C key).1 := by
 unfold revokeM
 split
 ·exact h
 ·split
  ·exact h
  ·exact blow_onC h _
theorem lay_onC (h : OnC c C) (slot n : Int) : OnC c (layL C slot n).1 := by
 have ep : ∀ (t : Int) (nums : List Int) (m x a : Nat) (D : Cm), OnC c D → OnC c (turnP t nums m x a D).1 := by
  intro t nums m
  induction m with
  | zero => intro x a D h; exact h
  | succ m ih =>
   intro x a D h
   unfold turnP
   split
   ·exact ih _ _ _ h
   ·split
    ·exact program_onC h _ _ _
    ·exact ih _ _ _ (program_onC h _ _ _)
 have ea : ∀ (g t : Int) (nums : List Int) (m : Nat) (D : Cm), OnC c D → OnC c (turnA g t nums m D).1 := by
  intro g t nums m D h
  unfold turnA
  split
  ·exact ep _ _ _ _ _ _ h
  ·exact program_onC (ep _ _ _ _ _ _ h) _ _ _
 unfold layL
 (repeat' split) <;> first | exact h | exact program_onC h _ _ _ | skip
 unfold turnL
 split
 ·exact ea _ _ _ _ _ h
 ·split
  ·exact erase_onC h _
  ·exact ea _ _ _ _ _ (erase_onC h _)
theorem raise_onC (a f : Nat) (n : Int) : ∀ (m : Nat) (C : Cm), OnC c C → OnC c (raiseL a f n m C).1
 | 0, C, h => h
 | m + 1, C, h => by
  unfold raiseL
  split
  ·exact h
  ·split
   ·exact h
   ·rename_i k _
    have b := blow_onC h k
    split
    ·exact b
    ·exact raise_onC a f n m _ b
theorem bump_onC (h : OnC c C) (slot v : Int) : OnC c (sBumpTo C slot v).1 := by
 unfold sBumpTo
 (repeat' split) <;> first | exact h | exact lay_onC h _ _ | skip
 unfold raiseM
 (repeat' split) <;> first | exact lay_onC h _ _ | exact raise_onC _ _ _ _ _ (lay_onC h _ _)
end
end Go.Proofs.YteedolonhdbieaaGreatDoor
end
