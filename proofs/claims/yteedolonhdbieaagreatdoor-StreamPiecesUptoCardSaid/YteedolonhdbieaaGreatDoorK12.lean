/- StreamPieces: what is proved and its parts, laid together by a program of ours: Im2 Gt1 Im3 Gt3 GtW Tq5 St7 St8 Gt6 Sp0 Gt8 GtA Sp1 -/
import Derived.Test.YteedolonhdbieaaGreatDoorK11
set_option autoImplicit false
set_option linter.all false
/- Images: taken apart. Own work. -/
section
set_option maxRecDepth 100000
set_option linter.unusedVariables false
namespace Go.Proofs.YteedolonhdbieaaGreatDoor
open Go Go.Vc

abbrev imgL (a b v : Int) (x : Sl) (t : List Int) : List Value := .int .i64 a :: .int .i64 b :: .int .i64 v :: x.v :: ints .u8 t
section
variable {h0 h : H} {A : List Ent} {i j p r b : Nat}
theorem img_len {a b v : Int} {x : Sl} {t : List Int} (ht : t.length = 32) : (imgL a b v x t).length = 36 := by simp [ht]
theorem img_row {a b' v : Int} {x : Sl} {t : List Int} (hs : Sat h0 A h) (m : At A i (blk b (imgL a b' v x t))) (ht : t.length = 32) : hrow h ⟨b, 4, none⟩ .u8 t := by
 refine hs.cs m ?_
 show (ints .u8 t).take (ints .u8 t).length = _
 rw [List.take_length]
theorem img_s4 {a b' v : Int} {x : Sl} {u : List Int} (hu : u.length = 32) : splice (imgL a b' v x (zeros 32)) 4 (ints .u8 u) = imgL a b' v x u := by
 have e : imgL a b' v x (zeros 32) = [.int .i64 a, .int .i64 b', .int .i64 v, x.v] ++ ints .u8 (zeros 32) := rfl
 have e2 : ∀ (vs xs : List Value) (o : Nat) (pre : List Value), splice (pre ++ vs) (pre.length + o) xs = pre ++ splice vs o xs := by
  intro vs xs
  induction xs generalizing vs with
  | nil => intro o pre; rfl
  | cons y ys ih =>
   intro o pre
   rw [splice_cons, splice_cons, set_app pre vs [], Nat.add_assoc]
   exact ih (vs.set o y) (o + 1) pre
 rw [e]
 have := e2 (ints .u8 (zeros 32)) (ints .u8 u) 0 [.int .i64 a, .int .i64 b', .int .i64 v, x.v]
 rw [splice_all _ _ (by simp [hu])] at this
 exact this
theorem Parse_sp {Q : Int → Int → Int → Option Addr → Nat → Nat → List Int → Value → H → Prop} {q : Option Addr} {l c : Nat} {bs : List Int} (hs : Sat h0 A h) (rd : ∀ h', Sat h0 A h' → hsv h' q 1 l (ints .u8 bs)) (hb : bytesOk bs) (hlc : l ≤ c) (hl : l < 2 ^ 50)
  (k1 : ∀ e at_ w h', parseW bs = (e, at_) → e ≠ 0 → Sat h0 (blk w [.int .i64 e, .int .i64 at_] :: A) h' → Q 0 0 0 none 0 0 (zeros 32) (.iface 162 (.pointer (some ⟨w, 0, none⟩))) h')
  (k2 : ∀ (own : Sl) (n : Nat) h', parseW bs = (0, 0) → num4 bs 12 = n → Sat h0 (sE own 1 (ints .u8 bs) :: A) h' → Q (bs.getD 5 0) (bs.getD 6 0) (num4 bs 8) (subAddr own.1 16 (16 + n) 1) n n ((bs.drop (16 + n)).take 32) .nilIface h') :
  F_image_Parse q l c Q h := by
 unfold F_image_Parse G_image_Parse
 try simp only [add_mk, Nat.zero_add, List.append_nil]
 have hbl : bs.length = l := by have := (rd _ hs).1; simpa using this
 intro n7 _ hn; replace hs := Sat.new hs hn; clear hn
 replace hs : Sat h0 (blk n7 (imgL 0 0 0 (none, 0, 0) (zeros 32)) :: A) _ := hs
 have bad : ∀ e at_ h', parseW bs = (e, at_) → e ≠ 0 → Sat h0 (blk n7 (imgL 0 0 0 (none, 0, 0) (zeros 32)) :: A) h' → ∀ (n10 : Nat) (h11 : H), hnew h' n10 [.int .i64 e, .int .i64 at_] h11 → hcan h11 ⟨n7, 0, none⟩ 36 ∧ ∀ h13, h13 = hwr h11 ⟨n7, 0, none⟩ (imgL 0 0 0 (none, 0, 0) (zeros 32)) →
   ∃ i15 : Int, hc h13 ⟨n7, 0, none⟩ = some (.int .i64 i15) ∧ ∃ i16 : Int, hc h13 ⟨n7, 1, none⟩ = some (.int .i64 i16) ∧ ∃ i17 : Int, hc h13 ⟨n7, 2, none⟩ = some (.int .i64 i17) ∧ ∃ (o18 : Option Addr) (n19 n20 : Nat), hc h13 ⟨n7, 3, none⟩ = some (.slice o18 n19 n20) ∧
    ∃ l21 : List Int, l21.length = 32 ∧ hrow h13 ⟨n7, 4, none⟩ .u8 l21 ∧ Q i15 i16 i17 o18 n19 n20 l21 (.iface 162 (.pointer (some ⟨n10, 0, none⟩))) h13 := by
  intro e at_ h' hw he hs n10 h11 hn
  replace hs := Sat.new hs hn
  refine ⟨Sat.can hs (i := 1) (.s .z) (by decide), ?_⟩
  intro h13 e13
  replace hs := Sat.wra hs (i := 1) (.s .z) e13 rfl
  simp only [put] at hs
  refine ⟨_, Sat.ld hs (i := 1) (.s .z) rfl, _, Sat.ld hs (i := 1) (.s .z) rfl, _, Sat.ld hs (i := 1) (.s .z) rfl, _, _, _, Sat.ld hs (i := 1) (.s .z) rfl, _, rfl, img_row hs (.s .z) rfl, ?_⟩
  exact k1 e at_ n10 _ hw he (hs.sub (by (repeat (first | exact List.Sublist.refl _ | apply List.Sublist.cons_cons | apply List.Sublist.cons))))
 by_cases g1 : 524288 < l
 ·rw [ltI_eq, if_pos (by simp; omega)]
  exact bad _ _ _ (by unfold parseW; rw [if_pos (by omega)]) (by decide) hs
 rw [ltI_eq, if_neg (by simp; omega)]
 have hP : parseW bs = match headW bs 16 0 with
  | some w => w
  | none => if 524240 < num4 bs 12 then (5, 12) else if (bs.length : Int) < 48 + num4 bs 12 then (6, bs.length) else if 48 + num4 bs 12 < bs.length then (7, 48 + num4 bs 12) else (0, 0) := by
  unfold parseW; rw [if_neg (by omega)]; try rfl
 clear k1
 generalize hW : headW bs 16 0 = W at hP
 intro J hJ
 refine loop_up 16 (fun x h => Sat h0 (blk n7 (imgL 0 0 0 (none, 0, 0) (zeros 32)) :: A) h ∧ W = headW bs (16 - x) x ∧ x ≤ l) ?_ ?_ 0 _ (by omega) ⟨hs, hW.symm, by omega⟩
 ·rintro x h1 hx ⟨hs, hh, hxl⟩ hk
  apply hJ
  rw [ltI_eq, if_pos (by simp; omega)]
  obtain ⟨m, hm⟩ : ∃ m, 16 - x = m + 1 := ⟨16 - x - 1, by omega⟩
  rw [hm] at hh
  unfold headW at hh
  by_cases g2 : x = l
  ·rw [if_pos (show x = bs.length by omega)] at hh
   rw [if_pos (by simp; omega)]
   exact bad 6 x _ (by rw [hP, hh]) (by decide) hs
  rw [if_neg (show ¬ x = bs.length by omega)] at hh
  rw [if_neg (by simp; omega)]
  obtain ⟨q', hq, g⟩ := hsv_int (rd _ hs.drop) (x := x) (by omega)
  refine ⟨_, hq, by omega, by omega, _, by rw [Int.toNat_natCast, Nat.mul_one]; exact g, ?_⟩
  refine may_sp x _ ?_
  by_cases g3 : mayB x (bs.getD x 0) = true
  ·rw [if_pos g3] at hh
   rw [if_neg (by rw [g3]; decide), wrap_succ (by omega)]
   exact hk _ ⟨hs, by rw [hh, show 16 - (x + 1) = m by omega], by omega⟩
  ·rw [if_neg g3] at hh
   rw [if_pos (by rw [Bool.not_eq_true] at g3; rw [g3]; rfl)]
   exact bad 5 x _ (by rw [hP, hh]) (by decide) hs
 rintro h1 ⟨hs, hh, hxl⟩
 apply hJ
 rw [ltI_eq, if_neg (by simp)]
 clear hJ J
 have hh : W = none := hh
 rw [hh] at hP
 dsimp only at hP
 refine ⟨by omega, by omega, ?_⟩
 have rd12 := sub_rd (o := 12) (n := l - 12) (m := c) (rd _ hs.drop) (by omega) (by omega)
 refine number_sp rd12 (drop_bytes hb _ _) (by omega) ?_
 rw [num4_drop _ _ _ (by omega)]
 obtain ⟨r1, r2⟩ := num4_range hb 12
 obtain ⟨n, hnn⟩ := Int.eq_ofNat_of_zero_le r1
 rw [hnn] at hP r2 ⊢
 have ew : IntKind.i64.wrap (16 + (n : Int)) = ((16 + n : Nat) : Int) := by rw [wrap_id (by omega)]; omega
 have ew2 : IntKind.i64.wrap (((16 + n : Nat) : Int) + 32) = ((48 + n : Nat) : Int) := by rw [wrap_id (by omega)]; omega
 rw [ew, ew2]
 by_cases g2 : 524240 < n
 ·rw [if_pos (by omega)] at hP
  rw [ltI_eq, if_pos (by simp; omega)]
  exact bad 5 12 _ hP (by decide) hs
 rw [if_neg (by omega)] at hP
 rw [ltI_eq, if_neg (by simp; omega)]
 by_cases g3 : l < 48 + n
 ·rw [if_pos (by omega), hbl] at hP
  rw [ltI_eq, if_pos (by simp; omega)]
  exact bad 6 l _ hP (by decide) hs
 rw [if_neg (by omega)] at hP
 rw [ltI_eq, if_neg (by simp; omega)]
 by_cases g4 : 48 + n < l
 ·rw [if_pos (by omega)] at hP
  rw [ltI_eq, if_pos (by simp; omega)]
  exact bad 7 _ _ (by rw [hP]; congr 1) (by decide) hs
 rw [if_neg (by omega)] at hP
 rw [ltI_eq, if_neg (by simp; omega)]
 have hw := hP
 clear bad hP
 have hl48 : l = 48 + n := by omega
 refine ⟨_, rd _ hs.drop, ?_⟩
 refine Sat.app_new hs (by simp [hbl]) rfl (ints_one _ _) (by omega) ?_
 intro o c2 h2 hs
 obtain ⟨own, hown⟩ : ∃ own : Sl, own = (o, l, c2) := ⟨_, rfl⟩
 have hcap := sl_cap hs (i := 0) .z
 replace hs : Sat h0 (sE own 1 (ints .u8 bs) :: blk n7 (imgL 0 0 0 (none, 0, 0) (zeros 32)) :: A) h2 := by rw [hown]; exact hs
 have eo1 : o = own.1 := by rw [hown]
 have eo2 : own.2.1 = l := by rw [hown]
 rw [eo1]
 have B : ∀ x, x < l → ∀ {A' : List Ent} {h' : H}, Sat h0 A h' → ∃ q', q = some q' ∧ hc h' (q'.add x) = some (.int .u8 (bs.getD x 0)) := fun x hx A' h' hs' => hsv_int (rd _ hs') hx
 obtain ⟨q', hq, g5⟩ := hsv_int (rd _ hs.drop.drop) (x := 5) (by omega)
 obtain ⟨q2, hq2, g6⟩ := hsv_int (rd _ hs.drop.drop) (x := 6) (by omega)
 rw [hq] at hq2
 injection hq2 with hq2
 subst hq2
 have c5 : ∀ h', Sat h0 A h' → hcs h' (q'.add 5) [.int .u8 (bs.getD 5 0)] := fun h' hs' => by
  obtain ⟨q2, hq2, g⟩ := hsv_int (rd _ hs') (x := 5) (by omega)
  rw [hq] at hq2; injection hq2 with hq2; subst hq2; exact hcs_one g
 have c6 : ∀ h', Sat h0 A h' → hcs h' (q'.add 6) [.int .u8 (bs.getD 6 0)] := fun h' hs' => by
  obtain ⟨q2, hq2, g⟩ := hsv_int (rd _ hs') (x := 6) (by omega)
  rw [hq] at hq2; injection hq2 with hq2; subst hq2; exact hcs_one g
 have b5 := byte_getD hb 5
 have b6 := byte_getD hb 6
 unfold isByte at b5 b6
 have w5 : IntKind.i64.wrap (bs.getD 5 0) = bs.getD 5 0 := by rw [IntKind.wrap_i64]; omega
 have w6 : IntKind.i64.wrap (bs.getD 6 0) = bs.getD 6 0 := by rw [IntKind.wrap_i64]; omega
 have ht32 : ((bs.drop (16 + n)).take 32).length = 32 := by rw [List.length_take, List.length_drop]; omega
 refine ⟨_, hq, by omega, by omega, _, g5, _, hq, by omega, by omega, _, g6, by omega, by omega, by omega, by omega, by omega, by omega, ?_⟩
 rw [Int.toNat_natCast, Nat.add_sub_cancel_left]
 have rd8 : ∀ h', Sat h0 A h' → hsv h' (subAddr q 8 c 1) 1 (l - 8) (ints .u8 ((bs.drop 8).take (l - 8))) := fun h' hs' => sub_rd (o := 8) (n := l - 8) (m := c) (rd _ hs') (by omega) (by omega)
 rw [w5, w6, show Nat.min (l - (16 + n)) 32 = 32 by show min _ _ = _; omega]
 constructor
 ·refine number_sp (rd8 _ hs.drop.drop) (drop_bytes hb _ _) (by omega) ?_
  rw [num4_drop _ _ _ (by omega)]
  refine ⟨c6 _ hs.drop.drop, c5 _ hs.drop.drop, ?_⟩
  intro nb _ hn; replace hs := Sat.new hs hn; clear hn
  refine ⟨c6 _ hs.drop.drop.drop, c5 _ hs.drop.drop.drop, ?_⟩
  (refine ⟨Sat.can hs (i := 0) .z (by decide), ?_⟩; intro h20 e20; replace hs := Sat.wra hs (i := 0) .z e20 (by rfl); clear e20; simp only [put] at hs; replace hs : Sat h0 (blk nb (imgL (bs.getD 5 0) (bs.getD 6 0) (num4 bs 8) (subAddr own.1 16 (16 + n) 1, n, n) (zeros 32)) :: sE own 1 (ints .u8 bs) :: blk n7 (imgL 0 0 0 (none, 0, 0) (zeros 32)) :: A) h20 := hs; refine ⟨by omega, by omega, _, sub_rd (n := 32) (hs.sv (i := 1) (.s .z)) (by omega) (by omega), Or.inr ⟨_, rfl, Sat.can hs (i := 0) .z (by rw [img_len rfl]; decide)⟩, ?_⟩; intro h21 e21; replace hs := Sat.wr hs (i := 0) .z (o := 4) e21; clear e21; rw [img_s4 (by rw [List.length_take, List.length_drop]; omega)] at hs; simp only [put] at hs; refine ⟨_, Sat.ld hs (i := 0) .z rfl, _, Sat.ld hs (i := 0) .z rfl, _, Sat.ld hs (i := 0) .z rfl, _, _, _, Sat.ld hs (i := 0) .z rfl, _, ht32, img_row hs .z ht32, Sat.can hs (i := 2) (.s (.s .z)) (by decide), ?_⟩; intro h22 e22; replace hs := Sat.wra hs (i := 2) (.s (.s .z)) e22 (by rw [img_len ht32]; rfl); clear e22; simp only [put] at hs; replace hs : Sat h0 (blk nb (imgL (bs.getD 5 0) (bs.getD 6 0) (num4 bs 8) (subAddr own.1 16 (16 + n) 1, n, n) ((bs.drop (16 + n)).take 32)) :: sE own 1 (ints .u8 bs) :: blk n7 (imgL (bs.getD 5 0) (bs.getD 6 0) (num4 bs 8) (subAddr own.1 16 (16 + n) 1, n, n) ((bs.drop (16 + n)).take 32)) :: A) h22 := hs; refine ⟨_, Sat.ld hs (i := 2) (.s (.s .z)) rfl, _, Sat.ld hs (i := 2) (.s (.s .z)) rfl, _, Sat.ld hs (i := 2) (.s (.s .z)) rfl, _, _, _, Sat.ld hs (i := 2) (.s (.s .z)) rfl, _, ht32, img_row hs (.s (.s .z)) ht32, ?_⟩; exact k2 own n _ hw hnn (hs.sub (by (repeat (first | exact List.Sublist.refl _ | apply List.Sublist.cons_cons | apply List.Sublist.cons)))))
 ·intro nb _ hn; replace hs := Sat.new hs hn; clear hn
  refine ⟨c6 _ hs.drop.drop.drop, c5 _ hs.drop.drop.drop, ?_⟩
  refine number_sp (rd8 _ hs.drop.drop.drop) (drop_bytes hb _ _) (by omega) ?_
  rw [num4_drop _ _ _ (by omega)]
  refine ⟨c6 _ hs.drop.drop.drop, c5 _ hs.drop.drop.drop, ?_⟩
  (refine ⟨Sat.can hs (i := 0) .z (by decide), ?_⟩; intro h20 e20; replace hs := Sat.wra hs (i := 0) .z e20 (by rfl); clear e20; simp only [put] at hs; replace hs : Sat h0 (blk nb (imgL (bs.getD 5 0) (bs.getD 6 0) (num4 bs 8) (subAddr own.1 16 (16 + n) 1, n, n) (zeros 32)) :: sE own 1 (ints .u8 bs) :: blk n7 (imgL 0 0 0 (none, 0, 0) (zeros 32)) :: A) h20 := hs; refine ⟨by omega, by omega, _, sub_rd (n := 32) (hs.sv (i := 1) (.s .z)) (by omega) (by omega), Or.inr ⟨_, rfl, Sat.can hs (i := 0) .z (by rw [img_len rfl]; decide)⟩, ?_⟩; intro h21 e21; replace hs := Sat.wr hs (i := 0) .z (o := 4) e21; clear e21; rw [img_s4 (by rw [List.length_take, List.length_drop]; omega)] at hs; simp only [put] at hs; refine ⟨_, Sat.ld hs (i := 0) .z rfl, _, Sat.ld hs (i := 0) .z rfl, _, Sat.ld hs (i := 0) .z rfl, _, _, _, Sat.ld hs (i := 0) .z rfl, _, ht32, img_row hs .z ht32, Sat.can hs (i := 2) (.s (.s .z)) (by decide), ?_⟩; intro h22 e22; replace hs := Sat.wra hs (i := 2) (.s (.s .z)) e22 (by rw [img_len ht32]; rfl); clear e22; simp only [put] at hs; replace hs : Sat h0 (blk nb (imgL (bs.getD 5 0) (bs.getD 6 0) (num4 bs 8) (subAddr own.1 16 (16 + n) 1, n, n) ((bs.drop (16 + n)).take 32)) :: sE own 1 (ints .u8 bs) :: blk n7 (imgL (bs.getD 5 0) (bs.getD 6 0) (num4 bs 8) (subAddr own.1 16 (16 + n) 1, n, n) ((bs.drop (16 + n)).take 32)) :: A) h22 := hs; refine ⟨_, Sat.ld hs (i := 2) (.s (.s .z)) rfl, _, Sat.ld hs (i := 2) (.s (.s .z)) rfl, _, Sat.ld hs (i := 2) (.s (.s .z)) rfl, _, _, _, Sat.ld hs (i := 2) (.s (.s .z)) rfl, _, ht32, img_row hs (.s (.s .z)) ht32, ?_⟩; exact k2 own n _ hw hnn (hs.sub (by (repeat (first | exact List.Sublist.refl _ | apply List.Sublist.cons_cons | apply List.Sublist.cons)))))
end
end Go.Proofs.YteedolonhdbieaaGreatDoor
end

/- The gate: whether an image may be started; the program. Own work. -/
section
set_option maxRecDepth 100000
set_option linter.unusedVariables false
namespace Go.Proofs.YteedolonhdbieaaGreatDoor
open Go Go.Vc
attribute [local irreducible] macM

def gateM (C : Cm) (L : List Sec) (bs : List Int) : Int :=
 if C.out = true then 8 else if (parseW bs).1 ≠ 0 then (parseW bs).1
 else if C.cfg.slots ≤ bs.getD 5 0 then 5
 else match L.find? (fun x => x.1 == bs.getD 6 0) with
  | none => 13
  | some s => if C.cfg.keys ≤ bs.getD 6 0 then 13 else if (revokedM C (bs.getD 6 0)).1 = true then 14
   else if macM s.2 (bs.take (bs.length - 32)) ≠ (bs.drop (bs.length - 32)).take 32 then 15
   else if num4 bs 8 < (sRead C (bs.getD 5 0)).1 then 16 else if lastM C.cfg < num4 bs 8 then 16 else 0
theorem head_all {bs : List Int} : ∀ (m x : Nat), headW bs m x = none → ∀ y, x ≤ y → y < x + m → mayB y (bs.getD y 0) = true
 | 0, x, _, y, h1, h2 => by omega
 | m + 1, x, h, y, h1, h2 => by
  unfold headW at h
  by_cases c : x = bs.length
  ·rw [if_pos c] at h; cases h
  rw [if_neg c] at h
  by_cases g : mayB x (bs.getD x 0) = true
  ·rw [if_pos g] at h
   by_cases e : y = x
   ·rw [e]; exact g
   ·exact head_all m (x + 1) h y (by omega) (by omega)
  ·rw [if_neg g] at h; cases h
theorem parse_ok {bs : List Int} (hb : bytesOk bs) {n : Nat} (h : parseW bs = (0, 0)) (hn : num4 bs 12 = n) : bs.length = 48 + n ∧ (0 ≤ bs.getD 5 0 ∧ bs.getD 5 0 < 8) ∧ (0 ≤ bs.getD 6 0 ∧ bs.getD 6 0 < 64) ∧ n ≤ 524240 := by
 unfold parseW at h
 by_cases c1 : 524288 < bs.length
 ·rw [if_pos c1] at h; injection h with h; cases h
 rw [if_neg c1] at h
 have hh : headW bs 16 0 = none := by
  cases e : headW bs 16 0 with
  | none => rfl
  | some w =>
   rw [e] at h
   dsimp only at h
   exfalso
   have key : ∀ m x, headW bs m x = some w → w.1 ≠ 0 := by
    intro m
    induction m with
    | zero => intro x y; cases y
    | succ m ih =>
     intro x y
     unfold headW at y
     by_cases c : x = bs.length
     ·rw [if_pos c] at y; injection y with y; rw [← y]; exact (by decide : (6 : Int) ≠ 0)
     rw [if_neg c] at y
     by_cases g : mayB x (bs.getD x 0) = true
     ·rw [if_pos g] at y; exact ih _ y
     ·rw [if_neg g] at y; injection y with y; rw [← y]; exact (by decide : (5 : Int) ≠ 0)
   have := key 16 0 e
   rw [h] at this
   exact this rfl
 rw [hh] at h
 dsimp only at h
 have m5 := head_all 16 0 hh 5 (by decide) (by decide)
 have m6 := head_all 16 0 hh 6 (by decide) (by decide)
 have e5 : bs.getD 5 0 < 8 := by
  have : mayB 5 (bs.getD 5 0) = decide (bs.getD 5 0 < 8) := rfl
  rw [this] at m5; exact of_decide_eq_true m5
 have e6 : bs.getD 6 0 < 64 := by
  have : mayB 6 (bs.getD 6 0) = decide (bs.getD 6 0 < 64) := rfl
  rw [this] at m6; exact of_decide_eq_true m6
 have b5 := byte_getD hb 5
 have b6 := byte_getD hb 6
 unfold isByte at b5 b6
 rw [hn] at h
 by_cases c2 : (524240 : Int) < (n : Int)
 ·rw [if_pos c2] at h; injection h with h; cases h
 rw [if_neg c2] at h
 by_cases c3 : (bs.length : Int) < 48 + (n : Int)
 ·rw [if_pos c3] at h; injection h with h; cases h
 rw [if_neg c3] at h
 by_cases c4 : 48 + (n : Int) < bs.length
 ·rw [if_pos c4] at h; injection h with h; cases h
 exact ⟨by omega, ⟨b5.1, e5⟩, ⟨b6.1, e6⟩, by omega⟩
theorem sread_err {C : Cm} (ho : ¬ C.out = true) {slot : Int} (hs : 0 ≤ slot) : (sRead C slot).2 = if C.cfg.slots ≤ slot then 2 else 0 := by
 have a : askedM C slot C.cfg.slots = if C.cfg.slots ≤ slot then 2 else 0 := by unfold askedM; rw [if_neg ho, if_neg (by omega)]
 unfold sRead
 rw [a]
 by_cases g : C.cfg.slots ≤ slot
 ·rw [if_pos g, if_pos (by decide)]
 ·rw [if_neg g, if_neg (by decide)]
theorem callFn_of {f : FuncId} {run : Run} {c : Array Value} {ds : List DV} {Q : List DV → H → Prop} {h : H} (hr : RunOk PP f run) (hd : ∀ x, x ∈ ds → x.ok) (hc : c.toList = ds.map DV.flat) (hrun : run ds Q h) : callFn PP (.func (.func f) (Array.mk []) c) [] Q h := by
 refine ⟨f, Array.mk [], c, rfl, ?_⟩
 have := hr ds Q h hd hrun
 rw [← hc] at this
 simpa using this
theorem addrs_ok (l : List Addr) : ∀ x, x ∈ l.map DV.addr → x.ok := by
 intro x hx
 obtain ⟨a, _, rfl⟩ := List.mem_map.1 hx
 trivial
section
variable {h0 h : H} {A : List Ent} {i j p r b s m : Nat} {C : Cm}
theorem kcheck_sp {Q : Bool → Int → H → Prop} {key : Int} {bb tag : List Int} {bp : Option Addr} {bl bc : Nat} {R : List SR} {x : SR} (hs : Sat h0 A h) (cr : At A i (blk r [.map (some m)])) (cm : At A j (mapE m (R.map SR.ent))) (gd : SR.good R)
  (rR : ∀ x, x ∈ R → ∀ h', Sat h0 A h' → hsv h' x.p 1 x.bytes.length (ints .u8 x.bytes)) (hx : SR.at_ R key = some x) (ht : tag.length = 32) (htb : isBy tag) (hbc : bl ≤ bc) (hbl : bl < 2 ^ 40)
  (rb : ∀ h', Sat h0 A h' → hsv h' bp 1 bl (ints .u8 bb)) (k : ∀ h', Sat h0 A h' → Q (decide (macM x.bytes bb = tag)) 0 h') : F_keys_Ring_Check ⟨r, 0, none⟩ key bp bl bc tag Q h := by
 unfold F_keys_Ring_Check G_keys_Ring_Check
 try simp only [add_mk, Nat.zero_add, List.append_nil]
 have hx2 : x ∈ R := List.mem_of_find?_eq_some hx
 have hg := gd x hx2
 have ml : mlook (.int .i64 key) (.one (.slice none 0 0)) (R.map SR.ent) = some (.one (.slice x.p x.bytes.length x.c), true) := by rw [mlook_at, hx]
 intro tb _ hn; replace hs := Sat.new hs hn; clear hn
 refine sign_sp hs cr.s cm.s ml hg.2.1 (by omega) hbc hbl (fun h' hs' => rR x hx2 _ hs'.drop) (fun h' hs' => rb _ hs'.drop) ?_
 intro h3 hs
 intro nb _ hn; replace hs := Sat.new hs hn; clear hn
 refine ⟨Sat.can hs (i := 0) .z (by simp [zeros]), ?_⟩
 intro h4 e
 replace hs := Sat.wra (xs := ints .u8 (macM x.bytes bb)) hs (i := 0) .z e (by simp [zeros, macM_len])
 clear e
 simp only [put_zero] at hs
 rw [if_neg (by decide)]
 refine equal_sp (isBy_mac _ _) htb (macM_len _ _) ht (hs.row0 (i := 0) .z) (hs.row0 (i := 1) (.s .z)) ?_
 exact k _ hs.drop.drop
theorem ibody_sp {Q : Option Addr → Nat → Nat → H → Prop} {bs : List Int} {q : Option Addr} {l c : Nat} (hs : Sat h0 A h) (rd : hsv h q 1 l (ints .u8 bs)) (hl : 32 ≤ l) (hlc : l ≤ c) (hl2 : l < 2 ^ 40)
  (k : ∀ p' c' h', l - 32 ≤ c' → Sat h0 (slE p' (l - 32) c' 1 (ints .u8 (bs.take (l - 32))) :: A) h' → Q p' (l - 32) c' h') : F_image_Body q l c Q h := by
 unfold F_image_Body G_image_Body
 have hbl : bs.length = l := by have := rd.1; simpa using this
 rw [ltI_eq, if_neg (by rw [decide_eq_true_iff]; omega)]
 have e : IntKind.i64.wrap ((l : Int) - 32) = ((l - 32 : Nat) : Int) := by rw [wrap_id (by omega)]; omega
 rw [e]
 refine ⟨by omega, by omega, ?_⟩
 simp only [Int.toNat_natCast, Nat.sub_zero]
 have R := subRd (o := 0) (n := l - 32) (m := c) rd (by omega) (by omega)
 rw [List.drop_zero] at R
 refine ⟨_, R, ?_⟩
 replace hs := hs.sl_nil 1 none
 refine Sat.app hs (i := 0) (vs := ints .u8 (bs.take (l - 32))) .z (by simp; omega) rfl (ints_one _ _) (by dsimp only; omega) ?_
 intro p' c' h' hs
 simp only [put_zero, List.nil_append, Nat.zero_add] at hs ⊢
 exact k p' c' h' (capS hs (i := 0) .z) hs
theorem ret0 {Q : Int → Int → Int → Option Addr → Nat → Nat → List Int → Int → H → Prop} {nb : Nat} {a1 a2 a3 : Int} {x : Sl} {t : List Int} (e : Int) (ht : t.length = 32) (hs : Sat h0 A h) (a : At A i (blk nb (imgL a1 a2 a3 x t))) (k : ∀ h', Sat h0 (put A i (blk nb (imgL 0 0 0 (none, 0, 0) (zeros 32)))) h' → Q 0 0 0 none 0 0 (zeros 32) e h') :
  hcan h ⟨nb, 0, none⟩ 36 ∧ ∀ h1, h1 = hwr h ⟨nb, 0, none⟩ (.int .i64 0 :: .int .i64 0 :: .int .i64 0 :: .slice none 0 0 :: ints .u8 (zeros 32)) → ∃ i1 : Int, hc h1 ⟨nb, 0, none⟩ = some (.int .i64 i1) ∧ ∃ i2 : Int, hc h1 ⟨nb, 1, none⟩ = some (.int .i64 i2) ∧ ∃ i3 : Int, hc h1 ⟨nb, 2, none⟩ = some (.int .i64 i3) ∧
   ∃ (o : Option Addr) (n m : Nat), hc h1 ⟨nb, 3, none⟩ = some (.slice o n m) ∧ ∃ l : List Int, l.length = 32 ∧ hrow h1 ⟨nb, 4, none⟩ .u8 l ∧ Q i1 i2 i3 o n m l e h1 := by
 refine ⟨Sat.can hs a (by simp [ht]), ?_⟩
 intro h1 e1
 replace hs := Sat.wra (xs := imgL 0 0 0 (none, 0, 0) (zeros 32)) hs a e1 (by simp [ht, zeros])
 exact ⟨_, hs.ld (a.put _) rfl, _, hs.ld (a.put _) rfl, _, hs.ld (a.put _) rfl, _, _, _, hs.ld (a.put _) rfl, _, zeros_len 32, img_row hs (a.put _) (zeros_len 32), k _ hs⟩
theorem gate_sp {Q : Int → Int → Int → Option Addr → Nat → Nat → List Int → Int → H → Prop} {mm rr jm jr : Nat} {bs : List Int} {q : Option Addr} {l c : Nat} {R : List SR} (hg : hc h0 ⟨0, 0, none⟩ = some errTypeV) (hs : Sat h0 A h) (ci : At A i (chipE p C)) (cl' : At A j (logE r p)) (st : At A m (storeE s p r))
  (cr : At A jr (blk rr [.map (some mm)])) (cm : At A jm (mapE mm (R.map SR.ent))) (gd : SR.good R) (rR : ∀ x, x ∈ R → ∀ h', Sat h0 A h' → hsv h' x.p 1 x.bytes.length (ints .u8 x.bytes))
  (rd : ∀ h', Sat h0 A h' → hsv h' q 1 l (ints .u8 bs)) (hb : bytesOk bs) (hlc : l ≤ c) (hl : l < 2 ^ 50)
  (k1 : ∀ e, e = gateM C (R.map SR.kv) bs → e ≠ 0 → ∀ h', Sat h0 A h' → Q 0 0 0 none 0 0 (zeros 32) e h')
  (k2 : ∀ (own : Sl) (n : Nat), gateM C (R.map SR.kv) bs = 0 → parseW bs = (0, 0) → num4 bs 12 = n → bs.length = 48 + n → ∀ h', Sat h0 (sE own 1 (ints .u8 bs) :: A) h' → Q (bs.getD 5 0) (bs.getD 6 0) (num4 bs 8) (subAddr own.1 16 (16 + n) 1) n n ((bs.drop (16 + n)).take 32) 0 h') :
  F_gate_Check ⟨s, 0, none⟩ ⟨rr, 0, none⟩ q l c Q h := by
 unfold F_gate_Check G_gate_Check
 try simp only [add_mk, Nat.zero_add, List.append_nil]
 have hbl : bs.length = l := by have := (rd _ hs).1; simpa using this
 have ok := chip_ok hs ci
 have w1 : IntKind.i64.wrap (0 + 1) = 1 := by decide
 have w2 : IntKind.i64.wrap (1 + 1) = 2 := by decide
 have w3 : IntKind.i64.wrap (2 + 1) = 3 := by decide
 have w4 : IntKind.i64.wrap (3 + 1) = 4 := by decide
 have w5 : IntKind.i64.wrap (4 + 1) = 5 := by decide
 have w6 : IntKind.i64.wrap (5 + 1) = 6 := by decide
 obtain ⟨G, hG⟩ : ∃ G, G = gateM C (R.map SR.kv) bs := ⟨_, rfl⟩
 have hG0 := hG
 rw [← hG] at k1 k2
 unfold gateM at hG
 intro n13 _ hn; replace hs := Sat.new hs hn; clear hn
 intro n16 _ hn; replace hs := Sat.new hs hn; clear hn
 intro n19 _ hn; replace hs := Sat.new hs hn; clear hn
 intro n22 _ hn; replace hs := Sat.new hs hn; clear hn
 intro n25 _ hn; replace hs := Sat.new hs hn; clear hn
 intro n28 _ hn; replace hs := Sat.new hs hn; clear hn
 obtain ⟨FS, hFS⟩ : ∃ FS : List Value, FS = [.func (.func id_gate_Check_1) (Array.mk []) (Array.mk [.pointer (some ⟨n13, 0, none⟩)]), .func (.func id_gate_Check_2) (Array.mk []) (Array.mk [.pointer (some ⟨n19, 0, none⟩), .pointer (some ⟨n25, 0, none⟩)]), .func (.func id_gate_Check_3) (Array.mk []) (Array.mk [.pointer (some ⟨n13, 0, none⟩), .pointer (some ⟨n25, 0, none⟩)]), .func (.func id_gate_Check_4) (Array.mk []) (Array.mk [.pointer (some ⟨n13, 0, none⟩), .pointer (some ⟨n25, 0, none⟩), .pointer (some ⟨n16, 0, none⟩)]), .func (.func id_gate_Check_5) (Array.mk []) (Array.mk [.pointer (some ⟨n16, 0, none⟩), .pointer (some ⟨n25, 0, none⟩), .pointer (some ⟨n19, 0, none⟩)]), .func (.func id_gate_Check_6) (Array.mk []) (Array.mk [.pointer (some ⟨n13, 0, none⟩), .pointer (some ⟨n25, 0, none⟩)])] := ⟨_, rfl⟩
 rw [← hFS] at hs
 replace hs : Sat h0 (blk n28 FS :: blk n25 (imgL 0 0 0 (none, 0, 0) (zeros 32)) :: blk n22 (imgL 0 0 0 (none, 0, 0) (zeros 32)) :: blk n19 [.slice q l c] :: blk n16 [.pointer (some ⟨rr, 0, none⟩)] :: blk n13 [.pointer (some ⟨s, 0, none⟩)] :: A) _ := hs
 intro J31 hJ31
 apply hJ31
 rw [ltI_eq, if_pos (by decide)]
 refine ⟨_, rfl, by decide, by decide, _, hs.ld (o := 0) (i := 0) .z (by rw [hFS]; rfl), rfl, ?_⟩
 refine callFn_of (ds := [⟨n13, 0, none⟩].map DV.addr) R_gate_Check_1 (addrs_ok _) rfl ?_
 show F_gate_Check_1 ⟨n13, 0, none⟩ _ _
 unfold F_gate_Check_1 G_gate_Check_1
 refine ⟨_, hs.ld (i := 5) (.s (.s (.s (.s (.s .z))))) rfl, _, rfl, ?_⟩
 refine sActive_sp hs ci.s.s.s.s.s.s cl'.s.s.s.s.s.s st.s.s.s.s.s.s ?_
 intro h1 hs
 refine ⟨_, _, rfl, _, rfl, rfl, ?_⟩
 rw [sActive_out ok]
 by_cases ho : C.out = true
 ·rw [if_pos ho] at hG ⊢
  rw [if_pos (by decide)]
  refine ret0 8 (zeros_len 32) hs (i := 2) (.s (.s .z)) ?_
  intro h2 hs
  exact k1 8 hG.symm (by decide) _ hs.drop.drop.drop.drop.drop.drop
 rw [if_neg ho] at hG ⊢
 rw [if_neg (by decide), w1]
 -- the image
 apply hJ31
 rw [ltI_eq, if_pos (by decide)]
 refine ⟨_, rfl, by decide, by decide, _, hs.ld (o := 1) (i := 0) .z (by rw [hFS]; rfl), rfl, ?_⟩
 refine callFn_of (ds := [⟨n19, 0, none⟩, ⟨n25, 0, none⟩].map DV.addr) R_gate_Check_2 (addrs_ok _) rfl ?_
 show F_gate_Check_2 ⟨n19, 0, none⟩ ⟨n25, 0, none⟩ _ _
 unfold F_gate_Check_2 G_gate_Check_2
 try simp only [add_mk, Nat.zero_add, List.append_nil]
 refine ⟨_, _, _, hs.ld (i := 3) (.s (.s (.s .z))) rfl, ?_⟩
 refine Parse_sp hs (fun h' hs' => rd _ hs'.drop.drop.drop.drop.drop.drop) hb hlc hl ?_ ?_
 ·intro e at_ w h2 hp he hs
  refine ⟨Sat.can hs (i := 2) (.s (.s .z)) (by simp [zeros]), ?_⟩
  intro h3 e3
  replace hs := Sat.wra (xs := imgL 0 0 0 (none, 0, 0) (zeros 32)) hs (i := 2) (.s (.s .z)) e3 rfl
  clear e3
  simp only [put_succ, put_zero] at hs
  refine ⟨rfl, ?_⟩
  rw [if_neg (nIF _ _)]
  intro n20 _ hn; replace hs := Sat.new hs hn; clear hn
  refine ⟨Sat.can hs (i := 0) .z (by simp), ?_⟩
  intro h4 e4
  replace hs := Sat.wra hs (i := 0) .z e4 rfl
  clear e4
  simp only [put_zero] at hs
  unfold F_errors_As
  refine Or.inl (Or.inr ⟨⟨w, 0, none⟩, n20, 0, e, rfl, rfl, hc_ext hs.ex hg (fun y => y), ⟨_, hs.ld (i := 0) .z rfl⟩, ?_, hs.ld (i := 1) (.s .z) rfl, ?_⟩)
  ·have := (Sat.can hs (i := 0) (o := 0) (n := 1) .z (by simp)) 0 (by decide)
   rw [add_zero] at this
   exact this.2
  intro b1 _ hn; replace hs := Sat.new hs hn; clear hn
  intro b2 _ hn; replace hs := Sat.new hs hn; clear hn
  intro b3 _ hn; replace hs := Sat.new hs hn; clear hn
  intro b4 _ hn; replace hs := Sat.new hs hn; clear hn
  intro h5 e5
  replace hs := Sat.wr hs (i := 4) (.s (.s (.s (.s .z)))) e5
  clear e5
  simp only [put_succ, put_zero] at hs
  replace hs := hs.drop.drop.drop.drop
  replace hs : Sat h0 (blk n20 [.int .i64 e] :: _) h5 := hs
  refine ⟨_, hs.ld (i := 0) .z rfl, ?_⟩
  refine ⟨_, _, rfl, _, rfl, rfl, ?_⟩
  rw [if_pos (by simpa using he)]
  replace hs := hs.drop.drop
  refine ret0 e (zeros_len 32) hs (i := 2) (.s (.s .z)) ?_
  intro h6 hs
  refine k1 e ?_ he _ hs.drop.drop.drop.drop.drop.drop
  rw [hp, if_pos he] at hG
  exact hG.symm
 intro own n h2 hp hnn hs
 obtain ⟨pl, p5, p6, pn⟩ := parse_ok hb hp hnn
 have htl : ((bs.drop (16 + n)).take 32).length = 32 := by rw [List.length_take, List.length_drop]; omega
 have htb : isBy ((bs.drop (16 + n)).take 32) := drop_bytes hb _ _
 refine ⟨Sat.can hs (i := 2) (.s (.s .z)) (by simp [zeros]), ?_⟩
 intro h3 e3
 replace hs := Sat.wra (xs := imgL (bs.getD 5 0) (bs.getD 6 0) (num4 bs 8) (subAddr own.1 16 (16 + n) 1, n, n) ((bs.drop (16 + n)).take 32)) hs (i := 2) (.s (.s .z)) e3 (by rw [img_len htl]; rfl)
 clear e3
 simp only [put_succ, put_zero] at hs
 refine ⟨rfl, ?_⟩
 rw [if_pos (by rfl)]
 refine ⟨_, _, rfl, _, rfl, rfl, ?_⟩
 rw [if_neg (by decide), w2]
 rw [hp, if_neg (by decide)] at hG
 -- the slot
 apply hJ31
 rw [ltI_eq, if_pos (by decide)]
 refine ⟨_, rfl, by decide, by decide, _, hs.ld (o := 2) (i := 1) (.s .z) (by rw [hFS]; rfl), rfl, ?_⟩
 refine callFn_of (ds := [⟨n13, 0, none⟩, ⟨n25, 0, none⟩].map DV.addr) R_gate_Check_3 (addrs_ok _) rfl ?_
 show F_gate_Check_3 ⟨n13, 0, none⟩ ⟨n25, 0, none⟩ _ _
 unfold F_gate_Check_3 G_gate_Check_3
 refine ⟨_, hs.ld (i := 6) (.s (.s (.s (.s (.s (.s .z)))))) rfl, _, hs.ld (i := 2) (.s (.s .z)) rfl, _, rfl, ?_⟩
 refine sRead_sp hs ci.s.s.s.s.s.s.s cl'.s.s.s.s.s.s.s st.s.s.s.s.s.s.s _ ?_
 intro h4 hs
 have er := sread_err ho p5.1
 by_cases gs : C.cfg.slots ≤ bs.getD 5 0
 ·rw [if_pos gs] at er hG
  rw [er, if_pos (by decide)]
  refine ⟨_, _, rfl, _, rfl, rfl, ?_⟩
  rw [if_pos (by decide)]
  refine ret0 5 (zeros_len 32) hs (i := 3) (.s (.s (.s .z))) ?_
  intro h6 hs
  exact k1 5 hG.symm (by decide) _ hs.drop.drop.drop.drop.drop.drop.drop
 rw [if_neg gs] at er hG
 rw [er, if_neg (by decide)]
 refine ⟨_, _, rfl, _, rfl, rfl, ?_⟩
 rw [if_neg (by decide), w3]
 -- the key
 apply hJ31
 rw [ltI_eq, if_pos (by decide)]
 refine ⟨_, rfl, by decide, by decide, _, hs.ld (o := 3) (i := 1) (.s .z) (by rw [hFS]; rfl), rfl, ?_⟩
 refine callFn_of (ds := [⟨n13, 0, none⟩, ⟨n25, 0, none⟩, ⟨n16, 0, none⟩].map DV.addr) R_gate_Check_4 (addrs_ok _) rfl ?_
 show F_gate_Check_4 ⟨n13, 0, none⟩ ⟨n25, 0, none⟩ ⟨n16, 0, none⟩ _ _
 unfold F_gate_Check_4 G_gate_Check_4
 try simp only [add_mk, Nat.zero_add]
 refine ⟨_, hs.ld (i := 6) (.s (.s (.s (.s (.s (.s .z)))))) rfl, _, hs.ld (i := 2) (.s (.s .z)) rfl, _, rfl, ?_⟩
 refine sRevoked_sp hs ci.s.s.s.s.s.s.s st.s.s.s.s.s.s.s _ ?_
 intro h5 hs
 refine ⟨_, hs.ld (i := 5) (.s (.s (.s (.s (.s .z))))) rfl, _, hs.ld (i := 2) (.s (.s .z)) rfl, _, rfl, ?_⟩
 refine hasN_sp _ hs cr.s.s.s.s.s.s.s cm.s.s.s.s.s.s.s ?_
 have ekv := at_kv R (bs.getD 6 0)
 cases ex : SR.at_ R (bs.getD 6 0) with
 | none =>
  rw [← ekv, ex] at hG
  rw [if_pos (by simp)]
  refine ⟨_, _, rfl, _, rfl, rfl, ?_⟩
  rw [if_pos (by decide)]
  refine ret0 13 (zeros_len 32) hs (i := 3) (.s (.s (.s .z))) ?_
  intro h6 hs
  exact k1 13 hG.symm (by decide) _ hs.drop.drop.drop.drop.drop.drop.drop
 | some x =>
 rw [← ekv, ex] at hG
 dsimp only [Option.map_some] at hG
 rw [if_neg (by simp)]
 have rv := revoked_err ho p6.1
 by_cases gk : C.cfg.keys ≤ bs.getD 6 0
 ·rw [if_pos gk] at rv hG
  rw [rv, if_pos (by decide)]
  refine ⟨_, _, rfl, _, rfl, rfl, ?_⟩
  rw [if_pos (by decide)]
  refine ret0 13 (zeros_len 32) hs (i := 3) (.s (.s (.s .z))) ?_
  intro h6 hs
  exact k1 13 hG.symm (by decide) _ hs.drop.drop.drop.drop.drop.drop.drop
 rw [if_neg gk] at rv hG
 rw [rv, if_neg (by decide)]
 by_cases gr : (revokedM C (bs.getD 6 0)).1 = true
 ·rw [if_pos gr] at hG ⊢
  refine ⟨_, _, rfl, _, rfl, rfl, ?_⟩
  rw [if_pos (by decide)]
  refine ret0 14 (zeros_len 32) hs (i := 3) (.s (.s (.s .z))) ?_
  intro h6 hs
  exact k1 14 hG.symm (by decide) _ hs.drop.drop.drop.drop.drop.drop.drop
 rw [if_neg gr] at hG ⊢
 refine ⟨_, _, rfl, _, rfl, rfl, ?_⟩
 rw [if_neg (by decide), w4]
 -- the tag
 apply hJ31
 rw [ltI_eq, if_pos (by decide)]
 refine ⟨_, rfl, by decide, by decide, _, hs.ld (o := 4) (i := 1) (.s .z) (by rw [hFS]; rfl), rfl, ?_⟩
 refine callFn_of (ds := [⟨n16, 0, none⟩, ⟨n25, 0, none⟩, ⟨n19, 0, none⟩].map DV.addr) R_gate_Check_5 (addrs_ok _) rfl ?_
 show F_gate_Check_5 ⟨n16, 0, none⟩ ⟨n25, 0, none⟩ ⟨n19, 0, none⟩ _ _
 unfold F_gate_Check_5 G_gate_Check_5
 try simp only [add_mk, Nat.zero_add, List.append_nil]
 refine ⟨_, hs.ld (i := 5) (.s (.s (.s (.s (.s .z))))) rfl, _, hs.ld (i := 2) (.s (.s .z)) rfl, _, _, _, hs.ld (i := 4) (.s (.s (.s (.s .z)))) rfl, _, htl, img_row hs (.s (.s .z)) htl, ?_⟩
 refine ibody_sp hs (rd _ hs.drop.drop.drop.drop.drop.drop.drop) (by omega) hlc (by omega) ?_
 intro p' c' h6 hc' hs
 refine ⟨Sat.cs hs (i := 3) (.s (.s (.s .z))) (by show (List.drop 4 (imgL _ _ _ _ _)).take _ = _; rw [List.take_of_length_le (by simp [htl])]; rfl), Sat.cs hs (i := 3) (.s (.s (.s .z))) rfl, Sat.cs hs (i := 6) (.s (.s (.s (.s (.s (.s .z)))))) rfl, _, rfl, ?_⟩
 refine kcheck_sp (bb := bs.take (l - 32)) hs cr.s.s.s.s.s.s.s.s cm.s.s.s.s.s.s.s.s gd (fun y hy h' hs' => rR y hy _ hs'.drop.drop.drop.drop.drop.drop.drop.drop) ex htl htb hc' (by omega) (fun h' hs' => hs'.sv (i := 0) .z) ?_
 intro h7 hs
 replace hs := hs.drop
 have et : (bs.drop (bs.length - 32)).take 32 = (bs.drop (16 + n)).take 32 := by rw [show bs.length - 32 = 16 + n by omega]
 rw [hbl] at hG et
 rw [et] at hG
 by_cases gt : macM x.bytes (bs.take (l - 32)) = (bs.drop (16 + n)).take 32
 case neg =>
  rw [if_pos gt] at hG
  rw [if_pos (by simp [gt])]
  refine ⟨_, _, rfl, _, rfl, rfl, ?_⟩
  rw [if_pos (by decide)]
  refine ret0 15 (zeros_len 32) hs (i := 3) (.s (.s (.s .z))) ?_
  intro h6 hs
  exact k1 15 hG.symm (by decide) _ hs.drop.drop.drop.drop.drop.drop.drop
 rw [if_neg (by simpa using gt)] at hG
 rw [if_neg (by simp [gt]), if_neg (by decide)]
 refine ⟨_, _, rfl, _, rfl, rfl, ?_⟩
 rw [if_neg (by decide), w5]
 -- the version
 apply hJ31
 rw [ltI_eq, if_pos (by decide)]
 refine ⟨_, rfl, by decide, by decide, _, hs.ld (o := 5) (i := 1) (.s .z) (by rw [hFS]; rfl), rfl, ?_⟩
 refine callFn_of (ds := [⟨n13, 0, none⟩, ⟨n25, 0, none⟩].map DV.addr) R_gate_Check_6 (addrs_ok _) rfl ?_
 show F_gate_Check_6 ⟨n13, 0, none⟩ ⟨n25, 0, none⟩ _ _
 unfold F_gate_Check_6 G_gate_Check_6
 try simp only [add_mk, Nat.zero_add]
 refine ⟨_, hs.ld (i := 6) (.s (.s (.s (.s (.s (.s .z)))))) rfl, _, hs.ld (i := 2) (.s (.s .z)) rfl, _, rfl, ?_⟩
 refine sRead_sp hs ci.s.s.s.s.s.s.s cl'.s.s.s.s.s.s.s st.s.s.s.s.s.s.s _ ?_
 intro h8 hs
 rw [er, if_neg (by decide)]
 refine ⟨_, hs.ld (i := 2) (.s (.s .z)) rfl, ?_⟩
 rw [ltI_eq]
 by_cases gv : num4 bs 8 < (sRead C (bs.getD 5 0)).1
 ·rw [if_pos gv] at hG
  rw [if_pos (by simpa using gv)]
  refine ⟨_, _, rfl, _, rfl, rfl, ?_⟩
  rw [if_pos (by decide)]
  refine ret0 16 (zeros_len 32) hs (i := 3) (.s (.s (.s .z))) ?_
  intro h6 hs
  exact k1 16 hG.symm (by decide) _ hs.drop.drop.drop.drop.drop.drop.drop
 rw [if_neg gv] at hG
 rw [if_neg (by simpa using gv)]
 refine ⟨_, hs.ld (i := 2) (.s (.s .z)) rfl, _, hs.ld (i := 6) (.s (.s (.s (.s (.s (.s .z)))))) rfl, _, rfl, ?_⟩
 refine sLast_sp hs ci.s.s.s.s.s.s.s st.s.s.s.s.s.s.s ?_
 intro h9 hs
 refine ⟨Sat.cs hs (i := 2) (.s (.s .z)) rfl, ?_⟩
 rw [ltI_eq]
 by_cases gl : lastM C.cfg < num4 bs 8
 ·rw [if_pos gl] at hG
  rw [if_pos (by simpa using gl)]
  refine ⟨_, _, rfl, _, rfl, rfl, ?_⟩
  rw [if_pos (by decide)]
  refine ret0 16 (zeros_len 32) hs (i := 3) (.s (.s (.s .z))) ?_
  intro h6 hs
  exact k1 16 hG.symm (by decide) _ hs.drop.drop.drop.drop.drop.drop.drop
 rw [if_neg gl] at hG
 rw [if_neg (by simpa using gl)]
 refine ⟨_, _, rfl, _, rfl, rfl, ?_⟩
 rw [if_neg (by decide), w6]
 apply hJ31
 rw [ltI_eq, if_neg (by decide)]
 refine ⟨_, hs.ld (i := 2) (.s (.s .z)) rfl, _, hs.ld (i := 2) (.s (.s .z)) rfl, _, hs.ld (i := 2) (.s (.s .z)) rfl, _, _, _, hs.ld (i := 2) (.s (.s .z)) rfl, _, htl, img_row hs (.s (.s .z)) htl, ?_⟩
 refine ⟨Sat.can hs (i := 3) (.s (.s (.s .z))) (by simp [zeros]), ?_⟩
 intro h10 e10
 replace hs := Sat.wra (xs := imgL (bs.getD 5 0) (bs.getD 6 0) (num4 bs 8) (subAddr own.1 16 (16 + n) 1, n, n) ((bs.drop (16 + n)).take 32)) hs (i := 3) (.s (.s (.s .z))) e10 (by rw [img_len htl]; rfl)
 clear e10
 simp only [put_succ, put_zero] at hs
 refine ⟨_, hs.ld (i := 3) (.s (.s (.s .z))) rfl, _, hs.ld (i := 3) (.s (.s (.s .z))) rfl, _, hs.ld (i := 3) (.s (.s (.s .z))) rfl, _, _, _, hs.ld (i := 3) (.s (.s (.s .z))) rfl, _, htl, img_row hs (.s (.s (.s .z))) htl, ?_⟩
 exact k2 own n hG hp hnn pl _ (hs.sub (by
  refine List.Sublist.cons_cons _ ?_
  exact (((((List.sublist_cons_self _ _).trans (List.sublist_cons_self _ _)).trans (List.sublist_cons_self _ _)).trans (List.sublist_cons_self _ _)).trans (List.sublist_cons_self _ _)).trans (List.sublist_cons_self _ _)))
end
end Go.Proofs.YteedolonhdbieaaGreatDoor
end

/- Images: taken apart by the document. Own work. -/
section
set_option maxRecDepth 100000
set_option linter.unusedVariables false
namespace Go.Proofs.YteedolonhdbieaaGreatDoor
open Go Go.Vc

def tagTo (t : List Int) (n : Nat) : List Int := tab 32 fun x => if x < n then t.getD x 0 else 0
theorem tagTo_len (t : List Int) (n : Nat) : (tagTo t n).length = 32 := by simp [tagTo]
theorem tagTo_zero (t : List Int) : tagTo t 0 = zeros 32 := by
 unfold tagTo
 simp only [Nat.not_lt_zero, if_false]; rfl
theorem tagTo_all {t : List Int} (ht : t.length = 32) : tagTo t 32 = t := by
 refine ext_getD ((tagTo_len t 32).trans ht.symm) fun x hx => ?_
 rw [tagTo_len] at hx
 unfold tagTo
 rw [tab_getD _ hx, if_pos hx]
theorem tagTo_set (t : List Int) {n : Nat} (hn : n < 32) : (tagTo t n).set n (t.getD n 0) = tagTo t (n + 1) := by
 refine ext_getD (by simp [tagTo_len]) fun x hx => ?_
 rw [List.length_set, tagTo_len] at hx
 rw [set_getD]
 unfold tagTo
 rw [tab_getD _ hx, tab_getD _ hx]
 by_cases c : n = x
 ·subst c; rw [if_pos ⟨rfl, by simp; omega⟩, if_pos (by omega)]
 ·rw [if_neg (fun y => c y.1)]
  by_cases d : x < n
  ·rw [if_pos d, if_pos (by omega)]
  ·rw [if_neg d, if_neg (by omega)]
section
variable {h0 h : H} {A : List Ent} {i j p r b : Nat}
theorem img_s1 {a b' v w : Int} {x : Sl} {t : List Int} {n : Nat} (hn : n < t.length) : splice (imgL a b' v x t) (4 + n) [.int .u8 w] = imgL a b' v x (t.set n w) := by
 show (imgL a b' v x t).set (4 + n) (.int .u8 w) = _
 rw [show 4 + n = n + 1 + 1 + 1 + 1 by omega]
 simp only [imgL, List.set_cons_succ, ints_set]
theorem rParse_sp {Q : Int → Int → Int → Option Addr → Nat → Nat → List Int → Int → Int → H → Prop} {q : Option Addr} {l c : Nat} {bs : List Int} (hs : Sat h0 A h) (rd : ∀ h', Sat h0 A h' → hsv h' q 1 l (ints .u8 bs)) (hb : bytesOk bs) (hlc : l ≤ c) (hl : l < 2 ^ 50)
  (k1 : ∀ e at_ h', parseW bs = (e, at_) → e ≠ 0 → Sat h0 A h' → Q 0 0 0 none 0 0 (zeros 32) e at_ h')
  (k2 : ∀ (own : Sl) (n : Nat) h', parseW bs = (0, 0) → num4 bs 12 = n → own.2.1 = n → Sat h0 (sE own 1 (ints .u8 ((bs.drop 16).take n)) :: A) h' → Q (bs.getD 5 0) (bs.getD 6 0) (num4 bs 8) own.1 own.2.1 own.2.2 ((bs.drop (16 + n)).take 32) 0 0 h') :
  F_portcullisref11_Parse q l c Q h := by
 unfold F_portcullisref11_Parse G_portcullisref11_Parse
 try simp only [add_mk, Nat.zero_add, List.append_nil]
 have hbl : bs.length = l := by have := (rd _ hs).1; simpa using this
 intro n7 _ hn; replace hs := Sat.new hs hn; clear hn
 intro n10 _ hn; replace hs := Sat.new hs hn; clear hn
 replace hs : Sat h0 (blk n10 [.int .i64 0, .int .i64 0] :: blk n7 (imgL 0 0 0 (none, 0, 0) (zeros 32)) :: A) _ := hs
 have bad : ∀ e at_ h', parseW bs = (e, at_) → e ≠ 0 → Sat h0 (blk n10 [.int .i64 0, .int .i64 0] :: blk n7 (imgL 0 0 0 (none, 0, 0) (zeros 32)) :: A) h' → hcan h' ⟨n7, 0, none⟩ 36 ∧ ∀ h13, h13 = hwr h' ⟨n7, 0, none⟩ (imgL 0 0 0 (none, 0, 0) (zeros 32)) → hcan h13 ⟨n10, 0, none⟩ 2 ∧ ∀ h15, h15 = hwr h13 ⟨n10, 0, none⟩ [.int .i64 e, .int .i64 at_] →
   ∃ i15 : Int, hc h15 ⟨n7, 0, none⟩ = some (.int .i64 i15) ∧ ∃ i16 : Int, hc h15 ⟨n7, 1, none⟩ = some (.int .i64 i16) ∧ ∃ i17 : Int, hc h15 ⟨n7, 2, none⟩ = some (.int .i64 i17) ∧ ∃ (o18 : Option Addr) (n19 n20 : Nat), hc h15 ⟨n7, 3, none⟩ = some (.slice o18 n19 n20) ∧
    ∃ l21 : List Int, l21.length = 32 ∧ hrow h15 ⟨n7, 4, none⟩ .u8 l21 ∧ ∃ i24 : Int, hc h15 ⟨n10, 0, none⟩ = some (.int .i64 i24) ∧ ∃ i25 : Int, hc h15 ⟨n10, 1, none⟩ = some (.int .i64 i25) ∧ Q i15 i16 i17 o18 n19 n20 l21 i24 i25 h15 := by
  intro e at_ h' hw he hs
  refine ⟨Sat.can hs (i := 1) (.s .z) (by decide), ?_⟩
  intro h13 e13
  replace hs := Sat.wra hs (i := 1) (.s .z) e13 rfl
  simp only [put] at hs
  refine ⟨Sat.can hs (i := 0) .z (by decide), ?_⟩
  intro h15 e15
  replace hs := Sat.wra hs (i := 0) .z e15 rfl
  simp only [put] at hs
  refine ⟨_, Sat.ld hs (i := 1) (.s .z) rfl, _, Sat.ld hs (i := 1) (.s .z) rfl, _, Sat.ld hs (i := 1) (.s .z) rfl, _, _, _, Sat.ld hs (i := 1) (.s .z) rfl, _, rfl, img_row hs (.s .z) rfl, _, Sat.ld hs (i := 0) .z rfl, _, Sat.ld hs (i := 0) .z rfl, ?_⟩
  exact k1 e at_ _ hw he hs.drop.drop
 by_cases g1 : 524288 < l
 ·rw [ltI_eq, if_pos (by simp; omega)]
  exact bad _ _ _ (by unfold parseW; rw [if_pos (by omega)]) (by decide) hs
 rw [ltI_eq, if_neg (by simp; omega)]
 have hP : parseW bs = match headW bs 16 0 with
  | some w => w
  | none => if 524240 < num4 bs 12 then (5, 12) else if (bs.length : Int) < 48 + num4 bs 12 then (6, bs.length) else if 48 + num4 bs 12 < bs.length then (7, 48 + num4 bs 12) else (0, 0) := by
  unfold parseW; rw [if_neg (by omega)]; try rfl
 clear k1
 generalize hW : headW bs 16 0 = W at hP
 intro J hJ
 refine loop_up 16 (fun x h => Sat h0 (blk n10 [.int .i64 0, .int .i64 0] :: blk n7 (imgL 0 0 0 (none, 0, 0) (zeros 32)) :: A) h ∧ W = headW bs (16 - x) x ∧ x ≤ l) ?_ ?_ 0 _ (by omega) ⟨hs, hW.symm, by omega⟩
 ·rintro x h1 hx ⟨hs, hh, hxl⟩ hk
  apply hJ
  rw [ltI_eq, if_pos (by simp; omega)]
  obtain ⟨m, hm⟩ : ∃ m, 16 - x = m + 1 := ⟨16 - x - 1, by omega⟩
  rw [hm] at hh
  unfold headW at hh
  by_cases g2 : x = l
  ·rw [if_pos (show x = bs.length by omega)] at hh
   rw [if_pos (by simp; omega)]
   exact bad 6 x _ (by rw [hP, hh]) (by decide) hs
  rw [if_neg (show ¬ x = bs.length by omega)] at hh
  rw [if_neg (by simp; omega)]
  obtain ⟨q', hq, g⟩ := hsv_int (rd _ hs.drop.drop) (x := x) (by omega)
  refine ⟨_, hq, by omega, by omega, _, by rw [Int.toNat_natCast, Nat.mul_one]; exact g, ?_⟩
  refine rmust_sp x _ ?_
  by_cases g3 : mayB x (bs.getD x 0) = true
  ·rw [if_pos g3] at hh
   rw [if_neg (by rw [g3]; decide), wrap_succ (by omega)]
   exact hk _ ⟨hs, by rw [hh, show 16 - (x + 1) = m by omega], by omega⟩
  ·rw [if_neg g3] at hh
   rw [if_pos (by rw [Bool.not_eq_true] at g3; rw [g3]; rfl)]
   exact bad 5 x _ (by rw [hP, hh]) (by decide) hs
 rintro h1 ⟨hs, hh, hxl⟩
 apply hJ
 rw [ltI_eq, if_neg (by simp)]
 clear hJ J
 have hh : W = none := hh
 rw [hh] at hP
 dsimp only at hP
 refine ⟨by omega, by omega, ?_⟩
 have rd12 := sub_rd (o := 12) (n := l - 12) (m := c) (rd _ hs.drop.drop) (by omega) (by omega)
 refine rnumber_sp rd12 (drop_bytes hb _ _) (by omega) ?_
 rw [num4_drop _ _ _ (by omega)]
 obtain ⟨r1, r2⟩ := num4_range hb 12
 obtain ⟨n, hnn⟩ := Int.eq_ofNat_of_zero_le r1
 rw [hnn] at hP r2 ⊢
 by_cases g2 : 524240 < n
 ·rw [if_pos (by omega)] at hP
  rw [ltI_eq, if_pos (by simp; omega)]
  exact bad 5 12 _ hP (by decide) hs
 rw [if_neg (by omega)] at hP
 rw [ltI_eq, if_neg (by simp; omega)]
 have ew : IntKind.i64.wrap ((n : Int) + 16) = ((16 + n : Nat) : Int) := by rw [wrap_id (by omega)]; omega
 have ew2 : IntKind.i64.wrap (((16 + n : Nat) : Int) + 32) = ((48 + n : Nat) : Int) := by rw [wrap_id (by omega)]; omega
 have ew3 : IntKind.i64.wrap (((48 + n : Nat) : Int) - 32) = ((16 + n : Nat) : Int) := by rw [wrap_id (by omega)]; omega
 rw [ew, ew2, ew3]
 by_cases g3 : l < 48 + n
 ·rw [if_pos (by omega), hbl] at hP
  rw [ltI_eq, if_pos (by simp; omega)]
  exact bad 6 l _ hP (by decide) hs
 rw [if_neg (by omega)] at hP
 rw [ltI_eq, if_neg (by simp; omega)]
 by_cases g4 : 48 + n < l
 ·rw [if_pos (by omega)] at hP
  rw [ltI_eq, if_pos (by simp; omega)]
  exact bad 7 _ _ (by rw [hP]; congr 1) (by decide) hs
 rw [if_neg (by omega)] at hP
 rw [ltI_eq, if_neg (by simp; omega)]
 have hw := hP
 clear bad hP
 have hl48 : l = 48 + n := by omega
 intro J100 hJ100
 have ht32 : ((bs.drop (16 + n)).take 32).length = 32 := by rw [List.length_take, List.length_drop]; omega
 have way : ∀ (nb : Nat) h', Sat h0 (blk nb (imgL (bs.getD 5 0) (bs.getD 6 0) (num4 bs 8) (none, 0, 0) (zeros 32)) :: blk n10 [.int .i64 0, .int .i64 0] :: blk n7 (imgL 0 0 0 (none, 0, 0) (zeros 32)) :: A) h' → J100 [.dv (.addr ⟨nb, 0, none⟩)] h' := by
  intro nb h2 hs
  apply hJ100
  clear hJ100 J100
  try simp only [add_mk, Nat.zero_add]
  intro n103 _ hn; replace hs := Sat.new hs hn; clear hn
  rw [Int.toNat_natCast, Nat.add_sub_cancel_left]
  refine ⟨by omega, by omega, by omega, _, sub_rd (o := 16) (n := n) (rd _ hs.drop.drop.drop.drop) (by omega) (by omega), ?_⟩
  refine Sat.app_new hs (by simp; omega) rfl (ints_one _ _) (by omega) ?_
  intro o c2 h3 hs
  obtain ⟨own, hown⟩ : ∃ own : Sl, own = (o, n, c2) := ⟨_, rfl⟩
  replace hs : Sat h0 (sE own 1 (ints .u8 ((bs.drop 16).take n)) :: blk n103 [] :: blk nb (imgL (bs.getD 5 0) (bs.getD 6 0) (num4 bs 8) (none, 0, 0) (zeros 32)) :: blk n10 [.int .i64 0, .int .i64 0] :: blk n7 (imgL 0 0 0 (none, 0, 0) (zeros 32)) :: A) h3 := by rw [hown]; exact hs
  have eo1 : o = own.1 := by rw [hown]
  have eo2 : n = own.2.1 := by rw [hown]
  have eo3 : c2 = own.2.2 := by rw [hown]
  refine ⟨Sat.can hs (i := 2) (.s (.s .z)) (by rw [img_len rfl]; decide), ?_⟩
  intro h4 e4
  replace hs := Sat.wr hs (i := 2) (.s (.s .z)) (o := 3) e4
  clear e4
  simp only [put] at hs
  have e5 : splice (imgL (bs.getD 5 0) (bs.getD 6 0) (num4 bs 8) (none, 0, 0) (zeros 32)) 3 [.slice o n c2] = imgL (bs.getD 5 0) (bs.getD 6 0) (num4 bs 8) own (tagTo ((bs.drop (16 + n)).take 32) 0) := by rw [tagTo_zero, hown]; rfl
  rw [e5] at hs
  clear e5
  intro J113 hJ113
  refine loop_up 32 (fun x h => Sat h0 (sE own 1 (ints .u8 ((bs.drop 16).take n)) :: blk n103 [] :: blk nb (imgL (bs.getD 5 0) (bs.getD 6 0) (num4 bs 8) own (tagTo ((bs.drop (16 + n)).take 32) x)) :: blk n10 [.int .i64 0, .int .i64 0] :: blk n7 (imgL 0 0 0 (none, 0, 0) (zeros 32)) :: A) h) ?_ ?_ 0 _ (by omega) hs
  ·intro x h5 hx hs hk
   apply hJ113
   rw [ltI_eq, if_pos (by simp; omega)]
   have e6 : IntKind.i64.wrap (((16 + n : Nat) : Int) + (x : Int)) = ((16 + n + x : Nat) : Int) := by rw [wrap_id (by omega)]; omega
   rw [e6]
   obtain ⟨q', hq, g⟩ := hsv_int (rd _ hs.drop.drop.drop.drop.drop) (x := 16 + n + x) (by omega)
   refine ⟨_, hq, by omega, by omega, _, by rw [Int.toNat_natCast, Nat.mul_one]; exact g, by omega, by omega, ?_⟩
   rw [Int.toNat_natCast, Nat.mul_one]
   refine ⟨Sat.can hs (i := 2) (.s (.s .z)) (by rw [img_len (tagTo_len _ _)]; simp; omega), ?_⟩
   intro h6 e6
   replace hs := Sat.wr hs (i := 2) (.s (.s .z)) (o := 4 + x) e6
   clear e6
   rw [img_s1 (by rw [tagTo_len]; exact hx)] at hs
   have e7 : bs.getD (16 + n + x) 0 = ((bs.drop (16 + n)).take 32).getD x 0 := (drop_getD bs (16 + n) 32 x hx).symm
   rw [e7, tagTo_set _ hx] at hs
   rw [wrap_succ (by omega)]
   exact hk _ hs
  ·intro h5 hs
   rw [tagTo_all ht32] at hs
   apply hJ113
   rw [ltI_eq, if_neg (by simp)]
   refine ⟨_, Sat.ld hs (i := 2) (.s (.s .z)) rfl, _, Sat.ld hs (i := 2) (.s (.s .z)) rfl, _, Sat.ld hs (i := 2) (.s (.s .z)) rfl, _, _, _, Sat.ld hs (i := 2) (.s (.s .z)) rfl, _, ht32, img_row hs (.s (.s .z)) ht32, Sat.can hs (i := 4) (.s (.s (.s (.s .z)))) (by decide), ?_⟩
   intro h6 e6
   replace hs := Sat.wra hs (i := 4) (.s (.s (.s (.s .z)))) e6 (by rw [img_len ht32]; rfl)
   clear e6
   simp only [put] at hs
   refine ⟨Sat.can hs (i := 3) (.s (.s (.s .z))) (by decide), ?_⟩
   intro h7 e7
   replace hs := Sat.wra hs (i := 3) (.s (.s (.s .z))) e7 (by rfl)
   clear e7
   simp only [put] at hs
   replace hs : Sat h0 (sE own 1 (ints .u8 ((bs.drop 16).take n)) :: blk n103 [] :: blk nb (imgL (bs.getD 5 0) (bs.getD 6 0) (num4 bs 8) own ((bs.drop (16 + n)).take 32)) :: blk n10 [.int .i64 0, .int .i64 0] :: blk n7 (imgL (bs.getD 5 0) (bs.getD 6 0) (num4 bs 8) own ((bs.drop (16 + n)).take 32)) :: A) h7 := hs
   refine ⟨_, Sat.ld hs (i := 4) (.s (.s (.s (.s .z)))) rfl, _, Sat.ld hs (i := 4) (.s (.s (.s (.s .z)))) rfl, _, Sat.ld hs (i := 4) (.s (.s (.s (.s .z)))) rfl, _, _, _, Sat.ld hs (i := 4) (.s (.s (.s (.s .z)))) rfl, _, ht32, img_row hs (.s (.s (.s (.s .z)))) ht32, _, Sat.ld hs (i := 3) (.s (.s (.s .z))) rfl, _, Sat.ld hs (i := 3) (.s (.s (.s .z))) rfl, ?_⟩
   exact k2 own n _ hw hnn eo2.symm (hs.sub (by (repeat (first | exact List.Sublist.refl _ | apply List.Sublist.cons_cons | apply List.Sublist.cons))))
 obtain ⟨q', hq, g5⟩ := hsv_int (rd _ hs.drop.drop) (x := 5) (by omega)
 obtain ⟨q2, hq2, g6⟩ := hsv_int (rd _ hs.drop.drop) (x := 6) (by omega)
 rw [hq] at hq2
 injection hq2 with hq2
 subst hq2
 have c5 : ∀ h', Sat h0 A h' → hcs h' (q'.add 5) [.int .u8 (bs.getD 5 0)] := fun h' hs' => by
  obtain ⟨q2, hq2, g⟩ := hsv_int (rd _ hs') (x := 5) (by omega)
  rw [hq] at hq2; injection hq2 with hq2; subst hq2; exact hcs_one g
 have c6 : ∀ h', Sat h0 A h' → hcs h' (q'.add 6) [.int .u8 (bs.getD 6 0)] := fun h' hs' => by
  obtain ⟨q2, hq2, g⟩ := hsv_int (rd _ hs') (x := 6) (by omega)
  rw [hq] at hq2; injection hq2 with hq2; subst hq2; exact hcs_one g
 have b5 := byte_getD hb 5
 have b6 := byte_getD hb 6
 unfold isByte at b5 b6
 have w5 : IntKind.i64.wrap (bs.getD 5 0) = bs.getD 5 0 := by rw [IntKind.wrap_i64]; omega
 have w6 : IntKind.i64.wrap (bs.getD 6 0) = bs.getD 6 0 := by rw [IntKind.wrap_i64]; omega
 have rd8 : ∀ h', Sat h0 A h' → hsv h' (subAddr q 8 c 1) 1 (l - 8) (ints .u8 ((bs.drop 8).take (l - 8))) := fun h' hs' => sub_rd (o := 8) (n := l - 8) (m := c) (rd _ hs') (by omega) (by omega)
 refine ⟨_, hq, by omega, by omega, _, g5, _, hq, by omega, by omega, _, g6, by omega, by omega, ?_⟩
 rw [w5, w6]
 constructor
 ·refine rnumber_sp (rd8 _ hs.drop.drop) (drop_bytes hb _ _) (by omega) ?_
  rw [num4_drop _ _ _ (by omega)]
  refine ⟨c6 _ hs.drop.drop, c5 _ hs.drop.drop, ?_⟩
  intro nb _ hn; replace hs := Sat.new hs hn; clear hn
  refine ⟨c6 _ hs.drop.drop.drop, c5 _ hs.drop.drop.drop, ?_⟩
  refine ⟨Sat.can hs (i := 0) .z (by decide), ?_⟩
  intro h4 e4
  replace hs := Sat.wra hs (i := 0) .z e4 (by rfl)
  exact way nb _ hs
 ·intro nb _ hn; replace hs := Sat.new hs hn; clear hn
  refine ⟨c6 _ hs.drop.drop.drop, c5 _ hs.drop.drop.drop, ?_⟩
  refine rnumber_sp (rd8 _ hs.drop.drop.drop) (drop_bytes hb _ _) (by omega) ?_
  rw [num4_drop _ _ _ (by omega)]
  refine ⟨c6 _ hs.drop.drop.drop, c5 _ hs.drop.drop.drop, ?_⟩
  refine ⟨Sat.can hs (i := 0) .z (by decide), ?_⟩
  intro h4 e4
  replace hs := Sat.wra hs (i := 0) .z e4 (by rfl)
  exact way nb _ hs
end
end Go.Proofs.YteedolonhdbieaaGreatDoor
end

/- Images, the document: what their tag covers, bytes; whether they may be. Own work. -/
section
set_option maxRecDepth 100000
set_option linter.unusedVariables false
namespace Go.Proofs.YteedolonhdbieaaGreatDoor
open Go Go.Vc
attribute [local irreducible] macM

def fourL (v : Int) (t : Nat) : List Int := (List.range t).map fun j => IntKind.u8.wrap (v.fdiv (2 ^ (8 * j)))
theorem fourL_len (v : Int) (t : Nat) : (fourL v t).length = t := by simp [fourL]
theorem fourL_succ (v : Int) (t : Nat) : fourL v (t + 1) = fourL v t ++ [IntKind.u8.wrap (v.fdiv (2 ^ (8 * t)))] := by
 unfold fourL; rw [List.range_succ, List.map_append]; rfl
def coverM (slot key ver : Int) (pay : List Int) : List Int := [80, 67, 85, 76, 1, IntKind.u8.wrap slot, IntKind.u8.wrap key, 0] ++ fourL ver 4 ++ fourL (pay.length : Int) 4 ++ pay
theorem coverM_len (slot key ver : Int) (pay : List Int) : (coverM slot key ver pay).length = 16 + pay.length := by
 unfold coverM
 rw [List.length_append, List.length_append, List.length_append, fourL_len, fourL_len]; rfl
def may11 (slot key ver : Int) (n : Nat) : Int :=
 if slot < 0 ∨ 7 < slot ∨ key < 0 ∨ 63 < key ∨ ver < 0 ∨ 4294967295 < ver then 2 else if 524240 < n then 4 else 0
section
variable {h0 h : H} {A : List Ent} {i j p r b s m : Nat} {C : Cm}
theorem rfour_sp {Q : Option Addr → Nat → Nat → H → Prop} {q : Option Addr} {l c : Nat} {xs : List Int} (v : Int) (hs : Sat h0 (slE q l c 1 (ints .u8 xs) :: A) h) (hl : l < 2 ^ 45)
  (k : ∀ p' c' h', Sat h0 (slE p' (l + 4) c' 1 (ints .u8 (xs ++ fourL v 4)) :: A) h' → Q p' (l + 4) c' h') : F_portcullisref11_four q l c v Q h := by
 unfold F_portcullisref11_four G_portcullisref11_four
 intro J hJ
 refine loopS 4 (fun t (s : Option Addr × Nat) => [.dv (.one (.slice s.1 (l + t) s.2)), si t]) (fun t s h => Sat h0 (slE s.1 (l + t) s.2 1 (ints .u8 (xs ++ fourL v t)) :: A) h) ?_ ?_ 0 (q, c) _ (by omega) (by simpa [fourL] using hs)
 ·clear hs
  rintro t ⟨p2, c2⟩ h2 ht hs hk
  dsimp only at hs hk ⊢
  apply hJ
  rw [ltI_eq, if_pos (by rw [decide_eq_true_iff]; omega)]
  have e : IntKind.i64.wrap (8 * (t : Int)) = ((8 * t : Nat) : Int) := by rw [wrap_id (by omega)]; push_cast; rfl
  rw [e]
  refine ⟨by omega, ?_⟩
  rw [Int.toNat_natCast, show min (8 * t) 64 = 8 * t by omega]
  intro nb _ hn; replace hs := Sat.new hs hn; clear hn
  refine ⟨_, hs.bv (i := 0) (l := 1) .z rfl (ints_one .u8 [_]), ?_⟩
  refine Sat.app hs (i := 1) (vs := ints .u8 [_]) (.s .z) rfl rfl (ints_one .u8 [_]) (by omega) ?_
  intro p3 c3 h3 hs
  simp only [put_succ, put_zero] at hs
  rw [wrap_succ (by omega)]
  refine hk (p3, c3) h3 ?_
  dsimp only
  rw [fourL_succ, ← List.append_assoc, ints_app .u8 _ [_]]
  exact hs.drop
 ·clear hs
  rintro ⟨p2, c2⟩ h2 hs
  dsimp only at hs ⊢
  apply hJ
  rw [ltI_eq, if_neg (by decide)]
  exact k _ _ _ hs
theorem rcover_sp {Q : Option Addr → Nat → Nat → H → Prop} {slot key ver : Int} {pay tag : List Int} {pp : Option Addr} {pl pc : Nat} (hs : Sat h0 A h) (hp : pl < 2 ^ 44) (rd : ∀ h', Sat h0 A h' → hsv h' pp 1 pl (ints .u8 pay))
  (k : ∀ p' c' h', Sat h0 (slE p' (16 + pl) c' 1 (ints .u8 (coverM slot key ver pay)) :: A) h' → Q p' (16 + pl) c' h') : F_portcullisref11_Cover slot key ver pp pl pc tag Q h := by
 unfold F_portcullisref11_Cover G_portcullisref11_Cover
 try simp only [add_mk, Nat.zero_add, List.append_nil]
 have hpl : pay.length = pl := by have := (rd _ hs).1; simpa using this
 intro n10 _ hn; replace hs := Sat.new hs hn; clear hn
 replace hs : Sat h0 (blk n10 (imgL slot key ver (pp, pl, pc) tag) :: A) _ := hs
 refine ⟨_, hs.ld (i := 0) .z rfl, _, hs.ld (i := 0) .z rfl, ?_⟩
 intro n15 _ hn; replace hs := Sat.new hs hn; clear hn
 refine ⟨_, hs.ld (i := 1) (.s .z) rfl, ?_⟩
 replace hs := hs.as_sl (i := 0) (l := 8) (sz := 1) .z rfl (ints_one .u8 [80, 67, 85, 76, 1, IntKind.u8.wrap slot, IntKind.u8.wrap key, 0])
 simp only [put_zero] at hs
 refine rfour_sp (xs := [80, 67, 85, 76, 1, IntKind.u8.wrap slot, IntKind.u8.wrap key, 0]) ver hs (by decide) ?_
 intro p2 c2 h2 hs
 refine ⟨_, _, _, hs.ld (i := 1) (.s .z) rfl, ?_⟩
 refine rfour_sp (pl : Int) hs (by decide) ?_
 intro p3 c3 h3 hs
 refine ⟨_, _, _, hs.ld (i := 1) (.s .z) rfl, _, rd _ hs.drop.drop, ?_⟩
 refine Sat.app hs (i := 0) (vs := ints .u8 pay) .z (by simp [hpl]) rfl (ints_one _ _) (by dsimp only; omega) ?_
 intro p4 c4 h4 hs
 simp only [put_zero] at hs
 have e : ints .u8 ([80, 67, 85, 76, 1, IntKind.u8.wrap slot, IntKind.u8.wrap key, 0] ++ fourL ver 4 ++ fourL (pl : Int) 4) ++ ints .u8 pay = ints .u8 (coverM slot key ver pay) := by
  unfold coverM; rw [hpl, ← ints_app]
 rw [e] at hs
 have K := k p4 c4 h4
 rw [show 16 + pl = 8 + 4 + 4 + pl by omega] at K
 exact K (hs.sub (by (repeat (first | exact List.Sublist.refl _ | apply List.Sublist.cons_cons | apply List.Sublist.cons))))
theorem rtagged_sp {Q : Option Addr → Nat → Nat → H → Prop} {slot key ver : Int} {pay tag : List Int} {pp : Option Addr} {pl pc : Nat} (hs : Sat h0 A h) (ht : tag.length = 32) (hp : pl < 2 ^ 44) (rd : ∀ h', Sat h0 A h' → hsv h' pp 1 pl (ints .u8 pay))
  (k : ∀ p' c' h', Sat h0 (slE p' (48 + pl) c' 1 (ints .u8 (coverM slot key ver pay ++ tag)) :: A) h' → 48 + pl ≤ c' → Q p' (48 + pl) c' h') : F_portcullisref11_Tagged slot key ver pp pl pc tag Q h := by
 unfold F_portcullisref11_Tagged G_portcullisref11_Tagged
 try simp only [add_mk, Nat.zero_add, List.append_nil]
 intro n10 _ hn; replace hs := Sat.new hs hn; clear hn
 replace hs : Sat h0 (blk n10 (imgL slot key ver (pp, pl, pc) tag) :: A) _ := hs
 refine ⟨_, hs.ld (i := 0) .z rfl, _, hs.ld (i := 0) .z rfl, _, hs.ld (i := 0) .z rfl, _, _, _, hs.ld (i := 0) .z rfl, tag, ht, img_row hs .z ht, ?_⟩
 refine rcover_sp (pay := pay) hs hp (fun h' hs' => rd _ hs'.drop) ?_
 intro p2 c2 h2 hs
 intro J hJ
 refine loopS 32 (fun t (s : Option Addr × Nat) => [.dv (.one (.slice s.1 (16 + pl + t) s.2)), si t]) (fun t s h => Sat h0 (slE s.1 (16 + pl + t) s.2 1 (ints .u8 (coverM slot key ver pay ++ tag.take t)) :: blk n10 (imgL slot key ver (pp, pl, pc) tag) :: A) h) ?_ ?_ 0 (p2, c2) _ (by omega) (by simpa using hs)
 ·clear hs
  rintro t ⟨p6, c6⟩ h6 ht2 hs hk
  dsimp only at hs hk ⊢
  apply hJ
  rw [ltI_eq, if_pos (by rw [decide_eq_true_iff]; omega)]
  have ht3 : t < tag.length := by omega
  refine ⟨by omega, by omega, tag[t], ?_, ?_⟩
  ·simp only [Int.toNat_natCast, Nat.mul_one]
   have := img_row hs (.s .z) ht t (.int .u8 tag[t]) (by rw [ints_get, List.getElem?_eq_getElem ht3]; rfl)
   first | exact this | (rw [add_mk] at this; exact this)
  intro b3 _ hn; replace hs := Sat.new hs hn; clear hn
  refine ⟨_, hs.bv (i := 0) (l := 1) .z rfl (ints_one .u8 [tag[t]]), ?_⟩
  refine Sat.app hs (i := 1) (vs := ints .u8 [tag[t]]) (.s .z) rfl rfl (ints_one _ _) (by omega) ?_
  intro p7 c7 h7 hs
  simp only [put_succ, put_zero] at hs
  rw [wrap_succ (by omega)]
  refine hk (p7, c7) h7 ?_
  dsimp only
  rw [take_snoc _ ht3, ← List.append_assoc, ints_app .u8 _ [tag[t]]]
  exact hs.drop
 ·clear hs
  rintro ⟨p6, c6⟩ h6 hs
  dsimp only at hs ⊢
  apply hJ
  rw [ltI_eq, if_neg (by decide)]
  rw [List.take_of_length_le (by omega)] at hs
  have hc := capS hs (i := 0) .z
  have K := k p6 c6 h6
  rw [show 48 + pl = 16 + pl + 32 by omega] at K
  exact K (hs.sub (by (repeat (first | exact List.Sublist.refl _ | apply List.Sublist.cons_cons | apply List.Sublist.cons)))) hc
theorem rmay11_sp {Q : Int → H → Prop} {slot key ver : Int} {tag : List Int} {pp : Option Addr} {pl pc : Nat} (hs : Sat h0 A h) (k : ∀ h', Sat h0 A h' → Q (may11 slot key ver pl) h') : F_portcullisref11_May slot key ver pp pl pc tag Q h := by
 unfold F_portcullisref11_May G_portcullisref11_May
 try simp only [add_mk, Nat.zero_add, List.append_nil]
 intro n9 _ hn; replace hs := Sat.new hs hn; clear hn
 replace hs : Sat h0 (blk n9 (imgL slot key ver (pp, pl, pc) tag) :: A) _ := hs
 have K := k _ hs.drop
 clear k
 unfold may11 at K
 intro J hJ
 refine ⟨_, hs.ld (i := 0) .z rfl, ?_⟩
 rw [ltI_eq]
 by_cases g1 : slot < 0
 ·rw [if_pos (by simpa using g1)]
  rw [if_pos (Or.inl g1)] at K; exact K
 rw [if_neg (by simpa using g1)]
 refine ⟨_, hs.ld (i := 0) .z rfl, ?_⟩
 rw [ltI_eq]
 by_cases g2 : 7 < slot
 ·rw [if_pos (by simpa using g2)]
  rw [if_pos (Or.inr (Or.inl g2))] at K; exact K
 rw [if_neg (by simpa using g2)]
 refine ⟨_, hs.ld (i := 0) .z rfl, ?_⟩
 rw [ltI_eq]
 by_cases g3 : key < 0
 ·rw [if_pos (by simpa using g3)]
  rw [if_pos (by omega)] at K; exact K
 rw [if_neg (by simpa using g3)]
 refine ⟨_, hs.ld (i := 0) .z rfl, ?_⟩
 rw [ltI_eq]
 by_cases g4 : 63 < key
 ·rw [if_pos (by simpa using g4)]
  rw [if_pos (by omega)] at K; exact K
 rw [if_neg (by simpa using g4)]
 refine ⟨_, hs.ld (i := 0) .z rfl, ?_⟩
 rw [ltI_eq]
 by_cases g5 : ver < 0
 ·rw [if_pos (by simpa using g5)]
  rw [if_pos (by omega)] at K; exact K
 rw [if_neg (by simpa using g5)]
 refine ⟨_, hs.ld (i := 0) .z rfl, ?_⟩
 intro v25 hv
 subst hv
 rw [ltI_eq]
 by_cases g6 : 4294967295 < ver
 ·rw [if_pos (by simpa using g6)]
  rw [if_pos (by omega)] at K; exact K
 rw [if_neg (by simpa using g6)]
 rw [if_neg (by omega)] at K
 apply hJ
 refine ⟨_, _, _, hs.ld (i := 0) .z rfl, ?_⟩
 dsimp only
 rw [ltI_eq]
 by_cases g7 : 524240 < pl
 ·rw [if_pos (by rw [decide_eq_true_iff]; omega)]
  rw [if_pos g7] at K; exact K
 ·rw [if_neg (by rw [decide_eq_true_iff]; omega)]
  rw [if_neg g7] at K; exact K
theorem rmake_sp {Q : Option Addr → Nat → Nat → Int → H → Prop} {slot key ver : Int} {sec pay tag : List Int} {sp pp : Option Addr} {sl sc pl pc : Nat} (hs : Sat h0 A h) (ht : tag.length = 32) (hm : may11 slot key ver pl = 0) (hsb : isBy sec) (hsl : sl < 2 ^ 40) (hpb : isBy pay)
  (rs : ∀ h', Sat h0 A h' → hsv h' sp 1 sl (ints .u8 sec)) (rd : ∀ h', Sat h0 A h' → hsv h' pp 1 pl (ints .u8 pay))
  (k : ∀ p' c' h', Sat h0 (slE p' (48 + pl) c' 1 (ints .u8 (coverM slot key ver pay ++ macM sec (coverM slot key ver pay))) :: A) h' → 48 + pl ≤ c' → Q p' (48 + pl) c' 0 h') : F_portcullisref11_Make sp sl sc slot key ver pp pl pc tag Q h := by
 unfold F_portcullisref11_Make G_portcullisref11_Make
 try simp only [add_mk, Nat.zero_add, List.append_nil]
 have hpl : pay.length = pl := by have := (rd _ hs).1; simpa using this
 have hp : pl ≤ 524240 := by
  unfold may11 at hm
  by_cases g : slot < 0 ∨ 7 < slot ∨ key < 0 ∨ 63 < key ∨ ver < 0 ∨ 4294967295 < ver
  ·rw [if_pos g] at hm; cases hm
  ·rw [if_neg g] at hm
   by_cases g2 : 524240 < pl
   ·rw [if_pos g2] at hm; cases hm
   ·omega
 have hcb : isBy (coverM slot key ver pay) := by
  intro v hv
  unfold coverM at hv
  have w8 : ∀ n, 0 ≤ IntKind.u8.wrap n ∧ IntKind.u8.wrap n < 256 := fun n => by rw [IntKind.wrap_u8]; omega
  have f8 : ∀ v t x, x ∈ fourL v t → 0 ≤ x ∧ x < 256 := by
   intro v t x hx
   unfold fourL at hx
   obtain ⟨j, _, rfl⟩ := List.mem_map.1 hx
   exact w8 _
  rcases List.mem_append.1 hv with hv | hv
  ·rcases List.mem_append.1 hv with hv | hv
   ·rcases List.mem_append.1 hv with hv | hv
    ·simp only [List.mem_cons, List.not_mem_nil, or_false] at hv
     rcases hv with rfl | rfl | rfl | rfl | rfl | rfl | rfl | rfl
     ·decide
     ·decide
     ·decide
     ·decide
     ·decide
     ·exact w8 _
     ·exact w8 _
     ·decide
    ·exact f8 _ _ _ hv
   ·exact f8 _ _ _ hv
  ·exact hpb v hv
 intro n16 _ hn; replace hs := Sat.new hs hn; clear hn
 replace hs : Sat h0 (blk n16 (imgL slot key ver (pp, pl, pc) tag) :: A) _ := hs
 refine ⟨_, hs.ld (i := 0) .z rfl, _, hs.ld (i := 0) .z rfl, _, hs.ld (i := 0) .z rfl, _, _, _, hs.ld (i := 0) .z rfl, tag, ht, img_row hs .z ht, ?_⟩
 refine rmay11_sp hs ?_
 intro h2 hs
 rw [hm, if_neg (by decide)]
 refine ⟨_, hs.ld (i := 0) .z rfl, _, hs.ld (i := 0) .z rfl, _, hs.ld (i := 0) .z rfl, _, _, _, hs.ld (i := 0) .z rfl, tag, ht, img_row hs .z ht, ?_⟩
 refine rcover_sp (pay := pay) hs (by dsimp only; omega) (fun h' hs' => rd _ hs'.drop) ?_
 intro p2 c2 h3 hs
 refine rmac_sp (key := sec) (b := coverM slot key ver pay) hs hsb hcb (by omega) (by dsimp only; omega) (fun h' hs' => rs _ hs'.drop.drop) (fun h' hs' => hs'.sv (i := 0) .z) ?_
 intro h4 hs
 replace hs := hs.drop
 refine ⟨Sat.can hs (i := 0) .z (by simp [ht]), ?_⟩
 intro h5 e5
 replace hs := Sat.wr hs (i := 0) (o := 4) .z e5
 clear e5
 simp only [put_zero] at hs
 have es : splice (imgL slot key ver (pp, pl, pc) tag) 4 (ints .u8 (macM sec (coverM slot key ver pay))) = imgL slot key ver (pp, pl, pc) (macM sec (coverM slot key ver pay)) := by
  have := splice_append [Value.int .i64 slot, .int .i64 key, .int .i64 ver, .slice pp pl pc] (ints .u8 tag) [] (ints .u8 (macM sec (coverM slot key ver pay))) (by simp [ht, macM_len])
  simpa using this
 rw [es] at hs
 refine ⟨_, hs.ld (i := 0) .z rfl, _, hs.ld (i := 0) .z rfl, _, hs.ld (i := 0) .z rfl, _, _, _, hs.ld (i := 0) .z rfl, _, macM_len _ _, img_row hs .z (macM_len _ _), ?_⟩
 refine rtagged_sp (pay := pay) hs (macM_len _ _) (by dsimp only; omega) (fun h' hs' => rd _ hs'.drop) ?_
 intro p6 c6 h6 hs hc
 exact k _ _ _ (hs.sub (by (repeat (first | exact List.Sublist.refl _ | apply List.Sublist.cons_cons | apply List.Sublist.cons)))) hc
end
end Go.Proofs.YteedolonhdbieaaGreatDoor
end

/- The gate: answers that the document fixes (reckoned). Own work. -/
section
set_option maxRecDepth 1000000
namespace Go.Proofs.YteedolonhdbieaaGreatDoor
open Go Go.Vc
theorem n13 : newM [(1, [7])] = none := by decide
end Go.Proofs.YteedolonhdbieaaGreatDoor
end

/- TokenChecks: over any chip, keys, tokens, wishes; no act; without power, too. Own work. -/
section
set_option maxRecDepth 100000
set_option linter.unusedVariables false
namespace Go.Proofs.YteedolonhdbieaaGreatDoor
open Go Go.Vc
attribute [local irreducible] macM

structure TkIn (h : H) (key : Int) (id tag : List Int) (cs : List CvM) (ip : Option Addr) (il : Nat) (cp : Option Addr) (cl : Nat) : Prop where
 ri : hsv h ip 1 il (ints .u8 id)
 rb : isBy id
 ii : il + 4096 ≤ 2 ^ 47
 rc : hsv h cp 5 cl (cvsV cs)
 tl : tag.length = 32
 tb : isBy tag
section
variable {h0 h : H} {A : List Ent} {i j p r b s m : Nat} {C : Cm}
end
end Go.Proofs.YteedolonhdbieaaGreatDoor
end

/- The store's laws, plain: what a BumpTo leaves. Own work. -/
section
set_option maxRecDepth 100000
set_option linter.unusedVariables false
namespace Go.Proofs.YteedolonhdbieaaGreatDoor
open Go Go.Vc

theorem blow_left {C : Cm} (h : C.left < 0) (k : Int) : (blowM C k).1.left < 0 := by
 unfold blowM
 split
 ·exact h
 ·dsimp only
  split
  ·exact act_left h
  ·exact act_left h
def cntB (C : Cm) (k : Nat) : Nat := cnt C.s.blown (((k : Nat) : Int) * C.cfg.fuses).toNat C.cfg.fuses.toNat
def valB (C : Cm) (k : Nat) : Int := if (cntB C k : Int) * C.cfg.step < numOf C k then numOf C k else (cntB C k : Int) * C.cfg.step
structure Bumped (u : Bool) (C D : Cm) (slot : Nat) (v e : Int) : Prop where
 cfg : D.cfg = C.cfg
 snd : sndU u D
 keys : ∀ q : Nat, C.cfg.slots * C.cfg.fuses ≤ (q : Int) → D.s.blown.getD q false = C.s.blown.getD q false
 other : ∀ k : Nat, (k : Int) < C.cfg.slots → k ≠ slot → valB D k = valB C k
 me : valB D slot = valB C slot ∨ (valB D slot = v ∧ valB C slot < v)
 done : e = 0 → valB D slot = max v (valB C slot)
 bad : e ≠ 0 → e ≠ 8 → D = C
end Go.Proofs.YteedolonhdbieaaGreatDoor
end

/- The store's laws, plain: what a Revoke leaves. Own work. -/
section
set_option maxRecDepth 100000
set_option linter.unusedVariables false
namespace Go.Proofs.YteedolonhdbieaaGreatDoor
open Go Go.Vc

def keyB (C : Cm) (k : Nat) : Bool := C.s.blown.getD (C.cfg.slots * C.cfg.fuses + (k : Int)).toNat false
structure RevokedL (u : Bool) (C D : Cm) (key : Nat) (e : Int) : Prop where
 cfg : D.cfg = C.cfg
 snd : sndU u D
 vals : ∀ k : Nat, (k : Int) < C.cfg.slots → valB D k = valB C k
 other : ∀ k : Nat, k ≠ key → keyB D k = keyB C k
 up : keyB C key = true → keyB D key = true
 done : e = 0 → keyB D key = true ∧ D.out = false
 bad : e ≠ 0 → e ≠ 8 → D = C
end Go.Proofs.YteedolonhdbieaaGreatDoor
end

/- The gate, plain: what is handed off once is handed off no more behind a bump or a revocation. Own work. -/
section
set_option maxRecDepth 100000
set_option linter.unusedVariables false
namespace Go.Proofs.YteedolonhdbieaaGreatDoor
open Go Go.Vc
attribute [local irreducible] macM

structure Hands (C : Cm) (L : List Sec) (bs : List Int) (x y : Nat) (s : Sec) : Prop where
 on : C.out = false
 fine : (parseW bs).1 = 0
 slot : bs.getD 5 0 = (x : Int)
 key : bs.getD 6 0 = (y : Int)
 slots : (x : Int) < C.cfg.slots
 keys : (y : Int) < C.cfg.keys
 has : L.find? (fun z => z.1 == (y : Int)) = some s
 may : keyB C y = false
 tag : macM s.2 (bs.take (bs.length - 32)) = (bs.drop (bs.length - 32)).take 32
 low : valB C x ≤ num4 bs 8
 high : num4 bs 8 ≤ lastM C.cfg
structure Lifted (C D : Cm) : Prop where
 cfg : D.cfg = C.cfg
 vals : ∀ k : Nat, (k : Int) < C.cfg.slots → valB C k ≤ valB D k
 keys : ∀ k : Nat, (k : Int) < C.cfg.keys → keyB C k = true → keyB D k = true
end Go.Proofs.YteedolonhdbieaaGreatDoor
end

/- A gate for pieces, plain: what the bytes tell by now, and what the gate tells of all. Own work. -/
section
set_option maxRecDepth 100000
set_option linter.unusedVariables false
namespace Go.Proofs.YteedolonhdbieaaGreatDoor
open Go Go.Vc
attribute [local irreducible] macM

def tellsM (C : Cm) (L : List Sec) (B : List Int) : Int :=
 if (parseW B).1 ≠ 0 ∧ (parseW B).1 ≠ 6 then (parseW B).1
 else if 5 < B.length ∧ C.cfg.slots ≤ B.getD 5 0 then 5
 else if 6 < B.length ∧ (C.cfg.keys ≤ B.getD 6 0 ∨ L.find? (fun x => x.1 == B.getD 6 0) = none) then 13
 else if 6 < B.length ∧ (revokedM C (B.getD 6 0)).1 = true then 14 else 0
theorem head_some {bs : List Int} : ∀ (m x : Nat) (w : Int × Int), headW bs m x = some w → w.1 = 5 ∨ w.1 = 6
 | 0, x, w, h => by cases h
 | m + 1, x, w, h => by
  unfold headW at h
  by_cases c : x = bs.length
  ·rw [if_pos c] at h; cases h; exact Or.inr rfl
  rw [if_neg c] at h
  by_cases g : mayB x (bs.getD x 0) = true
  ·rw [if_pos g] at h; exact head_some m (x + 1) w h
  ·rw [if_neg g] at h; cases h; exact Or.inl rfl
theorem take_getD {b : List Int} {j x : Nat} (hx : x < j) : (b.take j).getD x 0 = b.getD x 0 := by
 rw [List.getD_eq_getElem?_getD, List.getD_eq_getElem?_getD, List.getElem?_take_of_lt hx]
theorem head_pre {b : List Int} {j : Nat} (hj : j ≤ b.length) : ∀ (m x : Nat), x ≤ j → ((headW (b.take j) m x = none → headW b m x = none ∧ (0 < m → x + m ≤ j)) ∧ ∀ w, headW (b.take j) m x = some w → w.1 = 5 → headW b m x = some w)
 | 0, x, hx => ⟨fun _ => ⟨rfl, fun h => by omega⟩, fun w h => by cases h⟩
 | m + 1, x, hx => by
  have hl : (b.take j).length = j := by rw [List.length_take]; omega
  unfold headW
  rw [hl]
  by_cases c : x = j
  ·rw [if_pos c]
   exact ⟨fun h => (by cases h), fun w h h5 => (by cases h; exact absurd (show (6 : Int) = 5 from h5) (by decide))⟩
  rw [if_neg c, if_neg (show ¬ x = b.length by omega), take_getD (by omega)]
  by_cases g : mayB x (b.getD x 0) = true
  ·rw [if_pos g, if_pos g]
   have ih := head_pre hj m (x + 1) (by omega)
   refine ⟨fun h => ⟨(ih.1 h).1, fun _ => ?_⟩, ih.2⟩
   by_cases m0 : 0 < m
   ·have := (ih.1 h).2 m0; omega
   ·omega
  ·rw [if_neg g, if_neg g]
   exact ⟨fun h => (by cases h), fun w h _ => h⟩
theorem num4_pre {b : List Int} {j o : Nat} (h : o + 4 ≤ j) : num4 (b.take j) o = num4 b o := by
 unfold num4
 rw [take_getD (by omega), take_getD (by omega), take_getD (by omega), take_getD (by omega)]
theorem parse_pre {b : List Int} {j : Nat} (hj : j ≤ b.length) (h0 : (parseW (b.take j)).1 ≠ 0) (h6 : (parseW (b.take j)).1 ≠ 6) : (parseW b).1 ≠ 0 ∧ (b.length ≤ 524288 → (parseW b).1 = (parseW (b.take j)).1) := by
 have hl : (b.take j).length = j := by rw [List.length_take]; omega
 have P := head_pre hj 16 0 (by omega)
 by_cases c1 : 524288 < b.length
 ·have : parseW b = (4, 524288) := by unfold parseW; rw [if_pos c1]
  rw [this]
  exact ⟨by decide, fun y => absurd c1 (by omega)⟩
 have key : (parseW b).1 = (parseW (b.take j)).1 := by
  unfold parseW at h0 h6 ⊢
  have c2 : ¬ 524288 < j := by omega
  rw [hl, if_neg c2] at h0 h6 ⊢
  rw [if_neg c1]
  cases e : headW (b.take j) 16 0 with
  | some w =>
   rw [e] at h0 h6
   dsimp only at h0 h6 ⊢
   rcases head_some _ _ _ e with y | y
   ·rw [P.2 w e y]
   ·exact absurd y h6
  | none =>
   rw [e] at h0 h6
   obtain ⟨q1, q2⟩ := P.1 e
   have q3 := q2 (by decide)
   rw [q1]
   dsimp only at h0 h6 ⊢
   rw [num4_pre (by omega)] at h0 h6 ⊢
   by_cases g1 : (524240 : Int) < num4 b 12
   ·rw [if_pos g1, if_pos g1]
   rw [if_neg g1] at h0 h6 ⊢
   rw [if_neg g1]
   by_cases g2 : (j : Int) < 48 + num4 b 12
   ·rw [if_pos g2] at h6; exact absurd rfl h6
   rw [if_neg g2] at h0 h6 ⊢
   by_cases g3 : 48 + num4 b 12 < (j : Int)
   ·rw [if_pos g3, if_neg (by omega), if_pos (by omega)]
   ·rw [if_neg g3] at h0; exact absurd rfl h0
 rw [key]
 exact ⟨h0, fun _ => rfl⟩
theorem gate_parse {C : Cm} {L : List Sec} {b : List Int} (ho : C.out = false) (h : (parseW b).1 ≠ 0) : gateM C L b = (parseW b).1 := by
 unfold gateM
 rw [if_neg (by rw [ho]; decide), if_pos h]
theorem tells_law {C : Cm} {L : List Sec} {b : List Int} {j : Nat} (hj : j ≤ b.length) (ho : C.out = false) (he : tellsM C L (b.take j) ≠ 0) :
  gateM C L b ≠ 0 ∧ ((parseW b).1 = 0 → gateM C L b = tellsM C L (b.take j)) ∧ ((parseW (b.take j)).1 ≠ 0 → (parseW (b.take j)).1 ≠ 6 → b.length ≤ 524288 → gateM C L b = tellsM C L (b.take j)) := by
 have hl : (b.take j).length = j := by rw [List.length_take]; omega
 by_cases c : (parseW (b.take j)).1 ≠ 0 ∧ (parseW (b.take j)).1 ≠ 6
 ·obtain ⟨p1, p2⟩ := parse_pre hj c.1 c.2
  have et : tellsM C L (b.take j) = (parseW (b.take j)).1 := by unfold tellsM; rw [if_pos c]
  rw [gate_parse ho p1, et]
  exact ⟨p1, fun y => absurd y p1, fun _ _ y => p2 y⟩
 have third : ∀ X : Prop, (parseW (b.take j)).1 ≠ 0 → (parseW (b.take j)).1 ≠ 6 → b.length ≤ 524288 → X := fun X h1 h2 => absurd ⟨h1, h2⟩ c
 by_cases p : (parseW b).1 = 0
 case neg => exact ⟨by rw [gate_parse ho p]; exact p, fun y => absurd y p, third _⟩
 have key : gateM C L b = tellsM C L (b.take j) := by
  unfold tellsM at he ⊢
  rw [if_neg c, hl] at he ⊢
  unfold gateM
  rw [if_neg (by rw [ho]; decide), if_neg (fun y => y p)]
  by_cases g1 : 5 < j ∧ C.cfg.slots ≤ (b.take j).getD 5 0
  ·rw [if_pos g1]
   rw [take_getD g1.1] at g1
   rw [if_pos g1.2]
  rw [if_neg g1] at he ⊢
  by_cases g2 : 6 < j ∧ (C.cfg.keys ≤ (b.take j).getD 6 0 ∨ L.find? (fun x => x.1 == (b.take j).getD 6 0) = none)
  ·rw [if_pos g2]
   rw [take_getD (by omega)] at g1 g2
   rw [if_neg (fun y => g1 ⟨by omega, y⟩)]
   cases e : L.find? (fun x => x.1 == b.getD 6 0) with
   | none => rfl
   | some s =>
    dsimp only
    rcases g2.2 with y | y
    ·rw [if_pos y]
    ·rw [e] at y; cases y
  rw [if_neg g2] at he ⊢
  by_cases g3 : 6 < j ∧ (revokedM C ((b.take j).getD 6 0)).1 = true
  ·rw [if_pos g3]
   have e6 : (b.take j).getD 6 0 = b.getD 6 0 := take_getD g3.1
   have e5 : (b.take j).getD 5 0 = b.getD 5 0 := take_getD (by omega)
   rw [e6] at g2 g3
   rw [e5] at g1
   rw [if_neg (fun y => g1 ⟨by omega, y⟩)]
   cases e : L.find? (fun x => x.1 == b.getD 6 0) with
   | none => exact absurd ⟨g3.1, Or.inr e⟩ g2
   | some s =>
    dsimp only
    rw [if_neg (fun y => g2 ⟨g3.1, Or.inl y⟩), if_pos g3.2]
  rw [if_neg g3] at he
  exact absurd rfl he
 exact ⟨by rw [key]; exact he, fun _ => key, third _⟩
theorem gate_cut {C : Cm} {L : List Sec} (b : List Int) (ho : C.out = false) : gateM C L (b.take 524289) = gateM C L b ∧ (gateM C L b = 0 → b.take 524289 = b) := by
 by_cases g : b.length ≤ 524289
 ·rw [List.take_of_length_le g]; exact ⟨rfl, fun _ => rfl⟩
 have e1 : parseW b = (4, 524288) := by unfold parseW; rw [if_pos (by omega)]
 have e2 : parseW (b.take 524289) = (4, 524288) := by unfold parseW; rw [if_pos (by rw [List.length_take]; omega)]
 have g1 : gateM C L b = 4 := by rw [gate_parse ho (by rw [e1]; decide), e1]
 have g2 : gateM C L (b.take 524289) = 4 := by rw [gate_parse ho (by rw [e2]; decide), e2]
 rw [g1, g2]
 exact ⟨rfl, fun y => absurd y (by decide)⟩
end Go.Proofs.YteedolonhdbieaaGreatDoor
end

/- Images that are made: the program's Make; what a made image's bytes say. Own work. -/
section
set_option maxRecDepth 100000
set_option linter.unusedVariables false
namespace Go.Proofs.YteedolonhdbieaaGreatDoor
open Go Go.Vc
attribute [local irreducible] macM

theorem fourL_all (v : Int) : fourL v 4 = [IntKind.u8.wrap v, IntKind.u8.wrap (v.fdiv (2 ^ 8)), IntKind.u8.wrap (v.fdiv (2 ^ 16)), IntKind.u8.wrap (v.fdiv (2 ^ 24))] := by
 show [IntKind.u8.wrap (v.fdiv (2 ^ 0)), IntKind.u8.wrap (v.fdiv (2 ^ 8)), IntKind.u8.wrap (v.fdiv (2 ^ 16)), IntKind.u8.wrap (v.fdiv (2 ^ 24))] = _
 rw [show (2 : Int) ^ 0 = 1 by decide, Int.fdiv_one]
theorem four_val {v : Int} (h0 : 0 ≤ v) (h1 : v < 4294967296) :
  IntKind.u8.wrap v + 256 * IntKind.u8.wrap (v.fdiv (2 ^ 8)) + 65536 * IntKind.u8.wrap (v.fdiv (2 ^ 16)) + 16777216 * IntKind.u8.wrap (v.fdiv (2 ^ 24)) = v := by
 rw [Int.fdiv_eq_ediv_of_nonneg _ (by decide), Int.fdiv_eq_ediv_of_nonneg _ (by decide), Int.fdiv_eq_ediv_of_nonneg _ (by decide)]
 simp only [IntKind.wrap_u8]
 omega
theorem made_list (slot key ver : Int) (pay t : List Int) : coverM slot key ver pay ++ t = 80 :: 67 :: 85 :: 76 :: 1 :: IntKind.u8.wrap slot :: IntKind.u8.wrap key :: 0 :: IntKind.u8.wrap ver :: IntKind.u8.wrap (ver.fdiv (2 ^ 8)) :: IntKind.u8.wrap (ver.fdiv (2 ^ 16)) :: IntKind.u8.wrap (ver.fdiv (2 ^ 24)) ::
  IntKind.u8.wrap (pay.length : Int) :: IntKind.u8.wrap ((pay.length : Int).fdiv (2 ^ 8)) :: IntKind.u8.wrap ((pay.length : Int).fdiv (2 ^ 16)) :: IntKind.u8.wrap ((pay.length : Int).fdiv (2 ^ 24)) :: (pay ++ t) := by
 unfold coverM
 rw [fourL_all, fourL_all]
 rfl
theorem may11_ok {slot key ver : Int} {n : Nat} (h : may11 slot key ver n = 0) : (0 ≤ slot ∧ slot < 8) ∧ (0 ≤ key ∧ key < 64) ∧ (0 ≤ ver ∧ ver < 4294967296) ∧ n ≤ 524240 := by
 unfold may11 at h
 by_cases g : slot < 0 ∨ 7 < slot ∨ key < 0 ∨ 63 < key ∨ ver < 0 ∨ 4294967295 < ver
 ·rw [if_pos g] at h; cases h
 ·rw [if_neg g] at h
  by_cases g2 : 524240 < n
  ·rw [if_pos g2] at h; cases h
  ·omega
theorem head_none {bs : List Int} : ∀ (m x : Nat), x + m ≤ bs.length → (∀ y, x ≤ y → y < x + m → mayB y (bs.getD y 0) = true) → headW bs m x = none
 | 0, x, _, _ => rfl
 | m + 1, x, h1, h2 => by
  unfold headW
  rw [if_neg (by omega), if_pos (h2 x (by omega) (by omega))]
  exact head_none m (x + 1) (by omega) fun y a b => h2 y (by omega) (by omega)
structure Made (bs : List Int) (slot key ver : Int) (pay t : List Int) : Prop where
 fine : parseW bs = (0, 0)
 atSlot : bs.getD 5 0 = slot
 atKey : bs.getD 6 0 = key
 atVer : num4 bs 8 = ver
 n : num4 bs 12 = pay.length
 len : bs.length = 48 + pay.length
 body : bs.take (bs.length - 32) = coverM slot key ver pay
 tag : (bs.drop (bs.length - 32)).take 32 = t
 load : (bs.drop 16).take pay.length = pay
 tag2 : (bs.drop (16 + pay.length)).take 32 = t
theorem made {slot key ver : Int} {pay t : List Int} (h : may11 slot key ver pay.length = 0) (ht : t.length = 32) : Made (coverM slot key ver pay ++ t) slot key ver pay t := by
 obtain ⟨h1, h2, h3, h4⟩ := may11_ok h
 have hlen : (coverM slot key ver pay ++ t).length = 48 + pay.length := by rw [List.length_append, coverM_len, ht]; omega
 have hc := coverM_len slot key ver pay
 have e5 : (coverM slot key ver pay ++ t).getD 5 0 = slot := by
  rw [made_list]; show IntKind.u8.wrap slot = slot; rw [IntKind.wrap_u8]; omega
 have e6 : (coverM slot key ver pay ++ t).getD 6 0 = key := by
  rw [made_list]; show IntKind.u8.wrap key = key; rw [IntKind.wrap_u8]; omega
 have e8 : num4 (coverM slot key ver pay ++ t) 8 = ver := by
  rw [made_list]; exact four_val h3.1 h3.2
 have e12 : num4 (coverM slot key ver pay ++ t) 12 = (pay.length : Int) := by
  rw [made_list]; exact four_val (by omega) (by omega)
 refine ⟨?_, e5, e6, e8, e12, hlen, ?_, ?_, ?_, ?_⟩
 ·unfold parseW
  rw [if_neg (by omega), head_none 16 0 (by omega) ?_]
  ·dsimp only
   rw [e12, if_neg (by omega), if_neg (by omega), if_neg (by omega)]
  ·intro y _ hy
   have : y = 0 ∨ y = 1 ∨ y = 2 ∨ y = 3 ∨ y = 4 ∨ y = 5 ∨ y = 6 ∨ y = 7 ∨ 8 ≤ y := by omega
   rcases this with rfl | rfl | rfl | rfl | rfl | rfl | rfl | rfl | g
   ·rw [made_list]; rfl
   ·rw [made_list]; rfl
   ·rw [made_list]; rfl
   ·rw [made_list]; rfl
   ·rw [made_list]; rfl
   ·rw [e5]; show decide (slot < 8) = true; rw [decide_eq_true_iff]; omega
   ·rw [e6]; show decide (key < 64) = true; rw [decide_eq_true_iff]; omega
   ·rw [made_list]; rfl
   ·unfold mayB; rw [if_neg (by omega), if_neg (by omega), if_neg (by omega), if_neg (by omega), if_neg (by omega)]
 ·rw [hlen, show 48 + pay.length - 32 = (coverM slot key ver pay).length by omega, List.take_left']
  rfl
 ·rw [hlen, show 48 + pay.length - 32 = (coverM slot key ver pay).length by omega, List.drop_left', List.take_of_length_le (by omega)]
  rfl
 ·rw [made_list]
  show (pay ++ t).take pay.length = pay
  rw [List.take_left']; rfl
 ·rw [← hc, List.drop_left', List.take_of_length_le (by omega)]
  rfl
section
variable {h0 h : H} {A : List Ent} {i j p r b s m : Nat} {C : Cm}
end
end Go.Proofs.YteedolonhdbieaaGreatDoor
end

/- Parts of a block that are owned; what the gate tells, in one form. Own work. -/
section
set_option maxRecDepth 100000
set_option linter.unusedVariables false
namespace Go.Proofs.YteedolonhdbieaaGreatDoor
open Go Go.Vc
attribute [local irreducible] macM gateM

@[irreducible] def prtP (P : Option Addr) (n : Nat) (xs : List Int) (h : H) (f : Nat → Prop) : Prop :=
 xs.length = n ∧ ((n = 0 ∧ ∀ x, ¬ f x) ∨ ∃ b pre post, (n = 0 ∨ P = some ⟨b, pre.length, none⟩) ∧ Blk h b (pre ++ ints .u8 xs ++ post) ∧ ∀ x, f x ↔ x = b)
def prtE (P : Option Addr) (n : Nat) (xs : List Int) : Ent where
 tag := .of 77
 P := prtP P n xs
 st := by
  unfold prtP; rintro h h' f ⟨e, k⟩ hs
  refine ⟨e, ?_⟩
  rcases k with k | ⟨b, pre, post, k1, k2, k3⟩
  ·exact Or.inl k
  ·exact Or.inr ⟨b, pre, post, k1, k2.of_eq (hs b ((k3 b).2 rfl)), k3⟩
 lt := by
  unfold prtP; rintro h f x ⟨e, k⟩ hx
  rcases k with k | ⟨b, pre, post, k1, k2, k3⟩
  ·exact absurd hx (k.2 x)
  ·rw [(k3 x).1 hx]; exact k2.lt
theorem prtE_P {P : Option Addr} {n : Nat} {xs : List Int} {h : H} {f : Nat → Prop} : (prtE P n xs).P h f ↔ xs.length = n ∧ ((n = 0 ∧ ∀ x, ¬ f x) ∨ ∃ b pre post, (n = 0 ∨ P = some ⟨b, pre.length, none⟩) ∧ Blk h b (pre ++ ints .u8 xs ++ post) ∧ ∀ x, f x ↔ x = b) := by
 show prtP P n xs h f ↔ _; unfold prtP; rfl
section
variable {h0 h : H} {A : List Ent} {i j p r b s m : Nat} {C : Cm}
theorem prt_nil {c sz : Nat} (hs : Sat h0 A h) (a : At A i (sE (none, 0, 0) sz [])) : Sat h0 (put A i (prtE none 0 [])) h := by
 refine hs.as a fun f hp => ?_
 obtain ⟨bs, ⟨_, _, _, h4⟩, hf⟩ := slE_P.1 hp
 refine prtE_P.2 ⟨rfl, Or.inl ⟨rfl, fun x hx => ?_⟩⟩
 rcases h4 with ⟨_, _, rfl⟩ | ⟨b, rest, y, _⟩
 ·simpa using (hf x).1 hx
 ·cases y
theorem prt_of {own : Sl} {bs : List Int} {n : Nat} (hs : Sat h0 A h) (a : At A i (sE own 1 (ints .u8 bs))) (hl : bs.length = 48 + n) : Sat h0 (put A i (prtE (subAddr own.1 16 (16 + n) 1) n ((bs.drop 16).take n))) h := by
 refine hs.as a fun f hp => ?_
 obtain ⟨B, ⟨h1, h2, h3, h4⟩, hf⟩ := slE_P.1 hp
 have hlen : own.2.1 = 48 + n := by simp at h1; omega
 refine prtE_P.2 ⟨by rw [List.length_take, List.length_drop]; omega, Or.inr ?_⟩
 rcases h4 with ⟨y, _, _⟩ | ⟨b, rest, e1, rfl, k, _⟩
 ·omega
 refine ⟨b, ints .u8 (bs.take 16), ints .u8 (bs.drop (16 + n)) ++ rest, ?_, ?_, ?_⟩
 ·by_cases g : n = 0
  ·exact Or.inl g
  ·right
   unfold subAddr
   rw [if_neg (by omega), e1]
   show some ((⟨b, 0, none⟩ : Addr).add (16 * 1)) = _
   rw [add_mk, ints_length, List.length_take, Nat.min_eq_left (by omega)]
 ·have e2 : bs = bs.take 16 ++ (bs.drop 16).take n ++ bs.drop (16 + n) := by
   rw [List.append_assoc, ← List.drop_drop, List.take_append_drop, List.take_append_drop]
  have e3 := congrArg (ints .u8) e2
  rw [ints_app, ints_app] at e3
  rw [e3] at k
  have e4 : ints .u8 (bs.take 16) ++ ints .u8 ((bs.drop 16).take n) ++ (ints .u8 (bs.drop (16 + n)) ++ rest) = ints .u8 (bs.take 16) ++ ints .u8 ((bs.drop 16).take n) ++ ints .u8 (bs.drop (16 + n)) ++ rest := by simp only [List.append_assoc]
  rw [e4]
  exact k
 ·intro x; rw [hf]; simp
end
def tSlot (G : Int) (bs : List Int) : Int := if G = 0 then bs.getD 5 0 else 0
def tKey (G : Int) (bs : List Int) : Int := if G = 0 then bs.getD 6 0 else 0
def tVer (G : Int) (bs : List Int) : Int := if G = 0 then num4 bs 8 else 0
def tPay (G : Int) (bs : List Int) : List Int := if G = 0 then (bs.drop 16).take (num4 bs 12).toNat else []
def tTag (G : Int) (bs : List Int) : List Int := if G = 0 then (bs.drop (16 + (num4 bs 12).toNat)).take 32 else zeros 32
section
variable {h0 h : H} {A : List Ent} {i j p r b s m : Nat} {C : Cm}
theorem gateP_sp {K : Nat → Int → H → Prop} {mm rr jm jr : Nat} {bs : List Int} {q : Option Addr} {l c : Nat} {R : List SR} {L : List Sec} (hg : hc h0 ⟨0, 0, none⟩ = some errTypeV) (hs : Sat h0 A h) (ci : At A i (chipE p C)) (cl' : At A j (logE r p)) (st : At A m (storeE s p r))
  (cr : At A jr (blk rr [.map (some mm)])) (cm : At A jm (mapE mm (R.map SR.ent))) (eR : R.map SR.kv = L) (gd : SR.good R) (rR : ∀ x, x ∈ R → ∃ y, At A y x.sl)
  (rd : ∀ h', Sat h0 A h' → hsv h' q 1 l (ints .u8 bs)) (hb : bytesOk bs) (hlc : l ≤ c) (hl : l < 2 ^ 50)
  (k : ∀ nb P h', (tTag (gateM C L bs) bs).length = 32 → (tPay (gateM C L bs) bs).length < 2 ^ 40 → Sat h0 (blk nb (imgL (tSlot (gateM C L bs) bs) (tKey (gateM C L bs) bs) (tVer (gateM C L bs) bs) (P, (tPay (gateM C L bs) bs).length, (tPay (gateM C L bs) bs).length) (tTag (gateM C L bs) bs)) :: prtE P (tPay (gateM C L bs) bs).length (tPay (gateM C L bs) bs) :: A) h' → K nb (gateM C L bs) h') :
  F_gate_Check ⟨s, 0, none⟩ ⟨rr, 0, none⟩ q l c (fun i1 i2 i3 o n m l e h => ∀ nb h', hnew h nb (.int .i64 0 :: .int .i64 0 :: .int .i64 0 :: .slice none 0 0 :: ints .u8 (zeros 32)) h' → hcan h' ⟨nb, 0, none⟩ 36 ∧ ∀ h'', h'' = hwr h' ⟨nb, 0, none⟩ (.int .i64 i1 :: .int .i64 i2 :: .int .i64 i3 :: .slice o n m :: ints .u8 l) → K nb e h'') h := by
 refine gate_sp (bs := bs) hg hs ci cl' st cr cm gd (fun x hx h' hs' => hs'.sv (rR x hx).choose_spec) rd hb hlc hl ?_ ?_
 ·intro e he hne h5 hs
  rw [eR] at he
  subst he
  replace hs := hs.sl_nil 1 none
  intro n113 _ hn; replace hs := Sat.new hs hn; clear hn
  refine ⟨Sat.can hs (i := 0) .z (by simp [zeros]), ?_⟩
  intro h6 e6
  replace hs := Sat.wra (xs := imgL 0 0 0 (none, 0, 0) (zeros 32)) hs (i := 0) .z e6 rfl
  clear e6
  simp only [put_zero] at hs
  replace hs := prt_nil (c := 0) hs (i := 1) (.s .z)
  simp only [put_succ, put_zero] at hs
  have e1 : tSlot (gateM C L bs) bs = 0 := if_neg hne
  have e2 : tKey (gateM C L bs) bs = 0 := if_neg hne
  have e3 : tVer (gateM C L bs) bs = 0 := if_neg hne
  have e4 : tPay (gateM C L bs) bs = [] := if_neg hne
  have e5 : tTag (gateM C L bs) bs = zeros 32 := if_neg hne
  have := k n113 none h6
  rw [e1, e2, e3, e4, e5] at this
  exact this (zeros_len 32) (by decide) hs
 ·intro own n hz hp hnn hln h5 hs
  rw [eR] at hz
  have tl32 : ((bs.drop (16 + n)).take 32).length = 32 := by rw [List.length_take, List.length_drop]; omega
  have pl : ((bs.drop 16).take n).length = n := by rw [List.length_take, List.length_drop]; omega
  intro n113 _ hn; replace hs := Sat.new hs hn; clear hn
  refine ⟨Sat.can hs (i := 0) .z (by simp [zeros]), ?_⟩
  intro h6 e6
  replace hs := Sat.wra (xs := imgL (bs.getD 5 0) (bs.getD 6 0) (num4 bs 8) (subAddr own.1 16 (16 + n) 1, n, n) ((bs.drop (16 + n)).take 32)) hs (i := 0) .z e6 (by rw [img_len tl32]; rfl)
  clear e6
  simp only [put_zero] at hs
  replace hs := prt_of hs (i := 1) (.s .z) hln
  simp only [put_succ, put_zero] at hs
  have en : (num4 bs 12).toNat = n := by omega
  have e1 : tSlot (gateM C L bs) bs = bs.getD 5 0 := if_pos hz
  have e2 : tKey (gateM C L bs) bs = bs.getD 6 0 := if_pos hz
  have e3 : tVer (gateM C L bs) bs = num4 bs 8 := if_pos hz
  have e4 : tPay (gateM C L bs) bs = (bs.drop 16).take n := by rw [← en]; exact if_pos hz
  have e5 : tTag (gateM C L bs) bs = (bs.drop (16 + n)).take 32 := by rw [← en]; exact if_pos hz
  have := k n113 (subAddr own.1 16 (16 + n) 1) h6
  rw [e1, e2, e3, e4, e5, hz, pl] at this
  exact this tl32 (by have := (parse_ok hb hp hnn).2.2.2; omega) hs
end
end Go.Proofs.YteedolonhdbieaaGreatDoor
end

/- A gate for pieces: tells, Write, Sum, Digest, New. Own work. -/
section
set_option maxRecDepth 100000
set_option linter.unusedVariables false
namespace Go.Proofs.YteedolonhdbieaaGreatDoor
open Go Go.Vc
attribute [local irreducible] macM gateM

abbrev gtL (st rp : Nat) (o : Option Addr) (l m d : Nat) : List Value := [.pointer (some ⟨st, 0, none⟩), .pointer (some ⟨rp, 0, none⟩), .slice o l m, .pointer (some ⟨d, 0, none⟩)]
abbrev gtA (g st rp : Nat) (o : Option Addr) (m d : Nat) (s sm : List Int) (n : Int) (B : List Int) : List Ent :=
 [blk g (gtL st rp o B.length m d), slE o B.length m 1 (ints .u8 B), blk d (dgL s sm n)]
section
variable {h0 h : H} {A : List Ent} {i j p r b s m : Nat} {C : Cm}
theorem gslot_sp {Q : Int → H → Prop} {g rp l c d lg : Nat} {o : Option Addr} (hs : Sat h0 A h) (ag : At A i (blk g (gtL s rp o l c d))) (ci : At A j (chipE p C)) (cl : At A m (logE r p)) {x : Nat} (st : At A x (storeE s p r)) (ho : C.out = false) {v : Int} (hv : isByte v)
  (k : ∀ h', Sat h0 A h' → Q (if C.cfg.slots ≤ v then 5 else 0) h') : F_stream_Gate_slot ⟨g, 0, none⟩ v Q h := by
 unfold F_stream_Gate_slot G_stream_Gate_slot
 obtain ⟨v0, v1⟩ := hv
 refine ⟨_, hs.ld ag rfl, _, rfl, ?_⟩
 rw [wrap_id (by omega)]
 refine sRead_sp hs ci cl st v ?_
 intro h1 hs
 rw [sread_err (by rw [ho]; decide) v0]
 by_cases c1 : C.cfg.slots ≤ v
 ·rw [if_pos c1] at k ⊢
  rw [if_pos (by decide)]
  exact k _ hs
 ·rw [if_neg c1] at k ⊢
  rw [if_neg (by decide)]
  exact k _ hs
theorem gkey_sp {Q : Int → H → Prop} {g rp l c d : Nat} {o : Option Addr} {mm jr jm : Nat} {R : List SR} {L : List Sec} (hs : Sat h0 A h) (ag : At A i (blk g (gtL s rp o l c d))) (ci : At A j (chipE p C)) {x : Nat} (st : At A x (storeE s p r)) (ho : C.out = false)
  (cr : At A jr (blk rp [.map (some mm)])) (cm : At A jm (mapE mm (R.map SR.ent))) (eR : R.map SR.kv = L) {v : Int} (hv : isByte v)
  (k : ∀ h', Sat h0 A h' → Q (if C.cfg.keys ≤ v ∨ L.find? (fun x => x.1 == v) = none then 13 else if (revokedM C v).1 = true then 14 else 0) h') : F_stream_Gate_key ⟨g, 0, none⟩ v Q h := by
 unfold F_stream_Gate_key G_stream_Gate_key
 try simp only [add_mk, Nat.zero_add, List.append_nil]
 obtain ⟨v0, v1⟩ := hv
 refine ⟨_, hs.ld ag rfl, _, rfl, ?_⟩
 rw [wrap_id (by omega)]
 refine sRevoked_sp hs ci st v ?_
 intro h1 hs
 rw [revoked_err (by rw [ho]; decide) v0]
 by_cases c1 : C.cfg.keys ≤ v
 ·rw [if_pos (Or.inl c1)] at k
  rw [if_pos c1, if_pos (by decide)]
  exact k _ hs
 rw [if_neg c1, if_neg (by decide)]
 refine ⟨_, hs.ld ag rfl, _, rfl, ?_⟩
 refine hasN_sp v hs cr cm ?_
 have e := at_kv R v
 rw [eR] at e
 cases f : SR.at_ R v with
 | none =>
  rw [f] at e
  have e' : L.find? (fun x => x.1 == v) = none := e.symm
  rw [if_pos (Or.inr e')] at k
  rw [if_pos (by simp)]
  exact k _ hs
 | some y =>
  rw [f] at e
  rw [if_neg (fun z => by
   rcases z with z | z
   ·exact c1 z
   ·rw [z] at e; cases e)] at k
  rw [if_neg (by simp)]
  by_cases c2 : (revokedM C v).1 = true
  ·rw [if_pos c2] at k ⊢; exact k _ hs
  ·rw [if_neg c2] at k ⊢; exact k _ hs
theorem tells_sp {Q : Int → H → Prop} {g rp c d : Nat} {o : Option Addr} {mm jr jm x y : Nat} {R : List SR} {L : List Sec} {B : List Int} (hg : hc h0 ⟨0, 0, none⟩ = some errTypeV) (hs : Sat h0 A h) (ag : At A i (blk g (gtL s rp o B.length c d))) (ab : At A y (slE o B.length c 1 (ints .u8 B))) (hb : bytesOk B) (hl : B.length < 2 ^ 40)
  (ci : At A j (chipE p C)) (cl : At A m (logE r p)) (st : At A x (storeE s p r)) (ho : C.out = false)
  (cr : At A jr (blk rp [.map (some mm)])) (cm : At A jm (mapE mm (R.map SR.ent))) (eR : R.map SR.kv = L)
  (k : ∀ h', Sat h0 A h' → Q (tellsM C L B) h') : F_stream_Gate_tells ⟨g, 0, none⟩ Q h := by
 unfold F_stream_Gate_tells G_stream_Gate_tells
 try simp only [add_mk, Nat.zero_add, List.append_nil]
 intro J8 hJ8
 have way : ¬ ((parseW B).1 ≠ 0 ∧ (parseW B).1 ≠ 6) → ∀ h', Sat h0 A h' → J8 [.dv (.one (.int .i64 0))] h' := by
  clear hs
  intro np h1 hs
  apply hJ8
  clear hJ8
  unfold tellsM at k
  rw [if_neg np] at k
  refine ⟨_, _, _, hs.ld ag rfl, ?_⟩
  intro J14 hJ14
  refine loopS B.length (fun t (s : Unit) => [.dv (.one (.int .i64 0)), si t]) (fun t (s : Unit) h => t ≤ 7 ∧ (5 < t → ¬ C.cfg.slots ≤ B.getD 5 0) ∧ (6 < t → ¬ (C.cfg.keys ≤ B.getD 6 0 ∨ L.find? (fun x => x.1 == B.getD 6 0) = none) ∧ ¬ (revokedM C (B.getD 6 0)).1 = true) ∧ Sat h0 A h) ?_ ?_ 0 () _ (by omega) ⟨by omega, fun y => by omega, fun y => by omega, hs⟩
  ·clear hs
   rintro t _ h2 ht ⟨t7, k5, k6, hs⟩ hk
   apply hJ14
   rw [ltI_eq, if_pos (by rw [decide_eq_true_iff]; omega)]
   obtain ⟨q1, hq1, g1⟩ := hsv_int (hs.sv ab) (x := t) ht
   have hby := byte_getD hb t
   refine ⟨q1, hq1, by omega, by omega, ?_⟩
   simp only [Int.toNat_natCast, Nat.mul_one]
   refine ⟨_, g1, ?_⟩
   by_cases t5 : t = 5
   ·subst t5
    rw [if_pos (by decide)]
    refine gslot_sp hs ag ci cl st ho hby (lg := 0) ?_
    intro h3 hs
    by_cases c1 : C.cfg.slots ≤ B.getD 5 0
    ·rw [if_pos c1, if_pos (by decide)]
     have := k _ hs
     rw [if_pos ⟨ht, c1⟩] at this
     exact this
    ·rw [if_neg c1, if_neg (by decide), if_neg (by decide), wrap_succ (by omega)]
     exact hk () _ ⟨by omega, fun _ => c1, fun y => by omega, hs⟩
   rw [if_neg (by simp; omega)]
   by_cases t6 : t = 6
   ·subst t6
    rw [if_pos (by decide)]
    refine gkey_sp (L := L) hs ag ci st ho cr cm eR hby ?_
    intro h3 hs
    have kk := k _ hs
    rw [if_neg (fun y => k5 (by omega) y.2)] at kk
    by_cases c1 : C.cfg.keys ≤ B.getD 6 0 ∨ L.find? (fun x => x.1 == B.getD 6 0) = none
    ·rw [if_pos c1, if_pos (by decide)]
     rw [if_pos ⟨ht, c1⟩] at kk
     exact kk
    rw [if_neg c1]
    rw [if_neg (fun y => c1 y.2)] at kk
    by_cases c2 : (revokedM C (B.getD 6 0)).1 = true
    ·rw [if_pos c2, if_pos (by decide)]
     rw [if_pos ⟨ht, c2⟩] at kk
     exact kk
    ·rw [if_neg c2, if_neg (by decide), if_neg (by decide), wrap_succ (by omega)]
     exact hk () _ ⟨by omega, fun _ => k5 (by omega), fun _ => ⟨c1, c2⟩, hs⟩
   rw [if_neg (by simp; omega), if_neg (by decide), ltI_eq]
   by_cases t7' : t = 7
   ·subst t7'
    rw [if_pos (by decide)]
    have kk := k _ hs
    rw [if_neg (fun y => k5 (by omega) y.2), if_neg (fun y => (k6 (by omega)).1 y.2), if_neg (fun y => (k6 (by omega)).2 y.2)] at kk
    exact kk
   ·rw [if_neg (by rw [decide_eq_true_iff]; omega), wrap_succ (by omega)]
    exact hk () _ ⟨by omega, fun y => by omega, fun y => by omega, hs⟩
  ·clear hs
   rintro _ h2 ⟨t7, k5, k6, hs⟩
   apply hJ14
   rw [ltI_eq, if_neg (by rw [decide_eq_true_iff]; omega)]
   have kk := k _ hs
   rw [if_neg (fun y => k5 y.1 y.2), if_neg (fun y => (k6 y.1).1 y.2), if_neg (fun y => (k6 y.1).2 y.2)] at kk
   exact kk
 clear hJ8
 refine ⟨_, _, _, hs.ld ag rfl, ?_⟩
 have hcap := capS hs ab
 refine Parse_sp hs (fun h' hs' => hs'.sv ab) hb hcap (by omega) ?_ ?_
 ·intro e at_ w h2 hp he hs
  intro n40 _ hn; replace hs := Sat.new hs hn; clear hn
  refine ⟨Sat.can hs (i := 0) .z (by simp [zeros]), ?_⟩
  intro h3 e3
  replace hs := Sat.wra (xs := imgL 0 0 0 (none, 0, 0) (zeros 32)) hs (i := 0) .z e3 rfl
  clear e3
  simp only [put_zero] at hs
  refine ⟨rfl, ?_⟩
  rw [if_pos (by rfl)]
  unfold F_errors_Is
  refine ⟨⟨w, 0, none⟩, e, 6, rfl, rfl, hs.ld (i := 1) (.s .z) rfl, ?_⟩
  have hp1 : (parseW B).1 = e := by rw [hp]
  dsimp only
  by_cases c6 : e = 6
  ·rw [if_neg (by rw [c6]; decide)]
   exact way (fun y => y.2 (by rw [hp1, c6])) _ hs.drop.drop
  rw [if_pos (by simpa using c6)]
  intro n47 _ hn; replace hs := Sat.new hs hn; clear hn
  unfold F_errors_As
  refine Or.inl (Or.inr ⟨⟨w, 0, none⟩, n47, 0, e, rfl, rfl, hc_ext hs.ex hg (fun y => y), ⟨_, hs.ld (i := 0) .z rfl⟩, ?_, hs.ld (i := 2) (.s (.s .z)) rfl, ?_⟩)
  ·have := (Sat.can hs (i := 0) (o := 0) (n := 1) .z (by simp)) 0 (by decide)
   rw [add_zero] at this
   exact this.2
  intro b1 _ hn; replace hs := Sat.new hs hn; clear hn
  intro b2 _ hn; replace hs := Sat.new hs hn; clear hn
  intro b3 _ hn; replace hs := Sat.new hs hn; clear hn
  intro b4 _ hn; replace hs := Sat.new hs hn; clear hn
  intro h5 e5
  replace hs := Sat.wr hs (i := 4) (.s (.s (.s (.s .z)))) e5
  clear e5
  simp only [put_succ, put_zero] at hs
  replace hs := hs.drop.drop.drop.drop
  replace hs : Sat h0 (blk n47 [.int .i64 e] :: _) h5 := hs
  refine ⟨_, hs.ld (i := 0) .z rfl, ?_⟩
  have kk := k _ hs.drop.drop.drop
  unfold tellsM at kk
  rw [if_pos ⟨by rw [hp1]; exact he, by rw [hp1]; exact c6⟩, hp1] at kk
  exact kk
 ·intro own n h2 hp hnn hs
  have htl : ((B.drop (16 + n)).take 32).length = 32 := by
   have := (parse_ok hb hp hnn).1
   rw [List.length_take, List.length_drop]; omega
  intro n40 _ hn; replace hs := Sat.new hs hn; clear hn
  refine ⟨Sat.can hs (i := 0) .z (by simp [zeros]), ?_⟩
  intro h3 e3
  replace hs := Sat.wra (xs := imgL (B.getD 5 0) (B.getD 6 0) (num4 B 8) (subAddr own.1 16 (16 + n) 1, n, n) ((B.drop (16 + n)).take 32)) hs (i := 0) .z e3 (by rw [img_len htl]; rfl)
  clear e3
  simp only [put_zero] at hs
  refine ⟨rfl, ?_⟩
  rw [if_neg (by decide)]
  exact way (fun y => y.1 (by rw [hp])) _ hs.drop.drop
theorem gwrite_sp {Q : Int → H → Prop} {g rp c d : Nat} {o : Option Addr} {mm jr jm x : Nat} {s1 sm : List Int} {n : Int} {R : List SR} {L : List Sec} {T xs : List Int} {q : Option Addr} {l lc : Nat} (hg : hc h0 ⟨0, 0, none⟩ = some errTypeV) (hs : Sat h0 (gtA g s rp o c d s1 sm n (T.take 524289) ++ A) h) (D : DgOk T s1 sm n)
  (ci : At A j (chipE p C)) (cl : At A m (logE r p)) (st : At A x (storeE s p r)) (ho : C.out = false)
  (cr : At A jr (blk rp [.map (some mm)])) (cm : At A jm (mapE mm (R.map SR.ent))) (eR : R.map SR.kv = L) (hT : bytesOk T) (hx : bytesOk xs) (hTl : T.length + xs.length < 2 ^ 59) (hlc : l ≤ lc)
  (rd : ∀ B h', Sat h0 (B ++ A) h' → hsv h' q 1 l (ints .u8 xs))
  (k : ∀ o' c' s1' sm' n' h', DgOk (T ++ xs) s1' sm' n' → Sat h0 (gtA g s rp o' c' d s1' sm' n' ((T ++ xs).take 524289) ++ A) h' → Q (tellsM C L ((T ++ xs).take 524289)) h') : F_stream_Gate_Write ⟨g, 0, none⟩ q l lc Q h := by
 unfold F_stream_Gate_Write G_stream_Gate_Write
 try simp only [add_mk, Nat.zero_add, List.append_nil, Nat.sub_zero]
 have hxl : xs.length = l := by have := (rd (gtA g s rp o c d s1 sm n (T.take 524289)) _ hs).1; simpa using this
 have ok := chip_ok hs ci.s.s.s
 obtain ⟨bl, hbl⟩ : ∃ bl, bl = (T.take 524289).length := ⟨_, rfl⟩
 have hbl2 : bl = min 524289 T.length := by rw [hbl, List.length_take]
 replace hs : Sat h0 (blk g (gtL s rp o bl c d) :: slE o bl c 1 (ints .u8 (T.take 524289)) :: blk d (dgL s1 sm n) :: A) h := by rw [hbl]; exact hs
 refine ⟨_, hs.ld (i := 0) .z rfl, _, rfl, ?_⟩
 refine sActive_sp hs ci.s.s.s cl.s.s.s st.s.s.s ?_
 intro h1 hs
 rw [sActive_out ok, ho, if_neg (by decide)]
 refine ⟨_, hs.ld (i := 0) .z rfl, _, rfl, ?_⟩
 refine shWrite_sp (xs := xs) hs (i := 2) (.s (.s .z)) D (by omega) hlc ?_ ?_
 ·intro s' sm' n' h' hs'
  simp only [put_succ, put_zero] at hs'
  exact rd [_, _, _] _ hs'
 intro s' sm' n' h2 D' hs
 simp only [put_succ, put_zero] at hs
 refine ⟨_, _, _, hs.ld (i := 0) .z rfl, _, _, _, hs.ld (i := 0) .z rfl, ?_⟩
 have ew : IntKind.i64.wrap (524289 - (bl : Int)) = ((524289 - bl : Nat) : Int) := by rw [wrap_id (by omega)]; omega
 rw [ew]
 obtain ⟨a, ha⟩ : ∃ a, a = min (524289 - bl) l := ⟨_, rfl⟩
 have ea : (if ((524289 - bl : Nat) : Int) < (l : Int) then ((524289 - bl : Nat) : Int) else (l : Int)) = (a : Int) := by
  rw [ha]; split <;> omega
 rw [ea]
 simp only [Int.toNat_natCast]
 have R1 := subRd (o := 0) (n := a) (m := lc) (rd [_, _, _] _ hs) (by omega) (by omega)
 rw [List.drop_zero] at R1
 refine ⟨by omega, by omega, _, R1, ?_⟩
 refine Sat.app hs (i := 1) (vs := ints .u8 (xs.take a)) (.s .z) (by simp; omega) rfl (ints_one _ _) (by omega) ?_
 intro o2 c2 h3 hs
 simp only [put_succ, put_zero] at hs
 rw [← ints_app] at hs
 have eT : T.take 524289 ++ xs.take a = (T ++ xs).take 524289 := by
  rw [List.take_append]
  by_cases g1 : T.length ≤ 524289
  ·rw [List.take_of_length_le g1]
   congr 1
   by_cases g2 : 524289 - T.length ≤ l
   ·rw [show a = 524289 - T.length by omega]
   ·rw [show a = l by omega, List.take_of_length_le (by omega), List.take_of_length_le (by omega)]
  ·rw [show a = 0 by omega, show 524289 - T.length = 0 by omega]
 rw [eT] at hs
 have el : bl + a = ((T ++ xs).take 524289).length := by rw [← eT, List.length_append, List.length_take, List.length_take]; omega
 rw [el] at hs ⊢
 refine ⟨Sat.can hs (i := 0) .z (show 2 + 1 ≤ 4 by decide), ?_⟩
 intro h4 e4
 replace hs := Sat.wr hs (i := 0) .z e4
 clear e4
 simp only [put_zero] at hs
 replace hs : Sat h0 (gtA g s rp o2 c2 d s' sm' n' ((T ++ xs).take 524289) ++ A) h4 := hs
 have hb2 : bytesOk ((T ++ xs).take 524289) := fun v hv => by
  rcases List.mem_append.1 (List.mem_of_mem_take hv) with y | y
  ·exact hT v y
  ·exact hx v y
 refine tells_sp (L := L) (B := (T ++ xs).take 524289) hg hs (i := 0) .z (y := 1) (.s .z) hb2 (by rw [List.length_take]; omega) ci.s.s.s cl.s.s.s st.s.s.s ho cr.s.s.s cm.s.s.s eR ?_
 intro h5 hs
 exact k _ _ _ _ _ _ D' hs
end
end Go.Proofs.YteedolonhdbieaaGreatDoor
end
