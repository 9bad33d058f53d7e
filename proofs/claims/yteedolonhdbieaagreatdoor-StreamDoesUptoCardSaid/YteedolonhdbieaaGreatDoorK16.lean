/- StreamDoes and its parts, laid together by a program of ours: Sp2 Sd0 SpW Sp3 Sd1 Ar14 Sd2 Sd3 Sd4 Sd5 RwStreamDoes -/
import Derived.JoinedCond
import Derived.Test.YteedolonhdbieaaGreatDoorK15
set_option autoImplicit false
set_option linter.all false
section
namespace Go.Proofs.YteedolonhdbieaaGreatDoor
open Go Go.Vc
set_option maxRecDepth 100000
attribute [local irreducible] macM gateM
theorem t_err {G : Int} {bs : List Int} (h : G ≠ 0) : tSlot G bs = 0 /\ tKey G bs = 0 /\ tVer G bs = 0 /\ tPay G bs = [] := by
 unfold tSlot tKey tVer tPay
 rw [if_neg h, if_neg h, if_neg h, if_neg h]
 exact ⟨rfl, rfl, rfl, rfl⟩
section
variable {h0 h : H} {A : List Ent} {i j p r b s m : Nat} {C : Cm}
theorem gateQ_sp {K : Int -> H -> Prop} {mm rr jm jr nb : Nat} {bs : List Int} {q : Option Addr} {l c : Nat} {R : List SR} {L : List Sec} (hg : hc h0 ⟨0, 0, none⟩ = some errTypeV) (hs : Sat h0 (blk nb (imgL 0 0 0 (none, 0, 0) (zeros 32)) :: A) h) (ci : At A i (chipE p C)) (cl' : At A j (logE r p)) (st : At A m (storeE s p r))
  (cr : At A jr (blk rr [.map (some mm)])) (cm : At A jm (mapE mm (R.map SR.ent))) (eR : R.map SR.kv = L) (gd : SR.good R) (rR : ∀ x, x ∈ R -> ∃ y, At A y x.sl)
  (rd : ∀ B h', Sat h0 (B ++ A) h' -> hsv h' q 1 l (ints .u8 bs)) (hb : bytesOk bs) (hlc : l ≤ c) (hl : l < 2 ^ 50)
  (k : ∀ (x : Sl) h', (tTag (gateM C L bs) bs).length = 32 -> (tPay (gateM C L bs) bs).length < 2 ^ 40 -> x.2.1 = (tPay (gateM C L bs) bs).length -> Sat h0 (blk nb (imgL (tSlot (gateM C L bs) bs) (tKey (gateM C L bs) bs) (tVer (gateM C L bs) bs) x (tTag (gateM C L bs) bs)) :: A) h' -> K (gateM C L bs) h') :
  F_gate_Check ⟨s, 0, none⟩ ⟨rr, 0, none⟩ q l c (fun i1 i2 i3 o n m l e h => hcan h ⟨nb, 0, none⟩ 36 /\ ∀ h'', h'' = hwr h ⟨nb, 0, none⟩ (.int .i64 i1 :: .int .i64 i2 :: .int .i64 i3 :: .slice o n m :: ints .u8 l) -> K e h'') h := by
 refine gate_sp (bs := bs) hg hs ci.s cl'.s st.s cr.s cm.s gd (fun x hx h' hs' => hs'.sv (rR x hx).choose_spec.s) (fun h' hs' => rd [_] h' hs') hb hlc hl ?_ ?_
 ·intro e he hne h5 hs
  rw [eR] at he
  subst he
  refine ⟨Sat.can hs .z (by simp [zeros]), ?_⟩
  intro h6 e6
  replace hs := Sat.wra (xs := imgL 0 0 0 (none, 0, 0) (zeros 32)) hs .z e6 rfl
  clear e6
  simp only [put_zero] at hs
  have e1 : tSlot (gateM C L bs) bs = 0 := if_neg hne
  have e2 : tKey (gateM C L bs) bs = 0 := if_neg hne
  have e3 : tVer (gateM C L bs) bs = 0 := if_neg hne
  have e4 : tPay (gateM C L bs) bs = [] := if_neg hne
  have e5 : tTag (gateM C L bs) bs = zeros 32 := if_neg hne
  have := k (none, 0, 0) h6
  rw [e1, e2, e3, e4, e5] at this
  exact this (zeros_len 32) (by decide) rfl hs
 ·intro own n hz hp hnn hln h5 hs
  rw [eR] at hz
  have tl32 : ((bs.drop (16 + n)).take 32).length = 32 := by rw [List.length_take, List.length_drop]; omega
  have pl : ((bs.drop 16).take n).length = n := by rw [List.length_take, List.length_drop]; omega
  replace hs := hs.perm (List.Perm.swap _ _ _)
  refine ⟨Sat.can hs .z (by simp [zeros]), ?_⟩
  intro h6 e6
  replace hs := Sat.wra (xs := imgL (bs.getD 5 0) (bs.getD 6 0) (num4 bs 8) (subAddr own.1 16 (16 + n) 1, n, n) ((bs.drop (16 + n)).take 32)) hs .z e6 (by rw [img_len tl32]; rfl)
  clear e6
  simp only [put_zero] at hs
  have en : (num4 bs 12).toNat = n := by omega
  have e1 : tSlot (gateM C L bs) bs = bs.getD 5 0 := if_pos hz
  have e2 : tKey (gateM C L bs) bs = bs.getD 6 0 := if_pos hz
  have e3 : tVer (gateM C L bs) bs = num4 bs 8 := if_pos hz
  have e4 : tPay (gateM C L bs) bs = (bs.drop 16).take n := by rw [← en]; exact if_pos hz
  have e5 : tTag (gateM C L bs) bs = (bs.drop (16 + n)).take 32 := by rw [← en]; exact if_pos hz
  have := k (subAddr own.1 16 (16 + n) 1, n, n) h6
  rw [e1, e2, e3, e4, e5, hz, pl] at this
  exact this tl32 (by have := (parse_ok hb hp hnn).2.2.2; omega) rfl (hs.sub (List.Sublist.cons_cons _ (List.sublist_cons_self _ _)))
attribute [local irreducible] tSlot tKey tVer tPay tTag in
theorem gsum_sp {Q : Int -> Int -> Int -> Int -> Int -> H -> Prop} {g rp c d : Nat} {o : Option Addr} {mm jr jm x : Nat} {s1 sm : List Int} {n : Int} {R : List SR} {L : List Sec} {B : List Int} (hg : hc h0 ⟨0, 0, none⟩ = some errTypeV) (hs : Sat h0 (gtA g s rp o c d s1 sm n B ++ A) h)
  (ci : At A j (chipE p C)) (cl : At A m (logE r p)) (st : At A x (storeE s p r))
  (cr : At A jr (blk rp [.map (some mm)])) (cm : At A jm (mapE mm (R.map SR.ent))) (eR : R.map SR.kv = L) (gd : SR.good R) (rR : ∀ x, x ∈ R -> ∃ y, At A y x.sl) (hb : bytesOk B) (hl : B.length < 2 ^ 45)
  (k : ∀ h', Sat h0 (gtA g s rp o c d s1 sm n B ++ A) h' -> Q (tSlot (gateM C L B) B) (tKey (gateM C L B) B) (tVer (gateM C L B) B) ((tPay (gateM C L B) B).length : Int) (gateM C L B) h') : F_stream_Gate_Sum ⟨g, 0, none⟩ Q h := by
 unfold F_stream_Gate_Sum G_stream_Gate_Sum
 try simp only [add_mk, Nat.zero_add, List.append_nil]
 have hcap := capS hs zs1
 have fin : ∀ {Z : Prop} {h'}, Sat h0 (gtA g s rp o c d s1 sm n B ++ A) h' -> (gateM C L B = 0 -> Q (tSlot (gateM C L B) B) (tKey (gateM C L B) B) (tVer (gateM C L B) B) ((tPay (gateM C L B) B).length : Int) 0 h' -> Z) -> (gateM C L B ≠ 0 -> Q 0 0 0 0 (gateM C L B) h' -> Z) -> Z := by
  intro Z h' hs' f1 f2
  have kk := k h' hs'
  by_cases e : gateM C L B = 0
  ·refine f1 e ?_
   rw [e] at kk ⊢
   exact kk
  ·refine f2 e ?_
   obtain ⟨e1, e2, e3, e4⟩ := t_err (bs := B) e
   rw [e1, e2, e3, e4] at kk
   exact kk
 refine ⟨_, hs.ld .z rfl, _, hs.ld .z rfl, _, _, _, hs.ld .z rfl, ⟨_, rfl, _, rfl, ?_⟩, ?_⟩
 ·refine gateP_sp (L := L) (bs := B) hg hs ci.s.s.s cl.s.s.s st.s.s.s cr.s.s.s cm.s.s.s eR gd (fun x hx => ⟨_, (rR x hx).choose_spec.s.s.s⟩) (fun h' hs' => hs'.sv zs1) hb hcap (by omega) ?_
  intro nb P h1 _ _ hs
  refine fin hs.drop.drop ?_ ?_
  ·intro e q
   rw [if_neg (by simpa using e)]
   exact ⟨_, hs.ld .z rfl, _, hs.ld .z rfl, _, hs.ld .z rfl, _, _, _, hs.ld .z rfl, q⟩
  ·intro e q
   rw [if_pos (by simpa using e)]
   exact q
 ·intro nb _ hn; replace hs := Sat.new hs hn
  replace hs : Sat h0 (blk nb (imgL 0 0 0 (none, 0, 0) (zeros 32)) :: (gtA g s rp o c d s1 sm n B ++ A)) _ := hs
  refine ⟨Sat.cs hs zs1 rfl, Sat.cs hs zs1 rfl, Sat.cs hs zs1 rfl, _, rfl, _, rfl, ?_⟩
  refine gateQ_sp (L := L) (bs := B) hg hs ci.s.s.s cl.s.s.s st.s.s.s cr.s.s.s cm.s.s.s eR gd (fun x hx => ⟨_, (rR x hx).choose_spec.s.s.s⟩) (fun D h' hs' => ?_) hb hcap (by omega) ?_
  ·obtain ⟨z, az⟩ : ∃ z, At (D ++ (gtA g s rp o c d s1 sm n B ++ A)) z (slE o B.length c 1 (ints .u8 B)) := At.mem (by simp)
   exact hs'.sv az
  intro x h1 _ _ hx hs
  refine fin hs.drop ?_ ?_
  ·intro e q
   rw [if_neg (by simpa using e)]
   refine ⟨_, hs.ld .z rfl, _, hs.ld .z rfl, _, hs.ld .z rfl, _, _, _, hs.ld .z rfl, ?_⟩
   rw [hx]
   exact q
  ·intro e q
   rw [if_pos (by simpa using e)]
   exact q
theorem gdigest_sp {Q : List Int -> H -> Prop} {g rp c d : Nat} {o : Option Addr} {s1 sm : List Int} {n : Int} {B T : List Int} (hs : Sat h0 (gtA g s rp o c d s1 sm n B ++ A) h) (D : DgOk T s1 sm n) (hT : T.length < 2 ^ 60)
  (k : ∀ h', Sat h0 (gtA g s rp o c d s1 sm n B ++ A) h' -> Q (shaM T) h') : F_stream_Gate_Digest ⟨g, 0, none⟩ Q h := by
 unfold F_stream_Gate_Digest G_stream_Gate_Digest
 try simp only [add_mk, Nat.zero_add, List.append_nil]
 intro nb _ hn; replace hs := Sat.new hs hn
 refine ⟨_, hs.ld zs1 rfl, _, rfl, ?_⟩
 refine Sum_sp hs zs3 D hT ?_
 intro h1 hs
 refine ⟨Sat.can hs .z (by simp [zeros]), ?_⟩
 intro h2 e2
 replace hs := Sat.wra (xs := ints .u8 (shaM T)) hs .z e2 (by simp [zeros, shaM_len])
 clear e2
 simp only [put_zero] at hs
 exact ⟨_, shaM_len _, hs.row0 .z, k _ hs.drop⟩
theorem gnew_sp {Q : Option Addr -> H -> Prop} {rp : Nat} (hs : Sat h0 A h) (k : ∀ g d h', Sat h0 (gtA g s rp none 0 d sM (zeros 64) 0 [] ++ A) h' -> Q (some ⟨g, 0, none⟩) h') : F_stream_New ⟨s, 0, none⟩ ⟨rp, 0, none⟩ Q h := by
 unfold F_stream_New G_stream_New
 refine NewD_sp hs ?_
 intro d h1 hs
 replace hs := hs.sl_nil 1 none
 intro g _ hn; replace hs := Sat.new hs hn
 exact k g d _ hs
end
end Go.Proofs.YteedolonhdbieaaGreatDoor
end
section
namespace Go.Proofs.YteedolonhdbieaaGreatDoor
open Go Go.Vc
set_option maxRecDepth 100000
attribute [local irreducible] macM
theorem tells_take {C : Cm} {L : List Sec} (T : List Int) : tellsM C L (T.take 524289) = tellsM C L T := by
 by_cases g : T.length ≤ 524289
 ·rw [List.take_of_length_le g]
 have e1 : parseW T = (4, 524288) := by unfold parseW; rw [if_pos (by omega)]
 have e2 : parseW (T.take 524289) = (4, 524288) := by unfold parseW; rw [if_pos (by rw [List.length_take]; omega)]
 unfold tellsM
 rw [e1, e2]
 rfl
theorem gate_take {C : Cm} {L : List Sec} (T : List Int) : gateM C L (T.take 524289) = gateM C L T /\ (gateM C L T = 0 -> T.take 524289 = T) := by
 cases ho : C.out with
 | false =>
  have := gate_cut (L := L) T ho
  exact ⟨this.1, fun y => this.2 (by rw [← y])⟩
 | true =>
  have e : ∀ B, gateM C L B = 8 := fun B => by unfold gateM; rw [if_pos ho]
  rw [e, e]
  exact ⟨rfl, fun y => absurd y (by decide)⟩
theorem t_take {C : Cm} {L : List Sec} (T : List Int) : tSlot (gateM C L (T.take 524289)) (T.take 524289) = tSlot (gateM C L T) T /\ tKey (gateM C L (T.take 524289)) (T.take 524289) = tKey (gateM C L T) T /\ tVer (gateM C L (T.take 524289)) (T.take 524289) = tVer (gateM C L T) T /\ tPay (gateM C L (T.take 524289)) (T.take 524289) = tPay (gateM C L T) T := by
 obtain ⟨e1, e2⟩ := gate_take (C := C) (L := L) T
 rw [e1]
 by_cases z : gateM C L T = 0
 ·rw [e2 z]; exact ⟨rfl, rfl, rfl, rfl⟩
 ·obtain ⟨a1, a2, a3, a4⟩ := t_err (bs := T) z
  obtain ⟨b1, b2, b3, b4⟩ := t_err (bs := T.take 524289) z
  rw [a1, a2, a3, a4, b1, b2, b3, b4]; exact ⟨rfl, rfl, rfl, rfl⟩
end Go.Proofs.YteedolonhdbieaaGreatDoor
end
section
namespace Go.Proofs.YteedolonhdbieaaGreatDoor
open Go Go.Vc
set_option maxRecDepth 1000000
def cfg26 : Cfg := ⟨8, 1, 2, 3, 1, 0, 0⟩
theorem cfg26_may : cfg26.may := by decide
def b26 : List Int := coverM 0 0 5 [1, 2, 3] ++ macM [7] (coverM 0 0 5 [1, 2, 3])
theorem g26 : (tellsM (freshC cfg26) [(0, [7])] (b26.take 10) == 0 && gateM (freshC cfg26) [(0, [7])] (b26.take 10) == 6 && tellsM (freshC cfg26) [(0, [7])] b26 == 0 && gateM (freshC cfg26) [(0, [7])] b26 == 0 && tSlot 0 b26 == 0 && tKey 0 b26 == 0 && tVer 0 b26 == 5 && (tPay 0 b26).length == 3 && tellsM (freshC cfg26) [(0, [7])] (b26 ++ [1]) == 7) = true := by decide +kernel
theorem g26s : tellsM (freshC cfg26) [(0, [7])] (b26.take 10) = 0 /\ gateM (freshC cfg26) [(0, [7])] (b26.take 10) = 6 /\ tellsM (freshC cfg26) [(0, [7])] b26 = 0 /\ gateM (freshC cfg26) [(0, [7])] b26 = 0 /\ tSlot 0 b26 = 0 /\ tKey 0 b26 = 0 /\ tVer 0 b26 = 5 /\ (tPay 0 b26).length = 3 /\ tellsM (freshC cfg26) [(0, [7])] (b26 ++ [1]) = 7 := by
 have := g26
 simp only [Bool.and_eq_true, beq_iff_eq] at this
 exact ⟨this.1.1.1.1.1.1.1.1, this.1.1.1.1.1.1.1.2, this.1.1.1.1.1.1.2, this.1.1.1.1.1.2, this.1.1.1.1.2, this.1.1.1.2, this.1.1.2, this.1.2, this.2⟩
theorem n26 : newM [(0, [7])] = none := by decide
theorem b26_len : b26.length = 51 := by unfold b26; rw [List.length_append, coverM_len, macM_len]; rfl
theorem b26_ok : bytesOk b26 := by
 intro v hv
 unfold b26 at hv
 rcases List.mem_append.1 hv with hv | hv
 ·exact (by unfold bytesOk isByte; decide : bytesOk (coverM 0 0 5 [1, 2, 3])) v hv
 ·exact isBy_mac _ _ v hv
end Go.Proofs.YteedolonhdbieaaGreatDoor
end
section
namespace Go.Proofs.YteedolonhdbieaaGreatDoor
open Go Go.Vc
set_option maxRecDepth 100000
attribute [local irreducible] macM gateM tSlot tKey tVer tPay tTag tellsM
abbrev wldL (pc st rp pr rr g1 r1 g2 r2 : Nat) : List Value := [.pointer (some ⟨pc, 0, none⟩), .pointer (some ⟨st, 0, none⟩), .pointer (some ⟨rp, 0, none⟩), .pointer (some ⟨pr, 0, none⟩), .pointer (some ⟨rr, 0, none⟩), .pointer (some ⟨g1, 0, none⟩), .pointer (some ⟨r1, 0, none⟩), .pointer (some ⟨g2, 0, none⟩), .pointer (some ⟨r2, 0, none⟩)]
abbrev cfgP (n : Nat) (c : Cfg) : Ent := blk n [.int .i64 c.cells, .int .i64 c.slots, .int .i64 c.fuses, .int .i64 c.step, .int .i64 c.keys, .int .i64 c.erases, .int .i64 c.area]
abbrev gt0 (g st rp d : Nat) : List Ent := gtA g st rp none 0 d sM (zeros 64) 0 []
theorem wperm (n73 n64 w : Ent) (G1 G2 X : List Ent) : ∀ {h0 h : H}, Sat h0 (n73 :: (G2 ++ (n64 :: (G1 ++ (w :: X))))) h -> Sat h0 (w :: (G1 ++ (G2 ++ X))) h := by
 intro h0 h hs
 have s1 : Sat h0 (G2 ++ (G1 ++ (w :: X))) h := hs.drop.sub ((List.Sublist.refl G2).append (List.sublist_cons_self _ _))
 refine s1.perm ?_
 have p1 : (G1 ++ (w :: X)).Perm (w :: (G1 ++ X)) := List.perm_middle
 have p2 : (G2 ++ (w :: (G1 ++ X))).Perm (w :: (G2 ++ (G1 ++ X))) := List.perm_middle
 refine (p1.append_left G2).trans (p2.trans (List.Perm.cons _ ?_))
 rw [← List.append_assoc, ← List.append_assoc]
 exact List.perm_append_comm.append_right X
section
variable {h0 h : H} {A : List Ent} {i j p r b s m : Nat} {C : Cm}
theorem begun26_sp {Q : Option Addr -> Bool -> H -> Prop} {X : List SR} {lp : Option Addr} {ll lc : Nat} (c : Cfg) (hs : Sat h0 A h) (rl : ∀ h', Sat h0 A h' -> SecsAt h' lp ll X) (hll : ll < 2 ^ 47)
  (k0 : ¬ (c.may /\ newM (X.map SR.kv) = none) -> ∀ h', Sat h0 A h' -> Q none true h')
  (k1 : c.may -> newM (X.map SR.kv) = none -> ∀ w pc st lg rp mp R pr rr g1 r1 d1 g2 r2 d2 h', R.map SR.kv = X.map SR.kv -> SR.good R -> Sat h0 (blk w (wldL pc st rp pr rr g1 r1 g2 r2) :: (gt0 g1 st rp d1 ++ (gt0 g2 st rp d2 ++ (chipE pc (freshC c) :: storeE st pc lg :: logE lg pc :: (ringP rp mp R ++ A))))) h' -> Q (some ⟨w, 0, none⟩) true h') :
  F_portcullislaw26_begun c.cells c.slots c.fuses c.step c.keys c.erases c.area lp ll lc Q h := by
 unfold F_portcullislaw26_begun G_portcullislaw26_begun
 try simp only [add_mk, Nat.zero_add, List.append_nil]
 obtain ⟨L, hL⟩ : ∃ L, X.map SR.kv = L := ⟨_, rfl⟩
 rw [hL] at k0 k1
 intro n18 _ hn; replace hs := Sat.new hs hn
 replace hs : Sat h0 (cfgP n18 c :: A) _ := hs
 refine ringsU_sp hs hL (fun h' hs' => rl h' hs'.drop) hll ?_
 intro o1 e1 i1 h1 B1 hs hB1
 refine keysU_sp hs hL (fun h' hs' => rl h' (hs'.sub ((List.sublist_cons_self _ _).trans (List.sublist_append_right _ _)))) hll ?_
 intro o2 e2 i2 h2 B2 hs hB2
 have ee : e2 = e1 := by
  rcases hB1 with ⟨a, _⟩ | ⟨a, a2, _⟩
  ·rcases hB2 with ⟨b, _⟩ | ⟨b, _⟩
   ·rw [a] at b; cases b; rfl
   ·rw [a] at b; cases b
  ·rcases hB2 with ⟨b, _⟩ | ⟨b, b2, _⟩
   ·rw [a] at b; cases b
   ·rw [a2, b2]
 subst ee
 rw [if_neg (by simp)]
 obtain ⟨y5, b5⟩ : ∃ x, At (B2 ++ (B1 ++ (cfgP n18 c :: A))) x (cfgP n18 c) := At.mem (by simp)
 refine ⟨_, hs.ld b5 rfl, _, hs.ld b5 rfl, _, hs.ld b5 rfl, _, hs.ld b5 rfl, _, hs.ld b5 rfl, _, hs.ld b5 rfl, _, hs.ld b5 rfl, ?_⟩
 have drop : ∀ {D : List Ent} {h' : H}, Sat h0 (D ++ (B2 ++ (B1 ++ (cfgP n18 c :: A)))) h' -> Sat h0 A h' := fun {D h'} hs' => hs'.sub ((((List.sublist_cons_self _ _).trans (List.sublist_append_right _ _)).trans (List.sublist_append_right _ _)).trans (List.sublist_append_right _ _))
 refine rNew_sp c hs ?_ ?_
 ·intro nm h3 hs
  refine ⟨_, hs.ld b5 rfl, _, hs.ld b5 rfl, _, hs.ld b5 rfl, _, hs.ld b5 rfl, _, hs.ld b5 rfl, _, hs.ld b5 rfl, _, hs.ld b5 rfl, ?_⟩
  refine New_sp c hs ?_ (fun y => absurd y nm)
  intro _ h4 hs
  rw [if_neg (by decide)]
  intro J49 hJ49
  have := k0 (fun y => nm y.1) _ (drop (D := []) hs)
  split
  ·exact this
  ·exact this
 intro cm pr h3 hs
 refine ⟨_, hs.ld b5.s rfl, _, hs.ld b5.s rfl, _, hs.ld b5.s rfl, _, hs.ld b5.s rfl, _, hs.ld b5.s rfl, _, hs.ld b5.s rfl, _, hs.ld b5.s rfl, ?_⟩
 refine New_sp c hs (fun y => absurd cm y) ?_
 intro _ pc h4 hs
 rw [if_neg (by decide)]
 intro J49 hJ49
 rcases hB1 with ⟨a, _⟩ | ⟨a, a2, rr, lp', lc', R2, ho1, eR2, gR2, bb1⟩
 ·rw [if_pos (by simpa using newM_ne a)]
  exact k0 (fun y => by rw [a] at y; exact absurd y.2 (by simp)) _ (drop (D := [_, _]) hs)
 rcases hB2 with ⟨b, _⟩ | ⟨b, b2, rp, mp, R, ho2, eR, gR, bb2⟩
 ·rw [a] at b; cases b
 subst a2
 rw [if_neg (by decide), if_neg (by decide)]
 apply hJ49
 clear hJ49
 refine ⟨_, rfl, ?_⟩
 refine sMount_sp hs .z (fun y => by cases y) ?_
 intro _ st lg h5 hs
 intro J55 hJ55
 subst ho1 ho2
 rw [if_neg (by simp), if_neg (by simp), if_neg (by simp), if_neg (by decide)]
 apply hJ55
 clear hJ55
 intro w _ hn; replace hs := Sat.new hs hn
 refine ⟨_, rfl, _, rfl, ?_⟩
 refine gnew_sp hs ?_
 intro g1 d1 h6 hs
 intro r1 _ hn; replace hs := Sat.new hs hn
 refine ⟨Sat.can hs zs4 (show 5 + 2 ≤ 9 by decide), ?_⟩
 intro h7 e7
 replace hs := Sat.wr hs zs4 e7
 clear e7
 simp only [List.cons_append, List.nil_append, put_succ, put_zero] at hs
 refine ⟨_, rfl, _, rfl, ?_⟩
 refine gnew_sp hs ?_
 intro g2 d2 h8 hs
 intro r2 _ hn; replace hs := Sat.new hs hn
 refine ⟨Sat.can hs zs8 (show 7 + 2 ≤ 9 by decide), ?_⟩
 intro h9 e9
 replace hs := Sat.wr hs zs8 e9
 clear e9
 simp only [List.cons_append, List.nil_append, put_succ, put_zero] at hs
 subst bb1 bb2
 obtain ⟨XX, hXX⟩ : ∃ XX : List Ent, XX = storeE st pc lg :: logE lg pc :: chipE pc (freshC c) :: (chipE pr (freshC c) :: (ringP rp mp R ++ (ringD rr lp' lc' R2 ++ (cfgP n18 c :: A)))) := ⟨_, rfl⟩
 have hs' : Sat h0 (blk w (wldL pc st rp pr rr g1 r1 g2 r2) :: (gt0 g1 st rp d1 ++ (gt0 g2 st rp d2 ++ XX))) h9 := by
  rw [hXX]
  exact wperm _ _ _ (gt0 g1 st rp d1) (gt0 g2 st rp d2) _ hs
 clear hs
 refine ⟨_, hs'.ld .z rfl, ?_⟩
 rw [if_pos (by simp)]
 refine ⟨_, hs'.ld .z rfl, ?_⟩
 have K := k1 cm a w pc st lg rp mp R pr rr g1 r1 d1 g2 r2 d2 h9 eR gR
 refine (show (!(some (⟨g2, 0, none⟩ : Addr)).isNone) = true by simp) ▸ K ?_
 have s2 : Sat h0 (blk w (wldL pc st rp pr rr g1 r1 g2 r2) :: (gt0 g1 st rp d1 ++ (gt0 g2 st rp d2 ++ (chipE pc (freshC c) :: storeE st pc lg :: logE lg pc :: (chipE pr (freshC c) :: (ringP rp mp R ++ (ringD rr lp' lc' R2 ++ (cfgP n18 c :: A)))))))) h9 := by
  refine hs'.perm (List.Perm.cons _ (List.Perm.append_left _ (List.Perm.append_left _ ?_)))
  rw [hXX]
  exact ((List.Perm.swap _ _ _).cons _).trans (List.Perm.swap _ _ _)
 refine s2.sub (List.Sublist.cons_cons _ ((List.Sublist.refl _).append ((List.Sublist.refl _).append (List.Sublist.cons_cons _ (List.Sublist.cons_cons _ (List.Sublist.cons_cons _ ?_))))))
 exact ((List.Sublist.refl _).append ((List.sublist_cons_self _ _).trans (List.sublist_append_right _ _))).trans (List.sublist_cons_self _ _)
theorem fixed26_sp {Q : Bool -> H -> Prop} (hg : hc h0 ⟨0, 0, none⟩ = some errTypeV) (hs : Sat h0 A h) (k : ∀ h', Sat h0 A h' -> Q true h') : F_portcullislaw26_fixed Q h := by
 unfold F_portcullislaw26_fixed G_portcullislaw26_fixed
 try simp only [add_mk, Nat.zero_add, List.append_nil, Nat.sub_zero]
 unfold F_portcullislaw26_small G_portcullislaw26_small
 try simp only [add_mk, Nat.zero_add]
 intro n2 _ hn; replace hs := Sat.new hs hn
 refine ⟨Sat.can hs .z (by decide), ?_⟩
 intro h1 e1
 replace hs := Sat.wra hs .z e1 rfl
 clear e1
 simp only [put_zero] at hs
 refine ⟨_, hs.ld .z rfl, _, hs.ld .z rfl, _, hs.ld .z rfl, _, hs.ld .z rfl, _, hs.ld .z rfl, _, hs.ld .z rfl, _, hs.ld .z rfl, ?_⟩
 replace hs := hs.drop
 unfold F_portcullislaw26_secrets G_portcullislaw26_secrets
 intro n11 _ hn; replace hs := Sat.new hs hn
 intro n14 _ hn; replace hs := Sat.new hs hn
 have rdX : ∀ h', Sat h0 (blk n14 [.int .i64 0, .slice (some ⟨n11, 0, none⟩) 1 1] :: blk n11 [.int .u8 7] :: A) h' -> SecsAt h' (some ⟨n14, 0, none⟩) 1 [⟨0, [7], some ⟨n11, 0, none⟩, 1⟩] := by
  intro h' hs'
  refine ⟨rfl, ?_⟩
  intro x hx
  have : x = 0 := by simp at hx; exact hx
  subst this
  refine ⟨_, rfl, ?_, ?_, hs'.bv (i := 1) (l := 1) zs1 rfl (ints_one .u8 [7]), ?_, by show 1 < 2 ^ 47; decide⟩
  ·exact hs'.ld .z rfl
  ·exact hs'.ld .z rfl
  ·intro n hn
   simp only [List.getElem_cons_zero, List.mem_cons, List.not_mem_nil, or_false] at hn
   subst hn; decide
 refine begun26_sp cfg26 hs rdX (by decide) (fun y => absurd ⟨cfg26_may, n26⟩ y) ?_
 intro cm _ w pc st lg rp mp R pr rr g1 r1 d1 g2 r2 d2 h2 eR gR hs
 intro J23 hJ23
 rw [if_neg (by simp), if_neg (by decide)]
 apply hJ23
 clear hJ23
 obtain ⟨TL, hTL⟩ : ∃ TL : List Ent, TL = ringP rp mp R ++ (blk n14 [.int .i64 0, .slice (some ⟨n11, 0, none⟩) 1 1] :: blk n11 [.int .u8 7] :: A) := ⟨_, rfl⟩
 have subA : A.Sublist TL := by rw [hTL]; exact ((List.sublist_cons_self _ _).trans (List.sublist_cons_self _ _)).trans (List.sublist_append_right _ _)
 obtain ⟨y3, a3⟩ : ∃ x, At TL x (blk rp [.map (some mp)]) := At.mem (by rw [hTL]; simp)
 obtain ⟨y4, a4⟩ : ∃ x, At TL x (mapE mp (R.map SR.ent)) := At.mem (by rw [hTL]; simp)
 have rR : ∀ x, x ∈ R -> ∃ y, At TL y x.sl := fun x hx => At.mem (by rw [hTL]; exact List.mem_append_left _ (List.mem_cons_of_mem _ (List.mem_cons_of_mem _ (List.mem_map_of_mem hx))))
 rw [← hTL] at hs
 clear hTL
 replace hs : Sat h0 (gt0 g1 st rp d1 ++ (blk w (wldL pc st rp pr rr g1 r1 g2 r2) :: (chipE pc (freshC cfg26) :: storeE st pc lg :: logE lg pc :: TL))) h2 := by
  have s1 : Sat h0 (blk w (wldL pc st rp pr rr g1 r1 g2 r2) :: (gt0 g1 st rp d1 ++ (chipE pc (freshC cfg26) :: storeE st pc lg :: logE lg pc :: TL))) h2 := hs.sub (List.Sublist.cons_cons _ ((List.Sublist.refl _).append (List.sublist_append_right _ _)))
  exact s1.perm List.perm_middle.symm
 obtain ⟨RR, hRR⟩ : ∃ RR : List Ent, RR = blk w (wldL pc st rp pr rr g1 r1 g2 r2) :: (chipE pc (freshC cfg26) :: storeE st pc lg :: logE lg pc :: TL) := ⟨_, rfl⟩
 have aw : At RR 0 (blk w (wldL pc st rp pr rr g1 r1 g2 r2)) := by rw [hRR]; exact .z
 have ac : At RR 1 (chipE pc (freshC cfg26)) := by rw [hRR]; exact .s .z
 have ast : At RR 2 (storeE st pc lg) := by rw [hRR]; exact .s zs1
 have al : At RR 3 (logE lg pc) := by rw [hRR]; exact .s zs2
 have a3' : At RR (y3 + 4) (blk rp [.map (some mp)]) := by rw [hRR]; exact a3.s.s.s.s
 have a4' : At RR (y4 + 4) (mapE mp (R.map SR.ent)) := by rw [hRR]; exact a4.s.s.s.s
 have rR' : ∀ x, x ∈ R -> ∃ y, At RR y x.sl := fun x hx => ⟨_, by rw [hRR]; exact (rR x hx).choose_spec.s.s.s.s⟩
 have subA' : A.Sublist RR := by rw [hRR]; exact (((subA.trans (List.sublist_cons_self _ _)).trans (List.sublist_cons_self _ _)).trans (List.sublist_cons_self _ _)).trans (List.sublist_cons_self _ _)
 rw [← hRR] at hs
 clear hRR a3 a4 rR subA
 obtain ⟨f1, f2, f3, f4, f5, f6, f7, f8, f9⟩ := g26s
 have bl := b26_len
 have bo := b26_ok
 have ho : (freshC cfg26).out = false := rfl
 have eR' : R.map SR.kv = [(0, [7])] := eR
 intro n25 _ hn; replace hs := Sat.new hs hn
 intro n28 _ hn; replace hs := Sat.new hs hn
 refine rmake_sp (sec := [7]) (pay := [1, 2, 3]) (slot := 0) (key := 0) (ver := 5) (pl := 3) hs (zeros_len 32) (by decide) (by intro n hn; simp at hn; subst hn; decide) (by decide) (by intro n hn; simp at hn; rcases hn with rfl | rfl | rfl <;> decide) (fun h' hs' => hs'.bv (i := 1) (l := 1) zs1 rfl (ints_one .u8 [7])) (fun h' hs' => hs'.bv (i := 0) (l := 3) .z rfl (ints_one .u8 [1, 2, 3])) ?_
 intro pb cb h3 hs hcb
 replace hs : Sat h0 (slE pb 51 cb 1 (ints .u8 b26) :: blk n28 [.int .u8 1, .int .u8 2, .int .u8 3] :: blk n25 [.int .u8 7] :: (gt0 g1 st rp d1 ++ RR)) h3 := hs
 replace hs : Sat h0 (gt0 g1 st rp d1 ++ (slE pb 51 cb 1 (ints .u8 b26) :: RR)) h3 := by
  have s1 : Sat h0 (slE pb 51 cb 1 (ints .u8 b26) :: (gt0 g1 st rp d1 ++ RR)) h3 := hs.sub (List.Sublist.cons_cons _ ((List.sublist_cons_self _ _).trans (List.sublist_cons_self _ _)))
  exact s1.perm List.perm_middle.symm
 have rdb : ∀ {B : List Ent} {h' : H}, Sat h0 (B ++ (slE pb 51 cb 1 (ints .u8 b26) :: RR)) h' -> hsv h' pb 1 51 (ints .u8 b26) := by
  intro B h' hs'
  obtain ⟨z, az⟩ : ∃ z, At (B ++ (slE pb 51 cb 1 (ints .u8 b26) :: RR)) z (slE pb 51 cb 1 (ints .u8 b26)) := At.mem (by simp)
  exact hs'.sv az
 have ldw : ∀ {B : List Ent} {h' : H} {o : Nat} {v : Value}, Sat h0 (B ++ (slE pb 51 cb 1 (ints .u8 b26) :: RR)) h' -> (wldL pc st rp pr rr g1 r1 g2 r2)[o]? = some v -> hc h' ⟨w, o, none⟩ = some v := by
  intro B h' o v hs' e
  have s1 := hs'.sub (List.sublist_append_right _ _)
  exact s1.ld aw.s e
 refine ⟨_, rfl, _, ldw hs rfl, by decide, by show (10 : Int) ≤ (cb : Int); omega, _, rfl, ?_⟩
 have R1 : ∀ {B : List Ent} {h' : H}, Sat h0 (B ++ (slE pb 51 cb 1 (ints .u8 b26) :: RR)) h' -> hsv h' (subAddr pb 0 cb 1) 1 10 (ints .u8 (b26.take 10)) := by
  intro B h' hs'
  have := subRd (o := 0) (n := 10) (m := cb) (rdb hs') (by omega) (by omega)
  rw [List.drop_zero] at this
  exact this
 have R2 : ∀ {B : List Ent} {h' : H}, Sat h0 (B ++ (slE pb 51 cb 1 (ints .u8 b26) :: RR)) h' -> hsv h' (subAddr pb 10 cb 1) 1 41 (ints .u8 (b26.drop 10)) := by
  intro B h' hs'
  have := subRd (o := 10) (n := 41) (m := cb) (rdb hs') (by omega) (by omega)
  rw [List.take_of_length_le (by rw [List.length_drop]; omega)] at this
  exact this
 have t10 : (b26.take 10).take 524289 = b26.take 10 := List.take_of_length_le (by rw [List.length_take]; omega)
 have t51 : b26.take 524289 = b26 := List.take_of_length_le (by omega)
 have l10 : (b26.take 10).length = 10 := by rw [List.length_take]; omega
 have l41 : (b26.drop 10).length = 41 := by rw [List.length_drop]; omega
 have o10 : bytesOk (b26.take 10) := fun v hv => bo v (List.mem_of_mem_take hv)
 have o41 : bytesOk (b26.drop 10) := fun v hv => bo v (List.mem_of_mem_drop hv)
 refine gwrite_sp (T := []) (xs := b26.take 10) (L := [(0, [7])]) hg hs dg_new ac.s al.s ast.s ho a3'.s a4'.s eR' (fun v hv => by cases hv) o10 (by rw [l10]; decide) (by show 10 ≤ cb; omega) (fun B h' hs' => R1 hs') ?_
 intro o1 c1 s1 m1 n1 h4 D1 hs
 simp only [List.nil_append] at D1 hs ⊢
 simp only [t10] at hs ⊢
 refine ⟨_, rfl, _, ldw hs rfl, _, rfl, ?_⟩
 refine gsum_sp (L := [(0, [7])]) hg hs ac.s al.s ast.s a3'.s a4'.s eR' gR (fun x hx => ⟨_, (rR' x hx).choose_spec.s⟩) o10 (by rw [l10]; decide) ?_
 intro h5 hs
 refine ⟨_, rfl, _, ldw hs rfl, by decide, by decide, _, rfl, ?_⟩
 have hs' : Sat h0 (gtA g1 st rp o1 c1 d1 s1 m1 n1 ((b26.take 10).take 524289) ++ (slE pb 51 cb 1 (ints .u8 b26) :: RR)) h5 := by rw [t10]; exact hs
 refine gwrite_sp (T := b26.take 10) (xs := b26.drop 10) (L := [(0, [7])]) hg hs' D1 ac.s al.s ast.s ho a3'.s a4'.s eR' o10 o41 (by rw [l10, l41]; decide) (by show 51 - 10 ≤ cb - 10; omega) (fun B h' hs' => R2 hs') ?_
 intro o2 c2 s2 m2 n2' h6 D2 hs
 simp only [List.take_append_drop] at D2 hs ⊢
 simp only [t51] at hs ⊢
 refine ⟨_, rfl, _, ldw hs rfl, _, rfl, ?_⟩
 refine gsum_sp (L := [(0, [7])]) hg hs ac.s al.s ast.s a3'.s a4'.s eR' gR (fun x hx => ⟨_, (rR' x hx).choose_spec.s⟩) bo (by omega) ?_
 intro h7 hs
 refine ⟨_, rfl, _, ldw hs rfl, ?_⟩
 intro n66 _ hn; replace hs := Sat.new hs hn
 refine ⟨_, rfl, ?_⟩
 have hs3 : Sat h0 (gtA g1 st rp o2 c2 d1 s2 m2 n2' (b26.take 524289) ++ (blk n66 [.int .u8 1] :: (slE pb 51 cb 1 (ints .u8 b26) :: RR))) _ := (by
  rw [t51]
  exact hs.perm List.perm_middle.symm)
 refine gwrite_sp (T := b26) (xs := [1]) (L := [(0, [7])]) hg hs3 D2 ac.s.s al.s.s ast.s.s ho a3'.s.s a4'.s.s eR' bo (by intro v hv; simp at hv; subst hv; unfold isByte; decide) (by rw [bl]; decide) (by decide) (fun B h' hs' => by
  obtain ⟨z, az⟩ : ∃ z, At (B ++ (blk n66 [.int .u8 1] :: (slE pb 51 cb 1 (ints .u8 b26) :: RR))) z (blk n66 [.int .u8 1]) := At.mem (by simp)
  exact hs'.bv (l := 1) az rfl (ints_one .u8 [1])) ?_
 intro o3 c3 s3 m3 n3 h8 D3 hs
 have t52 : (b26 ++ [1]).take 524289 = b26 ++ [1] := List.take_of_length_le (by rw [List.length_append, bl]; decide)
 simp only [t52] at hs ⊢
 simp only [f1, f2, f3, f4, f9, f5, f6, f7, f8]
 rw [if_pos (by decide), if_pos (by decide), if_pos (by decide), if_pos (by decide), if_pos (by decide), if_pos (by decide), if_pos (by decide), if_pos (by decide)]
 exact k _ (hs.sub (((subA'.trans (List.sublist_cons_self _ _)).trans (List.sublist_cons_self _ _)).trans (List.sublist_append_right _ _)))
end
end Go.Proofs.YteedolonhdbieaaGreatDoor
end
section
namespace Go.Proofs.YteedolonhdbieaaGreatDoor
open Go Go.Vc
set_option maxRecDepth 100000
attribute [local irreducible] macM gateM tSlot tKey tVer tPay tTag tellsM
structure PW where
 o : Option Addr
 m : Nat
 d : Nat
 s : List Int
 sm : List Int
 n : Int
 o2 : Option Addr
 m2 : Nat
abbrev docL (pr rr : Nat) (o2 : Option Addr) (l m2 : Nat) : List Value := [.pointer (some ⟨pr, 0, none⟩), .pointer (some ⟨rr, 0, none⟩), .slice o2 l m2]
abbrev prA (g r st rp pr rr : Nat) (T : List Int) (x : PW) : List Ent := gtA g st rp x.o x.m x.d x.s x.sm x.n (T.take 524289) ++ [blk r (docL pr rr x.o2 T.length x.m2), slE x.o2 T.length x.m2 1 (ints .u8 T)]
def pairE (g r st rp pr rr : Nat) (T : List Int) : Ent := exE 6 (fun x : PW => DgOk T x.s x.sm x.n) (prA g r st rp pr rr T)
abbrev W26 (w pc st lg rp pr rr g1 r1 g2 r2 : Nat) (C : Cm) (T1 T2 : List Int) (B : List Ent) : List Ent :=
 blk w (wldL pc st rp pr rr g1 r1 g2 r2) :: pairE g1 r1 st rp pr rr T1 :: pairE g2 r2 st rp pr rr T2 :: chipE pc C :: refE pr C :: storeE st pc lg :: logE lg pc :: B
structure Ring26 (B : List Ent) (rp mp rr : Nat) (lp : Option Addr) (lc : Nat) (R R2 : List SR) (L : List Sec) : Prop where
 cr : ∃ j, At B j (blk rp [.map (some mp)])
 cm : ∃ j, At B j (mapE mp (R.map SR.ent))
 eR : R.map SR.kv = L
 gR : SR.good R
 rR : ∀ x, x ∈ R -> ∃ y, At B y x.sl
 dr : ∃ j, At B j (blk rr [.slice lp R2.length lc])
 dl : ∃ j, At B j (slE lp R2.length lc 2 (secV R2))
 eR2 : R2.map SR.kv = L
 gR2 : SR.good R2
 rR2 : ∀ x, x ∈ R2 -> ∃ y, At B y x.sl
 lR2 : R2.length < 2 ^ 40
theorem perm_t {α : Type} (a b : α) (G X : List α) : (a :: b :: (G ++ X)).Perm (G ++ (b :: a :: X)) :=
 (List.Perm.swap b a _).trans (by
  have := (List.perm_append_comm (l₁ := [b, a]) (l₂ := G)).append_right X
  simpa using this)
theorem perm_w {α : Type} (p1 p2 w s l c r : α) (B : List α) : (p1 :: p2 :: w :: s :: l :: c :: r :: B).Perm (w :: p1 :: p2 :: c :: r :: s :: l :: B) := by
 have q1 : (p1 :: p2 :: w :: s :: l :: c :: r :: B).Perm (w :: p1 :: p2 :: s :: l :: c :: r :: B) := List.perm_middle (l₁ := [p1, p2])
 refine q1.trans (List.Perm.cons _ (List.Perm.cons _ (List.Perm.cons _ ?_)))
 exact (List.perm_append_comm (l₁ := [s, l]) (l₂ := [c, r])).append_right B
section
variable {h0 h : H} {A : List Ent} {i j p r b s m : Nat} {C : Cm}
theorem pair_close {g r st rp pr rr d : Nat} {Z : List Ent} (hs : Sat h0 (blk r (docL pr rr none 0 0) :: (gt0 g st rp d ++ Z)) h) : Sat h0 (pairE g r st rp pr rr [] :: Z) h := by
 replace hs := hs.sl_nil 1 none
 replace hs := hs.perm (perm_t _ _ (gt0 g st rp d) Z)
 exact Sat.close (n := 6) (φ := fun x : PW => DgOk [] x.s x.sm x.n) (F := prA g r st rp pr rr []) ⟨none, 0, d, sM, zeros 64, 0, none, 0⟩ dg_new hs
theorem pairs_close {w pc st lg rp pr rr g1 r1 g2 r2 d1 d2 : Nat} {B : List Ent} (hs : Sat h0 (blk r2 (docL pr rr none 0 0) :: (gt0 g2 st rp d2 ++ (blk r1 (docL pr rr none 0 0) :: (gt0 g1 st rp d1 ++ (blk w (wldL pc st rp pr rr g1 r1 g2 r2) :: storeE st pc lg :: logE lg pc :: chipE pc C :: chipE pr C :: B))))) h) :
  Sat h0 (blk w (wldL pc st rp pr rr g1 r1 g2 r2) :: pairE g1 r1 st rp pr rr [] :: pairE g2 r2 st rp pr rr [] :: chipE pc C :: chipE pr C :: storeE st pc lg :: logE lg pc :: B) h := by
 replace hs := pair_close hs
 replace hs : Sat h0 (blk r1 (docL pr rr none 0 0) :: (gt0 g1 st rp d1 ++ (pairE g2 r2 st rp pr rr [] :: blk w (wldL pc st rp pr rr g1 r1 g2 r2) :: storeE st pc lg :: logE lg pc :: chipE pc C :: chipE pr C :: B))) h :=
  hs.perm (List.perm_middle (l₁ := blk r1 (docL pr rr none 0 0) :: gt0 g1 st rp d1)).symm
 replace hs := pair_close hs
 exact hs.perm (perm_w _ _ _ _ _ _ _ _)
theorem begunF_sp {Q : Option Addr -> Bool -> H -> Prop} {X : List SR} {lp : Option Addr} {ll lc : Nat} (c : Cfg) (hs : Sat h0 A h) (rl : ∀ h', Sat h0 A h' -> SecsAt h' lp ll X) (hll : ll < 2 ^ 47)
  (k0 : ¬ (c.may /\ newM (X.map SR.kv) = none) -> ∀ h', Sat h0 A h' -> Q none true h')
  (k1 : c.may -> newM (X.map SR.kv) = none -> ∀ w pc st lg rp mp R pr rr lp' lc' R2 g1 r1 g2 r2 B h', Ring26 B rp mp rr lp' lc' R R2 (X.map SR.kv) -> Sat h0 (W26 w pc st lg rp pr rr g1 r1 g2 r2 (freshC c) [] [] B) h' -> Q (some ⟨w, 0, none⟩) true h') :
  F_portcullislaw26_begun c.cells c.slots c.fuses c.step c.keys c.erases c.area lp ll lc Q h := by
 unfold F_portcullislaw26_begun G_portcullislaw26_begun
 try simp only [add_mk, Nat.zero_add, List.append_nil]
 obtain ⟨L, hL⟩ : ∃ L, X.map SR.kv = L := ⟨_, rfl⟩
 rw [hL] at k0 k1
 intro n18 _ hn; replace hs := Sat.new hs hn
 replace hs : Sat h0 (cfgP n18 c :: A) _ := hs
 refine ringsU_sp hs hL (fun h' hs' => rl h' hs'.drop) hll ?_
 intro o1 e1 i1 h1 B1 hs hB1
 refine keysU_sp hs hL (fun h' hs' => rl h' (hs'.sub ((List.sublist_cons_self _ _).trans (List.sublist_append_right _ _)))) hll ?_
 intro o2 e2 i2 h2 B2 hs hB2
 have ee : e2 = e1 := by
  rcases hB1 with ⟨a, _⟩ | ⟨a, a2, _⟩
  ·rcases hB2 with ⟨b, _⟩ | ⟨b, _⟩
   ·rw [a] at b; cases b; rfl
   ·rw [a] at b; cases b
  ·rcases hB2 with ⟨b, _⟩ | ⟨b, b2, _⟩
   ·rw [a] at b; cases b
   ·rw [a2, b2]
 subst ee
 rw [if_neg (by simp)]
 obtain ⟨y5, b5⟩ : ∃ x, At (B2 ++ (B1 ++ (cfgP n18 c :: A))) x (cfgP n18 c) := At.mem (by simp)
 refine ⟨_, hs.ld b5 rfl, _, hs.ld b5 rfl, _, hs.ld b5 rfl, _, hs.ld b5 rfl, _, hs.ld b5 rfl, _, hs.ld b5 rfl, _, hs.ld b5 rfl, ?_⟩
 have drop : ∀ {D : List Ent} {h' : H}, Sat h0 (D ++ (B2 ++ (B1 ++ (cfgP n18 c :: A)))) h' -> Sat h0 A h' := fun {D h'} hs' => hs'.sub ((((List.sublist_cons_self _ _).trans (List.sublist_append_right _ _)).trans (List.sublist_append_right _ _)).trans (List.sublist_append_right _ _))
 refine rNew_sp c hs ?_ ?_
 ·intro nm h3 hs
  refine ⟨_, hs.ld b5 rfl, _, hs.ld b5 rfl, _, hs.ld b5 rfl, _, hs.ld b5 rfl, _, hs.ld b5 rfl, _, hs.ld b5 rfl, _, hs.ld b5 rfl, ?_⟩
  refine New_sp c hs ?_ (fun y => absurd y nm)
  intro _ h4 hs
  rw [if_neg (by decide)]
  intro J49 hJ49
  have := k0 (fun y => nm y.1) _ (drop (D := []) hs)
  split
  ·exact this
  ·exact this
 intro cm pr h3 hs
 refine ⟨_, hs.ld b5.s rfl, _, hs.ld b5.s rfl, _, hs.ld b5.s rfl, _, hs.ld b5.s rfl, _, hs.ld b5.s rfl, _, hs.ld b5.s rfl, _, hs.ld b5.s rfl, ?_⟩
 refine New_sp c hs (fun y => absurd cm y) ?_
 intro _ pc h4 hs
 rw [if_neg (by decide)]
 intro J49 hJ49
 rcases hB1 with ⟨a, _⟩ | ⟨a, a2, rr, lp', lc', R2, ho1, eR2, gR2, bb1⟩
 ·rw [if_pos (by simpa using newM_ne a)]
  exact k0 (fun y => by rw [a] at y; exact absurd y.2 (by simp)) _ (drop (D := [_, _]) hs)
 rcases hB2 with ⟨b, _⟩ | ⟨b, b2, rp, mp, R, ho2, eR, gR, bb2⟩
 ·rw [a] at b; cases b
 subst a2
 rw [if_neg (by decide), if_neg (by decide)]
 apply hJ49
 clear hJ49
 refine ⟨_, rfl, ?_⟩
 refine sMount_sp hs .z (fun y => by cases y) ?_
 intro _ st lg h5 hs
 intro J55 hJ55
 subst ho1 ho2
 rw [if_neg (by simp), if_neg (by simp), if_neg (by simp), if_neg (by decide)]
 apply hJ55
 clear hJ55
 intro w _ hn; replace hs := Sat.new hs hn
 refine ⟨_, rfl, _, rfl, ?_⟩
 refine gnew_sp hs ?_
 intro g1 d1 h6 hs
 intro r1 _ hn; replace hs := Sat.new hs hn
 refine ⟨Sat.can hs zs4 (show 5 + 2 ≤ 9 by decide), ?_⟩
 intro h7 e7
 replace hs := Sat.wr hs zs4 e7
 clear e7
 simp only [List.cons_append, List.nil_append, put_succ, put_zero] at hs
 refine ⟨_, rfl, _, rfl, ?_⟩
 refine gnew_sp hs ?_
 intro g2 d2 h8 hs
 intro r2 _ hn; replace hs := Sat.new hs hn
 refine ⟨Sat.can hs zs8 (show 7 + 2 ≤ 9 by decide), ?_⟩
 intro h9 e9
 replace hs := Sat.wr hs zs8 e9
 clear e9
 simp only [List.cons_append, List.nil_append, put_succ, put_zero] at hs
 subst bb1 bb2
 have hs' := pairs_close hs
 clear hs
 replace hs' := chip_ref hs' zs4
 simp only [put_succ, put_zero] at hs'
 refine ⟨_, hs'.ld .z rfl, ?_⟩
 rw [if_pos (by simp)]
 refine ⟨_, hs'.ld .z rfl, ?_⟩
 have lR2 : R2.length < 2 ^ 40 := by
  have := congrArg List.length eR2
  rw [List.length_map] at this
  have h64 : ¬ 64 < L.length := fun y => by unfold newM at a; rw [if_pos y] at a; cases a
  omega
 have K := k1 cm a w pc st lg rp mp R pr rr lp' lc' R2 g1 r1 g2 r2 (ringP rp mp R ++ (ringD rr lp' lc' R2 ++ (cfgP n18 c :: A))) h9 ?_
 ·exact (show (!(some (⟨g2, 0, none⟩ : Addr)).isNone) = true by simp) ▸ K hs'
 ·exact ⟨At.mem (by simp), At.mem (by simp), eR, gR, fun x hx => At.mem (List.mem_append_left _ (List.mem_cons_of_mem _ (List.mem_cons_of_mem _ (List.mem_map_of_mem hx)))), At.mem (by simp), At.mem (by simp), eR2, gR2, fun x hx => At.mem (List.mem_append_right _ (List.mem_append_left _ (List.mem_cons_of_mem _ (List.mem_cons_of_mem _ (List.mem_map_of_mem hx))))), lR2⟩
end
end Go.Proofs.YteedolonhdbieaaGreatDoor
end
section
namespace Go.Proofs.YteedolonhdbieaaGreatDoor
open Go Go.Vc
set_option maxRecDepth 100000
section
variable {h0 h : H} {A : List Ent} {i j p r b : Nat} {C : Cm}
/-! ### The statement's words -/
def marks4 (n : Nat) : List Int := match n with | 0 => [0, 0, 0, 0] | 1 => [161, 0, 0, 0] | 2 => [161, 162, 0, 0] | 3 => [161, 162, 163, 0] | _ => [161, 162, 163, 164]
end
end Go.Proofs.YteedolonhdbieaaGreatDoor
end
section
namespace Go.Proofs.YteedolonhdbieaaGreatDoor
open Go Go.Vc
set_option maxRecDepth 100000
attribute [local irreducible] macM gateM tSlot tKey tVer tPay tTag
section
variable {h0 h : H} {A : List Ent} {i j p r b s m : Nat} {C : Cm}
theorem lent26_sp {Q : Option Addr -> Nat -> Nat -> H -> Prop} {q : Option Addr} {l c : Nat} {bs : List Int} (hs : Sat h0 A h) (rd : hsv h0 q 1 l (ints .u8 bs)) (hl : l + 4096 ≤ 2 ^ 47)
  (k : ∀ nb h', Sat h0 (blk nb (ints .u8 (bs ++ marks4 4)) :: A) h' -> Q (some ⟨nb, 0, none⟩) (l + 4) (l + 4) h') : F_portcullislaw26_lent q l c Q h := by
 unfold F_portcullislaw26_lent G_portcullislaw26_lent
 have hbl : bs.length = l := by have := rd.1; simpa using this
 have ew : IntKind.i64.wrap ((l : Int) + 4) = ((l + 4 : Nat) : Int) := by rw [wrap_id (by omega)]; omega
 rw [ew, Int.toNat_natCast]
 refine ⟨by omega, by omega, by omega, by omega, ?_⟩
 intro n5 _ hn; replace hs := Sat.new hs hn
 have e0 : (List.replicate (l + 4) [Value.int .u8 0]).flatten = ints .u8 (zeros l ++ marks4 0) := by
  rw [← List.replicate_append_replicate, List.flatten_append]
  have : ∀ n, (List.replicate n [Value.int .u8 0]).flatten = ints .u8 (zeros n) := by
   intro n
   induction n with
   | zero => rfl
   | succ n ih => rw [List.replicate_succ, List.flatten_cons, ih]; rfl
  rw [this, this]; simp [ints]; rfl
 rw [e0] at hs
 have em : Nat.min l (l + 4) = l := by show min _ _ = _; omega
 rw [em]
 refine ⟨_, hs.base rd, Or.inr ⟨_, rfl, Sat.can hs .z (by simp [marks4, zeros])⟩, ?_⟩
 intro h2 e2
 replace hs := Sat.wr hs .z (o := 0) e2
 clear e2
 have e3 : splice (ints .u8 (zeros l ++ marks4 0)) 0 (ints .u8 bs) = ints .u8 (bs ++ marks4 0) := by
  have : ints .u8 (zeros l ++ marks4 0) = ints .u8 (zeros l) ++ ints .u8 (marks4 0) := by simp [ints]
  rw [this, splice_left _ _ _ _ (by simp [zeros, hbl]), splice_all _ _ (by simp [zeros, hbl])]
  simp [ints]
 rw [e3] at hs
 simp only [put] at hs
 intro J hJ
 refine loop_up 4 (fun n h => Sat h0 (blk n5 (ints .u8 (bs ++ marks4 n)) :: A) h) ?_ ?_ 0 _ (by omega) hs
 ·intro n h3 hn hs hk
  apply hJ
  rw [ltI_eq, if_pos (by simp; omega)]
  have e4 : IntKind.i64.wrap ((l : Int) + (n : Int)) = ((l + n : Nat) : Int) := by rw [wrap_id (by omega)]; omega
  rw [e4, Int.toNat_natCast, Nat.mul_one]
  have hml : (marks4 n).length = 4 := by unfold marks4; split <;> rfl
  refine ⟨_, rfl, by omega, by omega, ?_, ?_⟩
  ·rw [add_mk, Nat.zero_add]; exact Sat.can hs .z (by simp [hml]; omega)
  intro h4 e5
  rw [add_mk, Nat.zero_add] at e5
  replace hs := Sat.wr hs .z (o := l + n) e5
  clear e5
  rw [wrap_succ (by omega)]
  refine hk _ ?_
  have e6 : IntKind.u8.wrap (IntKind.i64.wrap (161 + (n : Int))) = 161 + n := by rw [wrap_id (by omega), wrap_u8_id (by omega)]
  rw [e6] at hs
  have e7 : splice (ints .u8 (bs ++ marks4 n)) (l + n) [.int .u8 (161 + n)] = ints .u8 (bs ++ marks4 (n + 1)) := by
   show (ints .u8 (bs ++ marks4 n)).set (l + n) (.int .u8 (161 + n)) = _
   rw [ints_set, List.set_append_right _ _ (by omega), hbl, Nat.add_sub_cancel_left]
   have : n = 0 ∨ n = 1 ∨ n = 2 ∨ n = 3 := by omega
   rcases this with rfl | rfl | rfl | rfl <;> rfl
  rw [e7] at hs
  exact hs
 ·intro h3 hs
  apply hJ
  rw [ltI_eq, if_neg (by simp)]
  exact k n5 _ hs
theorem rparseV_sp {K : Nat -> Nat -> H -> Prop} {q : Option Addr} {l c : Nat} {bs : List Int} (hs : Sat h0 A h) (rd : ∀ h', Sat h0 A h' -> hsv h' q 1 l (ints .u8 bs)) (hb : bytesOk bs) (hlc : l ≤ c) (hl : l < 2 ^ 50)
  (k : ∀ n m at_ h', Sat h0 (blk m [.int .i64 (parseW bs).1, .int .i64 at_] :: A) h' -> K n m h') :
  F_portcullisref11_Parse q l c (fun i1 i2 i3 o n0 m0 t e at_ h => ∀ n h', hnew h n (.int .i64 0 :: .int .i64 0 :: .int .i64 0 :: .slice none 0 0 :: ints .u8 (zeros 32)) h' -> ∀ m h'', hnew h' m [.int .i64 0, .int .i64 0] h'' ->
   hcan h'' ⟨n, 0, none⟩ 36 /\ ∀ h3, h3 = hwr h'' ⟨n, 0, none⟩ (.int .i64 i1 :: .int .i64 i2 :: .int .i64 i3 :: .slice o n0 m0 :: ints .u8 t) -> hcan h3 ⟨m, 0, none⟩ 2 /\ ∀ h4, h4 = hwr h3 ⟨m, 0, none⟩ [.int .i64 e, .int .i64 at_] -> K n m h4) h := by
 have fin : ∀ {B : List Ent} {h1 : H} {i1 i2 i3 : Int} {x : Sl} {t : List Int} {e at_ : Int}, t.length = 32 -> e = (parseW bs).1 -> Sat h0 (B ++ A) h1 -> ∀ n h', hnew h1 n (.int .i64 0 :: .int .i64 0 :: .int .i64 0 :: .slice none 0 0 :: ints .u8 (zeros 32)) h' -> ∀ m h'', hnew h' m [.int .i64 0, .int .i64 0] h'' ->
   hcan h'' ⟨n, 0, none⟩ 36 /\ ∀ h3, h3 = hwr h'' ⟨n, 0, none⟩ (.int .i64 i1 :: .int .i64 i2 :: .int .i64 i3 :: .slice x.1 x.2.1 x.2.2 :: ints .u8 t) -> hcan h3 ⟨m, 0, none⟩ 2 /\ ∀ h4, h4 = hwr h3 ⟨m, 0, none⟩ [.int .i64 e, .int .i64 at_] -> K n m h4 := by
  intro B h1 i1 i2 i3 x t e at_ ht he hs n _ hn
  replace hs := Sat.new hs hn
  intro m _ hn; replace hs := Sat.new hs hn
  replace hs : Sat h0 (blk m [.int .i64 0, .int .i64 0] :: blk n (imgL 0 0 0 (none, 0, 0) (zeros 32)) :: (B ++ A)) _ := hs
  refine ⟨Sat.can hs zs1 (by simp [zeros]), ?_⟩
  intro h3 e3
  replace hs := Sat.wra (xs := imgL i1 i2 i3 x t) hs zs1 e3 (by rw [img_len ht]; rfl)
  clear e3
  simp only [put_succ, put_zero] at hs
  refine ⟨Sat.can hs .z (by simp), ?_⟩
  intro h4 e4
  replace hs := Sat.wra hs .z e4 rfl
  clear e4
  simp only [put_zero] at hs
  subst he
  exact k n m at_ _ (hs.sub (List.Sublist.cons_cons _ ((List.sublist_append_right _ _).trans (List.sublist_cons_self _ _))))
 refine rParse_sp hs rd hb hlc hl ?_ ?_
 ·intro e at_ h2 hp he hs
  exact fin (B := []) (x := (none, 0, 0)) (zeros_len 32) (by rw [hp]) hs
 ·intro own n h2 hp hnn _ hs
  have htl : ((bs.drop (16 + n)).take 32).length = 32 := by
   have := (parse_ok hb hp hnn).1
   rw [List.length_take, List.length_drop]; omega
  exact fin (B := [_]) (x := own) htl (by rw [hp]) hs
theorem rtells_sp {Q : Int -> H -> Prop} {pr rr y : Nat} {o2 : Option Addr} {m2 : Nat} {T : List Int} {jr jl lc : Nat} {lp : Option Addr} {R : List SR} {L : List Sec} (hs : Sat h0 A h) (ar : At A i (blk r (docL pr rr o2 T.length m2))) (ab : At A y (slE o2 T.length m2 1 (ints .u8 T))) (cj : At A j (refE pr C))
  (dr : At A jr (blk rr [.slice lp R.length lc])) (dl : At A jl (slE lp R.length lc 2 (secV R))) (eR : R.map SR.kv = L) (lR : R.length < 2 ^ 40) (hb : bytesOk T) (hl : T.length < 2 ^ 45) (ho : C.out = false)
  (k : ∀ h', Sat h0 A h' -> Q (tellsM C L T) h') : F_portcullisref26_Gate_tells ⟨r, 0, none⟩ Q h := by
 unfold F_portcullisref26_Gate_tells G_portcullisref26_Gate_tells
 try simp only [add_mk, Nat.zero_add, List.append_nil]
 have hcap := capS hs ab
 refine ⟨_, _, _, hs.ld ar rfl, ?_⟩
 refine rparseV_sp hs (fun h' hs' => hs'.sv ab) hb hcap (by omega) ?_
 intro n m at_ h1 hs J hJ
 unfold tellsM at k
 have way : ¬ ((parseW T).1 ≠ 0 /\ (parseW T).1 ≠ 6) -> J [] h1 := by
  intro np
  apply hJ
  clear hJ
  rw [if_neg np] at k
  replace hs := hs.drop
  obtain ⟨_, lc1⟩ := ref_cell hs cj
  refine ⟨_, _, _, hs.ld ar rfl, ?_⟩
  rw [ltI_eq]
  by_cases l6 : T.length < 6
  ·rw [if_pos (by rw [decide_eq_true_iff]; omega)]
   have := k _ hs
   rw [if_neg (fun z => absurd z.1 (by omega)), if_neg (fun z => absurd z.1 (by omega)), if_neg (fun z => absurd z.1 (by omega))] at this
   exact this
  rw [if_neg (by rw [decide_eq_true_iff]; omega)]
  have b5 := byte_getD hb 5
  have b6 := byte_getD hb 6
  unfold isByte at b5 b6
  obtain ⟨q1, hq1, g1⟩ := hsv_int (hs.sv ab) (x := 5) (by omega)
  refine ⟨_, _, _, hs.ld ar rfl, q1, hq1, by omega, by omega, _, g1, ?_⟩
  refine ⟨_, hs.ld ar rfl, _, rfl, _, lc1 1 _ rfl, ?_⟩
  rw [leI_eq, wrap_id (by omega)]
  by_cases gs : C.cfg.slots ≤ T.getD 5 0
  ·rw [if_pos (by simpa using gs)]
   have := k _ hs
   rw [if_pos ⟨by omega, gs⟩] at this
   exact this
  rw [if_neg (by simpa using gs)]
  rw [if_neg (fun z => gs z.2)] at k
  refine ⟨_, _, _, hs.ld ar rfl, ?_⟩
  rw [ltI_eq]
  by_cases l7 : T.length < 7
  ·rw [if_pos (by rw [decide_eq_true_iff]; omega)]
   have := k _ hs
   rw [if_neg (fun z => absurd z.1 (by omega)), if_neg (fun z => absurd z.1 (by omega))] at this
   exact this
  rw [if_neg (by rw [decide_eq_true_iff]; omega)]
  obtain ⟨q2, hq2, g2⟩ := hsv_int (hs.sv ab) (x := 6) (by omega)
  refine ⟨_, _, _, hs.ld ar rfl, q2, hq2, by omega, by omega, _, g2, ?_⟩
  refine ⟨_, hs.ld ar rfl, _, rfl, ?_⟩
  rw [wrap_id (by omega)]
  refine rhas_sp _ hs dr dl lR ?_
  have e := at_kv R (T.getD 6 0)
  rw [eR] at e
  cases ex : SR.at_ R (T.getD 6 0) with
  | none =>
   rw [ex] at e
   rw [if_pos (by simp)]
   have := k _ hs
   rw [if_pos ⟨by omega, Or.inr e.symm⟩] at this
   exact this
  | some x =>
   rw [ex] at e
   rw [if_neg (by simp)]
   refine ⟨_, hs.ld ar rfl, _, rfl, _, lc1 4 _ rfl, ?_⟩
   rw [leI_eq]
   by_cases gk : C.cfg.keys ≤ T.getD 6 0
   ·rw [if_pos (by simpa using gk)]
    have := k _ hs
    rw [if_pos ⟨by omega, Or.inl gk⟩] at this
    exact this
   rw [if_neg (by simpa using gk)]
   rw [if_neg (fun z => by
    rcases z.2 with z | z
    ·exact gk z
    ·rw [z] at e; cases e)] at k
   refine ⟨_, hs.ld ar rfl, _, rfl, ?_⟩
   unfold F_portcullisref10_Revoked G_portcullisref10_Revoked
   refine rRevoked_sp hs cj _ ?_
   intro h5 hs
   dsimp only
   have := k _ hs
   by_cases gr : (revokedM C (T.getD 6 0)).1 = true
   ·rw [if_pos ⟨by omega, gr⟩] at this
    rw [if_pos gr]; exact this
   ·rw [if_neg (fun z => gr z.2)] at this
    rw [if_neg gr]; exact this
 refine ⟨_, hs.ld .z rfl, ?_⟩
 by_cases p0 : (parseW T).1 = 0
 ·rw [if_neg (by simpa using p0)]
  exact way (fun z => z.1 p0)
 rw [if_pos (by simpa using p0)]
 refine ⟨_, hs.ld .z rfl, ?_⟩
 by_cases p6 : (parseW T).1 = 6
 ·rw [if_neg (by simpa using p6)]
  exact way (fun z => z.2 p6)
 rw [if_pos (by simpa using p6)]
 refine ⟨_, hs.ld .z rfl, ?_⟩
 have := k _ hs.drop
 rw [if_pos ⟨p0, p6⟩] at this
 exact this
theorem rwrite_sp {Q : Int -> H -> Prop} {pr rr : Nat} {o2 : Option Addr} {m2 : Nat} {T xs : List Int} {jr jl lc : Nat} {lp : Option Addr} {R : List SR} {L : List Sec} {q : Option Addr} {l c : Nat} (hs : Sat h0 (blk r (docL pr rr o2 T.length m2) :: slE o2 T.length m2 1 (ints .u8 T) :: A) h) (cj : At A j (refE pr C))
  (dr : At A jr (blk rr [.slice lp R.length lc])) (dl : At A jl (slE lp R.length lc 2 (secV R))) (eR : R.map SR.kv = L) (lR : R.length < 2 ^ 40) (hb : bytesOk T) (hx : bytesOk xs) (hl : T.length + xs.length < 2 ^ 44) (rd : hsv h0 q 1 l (ints .u8 xs))
  (k1 : C.out = true -> ∀ h', Sat h0 (blk r (docL pr rr o2 T.length m2) :: slE o2 T.length m2 1 (ints .u8 T) :: A) h' -> Q 8 h')
  (k2 : C.out = false -> ∀ o' c' h', Sat h0 (blk r (docL pr rr o' (T ++ xs).length c') :: slE o' (T ++ xs).length c' 1 (ints .u8 (T ++ xs)) :: A) h' -> Q (tellsM C L (T ++ xs)) h') : F_portcullisref26_Gate_Write ⟨r, 0, none⟩ q l c Q h := by
 unfold F_portcullisref26_Gate_Write G_portcullisref26_Gate_Write
 try simp only [add_mk, Nat.zero_add, List.append_nil]
 have hxl : xs.length = l := by have := rd.1; simpa using this
 refine ⟨_, hs.ld .z rfl, _, rfl, _, (ref_ld2 hs cj.s.s).2, ?_⟩
 cases ho : C.out with
 | true =>
  rw [if_pos rfl]
  exact k1 ho _ hs
 | false =>
  rw [if_neg (by decide)]
  refine ⟨_, _, _, hs.ld .z rfl, _, hs.base rd, ?_⟩
  refine Sat.app hs (i := 1) (vs := ints .u8 xs) zs1 (by simp [hxl]) rfl (ints_one _ _) (by omega) ?_
  intro o' c' h2 hs
  simp only [put_succ, put_zero] at hs
  rw [← ints_app] at hs
  refine ⟨Sat.can hs .z (by simp), ?_⟩
  intro h3 e3
  replace hs := Sat.wr hs .z e3
  clear e3
  simp only [put_zero] at hs
  have el : T.length + l = (T ++ xs).length := by rw [List.length_append, hxl]
  rw [el] at hs
  replace hs : Sat h0 (blk r (docL pr rr o' (T ++ xs).length c') :: slE o' (T ++ xs).length c' 1 (ints .u8 (T ++ xs)) :: A) h3 := hs
  refine rtells_sp hs .z zs1 cj.s.s dr.s.s dl.s.s eR lR (fun v hv => by
   rcases List.mem_append.1 hv with z | z
   ·exact hb v z
   ·exact hx v z) (by rw [List.length_append]; omega) ho ?_
  intro h4 hs
  exact k2 ho _ _ _ hs
theorem rsum_sp {Q : Int -> Int -> Int -> Option Addr -> Nat -> Nat -> List Int -> Int -> H -> Prop} {pr rr y : Nat} {o2 : Option Addr} {m2 : Nat} {T : List Int} {jr jl lc : Nat} {lp : Option Addr} {R : List SR} {L : List Sec} (hs : Sat h0 A h) (ar : At A i (blk r (docL pr rr o2 T.length m2))) (ab : At A y (slE o2 T.length m2 1 (ints .u8 T))) (cj : At A j (refE pr C))
  (dr : At A jr (blk rr [.slice lp R.length lc])) (dl : At A jl (slE lp R.length lc 2 (secV R))) (eR : R.map SR.kv = L) (lR : R.length < 2 ^ 40) (gR : SR.good R) (rR : ∀ x, x ∈ R -> ∃ y, At A y x.sl) (hb : bytesOk T) (hl : T.length < 2 ^ 45)
  (k : ∀ (x : Sl) h', (tTag (gateM C L T) T).length = 32 -> x.2.1 = (tPay (gateM C L T) T).length -> Sat h0 A h' -> Q (tSlot (gateM C L T) T) (tKey (gateM C L T) T) (tVer (gateM C L T) T) x.1 x.2.1 x.2.2 (tTag (gateM C L T) T) (gateM C L T) h') : F_portcullisref26_Gate_Sum ⟨r, 0, none⟩ Q h := by
 unfold F_portcullisref26_Gate_Sum G_portcullisref26_Gate_Sum
 try simp only [add_mk, Nat.zero_add, List.append_nil]
 have hcap := capS hs ab
 intro n4 _ hn; replace hs := Sat.new hs hn
 replace hs : Sat h0 (blk n4 (imgL 0 0 0 (none, 0, 0) (zeros 32)) :: A) _ := hs
 refine ⟨_, hs.ld ar.s rfl, _, hs.ld ar.s rfl, _, _, _, hs.ld ar.s rfl, _, rfl, _, rfl, ?_⟩
 refine rgate_sp (bs := T) hs cj.s dr.s dl.s lR gR (fun x hx h' hs' => hs'.sv (rR x hx).choose_spec.s) (fun h' hs' => hs'.sv ab.s) hb hcap (by omega) ?_ ?_
 ·intro e he hne h5 hs
  rw [eR] at he
  subst he
  obtain ⟨e1, e2, e3, e4⟩ := t_err (bs := T) hne
  have e5 : tTag (gateM C L T) T = zeros 32 := by unfold tTag; rw [if_neg hne]
  refine ⟨Sat.can hs .z (by simp [zeros]), ?_⟩
  intro h6 e6
  replace hs := Sat.wra (xs := imgL 0 0 0 (none, 0, 0) (zeros 32)) hs .z e6 rfl
  clear e6
  simp only [put_zero] at hs
  refine ⟨_, hs.ld .z rfl, _, hs.ld .z rfl, _, hs.ld .z rfl, _, _, _, hs.ld .z rfl, _, zeros_len 32, img_row hs .z (zeros_len 32), ?_⟩
  have := k (none, 0, 0) h6
  rw [e1, e2, e3, e4, e5] at this
  exact this (zeros_len 32) rfl hs.drop
 ·intro own n hz hp hnn hon h5 hs
  rw [eR] at hz
  have hbl : T.length = 48 + n := (parse_ok hb hp hnn).1
  have tl32 : ((T.drop (16 + n)).take 32).length = 32 := by rw [List.length_take, List.length_drop]; omega
  have pl : ((T.drop 16).take n).length = n := by rw [List.length_take, List.length_drop]; omega
  have en : (num4 T 12).toNat = n := by omega
  have e1 : tSlot (gateM C L T) T = T.getD 5 0 := by unfold tSlot; rw [if_pos hz]
  have e2 : tKey (gateM C L T) T = T.getD 6 0 := by unfold tKey; rw [if_pos hz]
  have e3 : tVer (gateM C L T) T = num4 T 8 := by unfold tVer; rw [if_pos hz]
  have e4 : tPay (gateM C L T) T = (T.drop 16).take n := by unfold tPay; rw [if_pos hz, en]
  have e5 : tTag (gateM C L T) T = (T.drop (16 + n)).take 32 := by unfold tTag; rw [if_pos hz, en]
  refine ⟨Sat.can hs zs1 (by simp [zeros]), ?_⟩
  intro h6 e6
  replace hs := Sat.wra (xs := imgL (T.getD 5 0) (T.getD 6 0) (num4 T 8) own ((T.drop (16 + n)).take 32)) hs zs1 e6 (by rw [img_len tl32]; rfl)
  clear e6
  simp only [put_succ, put_zero] at hs
  refine ⟨_, hs.ld zs1 rfl, _, hs.ld zs1 rfl, _, hs.ld zs1 rfl, _, _, _, hs.ld zs1 rfl, _, tl32, img_row hs zs1 tl32, ?_⟩
  have := k own h6
  rw [e1, e2, e3, e4, e5, hz, pl] at this
  exact this tl32 hon hs.drop.drop
theorem rdig_sp {Q : List Int -> H -> Prop} {pr rr y : Nat} {o2 : Option Addr} {m2 : Nat} {T : List Int} (hs : Sat h0 A h) (ar : At A i (blk r (docL pr rr o2 T.length m2))) (ab : At A y (slE o2 T.length m2 1 (ints .u8 T))) (hb : bytesOk T) (hl : T.length < 2 ^ 45)
  (k : ∀ h', Sat h0 A h' -> Q (shaM T) h') : F_portcullisref26_Gate_Digest ⟨r, 0, none⟩ Q h := by
 unfold F_portcullisref26_Gate_Digest G_portcullisref26_Gate_Digest
 try simp only [add_mk, Nat.zero_add, List.append_nil]
 intro n4 _ hn; replace hs := Sat.new hs hn
 refine ⟨_, _, _, hs.ld ar.s rfl, ?_⟩
 refine rof_sp hs hb (by omega) (fun h' hs' => hs'.sv ab.s) ?_
 intro h1 hs
 refine ⟨Sat.can hs .z (by simp [zeros]), ?_⟩
 intro h2 e2
 replace hs := Sat.wra (xs := ints .u8 (shaM T)) hs .z e2 (by simp [zeros, shaM_len])
 clear e2
 simp only [put_zero] at hs
 exact ⟨_, shaM_len _, hs.row0 .z, k _ hs.drop⟩
theorem gwriteOut_sp {Q : Int -> H -> Prop} {g rp lg st pc : Nat} {o : Option Addr} {l0 c0 d : Nat} {q : Option Addr} {l c x y : Nat} (hs : Sat h0 A h) (ag : At A i (blk g (gtL st rp o l0 c0 d))) (ci : At A j (chipE pc C)) (cl : At A x (logE lg pc)) (cs : At A y (storeE st pc lg)) (ho : C.out = true)
  (k : ∀ h', Sat h0 A h' -> Q 8 h') : F_stream_Gate_Write ⟨g, 0, none⟩ q l c Q h := by
 unfold F_stream_Gate_Write G_stream_Gate_Write
 try simp only [add_mk, Nat.zero_add, List.append_nil, Nat.sub_zero]
 have ok := chip_ok hs ci
 refine ⟨_, hs.ld ag rfl, _, rfl, ?_⟩
 refine sActive_sp hs ci cl cs ?_
 intro h1 hs
 rw [sActive_out ok, ho, if_pos rfl]
 rw [if_pos (by decide)]
 exact k _ hs
end
end Go.Proofs.YteedolonhdbieaaGreatDoor
end
section
namespace Go.Proofs.YteedolonhdbieaaGreatDoor
open Go Go.Vc
set_option maxRecDepth 100000
attribute [local irreducible] macM gateM tSlot tKey tVer tPay tTag tellsM
def wrT (C : Cm) (T xs : List Int) : List Int := if C.out = true then T else T ++ xs
def wrE (C : Cm) (L : List Sec) (T xs : List Int) : Int := if C.out = true then 8 else tellsM C L (T ++ xs)
theorem wrT_len (C : Cm) (T xs : List Int) : (wrT C T xs).length ≤ T.length + xs.length := by
 unfold wrT; split
 ·omega
 ·rw [List.length_append]; exact Nat.le_refl _
theorem wrT_by {C : Cm} {T xs : List Int} (h1 : bytesOk T) (h2 : bytesOk xs) : bytesOk (wrT C T xs) := by
 unfold wrT; split
 ·exact h1
 ·intro v hv
  rcases List.mem_append.1 hv with z | z
  ·exact h1 v z
  ·exact h2 v z
theorem at_left {B : List Ent} {j : Nat} {e : Ent} (a : At B j e) : ∀ X : List Ent, ∃ k, At (X ++ B) k e
 | [] => ⟨j, a⟩
 | x :: X => by obtain ⟨k, hk⟩ := at_left a X; exact ⟨k + 1, .s hk⟩
theorem Ring26.left {B : List Ent} {rp mp rr : Nat} {lp : Option Addr} {lc : Nat} {R R2 : List SR} {L : List Sec} (K : Ring26 B rp mp rr lp lc R R2 L) (X : List Ent) : Ring26 (X ++ B) rp mp rr lp lc R R2 L :=
 ⟨at_left K.cr.choose_spec X, at_left K.cm.choose_spec X, K.eR, K.gR, fun x hx => at_left (K.rR x hx).choose_spec X, at_left K.dr.choose_spec X, at_left K.dl.choose_spec X, K.eR2, K.gR2, fun x hx => at_left (K.rR2 x hx).choose_spec X, K.lR2⟩
theorem perm2s {α : Type} (a b : α) (G X : List α) : (a :: b :: (G ++ X)).Perm (G ++ (a :: b :: X)) := by
 have := (List.perm_append_comm (l₁ := [a, b]) (l₂ := G)).append_right X
 simpa using this
theorem perm_p {α : Type} (a b c : α) (G X : List α) : (a :: b :: (G ++ (c :: X))).Perm (c :: (G ++ (a :: b :: X))) := by
 have p1 : (a :: b :: (G ++ (c :: X))).Perm (G ++ (a :: b :: c :: X)) := by
  have := (List.perm_append_comm (l₁ := [a, b]) (l₂ := G)).append_right (c :: X)
  simpa using this
 refine p1.trans ?_
 have := List.perm_middle (l₁ := G ++ [a, b]) (a := c) (l₂ := X)
 simpa using this
section
variable {h0 h : H} {A : List Ent} {i j p r b s m : Nat} {C : Cm}
theorem gwriteU_sp {Q : Int -> H -> Prop} {g st rp lg pc d x y jr jm mm : Nat} {o : Option Addr} {c : Nat} {s1 sm : List Int} {n : Int} {R : List SR} {L : List Sec} {T xs : List Int} {q : Option Addr} {l lc : Nat} (hg : hc h0 ⟨0, 0, none⟩ = some errTypeV) (hs : Sat h0 (gtA g st rp o c d s1 sm n (T.take 524289) ++ A) h) (D : DgOk T s1 sm n)
  (ci : At A j (chipE pc C)) (cl : At A x (logE lg pc)) (cs : At A y (storeE st pc lg))
  (cr : At A jr (blk rp [.map (some mm)])) (cm : At A jm (mapE mm (R.map SR.ent))) (eR : R.map SR.kv = L) (hT : bytesOk T) (hx : bytesOk xs) (hTl : T.length + xs.length < 2 ^ 44) (hlc : l ≤ lc)
  (rd : ∀ B h', Sat h0 (B ++ A) h' -> hsv h' q 1 l (ints .u8 xs))
  (k : ∀ o' c' s1' sm' n' h', DgOk (wrT C T xs) s1' sm' n' -> Sat h0 (gtA g st rp o' c' d s1' sm' n' ((wrT C T xs).take 524289) ++ A) h' -> Q (wrE C L T xs) h') : F_stream_Gate_Write ⟨g, 0, none⟩ q l lc Q h := by
 unfold wrT wrE at k
 cases ho : C.out with
 | true =>
  rw [if_pos ho, if_pos ho] at k
  exact gwriteOut_sp hs .z ci.s.s.s cl.s.s.s cs.s.s.s ho fun h' hs' => k _ _ _ _ _ h' D hs'
 | false =>
  rw [if_neg (by rw [ho]; decide), if_neg (by rw [ho]; decide)] at k
  refine gwrite_sp hg hs D ci cl cs ho cr cm eR hT hx (by omega) hlc rd ?_
  intro o' c' s1' sm' n' h' D' hs'
  rw [tells_take]
  exact k _ _ _ _ _ h' D' hs'
theorem rwriteU_sp {Q : Int -> H -> Prop} {pr rr : Nat} {o2 : Option Addr} {m2 : Nat} {T xs : List Int} {jr jl lc : Nat} {lp : Option Addr} {R : List SR} {L : List Sec} {q : Option Addr} {l c : Nat} (hs : Sat h0 (blk r (docL pr rr o2 T.length m2) :: slE o2 T.length m2 1 (ints .u8 T) :: A) h) (cj : At A j (refE pr C))
  (dr : At A jr (blk rr [.slice lp R.length lc])) (dl : At A jl (slE lp R.length lc 2 (secV R))) (eR : R.map SR.kv = L) (lR : R.length < 2 ^ 40) (hb : bytesOk T) (hx : bytesOk xs) (hl : T.length + xs.length < 2 ^ 44) (rd : hsv h0 q 1 l (ints .u8 xs))
  (k : ∀ o' c' h', Sat h0 (blk r (docL pr rr o' (wrT C T xs).length c') :: slE o' (wrT C T xs).length c' 1 (ints .u8 (wrT C T xs)) :: A) h' -> Q (wrE C L T xs) h') : F_portcullisref26_Gate_Write ⟨r, 0, none⟩ q l c Q h := by
 unfold wrT wrE at k
 refine rwrite_sp hs cj dr dl eR lR hb hx hl rd ?_ ?_
 ·intro ho h' hs'
  rw [if_pos ho, if_pos ho] at k
  exact k _ _ h' hs'
 ·intro ho o' c' h' hs'
  rw [if_neg (by rw [ho]; decide), if_neg (by rw [ho]; decide)] at k
  exact k _ _ h' hs'
theorem pwrite26_sp {Q : Bool -> H -> Prop} {g st rp pr rr pc lg mp x y : Nat} {T xs : List Int} {bp : Option Addr} {bl bc : Nat} {lp : Option Addr} {lc : Nat} {R R2 : List SR} {L : List Sec} (hg : hc h0 ⟨0, 0, none⟩ = some errTypeV) (hs : Sat h0 (pairE g r st rp pr rr T :: A) h)
  (ci : At A i (chipE pc C)) (cl : At A x (logE lg pc)) (cs : At A y (storeE st pc lg)) (cj : At A j (refE pr C)) (K : Ring26 A rp mp rr lp lc R R2 L) (hT : bytesOk T) (hx : bytesOk xs) (hl : T.length + xs.length < 2 ^ 44) (hlb : bl + 4096 ≤ 2 ^ 47) (rb : hsv h0 bp 1 bl (ints .u8 xs))
  (k : ∀ h', Sat h0 (pairE g r st rp pr rr (wrT C T xs) :: A) h' -> Q true h') : F_portcullislaw26_pair_write (some ⟨g, 0, none⟩) (some ⟨r, 0, none⟩) bp bl bc Q h := by
 unfold F_portcullislaw26_pair_write G_portcullislaw26_pair_write
 try simp only [add_mk, Nat.zero_add, List.append_nil, Nat.sub_zero, Int.toNat_natCast]
 have hxl : xs.length = bl := by have := rb.1; simpa using this
 intro n10 _ hn; replace hs := Sat.new hs hn
 refine lent26_sp hs rb hlb ?_
 intro nb h1 hs
 replace hs := hs.front (e := pairE g r st rp pr rr T) zs2
 simp only [del] at hs
 obtain ⟨w, hD, hs⟩ := hs.open_
 obtain ⟨N10, hN⟩ : ∃ N10 : Ent, N10 = blk n10 [.pointer (some ⟨g, 0, none⟩), .pointer (some ⟨r, 0, none⟩)] := ⟨_, rfl⟩
 rw [← hN] at hs
 obtain ⟨Y, hY⟩ : ∃ Y : List Ent, Y = blk r (docL pr rr w.o2 T.length w.m2) :: slE w.o2 T.length w.m2 1 (ints .u8 T) :: blk nb (ints .u8 (xs ++ marks4 4)) :: N10 :: A := ⟨_, rfl⟩
 replace hs : Sat h0 (gtA g st rp w.o w.m w.d w.s w.sm w.n (T.take 524289) ++ Y) h1 := by rw [hY]; exact hs
 have ynb : At Y 2 (blk nb (ints .u8 (xs ++ marks4 4))) := by rw [hY]; exact .s zs1
 have yn10 : At Y 3 (blk n10 [.pointer (some ⟨g, 0, none⟩), .pointer (some ⟨r, 0, none⟩)]) := by rw [hY, hN]; exact .s zs2
 have up : ∀ {z : Nat} {e : Ent}, At A z e -> At Y (z + 4) e := fun a => by rw [hY]; exact a.s.s.s.s
 have hrd : ∀ B h', Sat h0 (B ++ Y) h' -> hsv h' (subAddr (some ⟨nb, 0, none⟩) 0 (bl + 4) 1) 1 bl (ints .u8 xs) := by
  intro B h' hs'
  have rx := (hs'.sub (List.sublist_append_right B Y)).bv (l := bl + 4) (sz := 1) ynb (by simp [marks4, hxl]) (ints_one _ _)
  have := subRd (o := 0) (n := bl) (m := bl + 4) rx (by omega) (by omega)
  rw [List.drop_zero, List.take_left' hxl] at this
  exact this
 refine ⟨_, hs.ld (yn10.s.s.s) rfl, by omega, by omega, _, rfl, ?_⟩
 refine gwriteU_sp (L := L) hg hs hD (up ci) (up cl) (up cs) (up K.cr.choose_spec) (up K.cm.choose_spec) K.eR hT hx hl (by omega) hrd ?_
 intro o' c' s1' sm' n' h2 D' hs
 refine ⟨_, hs.ld (yn10.s.s.s) rfl, _, rfl, ?_⟩
 obtain ⟨G, hG⟩ : ∃ G : List Ent, G = gtA g st rp o' c' w.d s1' sm' n' ((wrT C T xs).take 524289) := ⟨_, rfl⟩
 rw [← hG, hY] at hs
 replace hs : Sat h0 (blk r (docL pr rr w.o2 T.length w.m2) :: slE w.o2 T.length w.m2 1 (ints .u8 T) :: (G ++ (blk nb (ints .u8 (xs ++ marks4 4)) :: N10 :: A))) h2 := hs.perm (perm2s _ _ G _).symm
 have up2 : ∀ {z : Nat} {e : Ent}, At A z e -> ∃ z', At (G ++ (blk nb (ints .u8 (xs ++ marks4 4)) :: N10 :: A)) z' e := fun a => at_left a.s.s G
 refine rwriteU_sp (L := L) hs (up2 cj).choose_spec (up2 K.dr.choose_spec).choose_spec (up2 K.dl.choose_spec).choose_spec K.eR2 K.lR2 hT hx hl rb ?_
 intro o2' c2' h3 hs
 replace hs := hs.perm (perm_p _ _ _ G _)
 have fin : ∀ ms h', Sat h0 (blk nb (ints .u8 ms) :: (G ++ (blk r (docL pr rr o2' (wrT C T xs).length c2') :: slE o2' (wrT C T xs).length c2' 1 (ints .u8 (wrT C T xs)) :: N10 :: A))) h' -> Q true h' := by
  intro ms h' hs'
  replace hs' := hs'.drop
  replace hs' := hs'.sub ((List.Sublist.refl G).append (List.Sublist.cons_cons _ (List.Sublist.cons_cons _ (List.sublist_cons_self N10 A))))
  rw [hG] at hs'
  exact k h' (Sat.close (n := 6) (φ := fun x : PW => DgOk (wrT C T xs) x.s x.sm x.n) (F := prA g r st rp pr rr (wrT C T xs)) ⟨o', c', w.d, s1', sm', n', o2', c2'⟩ D' hs')
 have sub : hsv h3 (subAddr (some ⟨nb, 0, none⟩) 0 (bl + 4) 1) 1 bl (ints .u8 xs) := by
  have rx := hs.bv (i := 0) (l := bl + 4) (sz := 1) .z (by simp [marks4, hxl]) (ints_one _ _)
  have := subRd (o := 0) (n := bl) (m := bl + 4) rx (by omega) (by omega)
  rw [List.drop_zero, List.take_left' hxl] at this
  exact this
 have rx : hsv h3 (some ⟨nb, 0, none⟩) 1 (bl + 4) (ints .u8 (xs ++ marks4 4)) := hs.bv (i := 0) (l := bl + 4) (sz := 1) .z (by simp [marks4, hxl]) (ints_one _ _)
 refine ⟨by omega, by omega, ⟨_, sub, _, hs.base rb, ?_⟩, _, hs.base rb, _, sub, ?_⟩
 all_goals
  simp only [beq_self_eq_true]
  intro J hJ
  refine loop_st 4 (fun n (b : Bool) => [.dv (.one (.bool b)), si n]) (fun n b h' => h' = h3 /\ b = true) ?_ ?_ 0 true _ (by omega) ⟨rfl, rfl⟩
  ·rintro n b h4 hn ⟨rfl, rfl⟩ hk
   apply hJ
   rw [ltI_eq, if_pos (by simp; omega), if_pos rfl]
   have e4 : IntKind.i64.wrap ((bl : Int) + (n : Int)) = ((bl + n : Nat) : Int) := by rw [wrap_id (by omega)]; omega
   rw [e4]
   obtain ⟨q, hq, g⟩ := hsv_int rx (x := bl + n) (by omega)
   refine ⟨_, hq, by omega, by omega, _, by rw [Int.toNat_natCast, Nat.mul_one]; exact g, ?_⟩
   rw [wrap_succ (by omega)]
   refine hk _ _ ⟨rfl, ?_⟩
   have e6 : IntKind.u8.wrap (IntKind.i64.wrap (161 + (n : Int))) = 161 + n := by rw [wrap_id (by omega), wrap_u8_id (by omega)]
   have e7 : (xs ++ marks4 4).getD (bl + n) 0 = 161 + n := by
    rw [List.getD_eq_getElem?_getD, List.getElem?_append_right (by omega), hxl, Nat.add_sub_cancel_left]
    have : n = 0 ∨ n = 1 ∨ n = 2 ∨ n = 3 := by omega
    rcases this with rfl | rfl | rfl | rfl <;> rfl
   rw [e6, e7, beq_self_eq_true]
  ·rintro b h4 ⟨rfl, rfl⟩
   apply hJ
   clear hJ
   rw [ltI_eq, if_neg (by simp)]
   intro J2 hJ2
   refine loop_up (bl + 4) (fun _ h' => ∃ ms, ms.length = bl + 4 /\ Sat h0 (blk nb (ints .u8 ms) :: (G ++ (blk r (docL pr rr o2' (wrT C T xs).length c2') :: slE o2' (wrT C T xs).length c2' 1 (ints .u8 (wrT C T xs)) :: N10 :: A))) h') ?_ ?_ 0 _ (by omega) ⟨xs ++ marks4 4, by simp [marks4, hxl], hs⟩
   ·rintro t h5 ht ⟨ms, hml, hs⟩ hk
    apply hJ2
    rw [ltI_eq, if_pos (by rw [decide_eq_true_iff]; omega)]
    refine ⟨_, rfl, by omega, by omega, ms.getD t 0, ?_, _, rfl, by omega, by omega, ?_, ?_⟩
    ·rw [Int.toNat_natCast, Nat.mul_one, add_mk, Nat.zero_add]
     refine hs.ld .z ?_
     rw [ints_get, List.getElem?_eq_getElem (by omega), List.getD_eq_getElem?_getD, List.getElem?_eq_getElem (by omega)]; rfl
    ·rw [Int.toNat_natCast, Nat.mul_one, add_mk, Nat.zero_add]
     exact Sat.can hs .z (by simp [hml]; omega)
    intro h6 e6
    rw [Int.toNat_natCast, Nat.mul_one, add_mk, Nat.zero_add] at e6
    replace hs := Sat.wr hs .z e6
    clear e6
    simp only [put_zero] at hs
    rw [wrap_succ (by omega)]
    refine hk _ ⟨ms.set t (bits .xor .u8 (ms.getD t 0) 60), by rw [List.length_set]; exact hml, ?_⟩
    rw [← ints_set]
    exact hs
   ·rintro h5 ⟨ms, _, hs⟩
    apply hJ2
    rw [ltI_eq, if_neg (by simp), if_pos rfl]
    exact fin ms _ hs
theorem psum26_sp {Q : Bool -> H -> Prop} {g st rp pr rr pc lg mp x y : Nat} {T : List Int} {lp : Option Addr} {lc : Nat} {R R2 : List SR} {L : List Sec} (hg : hc h0 ⟨0, 0, none⟩ = some errTypeV) (hs : Sat h0 (pairE g r st rp pr rr T :: A) h)
  (ci : At A i (chipE pc C)) (cl : At A x (logE lg pc)) (cs : At A y (storeE st pc lg)) (cj : At A j (refE pr C)) (K : Ring26 A rp mp rr lp lc R R2 L) (hT : bytesOk T) (hl : T.length < 2 ^ 44)
  (k : ∀ h', Sat h0 (pairE g r st rp pr rr T :: A) h' -> Q true h') : F_portcullislaw26_pair_sum (some ⟨g, 0, none⟩) (some ⟨r, 0, none⟩) Q h := by
 unfold F_portcullislaw26_pair_sum G_portcullislaw26_pair_sum
 try simp only [add_mk, Nat.zero_add, List.append_nil]
 intro n6 _ hn; replace hs := Sat.new hs hn
 replace hs := hs.front (e := pairE g r st rp pr rr T) zs1
 simp only [del] at hs
 obtain ⟨w, hD, hs⟩ := hs.open_
 obtain ⟨Y, hY⟩ : ∃ Y : List Ent, Y = blk r (docL pr rr w.o2 T.length w.m2) :: slE w.o2 T.length w.m2 1 (ints .u8 T) :: blk n6 [.pointer (some ⟨g, 0, none⟩), .pointer (some ⟨r, 0, none⟩)] :: A := ⟨_, rfl⟩
 replace hs : Sat h0 (gtA g st rp w.o w.m w.d w.s w.sm w.n (T.take 524289) ++ Y) _ := (by rw [hY]; exact hs)
 have yr : At Y 0 (blk r (docL pr rr w.o2 T.length w.m2)) := by rw [hY]; exact .z
 have yb : At Y 1 (slE w.o2 T.length w.m2 1 (ints .u8 T)) := by rw [hY]; exact .s .z
 have yn : At Y 2 (blk n6 [.pointer (some ⟨g, 0, none⟩), .pointer (some ⟨r, 0, none⟩)]) := by rw [hY]; exact .s zs1
 have up : ∀ {z : Nat} {e : Ent}, At A z e -> At Y (z + 3) e := fun a => by rw [hY]; exact a.s.s.s
 obtain ⟨q1, q2, q3, q4⟩ := t_take (C := C) (L := L) T
 obtain ⟨q5, _⟩ := gate_take (C := C) (L := L) T
 refine ⟨_, hs.ld yn.s.s.s rfl, _, rfl, ?_⟩
 refine gsum_sp (L := L) hg hs (up ci) (up cl) (up cs) (up K.cr.choose_spec) (up K.cm.choose_spec) K.eR K.gR (fun x hx => ⟨_, up (K.rR x hx).choose_spec⟩) (fun v hv => hT v (List.mem_of_mem_take hv)) (by rw [List.length_take]; omega) ?_
 intro h1 hs
 rw [q1, q2, q3, q4, q5]
 refine ⟨_, hs.ld yn.s.s.s rfl, _, rfl, ?_⟩
 refine rsum_sp (L := L) hs yr.s.s.s yb.s.s.s (up cj).s.s.s (up K.dr.choose_spec).s.s.s (up K.dl.choose_spec).s.s.s K.eR2 K.lR2 K.gR2 (fun x hx => ⟨_, (up (K.rR2 x hx).choose_spec).s.s.s⟩) hT (by omega) ?_
 intro x h2 tl hx hs
 intro n28 _ hn; replace hs := Sat.new hs hn
 refine ⟨Sat.can hs .z (by simp [zeros]), ?_⟩
 intro h3 e3
 replace hs := Sat.wra (xs := imgL (tSlot (gateM C L T) T) (tKey (gateM C L T) T) (tVer (gateM C L T) T) x (tTag (gateM C L T) T)) hs .z e3 (by rw [img_len tl]; rfl)
 clear e3
 simp only [put_zero] at hs
 rw [if_pos (by simp)]
 refine ⟨_, hs.ld .z rfl, ?_⟩
 rw [if_pos (by simp)]
 refine ⟨_, hs.ld .z rfl, ?_⟩
 rw [if_pos (by simp)]
 refine ⟨_, hs.ld .z rfl, ?_⟩
 rw [if_pos (by simp)]
 refine ⟨_, _, _, hs.ld .z rfl, ?_⟩
 rw [hx, beq_self_eq_true]
 refine k _ ?_
 replace hs := hs.drop
 rw [hY] at hs
 replace hs := hs.sub ((List.Sublist.refl (gtA g st rp w.o w.m w.d w.s w.sm w.n (T.take 524289))).append (List.Sublist.cons_cons _ (List.Sublist.cons_cons _ (List.sublist_cons_self _ A))))
 exact Sat.close (n := 6) (φ := fun x : PW => DgOk T x.s x.sm x.n) (F := prA g r st rp pr rr T) w hD hs
theorem pdig26_sp {K : List Int -> H -> Prop} {g st rp pr rr : Nat} {T : List Int} (hs : Sat h0 (pairE g r st rp pr rr T :: A) h) (hl : T.length < 2 ^ 44)
  (k : ∀ h', Sat h0 (pairE g r st rp pr rr T :: A) h' -> K (shaM T) h') : F_stream_Gate_Digest ⟨g, 0, none⟩ K h := by
 obtain ⟨w, hD, hs⟩ := hs.open_
 replace hs : Sat h0 (gtA g st rp w.o w.m w.d w.s w.sm w.n (T.take 524289) ++ (blk r (docL pr rr w.o2 T.length w.m2) :: slE w.o2 T.length w.m2 1 (ints .u8 T) :: A)) h := hs
 refine gdigest_sp hs hD (by omega) ?_
 intro h1 hs
 exact k h1 (Sat.close (n := 6) (φ := fun x : PW => DgOk T x.s x.sm x.n) (F := prA g r st rp pr rr T) w hD hs)
theorem rpdig26_sp {K : List Int -> H -> Prop} {g st rp pr rr : Nat} {T : List Int} (hs : Sat h0 A h) (a : At A i (pairE g r st rp pr rr T)) (hT : bytesOk T) (hl : T.length < 2 ^ 44)
  (k : ∀ h', Sat h0 A h' -> K (shaM T) h') : F_portcullisref26_Gate_Digest ⟨r, 0, none⟩ K h := by
 obtain ⟨w, hD, hs⟩ := (hs.front a).open_
 refine rdig_sp hs zs3 zs4 hT (by omega) ?_
 intro h1 hs
 have hs1 : Sat h0 (put A i (pairE g r st rp pr rr T)) h1 := Sat.back a (Sat.close (n := 6) (φ := fun x : PW => DgOk T x.s x.sm x.n) (F := prA g r st rp pr rr T) w hD hs)
 rw [a.put_self] at hs1
 exact k h1 hs1
theorem preset26_sp {K : H -> Prop} {g st rp pr rr w : Nat} {T : List Int} {vs : List Value} (hs : Sat h0 (pairE g r st rp pr rr T :: A) h) (aw : At A i (blk w vs)) (e6 : vs[6]? = some (.pointer (some ⟨r, 0, none⟩)))
  (k : ∀ h', Sat h0 (pairE g r st rp pr rr [] :: A) h' -> K h') : F_stream_Gate_Reset ⟨g, 0, none⟩ (fun h' => ∃ o54 : Option Addr, hc h' ⟨w, 6, none⟩ = some (.pointer o54) /\ ∃ p55 : Addr, o54 = some p55 /\ hcan h' (p55.add 2) 1 /\ ∀ h'', h'' = hwr h' (p55.add 2) [.slice none 0 0] -> K h'') h := by
 unfold F_stream_Gate_Reset G_stream_Gate_Reset
 try simp only [add_mk, Nat.zero_add]
 obtain ⟨w, hD, hs⟩ := hs.open_
 refine NewD_sp hs ?_
 intro d h1 hs
 replace hs : Sat h0 (blk d (dgL sM (zeros 64) 0) :: blk g (gtL st rp w.o (T.take 524289).length w.m w.d) :: slE w.o (T.take 524289).length w.m 1 (ints .u8 (T.take 524289)) :: blk w.d (dgL w.s w.sm w.n) :: blk r (docL pr rr w.o2 T.length w.m2) :: slE w.o2 T.length w.m2 1 (ints .u8 T) :: A) h1 := hs
 refine ⟨Sat.can hs zs1 (by simp), ?_⟩
 intro h2 e2
 replace hs := Sat.wr hs zs1 e2
 clear e2
 simp only [put_succ, put_zero] at hs
 refine ⟨Sat.can hs zs1 (show 3 + 1 ≤ 4 by decide), ?_⟩
 intro h3 e3
 replace hs := Sat.wr hs zs1 e3
 clear e3
 simp only [put_succ, put_zero] at hs
 refine ⟨_, hs.ld aw.s.s.s.s.s.s e6, _, rfl, Sat.can hs zs4 (show 2 + 1 ≤ 3 by decide), ?_⟩
 intro h4 e4
 replace hs := Sat.wr hs zs4 e4
 clear e4
 simp only [put_succ, put_zero] at hs
 replace hs : Sat h0 (blk d (dgL sM (zeros 64) 0) :: blk g (gtL st rp none 0 0 d) :: slE w.o (T.take 524289).length w.m 1 (ints .u8 (T.take 524289)) :: blk w.d (dgL w.s w.sm w.n) :: blk r (docL pr rr none 0 0) :: slE w.o2 T.length w.m2 1 (ints .u8 T) :: A) h4 := hs
 replace hs : Sat h0 (blk d (dgL sM (zeros 64) 0) :: blk g (gtL st rp none 0 0 d) :: blk r (docL pr rr none 0 0) :: A) h4 :=
  hs.sub (List.Sublist.cons_cons _ (List.Sublist.cons_cons _ ((List.Sublist.cons_cons _ (List.sublist_cons_self _ _)).trans ((List.sublist_cons_self _ _).trans (List.sublist_cons_self _ _)))))
 replace hs := (hs.sl_nil 1 none).perm (List.Perm.swap _ _ _)
 replace hs : Sat h0 (blk r (docL pr rr none 0 0) :: (gt0 g st rp d ++ A)) h4 := by
  refine hs.perm ?_
  have : (blk d (dgL sM (zeros 64) 0) :: sE (none, 0, 0) 1 [] :: blk g (gtL st rp none 0 0 d) :: blk r (docL pr rr none 0 0) :: A).Perm (blk r (docL pr rr none 0 0) :: blk g (gtL st rp none 0 0 d) :: sE (none, 0, 0) 1 [] :: blk d (dgL sM (zeros 64) 0) :: A) := by
   generalize blk d (dgL sM (zeros 64) 0) = a
   generalize (sE (none, 0, 0) 1 [] : Ent) = b'
   generalize blk g (gtL st rp none 0 0 d) = c'
   generalize blk r (docL pr rr none 0 0) = d'
   have : [a, b', c', d'].Perm [d', c', b', a] := (List.reverse_perm [d', c', b', a])
   exact this.append_right A
  exact this
 exact k h4 (pair_close hs)
end
end Go.Proofs.YteedolonhdbieaaGreatDoor
end
section
namespace Go.Proofs.YteedolonhdbieaaGreatDoor
open Go Go.Vc
set_option maxRecDepth 100000
attribute [local irreducible] macM gateM tSlot tKey tVer tPay tTag tellsM
section
variable {h0 h : H} {A B : List Ent} {i j p r b s m : Nat} {C : Cm}
theorem wstep26_sp {Q : Bool -> H -> Prop} {w pc st lg rp mp pr rr g1 r1 g2 r2 : Nat} {T1 T2 : List Int} {lp : Option Addr} {lc : Nat} {R R2 : List SR} {L : List Sec} {mq : Option Addr} {ml mc : Nat} (o : OpE) (ok : o.ok) (hg : hc h0 ⟨0, 0, none⟩ = some errTypeV) (rd : hsv h0 mq 1 ml (ints .u8 o.mask))
  (K : Ring26 B rp mp rr lp lc R R2 L) (hT1 : bytesOk T1) (hT2 : bytesOk T2) (S : Nat) (hl1 : T1.length ≤ S) (hl2 : T2.length ≤ S) (hS : S + o.mask.length < 2 ^ 44)
  (hs : Sat h0 (W26 w pc st lg rp pr rr g1 r1 g2 r2 C T1 T2 B) h)
  (k : ∀ D g1' r1' g2' r2' U1 U2 h', bytesOk U1 -> bytesOk U2 -> U1.length ≤ S + o.mask.length -> U2.length ≤ S + o.mask.length -> Sat h0 (W26 w pc st lg rp pr rr g1' r1' g2' r2' D U1 U2 B) h' -> Q true h') :
  F_portcullislaw26_world_step ⟨w, 0, none⟩ o.kind o.n o.v mq ml mc Q h := by
 unfold F_portcullislaw26_world_step G_portcullislaw26_world_step
 try simp only [add_mk, Nat.zero_add, List.append_nil]
 have hml : o.mask.length = ml := by have := rd.1; simpa using this
 have hmm := ok.ml
 intro n22 _ hn; replace hs := Sat.new hs hn
 have same : ∀ D h', Sat h0 (W26 w pc st lg rp pr rr g1 r1 g2 r2 D T1 T2 B) h' -> Q true h' := fun D h' hs' => k D g1 r1 g2 r2 T1 T2 h' hT1 hT2 (by omega) (by omega) hs'
 have front : ∀ h', Sat h0 (blk n22 [.int .i64 o.kind, .int .i64 o.n, .int .i64 o.v, .slice mq ml mc] :: W26 w pc st lg rp pr rr g1 r1 g2 r2 C T1 T2 B) h' -> Sat h0 (pairE g1 r1 st rp pr rr T1 :: blk n22 [.int .i64 o.kind, .int .i64 o.n, .int .i64 o.v, .slice mq ml mc] :: blk w (wldL pc st rp pr rr g1 r1 g2 r2) :: pairE g2 r2 st rp pr rr T2 :: chipE pc C :: refE pr C :: storeE st pc lg :: logE lg pc :: B) h' := by
  intro h' hs'
  have := hs'.front (e := pairE g1 r1 st rp pr rr T1) zs2
  simpa only [del] using this
 have back : ∀ (N : Ent) U h', Sat h0 (pairE g1 r1 st rp pr rr U :: N :: blk w (wldL pc st rp pr rr g1 r1 g2 r2) :: pairE g2 r2 st rp pr rr T2 :: chipE pc C :: refE pr C :: storeE st pc lg :: logE lg pc :: B) h' -> Sat h0 (W26 w pc st lg rp pr rr g1 r1 g2 r2 C U T2 B) h' := by
  intro N U h' hs'
  exact (hs'.sub (List.Sublist.cons_cons _ (List.sublist_cons_self _ _))).perm (List.Perm.swap _ _ _)
 have KK : ∀ X : List Ent, Ring26 (X ++ B) rp mp rr lp lc R R2 L := fun X => K.left X
 refine ⟨_, hs.ld .z rfl, ?_⟩
 by_cases k1 : o.kind = 1
 ·rw [if_pos (by simpa using k1)]
  refine ⟨_, hs.ld zs1 rfl, _, hs.ld zs1 rfl, _, _, _, hs.ld .z rfl, ?_⟩
  refine pwrite26_sp (L := L) hg (front _ hs) zs3 zs6 zs5 zs4 (KK [_, _, _, _, _, _, _]) hT1 ok.mb (by omega) (by omega) rd ?_
  intro h2 hs
  have e := wrT_len C T1 o.mask
  exact k C g1 r1 g2 r2 _ T2 h2 (wrT_by hT1 ok.mb) hT2 (by omega) (by omega) (back _ _ _ hs)
 rw [if_neg (by simpa using k1)]
 by_cases k2 : o.kind = 2
 ·rw [if_pos (by simpa using k2)]
  refine ⟨_, hs.ld zs1 rfl, _, hs.ld zs1 rfl, ?_⟩
  refine psum26_sp (L := L) hg (front _ hs) zs3 zs6 zs5 zs4 (KK [_, _, _, _, _, _, _]) hT1 (by omega) ?_
  intro h2 hs
  exact same C h2 (back _ _ _ hs)
 rw [if_neg (by simpa using k2)]
 by_cases k3 : o.kind = 3
 ·rw [if_pos (by simpa using k3)]
  refine ⟨_, hs.ld zs1 rfl, _, rfl, ?_⟩
  refine pdig26_sp (front _ hs) (by omega) ?_
  intro h2 hs
  intro n41 _ hn; replace hs := Sat.new hs hn
  refine ⟨Sat.can hs .z (by simp [zeros]), ?_⟩
  intro h3 e3
  replace hs := Sat.wra (xs := ints .u8 (shaM T1)) hs .z e3 (by simp [zeros, shaM_len])
  clear e3
  simp only [put_zero] at hs
  refine ⟨_, shaM_len _, hs.row0 .z, _, hs.ld zs3 rfl, _, rfl, ?_⟩
  refine rpdig26_sp hs zs1 hT1 (by omega) ?_
  intro h4 hs
  rw [beq_self_eq_true]
  exact ⟨Sat.cs hs .z (by rw [List.drop_zero, List.take_of_length_le (by simp)]), same C h4 (back _ _ _ hs.drop)⟩
 rw [if_neg (by simpa using k3)]
 by_cases k4 : o.kind = 4
 ·rw [if_pos (by simpa using k4)]
  refine ⟨_, hs.ld zs1 rfl, _, rfl, ?_⟩
  refine preset26_sp (front _ hs) zs1 rfl ?_
  intro h2 hs
  exact k C g1 r1 g2 r2 [] T2 h2 (fun v hv => by cases hv) hT2 (Nat.zero_le _) (by omega) (back _ _ _ hs)
 rw [if_neg (by simpa using k4)]
 by_cases k5 : o.kind = 5
 ·rw [if_pos (by simpa using k5)]
  refine ⟨_, hs.ld zs1 rfl, _, hs.ld .z rfl, _, hs.ld .z rfl, _, rfl, ?_⟩
  refine sBumpTo_sp hs (i := 4) (j := 7) zs4 zs7 zs6 (by decide) (by decide) o.n o.v ?_
  intro h1 hs
  simp only [put_succ, put_zero] at hs
  refine ⟨_, hs.ld zs1 rfl, _, hs.ld .z rfl, _, hs.ld .z rfl, _, rfl, ?_⟩
  refine rBumpTo10_sp hs zs5 o.n o.v ?_
  intro h2 hs
  simp only [put_succ, put_zero] at hs
  rw [beq_self_eq_true]
  exact same _ h2 hs.drop
 rw [if_neg (by simpa using k5)]
 by_cases k6 : o.kind = 6
 ·rw [if_pos (by simpa using k6)]
  refine ⟨_, hs.ld zs1 rfl, _, hs.ld .z rfl, _, rfl, ?_⟩
  refine sRevoke_sp hs (i := 4) zs4 zs6 o.n ?_
  intro h1 hs
  simp only [put_succ, put_zero] at hs
  refine ⟨_, hs.ld zs1 rfl, _, hs.ld .z rfl, _, rfl, ?_⟩
  unfold F_portcullisref10_Revoke G_portcullisref10_Revoke
  refine rRevoke_sp hs zs5 o.n ?_
  intro h2 hs
  simp only [put_succ, put_zero] at hs
  dsimp only
  rw [beq_self_eq_true]
  exact same _ h2 hs.drop
 rw [if_neg (by simpa using k6)]
 by_cases k7 : o.kind = 7
 ·rw [if_pos (by simpa using k7)]
  refine ⟨_, hs.ld zs1 rfl, _, hs.ld .z rfl, _, _, _, hs.ld .z rfl, _, rfl, ?_⟩
  refine Cut_sp hs zs4 o.n ok.n (hs.base rd) ok.mb (by omega) ?_
  intro h1 hs
  simp only [put_succ, put_zero] at hs
  refine ⟨_, hs.ld zs1 rfl, _, hs.ld .z rfl, _, _, _, hs.ld .z rfl, _, rfl, ?_⟩
  refine rCut_sp hs zs5 o.n ok.n (fun C' h' hs' => hs'.base rd) ok.mb (by omega) ?_
  intro h2 hs
  simp only [put_succ, put_zero] at hs
  exact same _ h2 hs.drop
 rw [if_neg (by simpa using k7)]
 by_cases k8 : o.kind = 8
 ·rw [if_pos (by simpa using k8)]
  refine ⟨_, hs.ld zs1 rfl, _, hs.ld zs1 rfl, _, hs.ld zs1 rfl, _, hs.ld zs1 rfl, Sat.can hs zs1 (show 5 + 2 ≤ 9 by decide), ?_⟩
  intro h1 e1
  replace hs := Sat.wr hs zs1 e1
  clear e1
  simp only [put_succ, put_zero] at hs
  refine ⟨Sat.can hs zs1 (show 7 + 2 ≤ 9 by decide), ?_⟩
  intro h2 e2
  replace hs := Sat.wr hs zs1 e2
  clear e2
  simp only [put_succ, put_zero] at hs
  replace hs : Sat h0 (blk w (wldL pc st rp pr rr g2 r2 g1 r1) :: pairE g1 r1 st rp pr rr T1 :: pairE g2 r2 st rp pr rr T2 :: chipE pc C :: refE pr C :: storeE st pc lg :: logE lg pc :: B) h2 := hs.drop
  exact k C g2 r2 g1 r1 T2 T1 h2 hT2 hT1 (by omega) (by omega) (hs.perm (List.Perm.cons _ (List.Perm.swap _ _ _)))
 rw [if_neg (by simpa using k8)]
 refine ⟨_, hs.ld zs1 rfl, _, rfl, ?_⟩
 refine Restore_sp hs zs4 ?_
 intro h1 hs
 simp only [put_succ, put_zero] at hs
 refine ⟨_, hs.ld zs1 rfl, _, rfl, ?_⟩
 refine rRestore_sp hs zs5 ?_
 intro h2 hs
 simp only [put_succ, put_zero] at hs
 exact same _ h2 hs.drop
end
end Go.Proofs.YteedolonhdbieaaGreatDoor
end
section
namespace Go.Proofs.YteedolonhdbieaaGreatDoor
open Go Go.Vc
set_option maxRecDepth 100000
attribute [local irreducible] macM gateM tSlot tKey tVer tPay tTag tellsM
def totO (l : List OpE) : Nat := (l.map fun o => 1 + o.mask.length).sum
theorem totO_succ {l : List OpE} {t : Nat} (h : t < l.length) : totO (l.take (t + 1)) = totO (l.take t) + (1 + l[t].mask.length) := by
 unfold totO
 rw [List.take_succ, List.getElem?_eq_getElem h, List.map_append, List.sum_append]
 simp
theorem totO_mono (l : List OpE) (t : Nat) : totO (l.take t) ≤ totO l := by
 have : totO l = totO (l.take t) + totO (l.drop t) := by
  unfold totO
  rw [← List.sum_append, ← List.map_append, List.take_append_drop]
 omega
section
variable {h0 h : H} {A B : List Ent} {i j p r b s m : Nat} {C : Cm}
theorem many26_sp {Q : Bool -> H -> Prop} {mq : Option Addr} {ml mc : Nat} (sc : List OpE) (hs : Sat h0 A h) (rd : ScriptO h0 mq ml sc) (k1 : Q true h) (k2 : totO sc < 2147483648 -> Q false h) : F_portcullislaw26_many mq ml mc Q h := by
 unfold F_portcullislaw26_many G_portcullislaw26_many
 have hl := rd.len
 have hlt := rd.lt
 intro J hJ
 refine loopS ml (fun t (n : Nat) => [.dv (.one (.int .i64 (n : Int))), si t]) (fun t n h' => h' = h /\ n = totO (sc.take t) /\ (0 < t -> n < 2 ^ 49)) ?_ ?_ 0 0 _ (by omega) ⟨rfl, rfl, fun y => absurd y (by omega)⟩
 ·rintro t n h1 ht ⟨rfl, hnt, hn⟩ hk
  apply hJ
  rw [ltI_eq, if_pos (by rw [decide_eq_true_iff]; omega)]
  intro c hcc
  obtain ⟨q, sp, sl, sc2, hq, _, _, _, e3, hrd, hok⟩ := rd.at_ t (by omega)
  have X := hs.ex
  have hml : sc[t].mask.length = sl := by have := hrd.1; simpa using this
  have hmx := hok.ml
  have t1 : totO (sc.take (t + 1)) = n + (1 + sl) := by rw [totO_succ (by omega), hml, hnt]
  rw [ltI_eq]
  have step : (n : Int) < c -> _ := fun g => (⟨q, hq, by omega, by omega, _, _, _, by rw [Int.toNat_natCast]; exact hc_ext X e3 (fun y => y), by
   have ew : IntKind.i64.wrap ((n : Int) + IntKind.i64.wrap (1 + (sl : Int))) = ((n + (1 + sl) : Nat) : Int) := by
    rw [wrap_id (n := 1 + (sl : Int)) (by omega), wrap_id (by omega)]
    omega
   rw [ew, wrap_succ (by omega)]
   exact hk _ _ ⟨rfl, t1.symm, fun _ => by omega⟩⟩ : ∃ p11 : Addr, mq = some p11 /\ 0 ≤ (t : Int) /\ (t : Int) < (ml : Int) /\ ∃ (o12 : Option Addr) (n13 n14 : Nat), hc h1 ((p11.add ((t : Int).toNat * 4)).add 3) = some (Value.slice o12 n13 n14) /\ J [.dv (.one (.int .i64 (IntKind.i64.wrap ((n : Int) + IntKind.i64.wrap (1 + (n13 : Int)))))), .dv (.one (.int .i64 (IntKind.i64.wrap ((t : Int) + 1))))] h1)
  by_cases g : (n : Int) < c
  ·rw [if_pos (by rw [decide_eq_true_iff]; exact g)]
   exact step g
  ·rw [if_neg (by rw [decide_eq_true_iff]; exact g)]
   intro c2 hc2
   rw [leI_eq, decide_eq_true (by omega)]
   exact k1
 ·rintro n h1 ⟨rfl, rfl, hn⟩
  apply hJ
  rw [ltI_eq, if_neg (by simp)]
  intro c hc
  subst hc
  rw [leI_eq]
  rw [List.take_of_length_le (by omega)]
  by_cases g : (2147483648 : Int) ≤ (totO sc : Int)
  ·rw [decide_eq_true g]; exact k1
  ·rw [decide_eq_false g]; exact k2 (by omega)
theorem alike26_sp {Q : H -> Prop} {w pc pr : Nat} {vs : List Value} {b55 : Bool} {a : Nat} (hb : b55 = true) (hs : Sat h0 A h) (tw : At A a (blk w vs)) (e0 : vs[0]? = some (.pointer (some ⟨pc, 0, none⟩))) (e3 : vs[3]? = some (.pointer (some ⟨pr, 0, none⟩))) (ci : At A i (chipE pc C)) (cj : At A j (refE pr C)) (hai : a ≠ j)
  (QF : Bool -> H -> Prop) (k : ∀ h', Sat h0 A h' -> Q h') :
  ∃ p57 : Addr, some (⟨w, 0, none⟩ : Addr) = some p57 /\ ∃ o58 : Option Addr, hc h p57 = some (.pointer o58) /\ ∃ p59 : Addr, some (⟨w, 0, none⟩ : Addr) = some p59 /\ ∃ o60 : Option Addr, hc h (p59.add 3) = some (.pointer o60) /\ ∃ p61 : Addr, o60 = some p61 /\
   ∃ (o62 : Option Addr) (n63 n64 : Nat), hc h (p61.add 7) = some (.slice o62 n63 n64) /\ ∃ (o65 : Option Addr) (n66 n67 : Nat), hc h (p61.add 8) = some (.slice o65 n66 n67) /\ ∃ (o68 : Option Addr) (n69 n70 : Nat), hc h (p61.add 9) = some (.slice o68 n69 n70) /\ ∃ p71 : Addr, o58 = some p71 /\
   F_chip_Chip_State p71 (fun (o72 : Option Addr) (n73 n74 : Nat) (o75 : Option Addr) (n76 n77 : Nat) (o78 : Option Addr) (n79 n80 : Nat) (h81 : H) => hcs h81 (p61.add 7) [.slice o62 n63 n64, .slice o65 n66 n67, .slice o68 n69 n70] /\ hcs h81 (p59.add 3) [.pointer o60] /\
    F_portcullisref04_SameState o72 n73 n74 o75 n76 n77 o78 n79 n80 o62 n63 n64 o65 n66 n67 o68 n69 n70 (fun (b82 : Bool) (h83 : H) => if (!b55) = true then QF false h83 else if (!b82) = true then QF false h83 else
     ∃ p84 : Addr, some (⟨w, 0, none⟩ : Addr) = some p84 /\ ∃ o85 : Option Addr, hc h83 p84 = some (.pointer o85) /\ ∃ p86 : Addr, some (⟨w, 0, none⟩ : Addr) = some p86 /\ ∃ o87 : Option Addr, hc h83 (p86.add 3) = some (.pointer o87) /\ ∃ p88 : Addr, o87 = some p88 /\ ∃ i89 : Int, hc h83 (p88.add 10) = some (.int .i64 i89) /\ ∃ p90 : Addr, o85 = some p90 /\
     F_chip_Chip_Acts p90 (fun (i91 : Int) (h92 : H) => hcs h92 (p88.add 10) [.int .i64 i89] /\ hcs h92 (p86.add 3) [.pointer o87] /\ if (i91 != i89) = true then QF false h92 else Q h92) h83) h81) h := by
 subst hb
 have ok := chip_ok hs ci
 have sm := ok.small
 have smp := sm.pages; have sme := sm.erases; have smb := sm.blown
 have smr : ∀ l, l ∈ C.s.pages -> l.length < 2 ^ 62 := fun l hl => by have := sm.rows l hl; omega
 obtain ⟨i', ci'⟩ := at_del ci (chip_refE_ne ci cj)
 obtain ⟨a', tw'⟩ := at_del tw hai
 obtain ⟨⟨v, ms⟩, hw, hs⟩ := (hs.front cj).open_
 replace hs : Sat h0 (blk pr (C.cells v.a v.b v.c v.m) :: matE 32 v.a C.s.pages :: sE v.b 1 (ints .i64 C.s.erases) :: sE v.c 1 (bools C.s.blown) :: sE v.m 1 (ints .u8 ms) :: del A j) _ := hs
 refine ⟨_, rfl, _, hs.ld tw'.s.s.s.s.s e0, _, rfl, _, hs.ld tw'.s.s.s.s.s e3, _, rfl, _, _, _, hs.ld .z rfl, _, _, _, hs.ld .z rfl, _, _, _, hs.ld .z rfl, _, rfl, ?_⟩
 refine State_sp hs (i := i' + 5) ci'.s.s.s.s.s ?_
 intro a1 b1 d1 h1 hs
 replace hs : Sat h0 (matE 32 a1 C.s.pages :: sE b1 1 (ints .i64 C.s.erases) :: sE d1 1 (bools C.s.blown) :: blk pr (C.cells v.a v.b v.c v.m) :: matE 32 v.a C.s.pages :: sE v.b 1 (ints .i64 C.s.erases) :: sE v.c 1 (bools C.s.blown) :: sE v.m 1 (ints .u8 ms) :: del A j) _ := hs
 refine ⟨Sat.cs hs (i := 3) (by repeat constructor) rfl, hcs_one (hs.ld tw'.s.s.s.s.s.s.s.s e3), ?_⟩
 refine SameState_sp (a := a1) (b := b1) (c := d1) (a2 := v.a) (b2 := v.b) (c2 := v.c) (s := C.s) hs
  (fun h' hs' => sat_rdS hs' (i := 0) (j := 1) (k := 2) (by repeat constructor) (by repeat constructor) (by repeat constructor)) (fun h' hs' => sat_rdS hs' (i := 4) (j := 5) (k := 6) (by repeat constructor) (by repeat constructor) (by repeat constructor)) (by omega) (by omega) (by omega) smr ?_
 intro h2 hs
 rw [if_neg (by simp), if_neg (by simp)]
 have tr : At (matE 32 a1 C.s.pages :: sE b1 1 (ints .i64 C.s.erases) :: sE d1 1 (bools C.s.blown) :: blk pr (C.cells v.a v.b v.c v.m) :: matE 32 v.a C.s.pages :: sE v.b 1 (ints .i64 C.s.erases) :: sE v.c 1 (bools C.s.blown) :: sE v.m 1 (ints .u8 ms) :: del A j) 3 (blk pr (C.cells v.a v.b v.c v.m)) := by (repeat (first | exact At.z | apply At.s))
 refine ⟨_, rfl, _, hs.ld tw'.s.s.s.s.s.s.s.s e0, _, rfl, _, hs.ld tw'.s.s.s.s.s.s.s.s e3, _, rfl, _, hs.ld tr rfl, _, rfl, ?_⟩
 refine Acts_sp hs (i := i' + 8) ci'.s.s.s.s.s.s.s.s ?_
 refine ⟨hcs_one (hs.ld tr rfl), hcs_one (hs.ld tw'.s.s.s.s.s.s.s.s e3), ?_⟩
 rw [if_neg (by simp)]
 have hs2 : Sat h0 (refL pr C (v, ms) ++ del A j) h2 := hs.drop.drop.drop
 have : Sat h0 (put A j (refE pr C)) h2 := Sat.back cj (Sat.close (n := 4) (φ := RefW C) (F := refL pr C) (v, ms) hw hs2)
 rw [cj.put_self] at this
 exact k _ this
theorem StreamDoes_sp {Q : Bool -> H -> Prop} {X : List SR} {lp mq : Option Addr} {ll lc ml mc : Nat} (c : Cfg) (sc : List OpE) (hg : hc h0 ⟨0, 0, none⟩ = some errTypeV) (rl : SecsAt h0 lp ll X) (hll : ll < 2 ^ 47) (rd : ScriptO h0 mq ml sc) (k : ∀ h', Sat h0 [] h' -> Q true h') :
  F_portcullislaw26_StreamDoes c.cells c.slots c.fuses c.step c.keys c.erases c.area lp ll lc mq ml mc Q h0 := by
 unfold F_portcullislaw26_StreamDoes G_portcullislaw26_StreamDoes
 try simp only [add_mk, Nat.zero_add, List.append_nil]
 have hs := Sat.init h0
 have hl := rd.len
 have hlt := rd.lt
 intro n25 _ hn; replace hs := Sat.new hs hn
 replace hs : Sat h0 [cfgP n25 c] _ := hs
 refine fixed26_sp hg hs ?_
 intro h1 hs
 refine many26_sp sc hs rd (by rw [if_pos rfl]; exact k _ hs.nil) ?_
 intro hN
 rw [if_neg (by decide)]
 refine ⟨_, hs.ld .z rfl, _, hs.ld .z rfl, _, hs.ld .z rfl, _, hs.ld .z rfl, _, hs.ld .z rfl, _, hs.ld .z rfl, _, hs.ld .z rfl, ?_⟩
 refine begunF_sp (X := X) c hs (fun h' hs' => rl.ext hs') hll ?_ ?_
 ·intro _ h2 hs J42 hJ42
  rw [if_pos (by simp), if_pos rfl]
  exact k _ hs.nil
 intro cm hnew w pc st lg rp mp R pr rr lp' lc' R2 g1 r1 g2 r2 B h2 K hs
 obtain ⟨L, hL⟩ : ∃ L, L = X.map SR.kv := ⟨_, rfl⟩
 rw [← hL] at K
 clear hL hnew
 intro J42 hJ42
 rw [if_neg (by simp), if_neg (by decide)]
 apply hJ42
 clear hJ42 J42
 intro J44 hJ44
 refine loop_up ml (fun t h => ∃ C g1 r1 g2 r2 T1 T2, bytesOk T1 /\ bytesOk T2 /\ T1.length ≤ totO (sc.take t) /\ T2.length ≤ totO (sc.take t) /\ Sat h0 (W26 w pc st lg rp pr rr g1 r1 g2 r2 C T1 T2 B) h) ?_ ?_ 0 _ (by omega) ⟨_, g1, r1, g2, r2, [], [], (fun v hv => by cases hv), (fun v hv => by cases hv), Nat.zero_le _, Nat.zero_le _, hs⟩
 ·clear hs
  rintro t h3 ht ⟨C, g1, r1, g2, r2, T1, T2, hT1, hT2, hl1, hl2, hs⟩ hk
  apply hJ44
  rw [ltI_eq, if_pos (by rw [decide_eq_true_iff]; omega)]
  obtain ⟨q, sp, sl, sc2, hq, e0, e1, e2, e3, hrd, hok⟩ := rd.at_ t (by omega)
  have X' := hs.ex
  have t1 := totO_succ (l := sc) (t := t) (by omega)
  have t2 := totO_mono sc (t + 1)
  refine ⟨q, hq, by omega, by omega, ?_⟩
  rw [Int.toNat_natCast]
  refine ⟨_, hc_ext X' e0 (fun y => y), _, hc_ext X' e1 (fun y => y), _, hc_ext X' e2 (fun y => y), _, _, _, hc_ext X' e3 (fun y => y), _, rfl, ?_⟩
  refine wstep26_sp sc[t] hok hg hrd K hT1 hT2 (totO (sc.take t)) hl1 hl2 (by omega) hs ?_
  intro D g1' r1' g2' r2' U1 U2 h4 hU1 hU2 hm1 hm2 hs
  refine alike26_sp (a := 0) (i := 3) (j := 4) rfl hs .z rfl rfl zs3 zs4 (by decide) Q ?_
  intro h5 hs
  rw [wrap_succ (by omega)]
  exact hk _ ⟨D, g1', r1', g2', r2', U1, U2, hU1, hU2, by omega, by omega, hs⟩
 clear hs
 rintro h3 ⟨C, g1, r1, g2, r2, T1, T2, hT1, hT2, hl1, hl2, hs⟩
 apply hJ44
 clear hJ44
 rw [ltI_eq, if_neg (by simp)]
 have t2 := totO_mono sc ml
 have KK : ∀ X : List Ent, Ring26 (X ++ B) rp mp rr lp' lc' R R2 L := fun X => K.left X
 refine ⟨_, rfl, _, hs.ld .z rfl, _, hs.ld .z rfl, ?_⟩
 replace hs := hs.perm (List.Perm.swap _ _ _)
 refine psum26_sp (L := L) hg hs zs2 zs5 zs4 zs3 (KK [_, _, _, _, _, _]) hT1 (by omega) ?_
 intro h4 hs
 refine ⟨_, rfl, _, hs.ld zs1 rfl, _, hs.ld zs1 rfl, ?_⟩
 replace hs := hs.front (e := pairE g2 r2 st rp pr rr T2) zs2
 simp only [del] at hs
 refine psum26_sp (L := L) hg hs zs2 zs5 zs4 zs3 (KK [_, _, _, _, _, _]) hT2 (by omega) ?_
 intro h5 hs
 replace hs := hs.perm (List.Perm.swap _ _ _)
 refine ⟨_, rfl, _, hs.ld zs2 rfl, _, rfl, _, hs.ld zs2 rfl, _, rfl, ?_⟩
 refine pdig26_sp hs (by omega) ?_
 intro h6 hs
 refine ⟨hcs_one (hs.ld zs2 rfl), _, rfl, ?_⟩
 refine rpdig26_sp hs .z hT1 (by omega) ?_
 intro h7 hs
 refine ⟨_, rfl, _, hs.ld zs2 rfl, _, rfl, _, hs.ld zs2 rfl, _, rfl, ?_⟩
 replace hs := hs.perm (List.Perm.swap _ _ _)
 refine pdig26_sp hs (by omega) ?_
 intro h8 hs
 refine ⟨hcs_one (hs.ld zs2 rfl), _, rfl, ?_⟩
 refine rpdig26_sp hs .z hT2 (by omega) ?_
 intro h9 hs
 rw [if_pos rfl, if_pos rfl, if_pos rfl, if_pos (by simp), beq_self_eq_true]
 exact k _ hs.nil
end
end Go.Proofs.YteedolonhdbieaaGreatDoor
end
section
namespace Go.Proofs.YteedolonhdbieaaGreatDoor
open Go Go.Vc Go.ChangeShapes Go.WideShapes Go.ChangeAt Go.RowKit
set_option maxRecDepth 100000
theorem StreamDoes_calls {D : Type} {enc : TypeId × Value -> D} {W : World} {base : Nat} (hg : hc W.heap ⟨0, 0, none⟩ = some errTypeV) (vs : List Value) (h : ArgsOk enc PP W base [23, 24, 86] vs) (hz : SizOk PP 1048576 [23, 24, 86] vs) : CallsTrue PP 5 vs W := by
 obtain ⟨hl, h⟩ := h
 match vs, hl with
 | [v0, v1, v2], _ =>
 obtain ⟨r0, w0⟩ := h 0 _ v0 rfl rfl
 obtain ⟨r1, w1⟩ := h 1 _ v1 rfl rfl
 obtain ⟨r2, w2⟩ := h 2 _ v2 rfl rfl
 obtain ⟨c, rfl⟩ := cfg_of r0 w0
 obtain ⟨p1, l1, c1, rfl, hs1⟩ := slice24_of (e := 172) (by kernel_rfl) r1 w1
 obtain ⟨X, hX, hll⟩ := secs_of hs1
 obtain ⟨p2, l2, c2, rfl, hs2⟩ := slice24_of (e := 90) (by kernel_rfl) r2 w2
 obtain ⟨sc, hsc⟩ := scriptD_of hs2
 have := R_portcullislaw26_StreamDoes [.agg (c.vals.map .c), .one (.slice p1 l1 c1), .one (.slice p2 l2 c2)] (fun rs h' => rs = [DV.one (.bool true)] /\ Ext none_ W.heap h') W.heap (by
  intro x hx
  simp only [List.mem_cons, List.not_mem_nil, or_false] at hx
  rcases hx with rfl | rfl | rfl
  ·exact ok_cfg c
  ·rfl
  ·rfl) (by
  show F_portcullislaw26_StreamDoes c.cells c.slots c.fuses c.step c.keys c.erases c.area p1 l1 c1 p2 l2 c2 (fun b h' => [DV.one (.bool b)] = [DV.one (.bool true)] /\ Ext none_ W.heap h') W.heap
  exact StreamDoes_sp c sc hg hX hll hsc fun h' x => ⟨rfl, x.ex⟩)
 exact this
theorem StreamDoes_wit {α : Type} {o : Option α} {p q : α -> Bool} (h : (match o with | some x => p x && q x | none => false) = true) : ∃ x, o = some x /\ p x = true /\ q x = true := by
 cases o with
 | none => cases h
 | some x => simp only [Bool.and_eq_true] at h; exact ⟨x, rfl, h⟩
theorem StreamDoes_upto (os : Os) (started : os.Started) (D : Type) (enc : TypeId × Value -> D) (F : Stop.Interp) :
  ReturnsInHanded {} Tryz.checked os 5 .any (fun w args => ((Rows.OpenSpec.upto Rows.streamDoesSpec).pre enc Tryz.prog Tryz.f5 [] false w args /\ laidMetH Tryz.prog laidL w) /\ sizedMet enc Tryz.prog Tryz.f5 (Rows.OpenSpec.upto Rows.streamDoesSpec) false w args) (((Rows.OpenSpec.upto Rows.streamDoesSpec).at F).post enc Tryz.prog Tryz.f5 false true false false) := by
 refine returnsInHanded_of_calls Tryz.own started (by kernel_rfl)
  (by
   obtain ⟨x, hx, h1, h2⟩ := StreamDoes_wit (p := fun x : List (DataW D) × List (DataW D) × List MemPlace => ([] : List PathCond).all (PathCond.test Tryz.checked.prog ⟨Tryz.f5.params.toList, x.1, (Rows.OpenSpec.upto Rows.streamDoesSpec).bare.plain.varTypes Tryz.checked.prog, x.2.1⟩)) (q := fun x => Rows.uptoSmall D (x.1 ++ x.2.1))
    (o := DataW.whole enc Tryz.checked.prog ((laidWorld os).forCall (fun _ _ => 0) ⟨#[], #[.agg #[.int .i64 0, .int .i64 0, .int .i64 0, .int .i64 0, .int .i64 0, .int .i64 0, .int .i64 0], .slice none 0 0, .slice none 0 0], []⟩).memory Tryz.f5.params.toList (Rows.OpenSpec.upto Rows.streamDoesSpec).vars false [.agg #[.int .i64 0, .int .i64 0, .int .i64 0, .int .i64 0, .int .i64 0, .int .i64 0, .int .i64 0], .slice none 0 0, .slice none 0 0] 8) (by kernel_rfl)
   have hok : Input.okWideB Tryz.checked.prog ((laidWorld os).forCall (fun _ _ => 0) ⟨#[], #[.agg #[.int .i64 0, .int .i64 0, .int .i64 0, .int .i64 0, .int .i64 0, .int .i64 0, .int .i64 0], .slice none 0 0, .slice none 0 0], []⟩) 5 ⟨#[], #[.agg #[.int .i64 0, .int .i64 0, .int .i64 0, .int .i64 0, .int .i64 0, .int .i64 0, .int .i64 0], .slice none 0 0, .slice none 0 0], []⟩ = true := by kernel_rfl
   exact ⟨laidWorld os, fun _ _ => 0, ⟨#[], #[.agg #[.int .i64 0, .int .i64 0, .int .i64 0, .int .i64 0, .int .i64 0, .int .i64 0, .int .i64 0], .slice none 0 0, .slice none 0 0], []⟩, rfl, World.shaped_of_B (by kernel_rfl) (by kernel_rfl), (Input.okWide_of_okWideB (base := 0) hok).1, (Input.okWide_of_okWideB hok).2,
    ⟨⟨(OpenSpec.pre_some (s := Rows.OpenSpec.upto Rows.streamDoesSpec) (k := Rows.uptoSmall) rfl [] false _ _).2 ⟨x.1, x.2.1, x.2.2, DataW.Whole_of_whole hx, h1, h2⟩, laidWorld_met os _⟩, sized_of (s := Rows.OpenSpec.upto Rows.streamDoesSpec) (show (Rows.OpenSpec.upto Rows.streamDoesSpec).bare.sizedB enc Tryz.checked.prog Tryz.f5 false ((laidWorld os).forCall (fun _ _ => 0) ⟨#[], #[.agg #[.int .i64 0, .int .i64 0, .int .i64 0, .int .i64 0, .int .i64 0, .int .i64 0, .int .i64 0], .slice none 0 0, .slice none 0 0], []⟩).memory #[.agg #[.int .i64 0, .int .i64 0, .int .i64 0, .int .i64 0, .int .i64 0, .int .i64 0, .int .i64 0], .slice none 0 0, .slice none 0 0] 8 = true by kernel_rfl)⟩, by
    simp only [Assume.holds]
    exact ⟨by simp, by simp, fun _ => Modest.zero, by simp, by simp⟩⟩) ?_
 intro w tape i _ _ _ hok hpre hholds
 obtain ⟨_, _, _, fn', hfn', _, _, _, _, hval⟩ := hok
 have e : fn' = Tryz.f5 := Option.some.inj (hfn'.symm.trans Tryz.func5)
 subst e
 obtain ⟨ds, gs, before, hw, hc, hkk⟩ := (OpenSpec.pre_some (s := Rows.OpenSpec.upto Rows.streamDoesSpec) (k := Rows.uptoSmall) rfl _ _ _ _).1 hpre.1.1
 have hz := hpre.2.weights hw
 have hL : laidMetH Tryz.prog laidL (w.forCall tape i) := hpre.1.2.of_heap (by rfl)
 have hw' := DataW.Whole.of_heap (w' := w.forCall tape i) (by rfl) hw
 refine (law_goB (P := Tryz.prog) (fn := Tryz.f5) (s := Rows.streamDoesSpec) (N := 1048576) [23, 24, 86] (by kernel_rfl) Tryz.laidOut rfl (by kernel_rfl) (by kernel_rfl) Tryz.ubool
  (fun ds hl => match ds, hl with | [d1, d2, d3], _ => rfl) hval hw' hz (of_decide_eq_true hkk) (StreamDoes_calls (handle_of_laid hL))).mono fun e W' ⟨v, he, hp⟩ => ?_
 subst he
 exact ChangeSpec.post_blind hp
theorem StreamDoes_k1 : (Rows.streamDoesUptoRow.wf (OpenSpec.ofChange Rows.streamDoesSpec) && laidOutB Tryz.prog && mapsRowed Tryz.prog && Tryz.f5.params.all (Tryz.prog.readableRec ·) && namedTie Tryz.prog Rows.streamDoesUptoRow.named Rows.streamDoesSpec.vars && (Rows.streamDoesUptoRow.stops == []) && (Tryz.prog.stops == []) && (Rows.streamDoesUptoRow.knobs == []) && (Tryz.prog.stopKnobs == [])) = true := by kernel_rfl
theorem StreamDoes_k2 : (Rows.streamDoesUptoRow.inPlace == Tryz.prog.inPlace 5) = true := by kernel_rfl
theorem StreamDoes_k3 : (Rows.streamDoesUptoRow.unfollowed == Tryz.prog.unfollowed 5) = true := by kernel_rfl
theorem StreamDoes_k4 : (Rows.streamDoesUptoRow.recurses == Tryz.prog.recurses 5) = true := by kernel_rfl
theorem StreamDoes_k5 : (Rows.streamDoesUptoRow.named == Tryz.prog.varsNamed 5) = true := by kernel_rfl
theorem StreamDoes_k6 : Tryz.prog.stopsHeard = true := by kernel_rfl
theorem StreamDoes_k7 : Tryz.prog.mayEnter = true := by kernel_rfl
theorem StreamDoes_k8 : (Rows.streamDoesUptoRow.lifted == Tryz.prog.liftsFinal) = true := by kernel_rfl
theorem StreamDoes_k9 : (Tryz.prog.make == some Rows.streamDoesUptoRow.make) = true := by kernel_rfl
theorem StreamDoes_facts : joinedFacts Tryz.pinned.checked.prog 5 Tryz.f5 Rows.streamDoesSpec Rows.streamDoesUptoRow = true := by
 unfold joinedFacts
 exact bool_and (bool_and (bool_and (bool_and (bool_and (bool_and (bool_and (bool_and (bool_and (bool_and (bool_and (bool_and (bool_and (bool_and (bool_and (bool_and (bool_and (bool_and (bool_and (bool_and (bool_and (bool_and (bool_and (StreamDoes_k1) StreamDoes_k2) StreamDoes_k3) StreamDoes_k4) StreamDoes_k5) (by kernel_rfl)) (by kernel_rfl)) (by kernel_rfl)) (by kernel_rfl)) (by kernel_rfl)) (by kernel_rfl)) (by kernel_rfl)) (by kernel_rfl)) (by kernel_rfl)) (by kernel_rfl)) (by kernel_rfl)) StreamDoes_k6) StreamDoes_k7) StreamDoes_k8) StreamDoes_k9) (by kernel_rfl)) (by kernel_rfl)) (by kernel_rfl)) (by kernel_rfl)
theorem StreamDoes_said : Rows.StreamDoesUptoSaid :=
 OpenClaim.holds_of_cond 5 Tryz.f5 rfl rfl rfl rfl rfl rfl rfl ⟨rfl, rfl, rfl, rfl, rfl⟩ rfl rfl rfl rfl rfl (by kernel_rfl) Tryz.func5 StreamDoes_facts
  (of_decide_eq_true (by kernel_rfl)) (by unfold Func.isWrapper; first | (rw [if_pos (by decide +kernel)]; kernel_rfl) | (rw [if_neg (by decide +kernel)]; exact ⟨rfl, rfl⟩))
  (fun os started H enc _ F => StreamDoes_upto os started H enc F)
theorem StreamDoes_plain (f : FuncId) (fn : Func) (hf : Tryz.pinned.checked.prog.funcNamed "portcullis/portcullislaw26.StreamDoes" = some f) (hfn : Tryz.pinned.checked.prog.funcs[f]? = some fn) :
  true = Tryz.pinned.checked.prog.looks [] /\ ∀ (j : Nat) t, fn.params[j]? = some t -> Tryz.pinned.checked.prog.wantsStandIn t = false := by
 obtain rfl : f = 5 := Option.some.inj ((show Tryz.prog.funcNamed "portcullis/portcullislaw26.StreamDoes" = some 5 by kernel_rfl).symm.trans hf) |>.symm
 obtain rfl : fn = Tryz.f5 := (Option.some.inj (Tryz.func5.symm.trans hfn)).symm
 refine ⟨by kernel_rfl, fun j t ht => ?_⟩
 have hm := Array.mem_of_getElem? ht
 have hm2 : t ∈ ([23, 24, 86] : List Nat) := by
  have : Tryz.f5.params.toList = [23, 24, 86] := by kernel_rfl
  rw [← this]; exact Array.mem_toList_iff.2 hm
 simp only [List.mem_cons, List.not_mem_nil, or_false] at hm2
 rcases hm2 with rfl | rfl | rfl <;> (first | kernel_rfl | rfl)
theorem StreamDoes_holds : Rows.StreamDoesUptoCardSaid :=
 Claim7.holds_tied_plain_at .later [] _ _ _ _ StreamDoes_said (fun _ h => by cases h) (by kernel_rfl) (fun _ h => by cases h) streamDoesUpto_row_tie rfl ⟨rfl, rfl⟩ (by kernel_rfl) rfl StreamDoes_plain (by kernel_rfl)
end Go.Proofs.YteedolonhdbieaaGreatDoor
end
