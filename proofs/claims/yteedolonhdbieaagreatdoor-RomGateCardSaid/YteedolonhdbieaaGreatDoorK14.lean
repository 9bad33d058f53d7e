/- RomGate: what is proved and its parts, laid together by a program of ours: Rg3 RwRomGate -/
import Derived.Test.YteedolonhdbieaaGreatDoorK13
set_option autoImplicit false
set_option linter.all false
/- RomGate. Own work. -/
section
set_option maxRecDepth 100000
set_option linter.unusedVariables false
namespace Go.Proofs.YteedolonhdbieaaGreatDoor
open Go Go.Vc
attribute [local irreducible] macM gateM tSlot tKey tVer tPay tTag

theorem perm_rg {α : Type} (a b c n ch : α) (X Y : List α) : (a :: b :: c :: (X ++ (n :: ch :: Y))).Perm (ch :: a :: b :: c :: (X ++ (n :: Y))) := by
 have := List.perm_middle (l₁ := a :: b :: c :: (X ++ [n])) (a := ch) (l₂ := Y)
 simpa using this
section
variable {h0 h : H} {A : List Ent} {i j p r b s m : Nat} {C : Cm}
theorem awake17_sp {Q : Bool → H → Prop} (hg : hc h0 ⟨0, 0, none⟩ = some errTypeV) (hs : Sat h0 A h) (k : ∀ h', Sat h0 A h' → Q true h') : F_portcullislaw17_awake Q h := by
 unfold F_portcullislaw17_awake G_portcullislaw17_awake
 try simp only [add_mk, Nat.zero_add, List.append_nil]
 refine New_sp cfg26 hs (fun y => absurd cfg26_may y) ?_
 intro _ pc h1 hs
 intro J12 hJ12
 rw [if_neg (by simp), if_neg (by decide)]
 apply hJ12
 clear hJ12
 intro n14 _ hn; replace hs := Sat.new hs hn; clear hn
 refine ⟨_, rfl, ?_⟩
 intro h18 e18
 replace hs := hs.mark (i := 0) .z e18
 clear e18
 intro n20 _ hn; replace hs := Sat.new hs hn; clear hn
 intro n23 _ hn; replace hs := Sat.new hs hn; clear hn
 refine ⟨_, rfl, ?_⟩
 intro h27 e27
 replace hs := hs.mark (i := 0) .z e27
 clear e27
 refine ⟨_, rfl, ?_⟩
 have rdX : ∀ h', Sat h0 (blk n23 [.int .u8 111] :: blk n20 [.int .i64 0, .slice (some ⟨n14, 0, none⟩) 1 1] :: blk n14 [.int .u8 107] :: chipE pc (freshC cfg26) :: A) h' → SecsAt h' (some ⟨n20, 0, none⟩) 1 [⟨0, [107], some ⟨n14, 0, none⟩, 1⟩] := by
  intro h' hs'
  refine ⟨rfl, ?_⟩
  intro x hx
  have : x = 0 := by simp at hx; exact hx
  subst this
  refine ⟨_, rfl, ?_, ?_, hs'.bv (i := 2) (l := 1) (.s (.s .z)) rfl (ints_one .u8 [107]), ?_, by show 1 < 2 ^ 47; decide⟩
  ·exact hs'.ld (i := 1) (.s .z) rfl
  ·exact hs'.ld (i := 1) (.s .z) rfl
  ·intro n hn
   simp only [List.getElem_cons_zero, List.mem_cons, List.not_mem_nil, or_false] at hn
   subst hn; decide
 have n17' : newM ([(⟨0, [107], some ⟨n14, 0, none⟩, 1⟩ : SR)].map SR.kv) = none := n17
 refine rMount_sp (X := [⟨0, [107], some ⟨n14, 0, none⟩, 1⟩]) (bs := [111]) hs (i := 3) (.s (.s (.s .z))) rdX (by decide) (fun B h' hs' => (hs'.sub (List.sublist_append_right B _)).bv (i := 0) (l := 1) .z rfl (ints_one .u8 [111])) (by decide) ?_ ?_ ?_ ?_
 ·intro e j' y; rw [n17'] at y; cases y
 ·intro _ y; omega
 ·intro _ _ y; exact absurd y (by decide)
 intro _ _ _ rm st lg rp mp R h2 eR gR hs
 intro J33 hJ33
 rw [if_neg (by simp), if_neg (by decide)]
 apply hJ33
 clear hJ33
 obtain ⟨TT, hTT⟩ : ∃ TT : List Ent, TT = ringP rp mp R ++ (blk n23 [.int .u8 111] :: blk n20 [.int .i64 0, .slice (some ⟨n14, 0, none⟩) 1 1] :: blk n14 [.int .u8 107] :: A) := ⟨_, rfl⟩
 have subA : A.Sublist TT := by rw [hTT]; exact (((List.sublist_cons_self _ _).trans (List.sublist_cons_self _ _)).trans (List.sublist_cons_self _ _)).trans (List.sublist_append_right _ _)
 obtain ⟨y3, a3⟩ : ∃ x, At TT x (blk rp [.map (some mp)]) := At.mem (by rw [hTT]; simp)
 obtain ⟨y4, a4⟩ : ∃ x, At TT x (mapE mp (R.map SR.ent)) := At.mem (by rw [hTT]; simp)
 have rR : ∀ x, x ∈ R → ∃ y, At TT y x.sl := fun x hx => At.mem (by rw [hTT]; exact List.mem_append_left _ (List.mem_cons_of_mem _ (List.mem_cons_of_mem _ (List.mem_map_of_mem hx))))
 have eR' : R.map SR.kv = L17 := eR
 replace hs : Sat h0 (chipE pc (freshC cfg26) :: romE rm st pc rp ⟨false, 0, 0, [], [111]⟩ :: storeE st pc lg :: logE lg pc :: TT) h2 := by
  rw [hTT]
  have := List.perm_middle (l₁ := romE rm st pc rp ⟨false, 0, 0, [], [111]⟩ :: storeE st pc lg :: logE lg pc :: (ringP rp mp R ++ [blk n23 [.int .u8 111], blk n20 [.int .i64 0, .slice (some ⟨n14, 0, none⟩) 1 1], blk n14 [.int .u8 107]])) (a := chipE pc (freshC cfg26)) (l₂ := A)
  exact hs.perm (by simpa using this)
 clear hTT
 obtain ⟨f1, f2, f3, f4, f5, f6, f7, f8⟩ := g17s
 intro n35 _ hn; replace hs := Sat.new hs hn; clear hn
 refine ⟨_, rfl, ?_⟩
 intro h39 e39
 replace hs := hs.mark (i := 0) .z e39
 clear e39
 have nilrd : ∀ h' : H, hsv h' none 1 0 (ints .u8 []) := fun h' => ⟨rfl, (fun v hv => by cases hv), Or.inl rfl⟩
 refine rmake_sp (sec := [107]) (pay := []) (slot := 0) (key := 0) (ver := 1) (pl := 0) hs (zeros_len 32) (by decide) (by intro n hn; simp at hn; subst hn; decide) (by decide) (fun n hn => by cases hn) (fun h' hs' => hs'.bv (i := 0) (l := 1) .z rfl (ints_one .u8 [107])) (fun h' _ => nilrd h') ?_
 intro pa ca h3 hs hca
 replace hs : Sat h0 (slE pa 48 ca 1 (ints .u8 a17) :: blk n35 [.int .u8 107] :: chipE pc (freshC cfg26) :: romE rm st pc rp ⟨false, 0, 0, [], [111]⟩ :: storeE st pc lg :: logE lg pc :: TT) h3 := hs
 intro n46 _ hn; replace hs := Sat.new hs hn; clear hn
 refine ⟨_, rfl, ?_⟩
 intro h50 e50
 replace hs := hs.mark (i := 0) .z e50
 clear e50
 refine rmake_sp (sec := [107]) (pay := []) (slot := 0) (key := 0) (ver := 2) (pl := 0) hs (zeros_len 32) (by decide) (by intro n hn; simp at hn; subst hn; decide) (by decide) (fun n hn => by cases hn) (fun h' hs' => hs'.bv (i := 0) (l := 1) .z rfl (ints_one .u8 [107])) (fun h' _ => nilrd h') ?_
 intro pb cb h4 hs hcb
 replace hs : Sat h0 (slE pb 48 cb 1 (ints .u8 b17) :: blk n46 [.int .u8 107] :: slE pa 48 ca 1 (ints .u8 a17) :: blk n35 [.int .u8 107] :: chipE pc (freshC cfg26) :: romE rm st pc rp ⟨false, 0, 0, [], [111]⟩ :: storeE st pc lg :: logE lg pc :: TT) h4 := hs
 replace hs := hs.front (e := romE rm st pc rp ⟨false, 0, 0, [], [111]⟩) (i := 5) (.s (.s (.s (.s (.s .z)))))
 simp only [del] at hs
 refine ⟨_, rfl, ?_⟩
 refine rBoot_sp (G := 0) (L := L17) (bs := b17) (R := R) (mp := mp) f1.symm hg hs (i := 4) (.s (.s (.s (.s .z)))) (x := 6) (.s (.s (.s (.s (.s (.s .z)))))) (y := 5) (.s (.s (.s (.s (.s .z))))) ⟨_, a3.s.s.s.s.s.s.s⟩ ⟨_, a4.s.s.s.s.s.s.s⟩ eR' gR (fun x hx => ⟨_, (rR x hx).choose_spec.s.s.s.s.s.s.s⟩)
  (fun B h' hs' => (hs'.sub (List.sublist_append_right B _)).sv (i := 0) .z) (ab17_ok 2) (by omega) (by omega) (fun y => absurd y (by decide)) (fun _ y => absurd y (by decide)) ?_
 intro _ _ P h5 tl pl hs
 intro n67 _ hn; replace hs := Sat.new hs hn; clear hn
 refine ⟨Sat.can hs (i := 0) .z (by simp [zeros]), ?_⟩
 intro h6 e6
 replace hs := Sat.wra (xs := imgL (tSlot 0 b17) (tKey 0 b17) (tVer 0 b17) (P, (tPay 0 b17).length, (tPay 0 b17).length) (tTag 0 b17)) hs (i := 0) .z e6 (by rw [img_len tl]; rfl)
 clear e6
 simp only [put_zero] at hs
 refine ⟨_, rfl, ?_⟩
 refine rConfirm_sp hs (j := 2) (.s (.s .z)) (i := 7) (.s (.s (.s (.s (.s (.s (.s .z))))))) (x := 9) (.s (.s (.s (.s (.s (.s (.s (.s (.s .z))))))))) (y := 8) (.s (.s (.s (.s (.s (.s (.s (.s .z)))))))) (fun y => absurd y (by decide)) (fun _ y => absurd y (by decide)) ?_ (by decide) (by decide)
 intro _ _ h7 hs
 simp only [put_succ, put_zero] at hs
 dsimp only at hs ⊢
 rw [f2, f3] at hs ⊢
 rw [f4]
 refine ⟨_, rfl, _, (rom_lds3 hs (i := 2) (.s (.s .z))).1, _, rfl, ?_⟩
 refine sRead_sp (C := C17) hs (i := 7) (.s (.s (.s (.s (.s (.s (.s .z))))))) (j := 9) (.s (.s (.s (.s (.s (.s (.s (.s (.s .z))))))))) (m := 8) (.s (.s (.s (.s (.s (.s (.s (.s .z)))))))) 0 ?_
 intro h8 hs
 rw [f5, f6]
 refine ⟨_, rfl, ?_⟩
 obtain ⟨M1, hM1⟩ : ∃ M1 : Rm, M1 = ⟨true, 0, 2, [(shaM b17, 0)], [111]⟩ := ⟨_, rfl⟩
 replace hs : Sat h0 (blk n67 (imgL 0 (tKey 0 b17) 2 (P, (tPay 0 b17).length, (tPay 0 b17).length) (tTag 0 b17)) :: prtE P (tPay 0 b17).length (tPay 0 b17) :: romE rm st pc rp M1 :: slE pb 48 cb 1 (ints .u8 b17) :: blk n46 [.int .u8 107] :: slE pa 48 ca 1 (ints .u8 a17) :: blk n35 [.int .u8 107] :: chipE pc C17 :: storeE st pc lg :: logE lg pc :: TT) h8 := by rw [hM1]; exact hs
 replace hs := hs.front (e := romE rm st pc rp M1) (i := 2) (.s (.s .z))
 simp only [del] at hs
 refine rBoot_sp (G := 16) (L := L17) (bs := a17) (R := R) (mp := mp) f7.symm hg hs (i := 6) (.s (.s (.s (.s (.s (.s .z)))))) (x := 8) (.s (.s (.s (.s (.s (.s (.s (.s .z)))))))) (y := 7) (.s (.s (.s (.s (.s (.s (.s .z))))))) ⟨_, a3.s.s.s.s.s.s.s.s.s⟩ ⟨_, a4.s.s.s.s.s.s.s.s.s⟩ eR' gR (fun x hx => ⟨_, (rR x hx).choose_spec.s.s.s.s.s.s.s.s.s⟩)
  (fun B h' hs' => (hs'.sub (List.sublist_append_right B _)).sv (i := 4) (.s (.s (.s (.s .z))))) (ab17_ok 1) (by omega) (by omega) (fun y => by rw [f8] at y; cases y) (fun _ y => by rw [hM1] at y; exact absurd y (by decide)) ?_
 intro _ _ P2 h9 tl2 pl2 hs
 intro n91 _ hn; replace hs := Sat.new hs hn; clear hn
 refine ⟨Sat.can hs (i := 0) .z (by simp [zeros]), ?_⟩
 intro h10 e10
 replace hs := Sat.wra (xs := imgL (tSlot 16 a17) (tKey 16 a17) (tVer 16 a17) (P2, (tPay 16 a17).length, (tPay 16 a17).length) (tTag 16 a17)) hs (i := 0) .z e10 (by rw [img_len tl2]; rfl)
 clear e10
 simp only [put_zero] at hs
 rw [if_pos (by decide)]
 refine ⟨_, hs.ld (i := 3) (.s (.s (.s .z))) rfl, ?_⟩
 rw [if_pos (by decide), if_pos (by decide), if_pos (by decide), if_pos (by decide), if_pos (by decide)]
 refine ⟨_, rfl, ?_⟩
 refine rConfirm_sp (C := C17) hs (j := 2) (.s (.s .z)) (i := 9) (.s (.s (.s (.s (.s (.s (.s (.s (.s .z))))))))) (x := 11) (.s (.s (.s (.s (.s (.s (.s (.s (.s (.s (.s .z))))))))))) (y := 10) (.s (.s (.s (.s (.s (.s (.s (.s (.s (.s .z)))))))))) (fun y => by rw [f8] at y; cases y) ?_ (fun _ y => absurd (show ((16 : Int) == 0) = true from y) (by decide)) (by decide) (by decide)
 intro _ _ h11 hs
 rw [if_pos (by decide)]
 refine ⟨_, rfl, ?_⟩
 unfold F_rom_Rom_Events G_rom_Rom_Events
 try simp only [add_mk, Nat.zero_add]
 replace hs := hs.front (i := 2) (.s (.s .z))
 simp only [del] at hs
 obtain ⟨x, hx, hs⟩ := hs.open_
 refine ⟨_, hs.ld (i := 0) .z rfl, _, rfl, ?_⟩
 refine cEvents_sp hs (i := 1) (.s .z) (j := 2) (.s (.s .z)) hx.2 ?_
 intro o' h12 hs
 have el : ((((M1.evs ++ [(shaM a17, 16)]).length : Nat) : Int) == 2) = true := by rw [hM1]; rfl
 dsimp only
 rw [el]
 refine k _ (hs.sub ?_)
 exact subA.trans (by
  refine List.Sublist.trans ?_ (List.sublist_cons_self _ _)
  refine List.Sublist.trans ?_ (List.sublist_append_right _ _)
  exact (((((((((((List.sublist_cons_self _ _).trans (List.sublist_cons_self _ _)).trans (List.sublist_cons_self _ _)).trans (List.sublist_cons_self _ _)).trans (List.sublist_cons_self _ _)).trans (List.sublist_cons_self _ _)).trans (List.sublist_cons_self _ _)).trans (List.sublist_cons_self _ _)).trans (List.sublist_cons_self _ _)).trans (List.sublist_cons_self _ _)).trans (List.sublist_cons_self _ _)))
theorem RomGate_sp {Q : Bool → H → Prop} {X : List SR} {lp bp vp ap : Option Addr} {ll lc bl bc vl vc al ac : Nat} {bumps revs bs : List Int} (c : Cfg) (hg : hc h0 ⟨0, 0, none⟩ = some errTypeV) (rl : SecsAt h0 lp ll X) (hll : ll < 2 ^ 47)
  (rb : hsv h0 bp 1 bl (ints .i64 bumps)) (hbl : bl < 2 ^ 60) (rv : hsv h0 vp 1 vl (ints .i64 revs)) (hvl : vl < 2 ^ 60) (ra : hsv h0 ap 1 al (ints .u8 bs)) (hb : bytesOk bs) (hac : al ≤ ac) (hal : al + 4096 ≤ 2 ^ 47) (k : ∀ h', Sat h0 [] h' → Q true h') :
  F_portcullislaw17_RomGate c.cells c.slots c.fuses c.step c.keys c.erases c.area lp ll lc bp bl bc vp vl vc ap al ac Q h0 := by
 unfold F_portcullislaw17_RomGate G_portcullislaw17_RomGate
 try simp only [add_mk, Nat.zero_add, List.append_nil]
 have hs := Sat.init h0
 have hbl' : bs.length = al := by have := ra.1; simpa using this
 intro n33 _ hn; replace hs := Sat.new hs hn; clear hn
 replace hs : Sat h0 [cfgP n33 c] _ := hs
 refine awake17_sp hg hs ?_
 intro h1 hs
 rw [if_neg (by decide)]
 obtain ⟨L, hL⟩ : ∃ L, X.map SR.kv = L := ⟨_, rfl⟩
 refine ringsU_sp hs hL (fun h' hs' => rl.ext hs') hll ?_
 intro o1 e1 i1 h2 B1 hs hB1
 obtain ⟨y5, b5⟩ : ∃ x, At (B1 ++ [cfgP n33 c]) x (cfgP n33 c) := At.mem (by simp)
 refine ⟨_, hs.ld b5 rfl, _, hs.ld b5 rfl, _, hs.ld b5 rfl, _, hs.ld b5 rfl, _, hs.ld b5 rfl, _, hs.ld b5 rfl, _, hs.ld b5 rfl, ?_⟩
 refine New_sp c hs ?_ ?_
 ·intro nm h3 hs
  refine ⟨_, hs.ld b5 rfl, _, hs.ld b5 rfl, _, hs.ld b5 rfl, _, hs.ld b5 rfl, _, hs.ld b5 rfl, _, hs.ld b5 rfl, _, hs.ld b5 rfl, ?_⟩
  refine rMay_sp c hs ?_
  intro h4 hs
  have e : c.may? = 1 := by unfold Cfg.may?; rw [if_neg nm]
  rw [e, if_pos (by decide), if_pos (by simp)]
  exact k _ hs.nil
 intro cm pc h3 hs
 refine ⟨_, hs.ld b5.s rfl, _, hs.ld b5.s rfl, _, hs.ld b5.s rfl, _, hs.ld b5.s rfl, _, hs.ld b5.s rfl, _, hs.ld b5.s rfl, _, hs.ld b5.s rfl, ?_⟩
 refine rMay_sp c hs ?_
 intro h4 hs
 have e : c.may? = 0 := by unfold Cfg.may?; rw [if_pos cm]
 rw [e, if_neg (by decide)]
 clear e
 intro J61 hJ61
 rw [if_neg (by simp), if_neg (by decide)]
 apply hJ61
 clear hJ61
 intro n63 _ hn; replace hs := Sat.new hs hn; clear hn
 refine ⟨_, rfl, ?_⟩
 intro h67 e67
 replace hs := hs.mark (i := 0) .z e67
 clear e67
 refine ⟨_, rfl, ?_⟩
 refine rMount_sp (X := X) (bs := [111, 119, 110]) hs (i := 1) (.s .z) (fun h' hs' => rl.ext hs') hll (fun B h' hs' => (hs'.sub (List.sublist_append_right B _)).bv (i := 0) (l := 3) .z rfl (ints_one .u8 [111, 119, 110])) (by decide) ?_ ?_ ?_ ?_
 ·intro e' j' hn' h5 hs
  rw [hL] at hn'
  rcases hB1 with ⟨a, _⟩ | ⟨a, _⟩
  ·rw [a] at hn'
   obtain ⟨rfl, rfl⟩ := Prod.mk.inj (Option.some.inj hn')
   rw [if_pos (by simpa using newM_ne a), if_pos (by simp), beq_self_eq_true]
   exact k _ hs.nil
  ·rw [a] at hn'; cases hn'
 ·intro _ y; omega
 ·intro _ _ y; exact absurd (show false = true from y) (by decide)
 intro hnew _ _ rm st lg rp mp R h5 eR gR hs
 rw [hL] at hnew eR
 rcases hB1 with ⟨a, _⟩ | ⟨a, a2, rr, lp', lc', R2, ho1, eR2, gR2, bb1⟩
 ·rw [a] at hnew; cases hnew
 subst a2 ho1 bb1
 rw [if_neg (by decide)]
 intro J73 hJ73
 rw [if_neg (by simp), if_neg (by decide)]
 apply hJ73
 clear hJ73
 have lR2 : R2.length < 2 ^ 40 := by
  have := congrArg List.length eR2
  rw [List.length_map] at this
  have h64 : ¬ 64 < L.length := fun y => by unfold newM at a; rw [if_pos y] at a; cases a
  omega
 obtain ⟨TT, hTT⟩ : ∃ TT : List Ent, TT = ringP rp mp R ++ (blk n63 [.int .u8 111, .int .u8 119, .int .u8 110] :: (ringD rr lp' lc' R2 ++ [cfgP n33 c])) := ⟨_, rfl⟩
 obtain ⟨y3, a3⟩ : ∃ x, At TT x (blk rp [.map (some mp)]) := At.mem (by rw [hTT]; simp)
 obtain ⟨y4, a4⟩ : ∃ x, At TT x (mapE mp (R.map SR.ent)) := At.mem (by rw [hTT]; simp)
 have rR : ∀ x, x ∈ R → ∃ y, At TT y x.sl := fun x hx => At.mem (by rw [hTT]; exact List.mem_append_left _ (List.mem_cons_of_mem _ (List.mem_cons_of_mem _ (List.mem_map_of_mem hx))))
 obtain ⟨y6, a6⟩ : ∃ x, At TT x (blk rr [.slice lp' R2.length lc']) := At.mem (by rw [hTT]; simp)
 obtain ⟨y7, a7⟩ : ∃ x, At TT x (slE lp' R2.length lc' 2 (secV R2)) := At.mem (by rw [hTT]; simp)
 have rR2 : ∀ x, x ∈ R2 → ∃ y, At TT y x.sl := fun x hx => At.mem (by rw [hTT]; exact List.mem_append_right _ (List.mem_cons_of_mem _ (List.mem_append_left _ (List.mem_cons_of_mem _ (List.mem_cons_of_mem _ (List.mem_map_of_mem hx))))))
 obtain ⟨y8, a8⟩ : ∃ x, At TT x (cfgP n33 c) := At.mem (by rw [hTT]; simp)
 replace hs : Sat h0 (chipE pc (freshC c) :: romE rm st pc rp ⟨false, 0, 0, [], [111, 119, 110]⟩ :: storeE st pc lg :: logE lg pc :: TT) h5 := by
  rw [hTT]
  exact hs.perm (perm_rg _ _ _ _ _ (ringP rp mp R) _)
 clear hTT b5
 have on0 : OnC c (freshC c) := ⟨rfl, by show (-1 : Int) < 0; decide, rfl⟩
 intro J75 hJ75
 refine loop_up bl (fun t h => ∃ C, OnC c C ∧ Sat h0 (chipE pc C :: romE rm st pc rp ⟨false, 0, 0, [], [111, 119, 110]⟩ :: storeE st pc lg :: logE lg pc :: TT) h) ?_ ?_ 0 _ (by omega) ⟨_, on0, hs⟩
 ·clear hs
  rintro t h6 ht ⟨C, on, hs⟩ hk
  apply hJ75
  rw [ltI_eq, if_pos (by rw [decide_eq_true_iff]; omega)]
  obtain ⟨q1, hq1, g1⟩ := hsv_int (hs.base rb) (x := t) ht
  have hsl := cm.slots
  refine ⟨_, rfl, _, (rom_lds3 hs (i := 1) (.s .z)).1, _, hs.ld a8.s.s.s.s rfl, by omega, q1, hq1, by omega, by omega, ?_⟩
  simp only [Int.toNat_natCast, Nat.mul_one]
  refine ⟨_, g1, _, rfl, ?_⟩
  refine sBumpTo_sp hs (i := 0) .z (j := 3) (.s (.s (.s .z))) (m := 2) (.s (.s .z)) (by decide) (by decide) _ _ ?_
  intro h7 hs
  simp only [put_zero] at hs
  rw [wrap_succ (by omega)]
  exact hk _ ⟨_, bump_onC on _ _, hs⟩
 clear hs
 rintro h6 ⟨C, on, hs⟩
 apply hJ75
 clear hJ75
 rw [ltI_eq, if_neg (by simp)]
 intro J86 hJ86
 refine loop_up vl (fun t h => ∃ C, OnC c C ∧ Sat h0 (chipE pc C :: romE rm st pc rp ⟨false, 0, 0, [], [111, 119, 110]⟩ :: storeE st pc lg :: logE lg pc :: TT) h) ?_ ?_ 0 _ (by omega) ⟨_, on, hs⟩
 ·clear hs on
  rintro t h6 ht ⟨C, on, hs⟩ hk
  apply hJ86
  rw [ltI_eq, if_pos (by rw [decide_eq_true_iff]; omega)]
  obtain ⟨q1, hq1, g1⟩ := hsv_int (hs.base rv) (x := t) ht
  refine ⟨_, rfl, _, (rom_lds3 hs (i := 1) (.s .z)).1, q1, hq1, by omega, by omega, ?_⟩
  simp only [Int.toNat_natCast, Nat.mul_one]
  refine ⟨_, g1, _, rfl, ?_⟩
  refine sRevoke_sp hs (i := 0) .z (m := 2) (.s (.s .z)) _ ?_
  intro h7 hs
  simp only [put_zero] at hs
  rw [wrap_succ (by omega)]
  exact hk _ ⟨_, revoke_onC on _, hs⟩
 clear hs on
 rintro h7 ⟨C, on, hs⟩
 apply hJ86
 clear hJ86
 obtain ⟨ho, hleft, hcf⟩ := on
 rw [ltI_eq, if_neg (by simp)]
 refine ⟨_, rfl, ?_⟩
 refine Acts_sp hs (i := 0) .z ?_
 intro n99 _ hn; replace hs := Sat.new hs hn; clear hn
 refine copy_sp hs (hs.base ra) (by omega) ?_
 intro p' c' h8 hs hc'
 replace hs := hs.front (e := romE rm st pc rp ⟨false, 0, 0, [], [111, 119, 110]⟩) (i := 2) (.s (.s .z))
 simp only [del] at hs
 refine ⟨_, rfl, ?_⟩
 obtain ⟨G, hG⟩ : ∃ G, G = gateM C L bs := ⟨_, rfl⟩
 refine rBoot_sp (L := L) (bs := bs) (R := R) (mp := mp) hG hg hs (i := 1) (.s .z) (x := 3) (.s (.s (.s .z))) (y := 2) (.s (.s .z)) ⟨_, a3.s.s.s.s⟩ ⟨_, a4.s.s.s.s⟩ eR gR (fun x hx => ⟨_, (rR x hx).choose_spec.s.s.s.s⟩)
  (fun B h' hs' => (hs'.sub (List.sublist_append_right B _)).sv (i := 0) .z) hb hc' (by omega) (fun y => by rw [ho] at y; cases y) (fun _ y => absurd y (by decide)) ?_
 intro _ _ P h9 tl pl hs
 intro n117 _ hn; replace hs := Sat.new hs hn; clear hn
 refine ⟨Sat.can hs (i := 0) .z (by simp [zeros]), ?_⟩
 intro h10 e10
 replace hs := Sat.wra (xs := imgL (tSlot G bs) (tKey G bs) (tVer G bs) (P, (tPay G bs).length, (tPay G bs).length) (tTag G bs)) hs (i := 0) .z e10 (by rw [img_len tl]; rfl)
 clear e10
 simp only [put_zero] at hs
 by_cases gz : G = 0
 case neg =>
  rw [if_pos (by simpa using gz)]
  refine ⟨_, rfl, ?_⟩
  refine Acts_sp hs (i := 4) (.s (.s (.s (.s .z)))) ?_
  rw [if_pos (by simp)]
  refine ⟨_, hs.ld a8.s.s.s.s.s.s.s rfl, _, hs.ld a8.s.s.s.s.s.s.s rfl, _, hs.ld a8.s.s.s.s.s.s.s rfl, _, hs.ld a8.s.s.s.s.s.s.s rfl, _, hs.ld a8.s.s.s.s.s.s.s rfl, _, hs.ld a8.s.s.s.s.s.s.s rfl, _, hs.ld a8.s.s.s.s.s.s.s rfl, _, rfl, _, rfl, ?_⟩
  refine gate17_sp (L := L) (bs := bs) hs (z := 2) (.s (.s .z)) (i := 4) (.s (.s (.s (.s .z)))) (x := 6) (.s (.s (.s (.s (.s (.s .z)))))) (y := 5) (.s (.s (.s (.s (.s .z))))) ho hcf a6.s.s.s.s.s.s.s a7.s.s.s.s.s.s.s eR2 lR2 gR2 (fun x hx => ⟨_, (rR2 x hx).choose_spec.s.s.s.s.s.s.s⟩) (fun h'' hs'' => hs''.base ra) hb hac (by omega) ?_
  intro h11 hs
  rw [← hG, if_pos (by simp)]
  refine ⟨_, hs.ld (i := 0) .z rfl, _, hs.ld (i := 0) .z rfl, _, hs.ld (i := 0) .z rfl, _, _, _, hs.ld (i := 0) .z rfl, _, tl, img_row hs (i := 0) .z tl, ?_⟩
  obtain ⟨e1, e2, e3, e4⟩ := t_err (bs := bs) gz
  have e5 : tTag G bs = zeros 32 := by unfold tTag; rw [if_neg gz]
  rw [e1, e2, e3, e5]
  refine same11_sp (pay := []) hs (zeros_len 32) (fun h' hs' => by
   have := prt_rd hs' (i := 1) (.s .z)
   rw [e4] at this ⊢
   exact this) (fun h' _ => ⟨rfl, (fun v hv => by cases hv), Or.inl rfl⟩) ?_
  intro h12 hs
  exact k _ hs.nil
 rw [if_neg (by simpa using gz)]
 refine ⟨_, rfl, ?_⟩
 refine Acts_sp hs (i := 4) (.s (.s (.s (.s .z)))) ?_
 rw [if_pos (by simp)]
 refine ⟨_, hs.ld a8.s.s.s.s.s.s.s rfl, _, hs.ld a8.s.s.s.s.s.s.s rfl, _, hs.ld a8.s.s.s.s.s.s.s rfl, _, hs.ld a8.s.s.s.s.s.s.s rfl, _, hs.ld a8.s.s.s.s.s.s.s rfl, _, hs.ld a8.s.s.s.s.s.s.s rfl, _, hs.ld a8.s.s.s.s.s.s.s rfl, _, rfl, _, rfl, ?_⟩
 refine gate17_sp (L := L) (bs := bs) hs (z := 2) (.s (.s .z)) (i := 4) (.s (.s (.s (.s .z)))) (x := 6) (.s (.s (.s (.s (.s (.s .z)))))) (y := 5) (.s (.s (.s (.s (.s .z))))) ho hcf a6.s.s.s.s.s.s.s a7.s.s.s.s.s.s.s eR2 lR2 gR2 (fun x hx => ⟨_, (rR2 x hx).choose_spec.s.s.s.s.s.s.s⟩) (fun h'' hs'' => hs''.base ra) hb hac (by omega) ?_
 intro h11 hs
 rw [← hG, gz, if_pos (by decide)]
 rw [gz] at tl pl hs
 have hgz : gateM C L bs = 0 := by rw [← hG, gz]
 obtain ⟨n, hpz, hnn⟩ := gate_parts ho hb hgz
 have e1 : tSlot 0 bs = bs.getD 5 0 := by unfold tSlot; rw [if_pos rfl]
 have e2 : tKey 0 bs = bs.getD 6 0 := by unfold tKey; rw [if_pos rfl]
 have e3 : tVer 0 bs = num4 bs 8 := by unfold tVer; rw [if_pos rfl]
 have en : (num4 bs 12).toNat = n := by omega
 have e4 : tPay 0 bs = (bs.drop 16).take n := by unfold tPay; rw [if_pos rfl, en]
 have e5 : tTag 0 bs = (bs.drop (16 + n)).take 32 := by unfold tTag; rw [if_pos rfl, en]
 have back : coverM (tSlot 0 bs) (tKey 0 bs) (tVer 0 bs) (tPay 0 bs) ++ tTag 0 bs = bs := by rw [e1, e2, e3, e4, e5]; exact cover_back hb hpz hnn
 refine ⟨_, hs.ld (i := 0) .z rfl, _, hs.ld (i := 0) .z rfl, _, hs.ld (i := 0) .z rfl, _, _, _, hs.ld (i := 0) .z rfl, _, tl, img_row hs (i := 0) .z tl, ?_, _, hs.base ra, Sat.cs hs (i := 0) .z (by rw [List.drop_zero, List.take_length]), ?_⟩
 ·refine rtagged_sp (pay := tPay 0 bs) hs tl (by show (tPay 0 bs).length < 2 ^ 44; omega) (fun h' hs' => prt_rd hs' (i := 1) (.s .z)) ?_
  intro p3 c3 h12 hs hc3
  rw [back] at hs
  refine ⟨⟨_, hs.sv (i := 0) .z, _, hs.base ra, ?_⟩, _, hs.base ra, _, hs.sv (i := 0) .z, ?_⟩
  ·rw [beq_self_eq_true]; exact k _ hs.nil
  ·rw [beq_self_eq_true]; exact k _ hs.nil
 ·refine rtagged_sp (pay := tPay 0 bs) hs tl (by show (tPay 0 bs).length < 2 ^ 44; omega) (fun h' hs' => prt_rd hs' (i := 1) (.s .z)) ?_
  intro p3 c3 h12 hs hc3
  rw [back] at hs
  refine ⟨_, hs.sv (i := 0) .z, ?_⟩
  rw [beq_self_eq_true]; exact k _ hs.nil
end
end Go.Proofs.YteedolonhdbieaaGreatDoor
end

/- RomGate: over a blank chip on which counters were raised and keys revoked, a Boot of whatever bytes does no act, and hands off just what the parts of an image say; for every input. -/
section
set_option maxRecDepth 100000
set_option linter.unusedVariables false
namespace Go.Proofs.YteedolonhdbieaaGreatDoor
open Go Go.Vc Go.ChangeShapes Go.WideShapes Go.ChangeAt Go.RowKit

theorem RomGate_calls {D : Type} {enc : TypeId × Value → D} {W : World} {base : Nat} (hg : hc W.heap ⟨0, 0, none⟩ = some errTypeV) (vs : List Value) (h : ArgsOk enc PP W base [23, 24, 66, 25, 26] vs) : CallsTrue PP 4 vs W := by
 obtain ⟨hl, h⟩ := h
 match vs, hl with
 | [v0, v1, v2, v3, v4], _ =>
 obtain ⟨r0, w0⟩ := h 0 _ v0 rfl rfl
 obtain ⟨r1, w1⟩ := h 1 _ v1 rfl rfl
 obtain ⟨r2, w2⟩ := h 2 _ v2 rfl rfl
 obtain ⟨r3, w3⟩ := h 3 _ v3 rfl rfl
 obtain ⟨r4, w4⟩ := h 4 _ v4 rfl rfl
 obtain ⟨c, rfl⟩ := cfg_of r0 w0
 obtain ⟨p1, l1, c1, rfl, hs1⟩ := slice24_of (e := 172) (by kernel_rfl) r1 w1
 obtain ⟨X, hX, hll⟩ := secs_of hs1
 obtain ⟨p2, l2, c2, rfl, hs2⟩ := slice24_of (e := 2) (by kernel_rfl) r2 w2
 obtain ⟨bumps, u1, _, u3⟩ := ints64_of hs2
 obtain ⟨p3, l3, c3, rfl, hs3⟩ := slice24_of (e := 3) (by kernel_rfl) r3 w3
 obtain ⟨revs, v1, _, v3⟩ := ints_of hs3
 obtain ⟨p4, l4, c4, rfl, hs4⟩ := slice24_of (e := 5) (by kernel_rfl) r4 w4
 obtain ⟨bs, b1, b2, b3, b4⟩ := bytes24_of hs4
 have z2 : bumps.length = l2 := by have := u1.1; simpa using this
 have z3 : revs.length = l3 := by have := v1.1; simpa using this
 have := R_portcullislaw17_RomGate [.agg (c.vals.map .c), .one (.slice p1 l1 c1), .one (.slice p2 l2 c2), .one (.slice p3 l3 c3), .one (.slice p4 l4 c4)] (fun rs h' => rs = [DV.one (.bool true)] ∧ Ext none_ W.heap h') W.heap (by
  intro x hx
  simp only [List.mem_cons, List.not_mem_nil, or_false] at hx
  rcases hx with rfl | rfl | rfl | rfl | rfl
  ·exact ok_cfg c
  ·rfl
  ·rfl
  ·rfl
  ·rfl) (by
  show F_portcullislaw17_RomGate c.cells c.slots c.fuses c.step c.keys c.erases c.area p1 l1 c1 p2 l2 c2 p3 l3 c3 p4 l4 c4 (fun b h' => [DV.one (.bool b)] = [DV.one (.bool true)] ∧ Ext none_ W.heap h') W.heap
  exact RomGate_sp c hg hX hll u1 (by omega) v1 (by omega) b1 b2 b3 b4 fun h' x => ⟨rfl, x.ex⟩)
 exact this
theorem RomGate_lifted (os : Os) (started : os.Started) (D : Type) (enc : TypeId × Value → D) :
  ReturnsInHanded {} Tryz.checked os 4 .any (fun w args => (Rows.romGateSpec.pre enc Tryz.prog Tryz.f4 [] false w args ∧ laidMetH Tryz.prog laidL w) ∧ sizedMet enc Tryz.prog Tryz.f4 (OpenSpec.ofChange Rows.romGateSpec) false w args)
   (Rows.romGateSpec.post enc Tryz.prog Tryz.f4 false true false false) := by
 refine returnsInHanded_of_change_and (C := Tryz.checked) (X := fun w _ => laidMetH Tryz.prog laidL w) (fun _ _ _ hh h => h.of_heap hh) Tryz.own started (by kernel_rfl) Tryz.func4
  (ChangeSpec.witness_at (enc := enc) (C := Tryz.checked) (os := os) (X := fun w _ => laidMetH Tryz.prog laidL w) false (laidWorld os) #[.agg #[.int .i64 0, .int .i64 0, .int .i64 0, .int .i64 0, .int .i64 0, .int .i64 0, .int .i64 0], .slice none 0 0, .slice none 0 0, .slice none 0 0, .slice none 0 0] 8 rfl (by kernel_rfl) (by kernel_rfl) (by kernel_rfl) (by kernel_rfl) (by kernel_rfl) (laidWorld_met os _)) ?_
 intro W base args ds gs before hval hW hcnd hsz hL _
 exact law_go (P := Tryz.prog) (fn := Tryz.f4) (s := Rows.romGateSpec) [23, 24, 66, 25, 26] (by kernel_rfl) Tryz.laidOut rfl (by kernel_rfl) (by kernel_rfl) Tryz.ubool
  (fun ds hl => match ds, hl with | [d1, d2, d3, d4, d5], _ => rfl) hval hW hsz (RomGate_calls (handle_of_laid hL))

theorem RomGate_k1 : (Rows.romGateRow.wf (OpenSpec.ofChange Rows.romGateSpec) && laidOutB Tryz.prog && mapsRowed Tryz.prog && Tryz.f4.params.all (Tryz.prog.readableRec ·) && namedTie Tryz.prog Rows.romGateRow.named Rows.romGateSpec.vars && (Rows.romGateRow.stops == []) && (Tryz.prog.stops == []) && (Rows.romGateRow.knobs == []) && (Tryz.prog.stopKnobs == [])) = true := by kernel_rfl
theorem RomGate_k2 : (Rows.romGateRow.inPlace == Tryz.prog.inPlace 4) = true := by kernel_rfl
theorem RomGate_k3 : (Rows.romGateRow.unfollowed == Tryz.prog.unfollowed 4) = true := by kernel_rfl
theorem RomGate_k4 : (Rows.romGateRow.recurses == Tryz.prog.recurses 4) = true := by kernel_rfl
theorem RomGate_k5 : (Rows.romGateRow.named == Tryz.prog.varsNamed 4) = true := by kernel_rfl
theorem RomGate_k6 : Tryz.prog.stopsHeard = true := by kernel_rfl
theorem RomGate_k7 : Tryz.prog.mayEnter = true := by kernel_rfl
theorem RomGate_k8 : (Rows.romGateRow.lifted == Tryz.prog.liftsFinal) = true := by kernel_rfl
theorem RomGate_k9 : (Tryz.prog.make == some Rows.romGateRow.make) = true := by kernel_rfl
theorem RomGate_facts : joinedFacts Tryz.pinned.checked.prog 4 Tryz.f4 Rows.romGateSpec Rows.romGateRow = true := by
 unfold joinedFacts
 exact bool_and (bool_and (bool_and (bool_and (bool_and (bool_and (bool_and (bool_and (bool_and (bool_and (bool_and (bool_and (bool_and (bool_and (bool_and (bool_and (bool_and (bool_and (bool_and (bool_and (bool_and (bool_and (bool_and (RomGate_k1) RomGate_k2) RomGate_k3) RomGate_k4) RomGate_k5) (by kernel_rfl)) (by kernel_rfl)) (by kernel_rfl)) (by kernel_rfl)) (by kernel_rfl)) (by kernel_rfl)) (by kernel_rfl)) (by kernel_rfl)) (by kernel_rfl)) (by kernel_rfl)) (by kernel_rfl)) RomGate_k6) RomGate_k7) RomGate_k8) RomGate_k9) (by kernel_rfl)) (by kernel_rfl)) (by kernel_rfl)) (by kernel_rfl)
theorem RomGate_said : Rows.RomGateSaid :=
 OpenClaim.holds_of_wide 4 Tryz.f4 rfl rfl rfl rfl rfl rfl rfl ⟨rfl, rfl, rfl, rfl, rfl⟩ rfl rfl rfl rfl rfl (by kernel_rfl) Tryz.func4 RomGate_facts
  (of_decide_eq_true (by kernel_rfl)) (by unfold Func.isWrapper; first | (rw [if_pos (by decide +kernel)]; kernel_rfl) | (rw [if_neg (by decide +kernel)]; exact ⟨rfl, rfl⟩))
  (fun os started H enc _ => RomGate_lifted os started H enc)

theorem RomGate_plain (f : FuncId) (fn : Func) (hf : Tryz.pinned.checked.prog.funcNamed "portcullis/portcullislaw17.RomGate" = some f) (hfn : Tryz.pinned.checked.prog.funcs[f]? = some fn) :
  true = Tryz.pinned.checked.prog.looks [] ∧ ∀ (j : Nat) t, fn.params[j]? = some t → Tryz.pinned.checked.prog.wantsStandIn t = false := by
 obtain rfl : f = 4 := Option.some.inj ((show Tryz.prog.funcNamed "portcullis/portcullislaw17.RomGate" = some 4 by kernel_rfl).symm.trans hf) |>.symm
 obtain rfl : fn = Tryz.f4 := (Option.some.inj (Tryz.func4.symm.trans hfn)).symm
 refine ⟨by kernel_rfl, fun j t ht => ?_⟩
 have hm := Array.mem_of_getElem? ht
 have hm2 : t ∈ ([23, 24, 66, 25, 26] : List Nat) := by
  have : Tryz.f4.params.toList = [23, 24, 66, 25, 26] := by kernel_rfl
  rw [← this]; exact Array.mem_toList_iff.2 hm
 simp only [List.mem_cons, List.not_mem_nil, or_false] at hm2
 rcases hm2 with rfl | rfl | rfl | rfl | rfl <;> (first | kernel_rfl | rfl)

theorem RomGate_holds : Rows.RomGateCardSaid :=
 Claim7.holds_tied_plain_at .later [] _ _ _ _ RomGate_said (fun _ h => by cases h) (by kernel_rfl) (fun _ h => by cases h) romGate_row_tie rfl ⟨rfl, rfl⟩ (by kernel_rfl) rfl RomGate_plain (by kernel_rfl)

end Go.Proofs.YteedolonhdbieaaGreatDoor
end
