/- TokenNarrows: what is proved and its parts, laid together by a program of ours: Tq6 RwTokenNarrows -/
import Derived.Test.YtaglicdidpgkpaaGreatDoorK14
set_option autoImplicit false
set_option linter.all false
/- TokenNarrows: a narrowed token lets just what the one ahead of it lets and its caveat is met by; or there is a clash. Own work. -/
section
set_option maxRecDepth 100000
set_option linter.unusedVariables false
namespace Go.Proofs.YtaglicdidpgkpaaGreatDoor
open Go Go.Vc
attribute [local irreducible] macM

theorem metsM_snoc (C : Cm) (w : WiM) (c : CvM) : ∀ cs : List CvM, metsM C w (cs ++ [c]) = if metsM C w cs ≠ 0 then metsM C w cs else metM C c w
 | [] => by
  show (if metM C c w ≠ 0 then metM C c w else 0) = _
  have e : metsM C w [] = 0 := rfl
  rw [e, if_neg (show ¬ ((0 : Int) ≠ 0) from fun y => y rfl)]
  by_cases g : metM C c w = 0
  ·rw [if_neg (by simpa using g), g]
  ·rw [if_pos g]
 | x :: r => by
  show (if metM C x w ≠ 0 then metM C x w else metsM C w (r ++ [c])) = if (if metM C x w ≠ 0 then metM C x w else metsM C w r) ≠ 0 then (if metM C x w ≠ 0 then metM C x w else metsM C w r) else metM C c w
  rw [metsM_snoc C w c r]
  by_cases g : metM C x w = 0
  ·have g2 : ¬ (metM C x w ≠ 0) := by simpa using g
   rw [if_neg g2, if_neg g2]
  ·rw [if_pos g, if_pos g, if_pos g]
theorem may_snoc {key : Int} {id : List Int} {cs : List CvM} {c : CvM} (hl : cs.length < 32) (hc : c.may) : TokMay key id (cs ++ [c]) ↔ TokMay key id cs := by
 unfold TokMay
 rw [List.length_append]
 constructor
 ·rintro ⟨a, b, _, d⟩
  exact ⟨a, b, by omega, fun x hx => d x (List.mem_append_left _ hx)⟩
 ·rintro ⟨a, b, _, d⟩
  refine ⟨a, b, by simp; omega, fun x hx => ?_⟩
  rcases List.mem_append.1 hx with y | y
  ·exact d x y
  ·simp at y; rw [y]; exact hc
theorem nar_law (C : Cm) (L : List Sec) (key : Int) (id : List Int) (cs : List CvM) (tag : List Int) (c : CvM) (w : WiM) (hl : cs.length < 32) (hc : c.may) :
  (chkM C L key id (cs ++ [c]) (macM tag (cbM c)) w = 0 ∧ chkM C L key id cs tag w ≠ 0 → chkM C L key id cs tag w = 15 ∧ ∃ s, L.find? (fun x => x.1 == key) = some s ∧ rightM s.2 id cs ≠ tag ∧ macM (rightM s.2 id cs) (cbM c) = macM tag (cbM c)) ∧
  (¬ (chkM C L key id (cs ++ [c]) (macM tag (cbM c)) w = 0 ∧ chkM C L key id cs tag w ≠ 0) → (chkM C L key id (cs ++ [c]) (macM tag (cbM c)) w = 0 ↔ chkM C L key id cs tag w = 0 ∧ metM C c w = 0)) := by
 unfold chkM
 by_cases ho : C.out = true
 ·simp only [if_pos ho]; exact ⟨fun y => absurd y.1 (by decide), fun _ => ⟨fun y => absurd y (by decide), fun y => absurd y.1 (by decide)⟩⟩
 simp only [if_neg ho]
 by_cases g : TokMay key id cs
 case neg =>
  rw [if_pos (by rw [may_snoc hl hc]; exact g), if_pos g]
  exact ⟨fun y => absurd y.1 (by decide), fun _ => ⟨fun y => absurd y (by decide), fun y => absurd y.1 (by decide)⟩⟩
 rw [if_neg (by rw [may_snoc hl hc]; simpa using g), if_neg (by simpa using g)]
 cases e : L.find? (fun x => x.1 == key) with
 | none => dsimp only; exact ⟨fun y => absurd y.1 (by decide), fun _ => ⟨fun y => absurd y (by decide), fun y => absurd y.1 (by decide)⟩⟩
 | some s =>
  dsimp only
  by_cases gk : C.cfg.keys ≤ key
  ·simp only [if_pos gk]; exact ⟨fun y => absurd y.1 (by decide), fun _ => ⟨fun y => absurd y (by decide), fun y => absurd y.1 (by decide)⟩⟩
  simp only [if_neg gk]
  by_cases gr : (revokedM C key).1 = true
  ·simp only [if_pos gr]; exact ⟨fun y => absurd y.1 (by decide), fun _ => ⟨fun y => absurd y (by decide), fun y => absurd y.1 (by decide)⟩⟩
  simp only [if_neg gr]
  rw [rightM_snoc]
  by_cases gt : rightM s.2 id cs = tag
  ·rw [if_neg (by rw [gt]; simp), if_neg (by simpa using gt), metsM_snoc]
   by_cases gm : metsM C w cs = 0
   ·rw [if_neg (by simpa using gm)]
    exact ⟨fun y => absurd gm y.2, fun _ => ⟨fun y => ⟨gm, y⟩, fun y => y.2⟩⟩
   ·rw [if_pos gm]
    exact ⟨fun y => absurd y.1 gm, fun _ => ⟨fun y => absurd y gm, fun y => absurd y.1 gm⟩⟩
  ·rw [if_pos gt]
   by_cases gm : macM (rightM s.2 id cs) (cbM c) = macM tag (cbM c)
   ·rw [if_neg (by simpa using gm)]
    refine ⟨fun _ => ⟨rfl, s, rfl, gt, gm⟩, fun y => ⟨fun z => absurd ⟨z, by decide⟩ y, fun z => absurd z.1 (by decide)⟩⟩
   ·rw [if_pos gm]
    exact ⟨fun y => absurd y.1 (by decide), fun _ => ⟨fun y => absurd y (by decide), fun y => absurd y.1 (by decide)⟩⟩
section
variable {h0 h : H} {A : List Ent} {i j p r b s m : Nat} {C : Cm}
theorem tag_sv {b : Nat} {key : Int} {ip cp : Option Addr} {il ic cl cc : Nat} {tag : List Int} (hs : Sat h0 A h) (ht : tag.length = 32) (c : At A i (blk b (tokL key ip il ic cp cl cc tag))) : hsv h (some ⟨b, 3, none⟩) 1 32 (ints .u8 tag) :=
 ⟨by simp [ht], ints_one _ _, Or.inr ⟨_, rfl, tok_row hs c⟩⟩
theorem clash24_sp {Q : Bool → H → Prop} {a_ b_ c' : Sl} {X : List SR} {lp ip cp : Option Addr} {ll lc il ic cl cc : Nat} {key : Int} {id tag : List Int} {cs : List CvM} {sec : Sec} (c : Cfg) (cv : CvM) (hs : Sat h0 A h) (rl : SecsAt h0 lp ll X) (hll : ll < 2 ^ 47)
  (ht : tag.length = 32) (htb : isBy tag) (hib : isBy id) (hi : il < 2 ^ 39) (hl : cl < 2 ^ 20) (ri : ∀ h', Sat h0 A h' → hsv h' ip 1 il (ints .u8 id)) (rc : ∀ h', Sat h0 A h' → hsv h' cp 5 cl (cvsV cs))
  (hX : (X.map SR.kv).find? (fun x => x.1 == key) = some sec) (hlen : sec.2.length ≤ 256) (hr : rightM sec.2 id cs ≠ tag) (hm : macM (rightM sec.2 id cs) (cbM cv) = macM tag (cbM cv))
  (k : ∀ h', Sat h0 A h' → Q true h') : F_portcullislaw24_clash c.cells c.slots c.fuses c.step c.keys c.erases c.area a_.1 a_.2.1 a_.2.2 b_.1 b_.2.1 b_.2.2 c'.1 c'.2.1 c'.2.2 lp ll lc key ip il ic cp cl cc tag cv.kind cv.slot cv.frm cv.to cv.set Q h := by
 unfold F_portcullislaw24_clash G_portcullislaw24_clash
 try simp only [add_mk, Nat.zero_add, List.append_nil]
 have hXl : X.length = ll := rl.1.symm
 intro sb _ hn; replace hs := Sat.new hs hn; clear hn
 intro tb _ hn; replace hs := Sat.new hs hn; clear hn
 intro cb _ hn; replace hs := Sat.new hs hn; clear hn
 replace hs : Sat h0 (blk cb (cvV cv) :: blk tb (tokL key ip il ic cp cl cc tag) :: blk sb (scnV c a_ b_ c' lp ll lc) :: A) _ := hs
 refine ⟨_, _, _, hs.ld (i := 2) (.s (.s .z)) rfl, ?_⟩
 intro J49 hJ49
 refine loop_up ll (fun t h => Sat h0 (blk cb (cvV cv) :: blk tb (tokL key ip il ic cp cl cc tag) :: blk sb (scnV c a_ b_ c' lp ll lc) :: A) h ∧ ((X.drop t).map SR.kv).find? (fun x => x.1 == key) = some sec) ?_ ?_ 0 _ (by omega) ⟨hs, hX⟩
 ·clear hs
  rintro t h1 htl ⟨hs, hf⟩ hk
  apply hJ49
  rw [ltI_eq, if_pos (by rw [decide_eq_true_iff]; omega)]
  obtain ⟨q, hq, g0, g1, rb, bb, bl⟩ := rl.2 t (by omega)
  refine ⟨q, hq, by omega, by omega, ?_⟩
  simp only [Int.toNat_natCast]
  refine ⟨_, hc_ext hs.ex g0 (fun y => y), _, _, _, hc_ext hs.ex g1 (fun y => y), ?_⟩
  intro eb _ hn; replace hs := Sat.new hs hn; clear hn
  refine ⟨Sat.can hs (i := 0) .z (by simp), ?_⟩
  intro h2 e
  replace hs := Sat.wra hs (i := 0) .z e rfl
  clear e
  simp only [put_zero] at hs
  refine ⟨_, hs.ld (i := 0) .z rfl, _, hs.ld (i := 2) (.s (.s .z)) rfl, ?_⟩
  rw [List.drop_eq_getElem_cons (by omega : t < X.length), List.map_cons, List.find?_cons] at hf
  by_cases c2 : (X[t].key == key) = true
  case neg =>
   rw [if_neg c2, wrap_succ (by omega)]
   have c3 : ((SR.kv X[t]).1 == key) = false := by simpa using c2
   rw [c3] at hf
   exact hk _ ⟨hs.drop, hf⟩
  rw [if_pos c2]
  have c3 : ((SR.kv X[t]).1 == key) = true := c2
  rw [c3] at hf
  injection hf with hf
  rw [← hf] at hlen hr hm
  dsimp only at hlen hr hm
  clear hf
  refine ⟨_, _, _, hs.ld (i := 0) .z rfl, _, _, _, hs.ld (i := 2) (.s (.s .z)) rfl, _, _, _, hs.ld (i := 2) (.s (.s .z)) rfl, ?_⟩
  refine rright_sp (secret := X[t].bytes) (id := id) (cs := cs) hs bb hib (by omega) (by omega) (by omega) (fun h' hs' => hs'.base rb) (fun h' hs' => ri _ hs'.drop.drop.drop.drop) (fun h' hs' => rc _ hs'.drop.drop.drop.drop) ?_
  intro h3 hs
  have rl32 := rightM_len X[t].bytes id cs
  have rlb := rightM_by X[t].bytes id cs
  obtain ⟨T, hT⟩ : ∃ T, T = rightM X[t].bytes id cs := ⟨_, rfl⟩
  rw [← hT] at rl32 rlb hr hm ⊢
  intro nb _ hn; replace hs := Sat.new hs hn; clear hn
  refine ⟨Sat.can hs (i := 0) .z (by simp [zeros]), ?_⟩
  intro h4 e
  replace hs := Sat.wra (xs := ints .u8 T) hs (i := 0) .z e (by simp [zeros, rl32])
  clear e
  simp only [put_zero] at hs
  refine ⟨T, rl32, hs.row0 (i := 0) .z, tag, ht, tok_row hs (i := 3) (.s (.s (.s .z))), ?_⟩
  rw [if_pos (by simpa using hr)]
  refine ⟨_, hs.ld (i := 2) (.s (.s .z)) rfl, _, hs.ld (i := 2) (.s (.s .z)) rfl, _, hs.ld (i := 2) (.s (.s .z)) rfl, _, hs.ld (i := 2) (.s (.s .z)) rfl, _, hs.ld (i := 2) (.s (.s .z)) rfl, _, hs.ld (i := 2) (.s (.s .z)) rfl, _, hs.ld (i := 2) (.s (.s .z)) rfl, _, hs.ld (i := 2) (.s (.s .z)) rfl, _, hs.ld (i := 2) (.s (.s .z)) rfl, _, hs.ld (i := 2) (.s (.s .z)) rfl, ?_⟩
  refine rcbytes_sp cv hs ?_
  intro p1 c1 h5 hs
  refine ⟨Sat.cs hs (i := 3) (.s (.s (.s .z))) rfl, ?_⟩
  refine rmac_sp (key := T) (b := cbM cv) hs rlb (isBy_cb cv) (by decide) (by decide) (fun h' hs' => hs'.bv (i := 1) (l := 32) (.s .z) (by simp [rl32]) (ints_one _ _)) (fun h' hs' => hs'.sv (i := 0) .z) ?_
  intro h6 hs
  refine ⟨Sat.cs hs (i := 3) (.s (.s (.s .z))) rfl, ?_⟩
  refine rcbytes_sp cv hs ?_
  intro p2 c2' h7 hs
  refine rmac_sp (key := tag) (b := cbM cv) hs htb (isBy_cb cv) (by decide) (by decide) (fun h' hs' => tag_sv hs' ht (i := 5) (.s (.s (.s (.s (.s .z)))))) (fun h' hs' => hs'.sv (i := 0) .z) ?_
  intro h8 hs
  rw [hm]
  have : (macM tag (cbM cv) == macM tag (cbM cv)) = true := by simp
  rw [this]
  exact k _ hs.drop.drop.drop.drop.drop.drop.drop
 ·rintro h1 ⟨hs, hf⟩
  rw [List.drop_of_length_le (by omega)] at hf
  cases hf
theorem narK_sp {Q : Bool → H → Prop} {a_ b_ c' : Sl} {X R : List SR} {lp ip cp s1 s2 : Option Addr} {ll lc il ic cl cc x1 x2 nb sb tb vb wb pc pr st lg rp mp : Nat} {key : Int} {id tag : List Int} {cs : List CvM} {O : NkE} {RR : List Ent} (c : Cfg) (cv : CvM) (w : WiM)
  (hO : O = narM key id cs tag cv)
  (hs : Sat h0 (blk nb tok0 :: slE s2 O.cs.length x2 5 (cvsV O.cs) :: slE s1 O.id.length x1 1 (ints .u8 O.id) :: chipE pc C :: refE pr C :: storeE st pc lg :: logE lg pc :: RR) h)
  (a3 : ∃ x, At RR x (blk rp [.map (some mp)])) (a4 : ∃ x, At RR x (mapE mp (R.map SR.ent))) (r1 : ∀ x, x ∈ R → ∃ y, At RR y x.sl) (gR : SR.good R) (eR : R.map SR.kv = X.map SR.kv)
  (b1 : ∃ x, At RR x (blk sb (scnV c a_ b_ c' lp ll lc))) (b2 : ∃ x, At RR x (blk tb (tokL key ip il ic cp cl cc tag))) (b3 : ∃ x, At RR x (blk vb (cvV cv))) (b4 : ∃ x, At RR x (blk wb (wiV w)))
  (rl : SecsAt h0 lp ll X) (hll : ll < 2 ^ 47) (ht : tag.length = 32) (htb : isBy tag) (hib : isBy id) (hi : il + 4096 ≤ 2 ^ 47) (hl : cl ≤ 65536) (ri : hsv h0 ip 1 il (ints .u8 id)) (rc : hsv h0 cp 5 cl (cvsV cs))
  (k : ∀ h', Sat h0 [] h' → Q true h') :
  K1_portcullislaw24_TokenNarrows F_portcullislaw24_of F_portcullisref24_Caveat_May F_token_Check F_portcullislaw24_wish F_portcullisref24_Meets F_portcullislaw24_clash Q h nb O.key s1 O.id.length x1 s2 O.cs.length x2 O.tag O.e tb vb wb (some ⟨rp, 0, none⟩) (some ⟨st, 0, none⟩) (some ⟨pr, 0, none⟩) sb := by
 unfold K1_portcullislaw24_TokenNarrows
 try simp only [add_mk, Nat.zero_add, List.append_nil]
 have hcl : cs.length = cl := by have := rc.1; rw [cvsV_len] at this; omega
 have hil : id.length = il := by have := ri.1; simpa using this
 obtain ⟨y3, a3⟩ := a3
 obtain ⟨y4, a4⟩ := a4
 obtain ⟨z1, b1⟩ := b1
 obtain ⟨z2, b2⟩ := b2
 obtain ⟨z3, b3⟩ := b3
 obtain ⟨z4, b4⟩ := b4
 obtain ⟨n1, n2, n3, n4⟩ := narM_tag key id cs tag cv
 rw [← hO] at n1 n2 n3 n4
 intro h2 e
 replace hs := Sat.wra (xs := tokL O.key s1 O.id.length x1 s2 O.cs.length x2 O.tag) hs (i := 0) .z e (by simp [zeros, n1])
 clear e
 simp only [put_zero] at hs
 by_cases e0 : O.e = 0
 case neg =>
  rw [if_pos (by simpa using e0)]
  by_cases c1 : 32 ≤ cs.length
  ·have e3 : O.e = 3 := by rw [hO]; unfold narM; rw [if_pos c1]
   rw [e3, if_pos (by decide)]
   refine ⟨_, _, _, hs.ld b2.s.s.s.s.s.s.s rfl, ?_⟩
   rw [leI_eq, if_pos (by rw [decide_eq_true_iff]; omega)]
   exact k _ hs.nil
  ·have hm : ¬ cv.may := fun y => e0 (by rw [hO]; unfold narM; rw [if_neg c1, if_pos y])
   have e1 : O.e = 1 := by rw [hO]; unfold narM; rw [if_neg c1, if_neg hm]
   rw [e1, if_neg (by decide), if_pos (by decide)]
   refine ⟨_, hs.ld b3.s.s.s.s.s.s.s rfl, _, hs.ld b3.s.s.s.s.s.s.s rfl, _, hs.ld b3.s.s.s.s.s.s.s rfl, _, hs.ld b3.s.s.s.s.s.s.s rfl, _, hs.ld b3.s.s.s.s.s.s.s rfl, ?_⟩
   refine rcmay_sp cv hs ?_
   intro h3 hs
   rw [decide_eq_false hm]
   exact k _ hs.nil
 rw [if_neg (by simpa using e0)]
 have c1 : ¬ 32 ≤ cs.length := fun y => by
  have : O.e = 3 := by rw [hO]; unfold narM; rw [if_pos y]
  omega
 have hm : cv.may := by
  refine Classical.byContradiction fun y => ?_
  have : O.e = 1 := by rw [hO]; unfold narM; rw [if_neg c1, if_neg y]
  omega
 have eO : O = ⟨0, key, id, cs ++ [cv], macM tag (cbM cv)⟩ := by rw [hO]; unfold narM; rw [if_neg c1, if_pos hm]
 obtain ⟨N1, N2⟩ := nar_law C (X.map SR.kv) key id cs tag cv w (by omega) hm
 refine ⟨_, hs.ld b2.s.s.s.s.s.s.s rfl, _, _, _, hs.ld b2.s.s.s.s.s.s.s rfl, _, _, _, hs.ld b2.s.s.s.s.s.s.s rfl, _, ht, tok_row hs b2.s.s.s.s.s.s.s, _, hs.ld b4.s.s.s.s.s.s.s rfl, _, hs.ld b4.s.s.s.s.s.s.s rfl, _, hs.ld b4.s.s.s.s.s.s.s rfl, ?_⟩
 refine lawof_sp (id := id) (cs := cs) hs ht hi hl (fun h' hs' => hs'.base ri) (fun h' hs' => hs'.base rc) ?_
 intro p1 k1 p2 k2 h8 hc1 hs
 refine ⟨Sat.cs hs b4.s.s.s.s.s.s.s.s.s rfl, ?_⟩
 refine wish_sp w hs ?_
 intro h9 hs
 refine ⟨_, rfl, _, rfl, ?_⟩
 refine tcheck_sp (id := id) (cs := cs) w hs (i := 5) (.s (.s (.s (.s (.s .z))))) (j := 8) (.s (.s (.s (.s (.s (.s (.s (.s .z)))))))) (m := 7) (.s (.s (.s (.s (.s (.s (.s .z))))))) a3.s.s.s.s.s.s.s.s.s a4.s.s.s.s.s.s.s.s.s gR (fun x hx h' hs' => hs'.sv (r1 x hx).choose_spec.s.s.s.s.s.s.s.s.s) ht htb (by omega) (fun h' hs' => ofId hil hc1 (hs'.sv (i := 1) (.s .z))) (fun h' hs' => hs'.sv (i := 0) .z) ?_
 intro h10 hs
 replace hs := hs.drop.drop
 refine ⟨_, hs.ld (i := 0) .z rfl, _, _, _, hs.ld (i := 0) .z rfl, _, _, _, hs.ld (i := 0) .z rfl, _, n1, tok_row hs (i := 0) .z, _, hs.ld b4.s.s.s.s.s.s.s rfl, _, hs.ld b4.s.s.s.s.s.s.s rfl, _, hs.ld b4.s.s.s.s.s.s.s rfl, ?_⟩
 refine wish_sp w hs ?_
 intro h11 hs
 refine ⟨Sat.cs hs (i := 0) .z (by rw [List.drop_zero, List.take_of_length_le (Nat.le_refl _)]), _, rfl, _, rfl, ?_⟩
 refine tcheck_sp (id := O.id) (cs := O.cs) w hs (i := 3) (.s (.s (.s .z))) (j := 6) (.s (.s (.s (.s (.s (.s .z)))))) (m := 5) (.s (.s (.s (.s (.s .z))))) a3.s.s.s.s.s.s.s a4.s.s.s.s.s.s.s gR (fun x hx h' hs' => hs'.sv (r1 x hx).choose_spec.s.s.s.s.s.s.s) n1 n2 (by omega) (fun h' hs' => hs'.sv (i := 2) (.s (.s .z))) (fun h' hs' => hs'.sv (i := 1) (.s .z)) ?_
 intro h12 hs
 refine ⟨_, hs.ld b3.s.s.s.s.s.s.s rfl, _, hs.ld b3.s.s.s.s.s.s.s rfl, _, hs.ld b3.s.s.s.s.s.s.s rfl, _, hs.ld b3.s.s.s.s.s.s.s rfl, _, hs.ld b3.s.s.s.s.s.s.s rfl, _, hs.ld b4.s.s.s.s.s.s.s rfl, _, hs.ld b4.s.s.s.s.s.s.s rfl, _, hs.ld b4.s.s.s.s.s.s.s rfl, _, rfl, ?_⟩
 refine rmeets_sp cv w hs (j := 4) (.s (.s (.s (.s .z)))) ?_
 intro h13 hs
 rw [eR]
 have eg : chkM C (X.map SR.kv) O.key O.id O.cs O.tag w = chkM C (X.map SR.kv) key id (cs ++ [cv]) (macM tag (cbM cv)) w := by rw [eO]
 rw [eg]
 obtain ⟨F, hF⟩ : ∃ F, F = chkM C (X.map SR.kv) key id cs tag w := ⟨_, rfl⟩
 obtain ⟨G, hG⟩ : ∃ G, G = chkM C (X.map SR.kv) key id (cs ++ [cv]) (macM tag (cbM cv)) w := ⟨_, rfl⟩
 obtain ⟨M, hM⟩ : ∃ M, M = metM C cv w := ⟨_, rfl⟩
 rw [← hF, ← hG, ← hM] at N2
 rw [← hF, ← hG] at N1
 rw [← hF, ← hG, ← hM]
 have last : ¬ (G = 0 ∧ F ≠ 0) → ∀ h', Sat h0 [] h' → if (F == 0) = true then Q ((G == 0) == (M == 0)) h' else Q ((G == 0) == false) h' := by
  intro y h' hs'
  have N := N2 y
  by_cases f0 : F = 0
  ·rw [if_pos (by simpa using f0)]
   have : ((G == 0) == (M == 0)) = true := by
    by_cases g0 : G = 0
    ·have := (N.1 g0).2
     rw [g0, this]; rfl
    ·have : ¬ M = 0 := fun z => g0 (N.2 ⟨f0, z⟩)
     have e1 : (G == 0) = false := by simpa using g0
     have e2 : (M == 0) = false := by simpa using this
     rw [e1, e2]; rfl
   rw [this]
   exact k _ hs'
  ·rw [if_neg (by simpa using f0)]
   have g0 : ¬ G = 0 := fun z => f0 (N.1 z).1
   have : ((G == 0) == false) = true := by rw [show (G == 0) = false by simpa using g0]; rfl
   rw [this]
   exact k _ hs'
 by_cases g0 : G = 0
 ·rw [if_pos (by simpa using g0)]
  by_cases f0 : F = 0
  ·rw [if_neg (by simpa using f0)]
   exact last (fun y => y.2 f0) _ hs.nil
  ·rw [if_pos (by simpa using f0)]
   obtain ⟨f15, sec, hf, hr, hmm⟩ := N1 ⟨g0, f0⟩
   rw [if_pos (by simpa using f15)]
   refine ⟨_, hs.ld b1.s.s.s.s.s.s.s rfl, _, hs.ld b1.s.s.s.s.s.s.s rfl, _, hs.ld b1.s.s.s.s.s.s.s rfl, _, hs.ld b1.s.s.s.s.s.s.s rfl, _, hs.ld b1.s.s.s.s.s.s.s rfl, _, hs.ld b1.s.s.s.s.s.s.s rfl, _, hs.ld b1.s.s.s.s.s.s.s rfl, _, _, _, hs.ld b1.s.s.s.s.s.s.s rfl, _, _, _, hs.ld b1.s.s.s.s.s.s.s rfl, _, _, _, hs.ld b1.s.s.s.s.s.s.s rfl, _, _, _, hs.ld b1.s.s.s.s.s.s.s rfl, _, hs.ld b2.s.s.s.s.s.s.s rfl, _, _, _, hs.ld b2.s.s.s.s.s.s.s rfl, _, _, _, hs.ld b2.s.s.s.s.s.s.s rfl, _, ht, tok_row hs b2.s.s.s.s.s.s.s, _, hs.ld b3.s.s.s.s.s.s.s rfl, _, hs.ld b3.s.s.s.s.s.s.s rfl, _, hs.ld b3.s.s.s.s.s.s.s rfl, _, hs.ld b3.s.s.s.s.s.s.s rfl, _, hs.ld b3.s.s.s.s.s.s.s rfl, ?_⟩
   have hlen : sec.2.length ≤ 256 := by
    rw [← eR, ← at_kv] at hf
    cases ex : SR.at_ R key with
    | none => rw [ex] at hf; cases hf
    | some x =>
     rw [ex] at hf
     injection hf with hf
     rw [← hf]
     exact (gR x (List.mem_of_find?_eq_some ex)).1
   have hmay : TokMay key id cs := by
    refine Classical.byContradiction fun y => ?_
    have : F = 5 ∨ F = 8 := by
     rw [hF]; unfold chkM
     by_cases ho : C.out = true
     ·rw [if_pos ho]; exact Or.inr rfl
     ·rw [if_neg ho, if_pos y]; exact Or.inl rfl
    omega
   exact clash24_sp (id := id) (cs := cs) c cv hs rl hll ht htb hib (by have := hmay.2.1; omega) (by have := hmay.2.2.1; omega) (fun h' hs' => hs'.base ri) (fun h' hs' => hs'.base rc) hf hlen hr hmm (fun h' hs' => k _ hs'.nil)
 ·rw [if_neg (by simpa using g0)]
  exact last (fun y => g0 y.1) _ hs.nil
theorem TokenNarrows_sp {Q : Bool → H → Prop} (hg : hc h0 ⟨0, 0, none⟩ = some errTypeV) {a_ b_ c' : Sl} {s : St} {X : List SR} {lp ip cp : Option Addr} {ll lc il ic cl cc : Nat} {key : Int} {id tag : List Int} {cs : List CvM} (c : Cfg) (cv : CvM) (w : WiM) (rd0 : RdS h0 a_ b_ c' s) (ty : s.typed) (rl : SecsAt h0 lp ll X) (hll : ll < 2 ^ 47)
  (ht : tag.length = 32) (htb : isBy tag) (hib : isBy id) (hi : il + 4096 ≤ 2 ^ 47) (ri : hsv h0 ip 1 il (ints .u8 id)) (rc : hsv h0 cp 5 cl (cvsV cs)) (k : ∀ h', Sat h0 [] h' → Q true h') :
  F_portcullislaw24_TokenNarrows c.cells c.slots c.fuses c.step c.keys c.erases c.area a_.1 a_.2.1 a_.2.2 b_.1 b_.2.1 b_.2.2 c'.1 c'.2.1 c'.2.2 lp ll lc key ip il ic cp cl cc tag cv.kind cv.slot cv.frm cv.to cv.set w.kind w.slot w.ver Q h0 := by
 unfold F_portcullislaw24_TokenNarrows G_portcullislaw24_TokenNarrows
 try simp only [add_mk, Nat.zero_add, List.append_nil]
 have hcl : cs.length = cl := by have := rc.1; rw [cvsV_len] at this; omega
 have hil : id.length = il := by have := ri.1; simpa using this
 have hs := Sat.init h0
 intro sb _ hn; replace hs := Sat.new hs hn; clear hn
 intro tb _ hn; replace hs := Sat.new hs hn; clear hn
 intro vb _ hn; replace hs := Sat.new hs hn; clear hn
 intro wb _ hn; replace hs := Sat.new hs hn; clear hn
 replace hs : Sat h0 [blk wb (wiV w), blk vb (cvV cv), blk tb (tokL key ip il ic cp cl cc tag), blk sb (scnV c a_ b_ c' lp ll lc)] _ := hs
 refine awake24_sp hg hs ?_
 intro h1 hs
 rw [if_neg (by decide)]
 refine ⟨_, hs.ld (i := 2) (.s (.s .z)) rfl, _, _, _, hs.ld (i := 2) (.s (.s .z)) rfl, _, _, _, hs.ld (i := 2) (.s (.s .z)) rfl, _, ht, tok_row hs (i := 2) (.s (.s .z)), ?_⟩
 refine rfew_sp hs ?_
 intro h6 hs
 by_cases cf : cl ≤ 65536
 case neg =>
  rw [if_pos (by simp [cf])]
  exact k _ hs.nil
 rw [if_neg (by simp [cf])]
 (repeat first | refine ⟨_, Sat.ld hs (by (repeat (first | exact At.z | apply At.s))) (by rfl), ?_⟩ | refine ⟨_, _, _, Sat.ld hs (by (repeat (first | exact At.z | apply At.s))) (by rfl), ?_⟩ | (intro _ _ hn; replace hs := Sat.new hs hn; clear hn) | refine ⟨Sat.cs hs (by (repeat (first | exact At.z | apply At.s))) (by rfl), ?_⟩ | (refine ⟨Sat.can hs (by (repeat (first | exact At.z | apply At.s))) (by simp), ?_⟩; intro _ e; replace hs := Sat.wr hs (by (repeat (first | exact At.z | apply At.s))) e; clear e; simp only [put, splice, List.set] at hs))
 refine scene24_sp (a_ := a_) (b_ := b_) (c' := c') (s := s) (X := X) c hs (fun h' hs' => rd0.ext hs'.ex) ty rl hll ?_ ?_
 ·intro h2 hs J72 hJ72
  rw [if_neg (by decide), if_pos (by decide)]
  exact k _ hs.nil
 intro m l pc st lg pr rp mp R rr lp' lc' R2 h2 eR gR eR2 gR2 lR2 hs J72 hJ72
 rw [if_neg (by decide), if_neg (by simp)]
 apply hJ72
 clear hJ72
 obtain ⟨RR, hRR⟩ : ∃ RR, RR = ringD rr lp' lc' R2 ++ (ringP rp mp R ++ [blk wb (wiV w), blk vb (cvV cv), blk tb (tokL key ip il ic cp cl cc tag), blk sb (scnV c a_ b_ c' lp ll lc)]) := ⟨_, rfl⟩
 rw [← hRR] at hs
 have a3 : ∃ x, At RR x (blk rp [.map (some mp)]) := At.mem (by rw [hRR]; simp)
 have a4 : ∃ x, At RR x (mapE mp (R.map SR.ent)) := At.mem (by rw [hRR]; simp)
 obtain ⟨z1, b1⟩ : ∃ x, At RR x (blk sb (scnV c a_ b_ c' lp ll lc)) := At.mem (by rw [hRR]; simp)
 obtain ⟨z2, b2⟩ : ∃ x, At RR x (blk tb (tokL key ip il ic cp cl cc tag)) := At.mem (by rw [hRR]; simp)
 obtain ⟨z3, b3⟩ : ∃ x, At RR x (blk vb (cvV cv)) := At.mem (by rw [hRR]; simp)
 obtain ⟨z4, b4⟩ : ∃ x, At RR x (blk wb (wiV w)) := At.mem (by rw [hRR]; simp)
 have r1 : ∀ x, x ∈ R → ∃ y, At RR y x.sl := fun x hx => At.mem (by rw [hRR]; exact List.mem_append_right _ (List.mem_append_left _ (List.mem_cons_of_mem _ (List.mem_cons_of_mem _ (List.mem_map_of_mem hx)))))
 clear hRR
 refine ⟨_, hs.ld b2.s.s.s.s rfl, _, _, _, hs.ld b2.s.s.s.s rfl, _, _, _, hs.ld b2.s.s.s.s rfl, _, ht, tok_row hs b2.s.s.s.s, _, hs.ld b3.s.s.s.s rfl, _, hs.ld b3.s.s.s.s rfl, _, hs.ld b3.s.s.s.s rfl, _, hs.ld b3.s.s.s.s rfl, _, hs.ld b3.s.s.s.s rfl, ?_⟩
 refine ⟨?_, ?_⟩
 ·refine lawof_sp (id := id) (cs := cs) hs ht hi cf (fun h' hs' => hs'.base ri) (fun h' hs' => hs'.base rc) ?_
  intro p1 k1 p2 k2 h8 hc1 hs
  refine ⟨Sat.cs hs b3.s.s.s.s.s.s rfl, ?_, ?_⟩
  ·refine caveat_sp cv hs ?_
   intro h9 hs
   refine ⟨?_, ?_⟩
   ·refine nar_sp (id := id) (cs := cs) cv hs ht (by omega) (by omega) (fun h' hs' => ofId hil hc1 (hs'.sv (i := 1) (.s .z))) (fun h' hs' => hs'.sv (i := 0) .z) ?_
    intro O hO s1 x1 s2 x2 h10 hs
    intro nb _ hn; replace hs := Sat.new hs hn; clear hn
    refine ⟨Sat.can hs (i := 0) .z (by simp [zeros]), ?_⟩
    exact narK_sp (C := layC c s) c cv w hO (hs.sub (by (repeat (first | exact List.Sublist.refl _ | apply List.Sublist.cons_cons | apply List.Sublist.cons)))) a3 a4 r1 gR eR ⟨_, b1⟩ ⟨_, b2⟩ ⟨_, b3⟩ ⟨_, b4⟩ rl hll ht htb hib hi cf ri rc k
   ·intro nb _ hn; replace hs := Sat.new hs hn; clear hn
    refine nar_sp (id := id) (cs := cs) cv hs ht (by omega) (by omega) (fun h' hs' => ofId hil hc1 (hs'.sv (i := 2) (.s (.s .z)))) (fun h' hs' => hs'.sv (i := 1) (.s .z)) ?_
    intro O hO s1 x1 s2 x2 h10 hs
    refine ⟨Sat.can hs (i := 2) (.s (.s .z)) (by simp [zeros]), ?_⟩
    replace hs := hs.front (e := blk nb tok0) (i := 2) (.s (.s .z))
    simp only [del] at hs
    exact narK_sp (C := layC c s) c cv w hO (hs.sub (by (repeat (first | exact List.Sublist.refl _ | apply List.Sublist.cons_cons | apply List.Sublist.cons)))) a3 a4 r1 gR eR ⟨_, b1⟩ ⟨_, b2⟩ ⟨_, b3⟩ ⟨_, b4⟩ rl hll ht htb hib hi cf ri rc k
  ·intro nb _ hn; replace hs := Sat.new hs hn; clear hn
   refine ⟨Sat.cs hs b3.s.s.s.s.s.s.s rfl, ?_⟩
   refine caveat_sp cv hs ?_
   intro h9 hs
   refine nar_sp (id := id) (cs := cs) cv hs ht (by omega) (by omega) (fun h' hs' => ofId hil hc1 (hs'.sv (i := 2) (.s (.s .z)))) (fun h' hs' => hs'.sv (i := 1) (.s .z)) ?_
   intro O hO s1 x1 s2 x2 h10 hs
   refine ⟨Sat.can hs (i := 2) (.s (.s .z)) (by simp [zeros]), ?_⟩
   replace hs := hs.front (e := blk nb tok0) (i := 2) (.s (.s .z))
   simp only [del] at hs
   exact narK_sp (C := layC c s) c cv w hO (hs.sub (by (repeat (first | exact List.Sublist.refl _ | apply List.Sublist.cons_cons | apply List.Sublist.cons)))) a3 a4 r1 gR eR ⟨_, b1⟩ ⟨_, b2⟩ ⟨_, b3⟩ ⟨_, b4⟩ rl hll ht htb hib hi cf ri rc k
 ·intro nb _ hn; replace hs := Sat.new hs hn; clear hn
  refine ⟨Sat.cs hs b3.s.s.s.s.s rfl, Sat.cs hs b2.s.s.s.s.s (by rw [List.drop_zero, List.take_of_length_le (Nat.le_refl _)]), ?_⟩
  refine lawof_sp (id := id) (cs := cs) hs ht hi cf (fun h' hs' => hs'.base ri) (fun h' hs' => hs'.base rc) ?_
  intro p1 k1 p2 k2 h8 hc1 hs
  refine ⟨Sat.cs hs b3.s.s.s.s.s.s.s rfl, ?_⟩
  refine caveat_sp cv hs ?_
  intro h9 hs
  refine nar_sp (id := id) (cs := cs) cv hs ht (by omega) (by omega) (fun h' hs' => ofId hil hc1 (hs'.sv (i := 1) (.s .z))) (fun h' hs' => hs'.sv (i := 0) .z) ?_
  intro O hO s1 x1 s2 x2 h10 hs
  refine ⟨Sat.can hs (i := 4) (.s (.s (.s (.s .z)))) (by simp [zeros]), ?_⟩
  replace hs := hs.front (e := blk nb tok0) (i := 4) (.s (.s (.s (.s .z))))
  simp only [del] at hs
  exact narK_sp (C := layC c s) c cv w hO (hs.sub (by (repeat (first | exact List.Sublist.refl _ | apply List.Sublist.cons_cons | apply List.Sublist.cons)))) a3 a4 r1 gR eR ⟨_, b1⟩ ⟨_, b2⟩ ⟨_, b3⟩ ⟨_, b4⟩ rl hll ht htb hib hi cf ri rc k
end
end Go.Proofs.YtaglicdidpgkpaaGreatDoor
end

/- TokenNarrows: a narrowed token lets just what the one ahead of it lets and its caveat is met by; or there is a clash; for every input. -/
section
set_option maxRecDepth 100000
set_option linter.unusedVariables false
namespace Go.Proofs.YtaglicdidpgkpaaGreatDoor
open Go Go.Vc Go.ChangeShapes Go.WideShapes Go.ChangeAt Go.RowKit

theorem TokenNarrows_calls {D : Type} {enc : TypeId × Value → D} {W : World} {base : Nat} (hg : hc W.heap ⟨0, 0, none⟩ = some errTypeV) (vs : List Value) (h : ArgsOk enc PP W base [31, 37, 40, 42] vs) : CallsTrue PP 3 vs W := by
 obtain ⟨hl, h⟩ := h
 match vs, hl with
 | [v0, v1, v2, v3], _ =>
 obtain ⟨r0, w0⟩ := h 0 _ v0 rfl rfl
 obtain ⟨r1, w1⟩ := h 1 _ v1 rfl rfl
 obtain ⟨r2, w2⟩ := h 2 _ v2 rfl rfl
 obtain ⟨r3, w3⟩ := h 3 _ v3 rfl rfl
 obtain ⟨c, a, b, c', s, X, lp, ll, lc, rfl, rd, ty, _, rl, hll⟩ := scene_of r0 w0
 obtain ⟨key, id, tag, cs, ip, il, ic, cp, cl, cc, rfl, T⟩ := tok24_of r1 w1
 obtain ⟨cv, rfl⟩ := cavA_of r2 w2
 obtain ⟨w, rfl⟩ := wish_of r3 w3
 have := R_portcullislaw24_TokenNarrows [.agg [.c (.int .i64 c.cells), .c (.int .i64 c.slots), .c (.int .i64 c.fuses), .c (.int .i64 c.step), .c (.int .i64 c.keys), .c (.int .i64 c.erases), .c (.int .i64 c.area), .c a.v, .c b.v, .c c'.v, .c (.slice lp ll lc)], .agg [.c (.int .i64 key), .c (.slice ip il ic), .c (.slice cp cl cc), .row .u8 32 tag], .agg [.c (.int .i64 cv.kind), .c (.int .i64 cv.slot), .c (.int .i64 cv.frm), .c (.int .i64 cv.to), .c (.int .u64 cv.set)], wiD w] (fun rs h' => rs = [DV.one (.bool true)] ∧ Ext none_ W.heap h') W.heap (by
  intro x hx
  simp only [List.mem_cons, List.not_mem_nil, or_false] at hx
  rcases hx with rfl | rfl | rfl | rfl
  ·exact ok_scn c a b c' lp ll lc
  ·exact ok_tok T.tl
  ·intro y hy
   simp only [List.mem_cons, List.not_mem_nil, or_false] at hy
   rcases hy with rfl | rfl | rfl | rfl | rfl <;> rfl
  ·intro y hy
   simp only [List.mem_cons, List.not_mem_nil, or_false] at hy
   rcases hy with rfl | rfl | rfl <;> rfl) (by
  show F_portcullislaw24_TokenNarrows c.cells c.slots c.fuses c.step c.keys c.erases c.area a.1 a.2.1 a.2.2 b.1 b.2.1 b.2.2 c'.1 c'.2.1 c'.2.2 lp ll lc key ip il ic cp cl cc tag cv.kind cv.slot cv.frm cv.to cv.set w.kind w.slot w.ver (fun b h' => [DV.one (.bool b)] = [DV.one (.bool true)] ∧ Ext none_ W.heap h') W.heap
  exact TokenNarrows_sp hg c cv w rd ty rl hll T.tl T.tb T.rb T.ii T.ri T.rc fun h' x => ⟨rfl, x.ex⟩)
 have e : [.agg [.c (.int .i64 c.cells), .c (.int .i64 c.slots), .c (.int .i64 c.fuses), .c (.int .i64 c.step), .c (.int .i64 c.keys), .c (.int .i64 c.erases), .c (.int .i64 c.area), .c a.v, .c b.v, .c c'.v, .c (.slice lp ll lc)], .agg [.c (.int .i64 key), .c (.slice ip il ic), .c (.slice cp cl cc), .row .u8 32 tag], .agg [.c (.int .i64 cv.kind), .c (.int .i64 cv.slot), .c (.int .i64 cv.frm), .c (.int .i64 cv.to), .c (.int .u64 cv.set)], wiD w].map DV.flat = [.agg (scnV c a b c' lp ll lc).toArray, .agg (tokL key ip il ic cp cl cc tag).toArray, .agg (cvV cv).toArray, .agg (wiV w).toArray] := by
  simp [DV.flat, flats, Ch.flat]
 rw [e] at this
 exact this
theorem TokenNarrows_lifted (os : Os) (started : os.Started) (D : Type) (enc : TypeId × Value → D) :
  ReturnsInHanded {} Tryz.checked os 3 .any (fun w args => (Rows.tokenNarrowsSpec.pre enc Tryz.prog Tryz.f3 [] false w args ∧ laidMetH Tryz.prog laidL w) ∧ sizedMet enc Tryz.prog Tryz.f3 (OpenSpec.ofChange Rows.tokenNarrowsSpec) false w args)
   (Rows.tokenNarrowsSpec.post enc Tryz.prog Tryz.f3 false true false false) := by
 refine returnsInHanded_of_change_and (C := Tryz.checked) (X := fun w _ => laidMetH Tryz.prog laidL w) (fun _ _ _ hh h => h.of_heap hh) Tryz.own started (by kernel_rfl) Tryz.func3
  (ChangeSpec.witness_at (enc := enc) (C := Tryz.checked) (os := os) (X := fun w _ => laidMetH Tryz.prog laidL w) false (laidWorld os) #[.agg #[.int .i64 0, .int .i64 0, .int .i64 0, .int .i64 0, .int .i64 0, .int .i64 0, .int .i64 0, .slice none 0 0, .slice none 0 0, .slice none 0 0, .slice none 0 0], .agg #[.int .i64 0, .slice none 0 0, .slice none 0 0, .int .u8 0, .int .u8 0, .int .u8 0, .int .u8 0, .int .u8 0, .int .u8 0, .int .u8 0, .int .u8 0, .int .u8 0, .int .u8 0, .int .u8 0, .int .u8 0, .int .u8 0, .int .u8 0, .int .u8 0, .int .u8 0, .int .u8 0, .int .u8 0, .int .u8 0, .int .u8 0, .int .u8 0, .int .u8 0, .int .u8 0, .int .u8 0, .int .u8 0, .int .u8 0, .int .u8 0, .int .u8 0, .int .u8 0, .int .u8 0, .int .u8 0, .int .u8 0], .agg #[.int .i64 0, .int .i64 0, .int .i64 0, .int .i64 0, .int .u64 0], .agg #[.int .i64 0, .int .i64 0, .int .i64 0]] 8 rfl (by kernel_rfl) (by kernel_rfl) (by kernel_rfl) (by kernel_rfl) (by kernel_rfl) (laidWorld_met os _)) ?_
 intro W base args ds gs before hval hW hcnd hsz hL _
 exact law_go (P := Tryz.prog) (fn := Tryz.f3) (s := Rows.tokenNarrowsSpec) [31, 37, 40, 42] (by kernel_rfl) Tryz.laidOut rfl (by kernel_rfl) (by kernel_rfl) Tryz.ubool
  (fun ds hl => match ds, hl with | [d1, d2, d3, d4], _ => rfl) hval hW hsz (TokenNarrows_calls (handle_of_laid hL))

theorem TokenNarrows_k1 : (Rows.tokenNarrowsRow.wf (OpenSpec.ofChange Rows.tokenNarrowsSpec) && laidOutB Tryz.prog && mapsRowed Tryz.prog && Tryz.f3.params.all (Tryz.prog.readableRec ·) && namedTie Tryz.prog Rows.tokenNarrowsRow.named Rows.tokenNarrowsSpec.vars && (Rows.tokenNarrowsRow.stops == []) && (Tryz.prog.stops == []) && (Rows.tokenNarrowsRow.knobs == []) && (Tryz.prog.stopKnobs == [])) = true := by kernel_rfl
theorem TokenNarrows_k2 : (Rows.tokenNarrowsRow.inPlace == Tryz.prog.inPlace 3) = true := by kernel_rfl
theorem TokenNarrows_k3 : (Rows.tokenNarrowsRow.unfollowed == Tryz.prog.unfollowed 3) = true := by kernel_rfl
theorem TokenNarrows_k4 : (Rows.tokenNarrowsRow.recurses == Tryz.prog.recurses 3) = true := by kernel_rfl
theorem TokenNarrows_k5 : (Rows.tokenNarrowsRow.named == Tryz.prog.varsNamed 3) = true := by kernel_rfl
theorem TokenNarrows_k6 : Tryz.prog.stopsHeard = true := by kernel_rfl
theorem TokenNarrows_k7 : Tryz.prog.mayEnter = true := by kernel_rfl
theorem TokenNarrows_k8 : (Rows.tokenNarrowsRow.lifted == Tryz.prog.liftsFinal) = true := by kernel_rfl
theorem TokenNarrows_k9 : (Tryz.prog.make == some Rows.tokenNarrowsRow.make) = true := by kernel_rfl
theorem TokenNarrows_facts : joinedFacts Tryz.pinned.checked.prog 3 Tryz.f3 Rows.tokenNarrowsSpec Rows.tokenNarrowsRow = true := by
 unfold joinedFacts
 exact bool_and (bool_and (bool_and (bool_and (bool_and (bool_and (bool_and (bool_and (bool_and (bool_and (bool_and (bool_and (bool_and (bool_and (bool_and (bool_and (bool_and (bool_and (bool_and (bool_and (bool_and (bool_and (bool_and (TokenNarrows_k1) TokenNarrows_k2) TokenNarrows_k3) TokenNarrows_k4) TokenNarrows_k5) (by kernel_rfl)) (by kernel_rfl)) (by kernel_rfl)) (by kernel_rfl)) (by kernel_rfl)) (by kernel_rfl)) (by kernel_rfl)) (by kernel_rfl)) (by kernel_rfl)) (by kernel_rfl)) (by kernel_rfl)) TokenNarrows_k6) TokenNarrows_k7) TokenNarrows_k8) TokenNarrows_k9) (by kernel_rfl)) (by kernel_rfl)) (by kernel_rfl)) (by kernel_rfl)
theorem TokenNarrows_said : Rows.TokenNarrowsSaid :=
 OpenClaim.holds_of_wide 3 Tryz.f3 rfl rfl rfl rfl rfl rfl rfl ⟨rfl, rfl, rfl, rfl, rfl⟩ rfl rfl rfl rfl rfl (by kernel_rfl) Tryz.func3 TokenNarrows_facts
  (of_decide_eq_true (by kernel_rfl)) (by unfold Func.isWrapper; first | (rw [if_pos (by decide +kernel)]; kernel_rfl) | (rw [if_neg (by decide +kernel)]; exact ⟨rfl, rfl⟩))
  (fun os started H enc _ => TokenNarrows_lifted os started H enc)

theorem TokenNarrows_plain (f : FuncId) (fn : Func) (hf : Tryz.pinned.checked.prog.funcNamed "portcullis/portcullislaw24.TokenNarrows" = some f) (hfn : Tryz.pinned.checked.prog.funcs[f]? = some fn) :
  true = Tryz.pinned.checked.prog.looks [] ∧ ∀ (j : Nat) t, fn.params[j]? = some t → Tryz.pinned.checked.prog.wantsStandIn t = false := by
 obtain rfl : f = 3 := Option.some.inj ((show Tryz.prog.funcNamed "portcullis/portcullislaw24.TokenNarrows" = some 3 by kernel_rfl).symm.trans hf) |>.symm
 obtain rfl : fn = Tryz.f3 := (Option.some.inj (Tryz.func3.symm.trans hfn)).symm
 refine ⟨by kernel_rfl, fun j t ht => ?_⟩
 have hm := Array.mem_of_getElem? ht
 have hm2 : t ∈ ([31, 37, 40, 42] : List Nat) := by
  have : Tryz.f3.params.toList = [31, 37, 40, 42] := by kernel_rfl
  rw [← this]; exact Array.mem_toList_iff.2 hm
 simp only [List.mem_cons, List.not_mem_nil, or_false] at hm2
 rcases hm2 with rfl | rfl | rfl | rfl <;> (first | kernel_rfl | rfl)

theorem TokenNarrows_holds : Rows.TokenNarrowsCardSaid :=
 Claim7.holds_tied_plain_at .later [] _ _ _ _ TokenNarrows_said (fun _ h => by cases h) (by kernel_rfl) (fun _ h => by cases h) tokenNarrows_row_tie rfl ⟨rfl, rfl⟩ (by kernel_rfl) rfl TokenNarrows_plain (by kernel_rfl)

end Go.Proofs.YtaglicdidpgkpaaGreatDoor
end
