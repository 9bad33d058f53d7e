/- StreamPieces: what is proved and its parts, laid together by a program of ours: Sp2 SpW Sp3 Sp4 Sp5 Sp6 RwStreamPieces -/
import Derived.JoinedCond
import Derived.Test.YteedolonhdbieaaGreatDoorK12
set_option autoImplicit false
set_option linter.all false
/- A gate for pieces: Sum, Digest, New; what law 26 begins with; cut. Own work. -/
section
set_option maxRecDepth 100000
set_option linter.unusedVariables false
namespace Go.Proofs.YteedolonhdbieaaGreatDoor
open Go Go.Vc
attribute [local irreducible] macM gateM

theorem t_err {G : Int} {bs : List Int} (h : G ≠ 0) : tSlot G bs = 0 ∧ tKey G bs = 0 ∧ tVer G bs = 0 ∧ tPay G bs = [] := by
 unfold tSlot tKey tVer tPay
 rw [if_neg h, if_neg h, if_neg h, if_neg h]
 exact ⟨rfl, rfl, rfl, rfl⟩
section
variable {h0 h : H} {A : List Ent} {i j p r b s m : Nat} {C : Cm}
theorem gateQ_sp {K : Int → H → Prop} {mm rr jm jr nb : Nat} {bs : List Int} {q : Option Addr} {l c : Nat} {R : List SR} {L : List Sec} (hg : hc h0 ⟨0, 0, none⟩ = some errTypeV) (hs : Sat h0 (blk nb (imgL 0 0 0 (none, 0, 0) (zeros 32)) :: A) h) (ci : At A i (chipE p C)) (cl' : At A j (logE r p)) (st : At A m (storeE s p r))
  (cr : At A jr (blk rr [.map (some mm)])) (cm : At A jm (mapE mm (R.map SR.ent))) (eR : R.map SR.kv = L) (gd : SR.good R) (rR : ∀ x, x ∈ R → ∃ y, At A y x.sl)
  (rd : ∀ B h', Sat h0 (B ++ A) h' → hsv h' q 1 l (ints .u8 bs)) (hb : bytesOk bs) (hlc : l ≤ c) (hl : l < 2 ^ 50)
  (k : ∀ (x : Sl) h', (tTag (gateM C L bs) bs).length = 32 → (tPay (gateM C L bs) bs).length < 2 ^ 40 → x.2.1 = (tPay (gateM C L bs) bs).length → Sat h0 (blk nb (imgL (tSlot (gateM C L bs) bs) (tKey (gateM C L bs) bs) (tVer (gateM C L bs) bs) x (tTag (gateM C L bs) bs)) :: A) h' → K (gateM C L bs) h') :
  F_gate_Check ⟨s, 0, none⟩ ⟨rr, 0, none⟩ q l c (fun i1 i2 i3 o n m l e h => hcan h ⟨nb, 0, none⟩ 36 ∧ ∀ h'', h'' = hwr h ⟨nb, 0, none⟩ (.int .i64 i1 :: .int .i64 i2 :: .int .i64 i3 :: .slice o n m :: ints .u8 l) → K e h'') h := by
 refine gate_sp (bs := bs) hg hs ci.s cl'.s st.s cr.s cm.s gd (fun x hx h' hs' => hs'.sv (rR x hx).choose_spec.s) (fun h' hs' => rd [_] h' hs') hb hlc hl ?_ ?_
 ·intro e he hne h5 hs
  rw [eR] at he
  subst he
  refine ⟨Sat.can hs (i := 0) .z (by simp [zeros]), ?_⟩
  intro h6 e6
  replace hs := Sat.wra (xs := imgL 0 0 0 (none, 0, 0) (zeros 32)) hs (i := 0) .z e6 rfl
  clear e6
  simp only [put_zero] at hs
  have e1 : tSlot (gateM C L bs) bs = 0 := if_neg hne
  have e2 : tKey (gateM C L bs) bs = 0 := if_neg hne
  have e3 : tVer (gateM C L bs) bs = 0 := if_neg hne
  have e4 : tPay (gateM C L bs) bs = [] := if_neg hne
  have e5 : tTag (gateM C L bs) bs = zeros 32 := if_neg hne
  have := k (none, 0, 0) h6
  rw [e1, e2, e3, e4, e5] at this
  exact this (zeros_len 32) (by decide) rfl hs
 ·intro own n hz hp hnn hln h5 hs
  rw [eR] at hz
  have tl32 : ((bs.drop (16 + n)).take 32).length = 32 := by rw [List.length_take, List.length_drop]; omega
  have pl : ((bs.drop 16).take n).length = n := by rw [List.length_take, List.length_drop]; omega
  replace hs := hs.perm (List.Perm.swap _ _ _)
  refine ⟨Sat.can hs (i := 0) .z (by simp [zeros]), ?_⟩
  intro h6 e6
  replace hs := Sat.wra (xs := imgL (bs.getD 5 0) (bs.getD 6 0) (num4 bs 8) (subAddr own.1 16 (16 + n) 1, n, n) ((bs.drop (16 + n)).take 32)) hs (i := 0) .z e6 (by rw [img_len tl32]; rfl)
  clear e6
  simp only [put_zero] at hs
  have en : (num4 bs 12).toNat = n := by omega
  have e1 : tSlot (gateM C L bs) bs = bs.getD 5 0 := if_pos hz
  have e2 : tKey (gateM C L bs) bs = bs.getD 6 0 := if_pos hz
  have e3 : tVer (gateM C L bs) bs = num4 bs 8 := if_pos hz
  have e4 : tPay (gateM C L bs) bs = (bs.drop 16).take n := by rw [← en]; exact if_pos hz
  have e5 : tTag (gateM C L bs) bs = (bs.drop (16 + n)).take 32 := by rw [← en]; exact if_pos hz
  have := k (subAddr own.1 16 (16 + n) 1, n, n) h6
  rw [e1, e2, e3, e4, e5, hz, pl] at this
  exact this tl32 (by have := (parse_ok hb hp hnn).2.2.2; omega) rfl (hs.sub (List.Sublist.cons_cons _ (List.sublist_cons_self _ _)))
attribute [local irreducible] tSlot tKey tVer tPay tTag in
theorem gsum_sp {Q : Int → Int → Int → Int → Int → H → Prop} {g rp c d : Nat} {o : Option Addr} {mm jr jm x : Nat} {s1 sm : List Int} {n : Int} {R : List SR} {L : List Sec} {B : List Int} (hg : hc h0 ⟨0, 0, none⟩ = some errTypeV) (hs : Sat h0 (gtA g s rp o c d s1 sm n B ++ A) h)
  (ci : At A j (chipE p C)) (cl : At A m (logE r p)) (st : At A x (storeE s p r))
  (cr : At A jr (blk rp [.map (some mm)])) (cm : At A jm (mapE mm (R.map SR.ent))) (eR : R.map SR.kv = L) (gd : SR.good R) (rR : ∀ x, x ∈ R → ∃ y, At A y x.sl) (hb : bytesOk B) (hl : B.length < 2 ^ 45)
  (k : ∀ h', Sat h0 (gtA g s rp o c d s1 sm n B ++ A) h' → Q (tSlot (gateM C L B) B) (tKey (gateM C L B) B) (tVer (gateM C L B) B) ((tPay (gateM C L B) B).length : Int) (gateM C L B) h') : F_stream_Gate_Sum ⟨g, 0, none⟩ Q h := by
 unfold F_stream_Gate_Sum G_stream_Gate_Sum
 try simp only [add_mk, Nat.zero_add, List.append_nil]
 have hcap := capS hs (i := 1) (.s .z)
 have fin : ∀ {Z : Prop} {h'}, Sat h0 (gtA g s rp o c d s1 sm n B ++ A) h' → (gateM C L B = 0 → Q (tSlot (gateM C L B) B) (tKey (gateM C L B) B) (tVer (gateM C L B) B) ((tPay (gateM C L B) B).length : Int) 0 h' → Z) → (gateM C L B ≠ 0 → Q 0 0 0 0 (gateM C L B) h' → Z) → Z := by
  intro Z h' hs' f1 f2
  have kk := k h' hs'
  by_cases e : gateM C L B = 0
  ·refine f1 e ?_
   rw [e] at kk ⊢
   exact kk
  ·refine f2 e ?_
   obtain ⟨e1, e2, e3, e4⟩ := t_err (bs := B) e
   rw [e1, e2, e3, e4] at kk
   exact kk
 refine ⟨_, hs.ld (i := 0) .z rfl, _, hs.ld (i := 0) .z rfl, _, _, _, hs.ld (i := 0) .z rfl, ⟨_, rfl, _, rfl, ?_⟩, ?_⟩
 ·refine gateP_sp (L := L) (bs := B) hg hs ci.s.s.s cl.s.s.s st.s.s.s cr.s.s.s cm.s.s.s eR gd (fun x hx => ⟨_, (rR x hx).choose_spec.s.s.s⟩) (fun h' hs' => hs'.sv (i := 1) (.s .z)) hb hcap (by omega) ?_
  intro nb P h1 _ _ hs
  refine fin hs.drop.drop ?_ ?_
  ·intro e q
   rw [if_neg (by simpa using e)]
   exact ⟨_, hs.ld (i := 0) .z rfl, _, hs.ld (i := 0) .z rfl, _, hs.ld (i := 0) .z rfl, _, _, _, hs.ld (i := 0) .z rfl, q⟩
  ·intro e q
   rw [if_pos (by simpa using e)]
   exact q
 ·intro nb _ hn; replace hs := Sat.new hs hn; clear hn
  replace hs : Sat h0 (blk nb (imgL 0 0 0 (none, 0, 0) (zeros 32)) :: (gtA g s rp o c d s1 sm n B ++ A)) _ := hs
  refine ⟨Sat.cs hs (i := 1) (.s .z) rfl, Sat.cs hs (i := 1) (.s .z) rfl, Sat.cs hs (i := 1) (.s .z) rfl, _, rfl, _, rfl, ?_⟩
  refine gateQ_sp (L := L) (bs := B) hg hs ci.s.s.s cl.s.s.s st.s.s.s cr.s.s.s cm.s.s.s eR gd (fun x hx => ⟨_, (rR x hx).choose_spec.s.s.s⟩) (fun D h' hs' => ?_) hb hcap (by omega) ?_
  ·obtain ⟨z, az⟩ : ∃ z, At (D ++ (gtA g s rp o c d s1 sm n B ++ A)) z (slE o B.length c 1 (ints .u8 B)) := At.mem (by simp)
   exact hs'.sv az
  intro x h1 _ _ hx hs
  refine fin hs.drop ?_ ?_
  ·intro e q
   rw [if_neg (by simpa using e)]
   refine ⟨_, hs.ld (i := 0) .z rfl, _, hs.ld (i := 0) .z rfl, _, hs.ld (i := 0) .z rfl, _, _, _, hs.ld (i := 0) .z rfl, ?_⟩
   rw [hx]
   exact q
  ·intro e q
   rw [if_pos (by simpa using e)]
   exact q
theorem gdigest_sp {Q : List Int → H → Prop} {g rp c d : Nat} {o : Option Addr} {s1 sm : List Int} {n : Int} {B T : List Int} (hs : Sat h0 (gtA g s rp o c d s1 sm n B ++ A) h) (D : DgOk T s1 sm n) (hT : T.length < 2 ^ 60)
  (k : ∀ h', Sat h0 (gtA g s rp o c d s1 sm n B ++ A) h' → Q (shaM T) h') : F_stream_Gate_Digest ⟨g, 0, none⟩ Q h := by
 unfold F_stream_Gate_Digest G_stream_Gate_Digest
 try simp only [add_mk, Nat.zero_add, List.append_nil]
 intro nb _ hn; replace hs := Sat.new hs hn; clear hn
 refine ⟨_, hs.ld (i := 1) (.s .z) rfl, _, rfl, ?_⟩
 refine Sum_sp hs (i := 3) (.s (.s (.s .z))) D hT ?_
 intro h1 hs
 refine ⟨Sat.can hs (i := 0) .z (by simp [zeros]), ?_⟩
 intro h2 e2
 replace hs := Sat.wra (xs := ints .u8 (shaM T)) hs (i := 0) .z e2 (by simp [zeros, shaM_len])
 clear e2
 simp only [put_zero] at hs
 exact ⟨_, shaM_len _, hs.row0 (i := 0) .z, k _ hs.drop⟩
theorem gnew_sp {Q : Option Addr → H → Prop} {rp : Nat} (hs : Sat h0 A h) (k : ∀ g d h', Sat h0 (gtA g s rp none 0 d sM (zeros 64) 0 [] ++ A) h' → Q (some ⟨g, 0, none⟩) h') : F_stream_New ⟨s, 0, none⟩ ⟨rp, 0, none⟩ Q h := by
 unfold F_stream_New G_stream_New
 refine NewD_sp hs ?_
 intro d h1 hs
 replace hs := hs.sl_nil 1 none
 intro g _ hn; replace hs := Sat.new hs hn; clear hn
 exact k g d _ hs
abbrev Pc := Sl × List Int
theorem cut_sp {Q : Option Addr → Nat → Nat → H → Prop} {q cp : Option Addr} {l lc cl cc : Nat} {bs cuts : List Int} (hs : Sat h0 A h) (rb : hsv h0 q 1 l (ints .u8 bs)) (hlc : l ≤ lc) (hl : l < 2 ^ 47) (rc : hsv h0 cp 1 cl (ints .i64 cuts)) (hcl : cl < 2 ^ 40)
  (k : ∀ (Ps : List Pc) o c h', (Ps.map Prod.snd).flatten = bs → 0 < Ps.length → Ps.length < 2 ^ 41 → (∀ x, x ∈ Ps → hsv h0 x.1.1 1 x.1.2.1 (ints .u8 x.2) ∧ x.1.2.1 ≤ x.1.2.2) → Sat h0 (slE o Ps.length c 1 (Ps.map fun x => x.1.v) :: A) h' → Q o Ps.length c h') :
  F_portcullislaw26_cut q l lc cp cl cc Q h := by
 unfold F_portcullislaw26_cut G_portcullislaw26_cut
 try simp only [add_mk, Nat.zero_add, List.append_nil, Nat.sub_zero]
 have hbl : bs.length = l := by have := rb.1; simpa using this
 intro n8 _ hn; replace hs := Sat.new hs hn; clear hn
 replace hs := as_sl0 hs (i := 0) (c := 0) (sz := 1) .z rfl
 simp only [put_zero] at hs
 intro J11 hJ11
 have fin : ∀ (Ps : List Pc) (o : Option Addr) (c : Nat) (rest : List Int) (p1 : Option Addr) (n1 c1 : Nat) h', (Ps.map Prod.snd).flatten ++ rest = bs → Ps.length < 2 ^ 40 + 1 → (∀ x, x ∈ Ps → hsv h0 x.1.1 1 x.1.2.1 (ints .u8 x.2) ∧ x.1.2.1 ≤ x.1.2.2) → hsv h0 p1 1 n1 (ints .u8 rest) → n1 ≤ c1 → Sat h0 (slE o Ps.length c 1 (Ps.map fun x => x.1.v) :: A) h' →
   ∀ nb h'', hnew h' nb [Value.slice p1 n1 c1] h'' → ∃ (l25 : List Value), hsv h'' (some ⟨nb, 0, none⟩) 1 1 l25 ∧ pApp h'' 1 [.slice none 0 0] 24 o Ps.length c 1 l25 fun o26 n27 n28 h29 => Q o26 n27 n28 h29 := by
  intro Ps o c rest p1 n1 c1 h' e1 e2 e3 e4 e5 hs nb h'' hn
  replace hs := Sat.new hs hn; clear hn
  refine ⟨_, hs.bv (i := 0) (l := 1) .z rfl (by simp), ?_⟩
  refine Sat.app hs (i := 1) (vs := [.slice p1 n1 c1]) (.s .z) rfl rfl (by simp) (by omega) ?_
  intro o2 c2 h3 hs
  simp only [put_succ, put_zero] at hs
  have := k (Ps ++ [((p1, n1, c1), rest)]) o2 c2 h3 (by rw [List.map_append, List.flatten_append]; simpa using e1) (by simp) (by rw [List.length_append]; simp; omega) (by
   intro x hx
   rcases List.mem_append.1 hx with hx | hx
   ·exact e3 x hx
   ·simp only [List.mem_cons, List.not_mem_nil, or_false] at hx
    rw [hx]; exact ⟨e4, e5⟩)
  rw [List.map_append, List.length_append] at this
  exact this hs.drop
 refine loopS cl (fun t (s : (List Pc × Option Addr × Nat) × (Sl × List Int)) => [.dv (.one s.2.1.v), .dv (.one (.slice s.1.2.1 s.1.1.length s.1.2.2)), si t])
  (fun t s h => s.1.1.length = t ∧ (s.1.1.map Prod.snd).flatten ++ s.2.2 = bs ∧ (∀ x, x ∈ s.1.1 → hsv h0 x.1.1 1 x.1.2.1 (ints .u8 x.2) ∧ x.1.2.1 ≤ x.1.2.2) ∧ hsv h0 s.2.1.1 1 s.2.1.2.1 (ints .u8 s.2.2) ∧ s.2.1.2.1 ≤ s.2.1.2.2 ∧ Sat h0 (slE s.1.2.1 s.1.1.length s.1.2.2 1 (s.1.1.map fun x => x.1.v) :: A) h) ?_ ?_ 0 (([], some ⟨n8, 0, none⟩, 0), ((q, l, lc), bs)) _ (by omega) ⟨rfl, rfl, (fun x hx => by cases hx), rb, hlc, hs⟩
 ·clear hs
  rintro t ⟨⟨Ps, o, c⟩, ⟨⟨p1, n1, c1⟩, rest⟩⟩ h1 ht ⟨e0, e1, e2, e3, e4, hs⟩ hk
  dsimp only at e0 e1 e2 e3 e4 hs hk ⊢
  have hrl : rest.length = n1 := by have := e3.1; simpa using this
  have hrb : n1 ≤ l := by
   have := congrArg List.length e1
   rw [List.length_append] at this
   omega
  apply hJ11
  rw [ltI_eq, if_pos (by rw [decide_eq_true_iff]; omega), ltI_eq]
  by_cases g : (0 : Int) < (n1 : Int)
  case neg =>
   rw [if_neg (by simpa using g)]
   intro nb h2 hn
   exact fin Ps o c rest p1 n1 c1 h1 e1 (by omega) e2 e3 e4 hs nb h2 hn
  rw [if_pos (by simpa using g)]
  obtain ⟨q1, hq1, g1⟩ := hsv_int (hs.base rc) (x := t) ht
  refine ⟨q1, hq1, by omega, by omega, ?_⟩
  simp only [Int.toNat_natCast, Nat.mul_one]
  refine ⟨_, g1, ?_⟩
  obtain ⟨a, ha⟩ : ∃ a : Nat, (if (n1 : Int) < if cuts.getD t 0 > 0 then cuts.getD t 0 else 0 then (n1 : Int) else if cuts.getD t 0 > 0 then cuts.getD t 0 else 0) = (a : Int) ∧ a ≤ n1 := by
   by_cases z1 : cuts.getD t 0 > 0
   ·rw [if_pos z1]
    by_cases z2 : (n1 : Int) < cuts.getD t 0
    ·rw [if_pos z2]; exact ⟨n1, rfl, Nat.le_refl _⟩
    ·rw [if_neg z2]; exact ⟨(cuts.getD t 0).toNat, by omega, by omega⟩
   ·rw [if_neg z1, if_neg (by omega)]; exact ⟨0, rfl, Nat.zero_le _⟩
  rw [ha.1]
  simp only [Int.toNat_natCast]
  have hal := ha.2
  clear ha
  refine ⟨by omega, by omega, by omega, ?_⟩
  intro nb _ hn; replace hs := Sat.new hs hn; clear hn
  refine ⟨_, hs.bv (i := 0) (l := 1) .z rfl (by simp), ?_⟩
  refine Sat.app hs (i := 1) (vs := [.slice (subAddr p1 0 a 1) a a]) (.s .z) rfl rfl (by simp) (by omega) ?_
  intro o2 c2 h3 hs
  simp only [put_succ, put_zero] at hs
  refine ⟨by omega, by omega, ?_⟩
  rw [wrap_succ (by omega)]
  have R1 := subRd (o := 0) (n := a) (m := a) e3 (by omega) (by omega)
  rw [List.drop_zero] at R1
  have R2 := subRd (o := a) (n := n1 - a) (m := c1) e3 (by omega) (by omega)
  rw [List.take_of_length_le (by rw [List.length_drop]; omega)] at R2
  have f := hk ((Ps ++ [((subAddr p1 0 a 1, a, a), rest.take a)], o2, c2), ((subAddr p1 a c1 1, n1 - a, c1 - a), rest.drop a)) h3
  have := f ⟨by rw [List.length_append, e0]; rfl, ?_, ?_, R2, Nat.sub_le_sub_right e4 a, ?_⟩
  ·dsimp only at this ⊢
   rw [List.length_append] at this
   exact this
  ·dsimp only
   rw [List.map_append, List.flatten_append, List.append_assoc]
   show _ ++ ([rest.take a].flatten ++ rest.drop a) = bs
   simp only [List.flatten_cons, List.flatten_nil, List.append_nil, List.take_append_drop]
   exact e1
  ·intro x hx
   rcases List.mem_append.1 hx with hx | hx
   ·exact e2 x hx
   ·simp only [List.mem_cons, List.not_mem_nil, or_false] at hx
    rw [hx]; exact ⟨R1, Nat.le_refl _⟩
  ·dsimp only
   rw [List.map_append, List.length_append]
   exact hs.drop
 ·clear hs
  rintro ⟨⟨Ps, o, c⟩, ⟨⟨p1, n1, c1⟩, rest⟩⟩ h1 ⟨e0, e1, e2, e3, e4, hs⟩
  dsimp only at e0 e1 e2 e3 e4 hs ⊢
  apply hJ11
  rw [ltI_eq, if_neg (by rw [decide_eq_true_iff]; omega)]
  intro nb h2 hn
  exact fin Ps o c rest p1 n1 c1 h1 e1 (by omega) e2 e3 e4 hs nb h2 hn
end
end Go.Proofs.YteedolonhdbieaaGreatDoor
end

/- A gate for pieces: answers that the document fixes (reckoned). Own work. -/
section
set_option maxRecDepth 1000000
namespace Go.Proofs.YteedolonhdbieaaGreatDoor
open Go Go.Vc
def cfg26 : Cfg := ⟨8, 1, 2, 3, 1, 0, 0⟩
theorem cfg26_may : cfg26.may := by decide
def b26 : List Int := coverM 0 0 5 [1, 2, 3] ++ macM [7] (coverM 0 0 5 [1, 2, 3])
theorem g26 : (tellsM (freshC cfg26) [(0, [7])] (b26.take 10) == 0 && gateM (freshC cfg26) [(0, [7])] (b26.take 10) == 6 && tellsM (freshC cfg26) [(0, [7])] b26 == 0 && gateM (freshC cfg26) [(0, [7])] b26 == 0 && tSlot 0 b26 == 0 && tKey 0 b26 == 0 && tVer 0 b26 == 5 && (tPay 0 b26).length == 3 && tellsM (freshC cfg26) [(0, [7])] (b26 ++ [1]) == 7) = true := by decide +kernel
theorem g26s : tellsM (freshC cfg26) [(0, [7])] (b26.take 10) = 0 ∧ gateM (freshC cfg26) [(0, [7])] (b26.take 10) = 6 ∧ tellsM (freshC cfg26) [(0, [7])] b26 = 0 ∧ gateM (freshC cfg26) [(0, [7])] b26 = 0 ∧ tSlot 0 b26 = 0 ∧ tKey 0 b26 = 0 ∧ tVer 0 b26 = 5 ∧ (tPay 0 b26).length = 3 ∧ tellsM (freshC cfg26) [(0, [7])] (b26 ++ [1]) = 7 := by
 have := g26
 simp only [Bool.and_eq_true, beq_iff_eq] at this
 exact ⟨this.1.1.1.1.1.1.1.1, this.1.1.1.1.1.1.1.2, this.1.1.1.1.1.1.2, this.1.1.1.1.1.2, this.1.1.1.1.2, this.1.1.1.2, this.1.1.2, this.1.2, this.2⟩
theorem n26 : newM [(0, [7])] = none := by decide
theorem b26_len : b26.length = 51 := by unfold b26; rw [List.length_append, coverM_len, macM_len]; rfl
theorem b26_ok : bytesOk b26 := by
 intro v hv
 unfold b26 at hv
 rcases List.mem_append.1 hv with hv | hv
 ·exact (by unfold bytesOk isByte; decide : bytesOk (coverM 0 0 5 [1, 2, 3])) v hv
 ·exact isBy_mac _ _ v hv
end Go.Proofs.YteedolonhdbieaaGreatDoor
end

/- A gate for pieces: what law 26 begins with. Own work. -/
section
set_option maxRecDepth 100000
set_option linter.unusedVariables false
namespace Go.Proofs.YteedolonhdbieaaGreatDoor
open Go Go.Vc
attribute [local irreducible] macM gateM tSlot tKey tVer tPay tTag tellsM

abbrev wldL (pc st rp pr rr g1 r1 g2 r2 : Nat) : List Value := [.pointer (some ⟨pc, 0, none⟩), .pointer (some ⟨st, 0, none⟩), .pointer (some ⟨rp, 0, none⟩), .pointer (some ⟨pr, 0, none⟩), .pointer (some ⟨rr, 0, none⟩), .pointer (some ⟨g1, 0, none⟩), .pointer (some ⟨r1, 0, none⟩), .pointer (some ⟨g2, 0, none⟩), .pointer (some ⟨r2, 0, none⟩)]
abbrev cfgP (n : Nat) (c : Cfg) : Ent := blk n [.int .i64 c.cells, .int .i64 c.slots, .int .i64 c.fuses, .int .i64 c.step, .int .i64 c.keys, .int .i64 c.erases, .int .i64 c.area]
abbrev gt0 (g st rp d : Nat) : List Ent := gtA g st rp none 0 d sM (zeros 64) 0 []
theorem wperm (n73 n64 w : Ent) (G1 G2 X : List Ent) : ∀ {h0 h : H}, Sat h0 (n73 :: (G2 ++ (n64 :: (G1 ++ (w :: X))))) h → Sat h0 (w :: (G1 ++ (G2 ++ X))) h := by
 intro h0 h hs
 have s1 : Sat h0 (G2 ++ (G1 ++ (w :: X))) h := hs.drop.sub ((List.Sublist.refl G2).append (List.sublist_cons_self _ _))
 refine s1.perm ?_
 have p1 : (G1 ++ (w :: X)).Perm (w :: (G1 ++ X)) := List.perm_middle
 have p2 : (G2 ++ (w :: (G1 ++ X))).Perm (w :: (G2 ++ (G1 ++ X))) := List.perm_middle
 refine (p1.append_left G2).trans (p2.trans (List.Perm.cons _ ?_))
 rw [← List.append_assoc, ← List.append_assoc]
 exact List.perm_append_comm.append_right X
section
variable {h0 h : H} {A : List Ent} {i j p r b s m : Nat} {C : Cm}
theorem begun_sp {Q : Option Addr → Bool → H → Prop} {X : List SR} {lp : Option Addr} {ll lc : Nat} (c : Cfg) (hs : Sat h0 A h) (rl : ∀ h', Sat h0 A h' → SecsAt h' lp ll X) (hll : ll < 2 ^ 47)
  (k0 : ¬ (c.may ∧ newM (X.map SR.kv) = none) → ∀ h', Sat h0 A h' → Q none true h')
  (k1 : c.may → newM (X.map SR.kv) = none → ∀ w pc st lg rp mp R pr rr g1 r1 d1 g2 r2 d2 h', R.map SR.kv = X.map SR.kv → SR.good R → Sat h0 (blk w (wldL pc st rp pr rr g1 r1 g2 r2) :: (gt0 g1 st rp d1 ++ (gt0 g2 st rp d2 ++ (chipE pc (freshC c) :: storeE st pc lg :: logE lg pc :: (ringP rp mp R ++ A))))) h' → Q (some ⟨w, 0, none⟩) true h') :
  F_portcullislaw26_begun c.cells c.slots c.fuses c.step c.keys c.erases c.area lp ll lc Q h := by
 unfold F_portcullislaw26_begun G_portcullislaw26_begun
 try simp only [add_mk, Nat.zero_add, List.append_nil]
 obtain ⟨L, hL⟩ : ∃ L, X.map SR.kv = L := ⟨_, rfl⟩
 rw [hL] at k0 k1
 intro n18 _ hn; replace hs := Sat.new hs hn; clear hn
 replace hs : Sat h0 (cfgP n18 c :: A) _ := hs
 refine ringsU_sp hs hL (fun h' hs' => rl h' hs'.drop) hll ?_
 intro o1 e1 i1 h1 B1 hs hB1
 refine keysU_sp hs hL (fun h' hs' => rl h' (hs'.sub ((List.sublist_cons_self _ _).trans (List.sublist_append_right _ _)))) hll ?_
 intro o2 e2 i2 h2 B2 hs hB2
 have ee : e2 = e1 := by
  rcases hB1 with ⟨a, _⟩ | ⟨a, a2, _⟩
  ·rcases hB2 with ⟨b, _⟩ | ⟨b, _⟩
   ·rw [a] at b; cases b; rfl
   ·rw [a] at b; cases b
  ·rcases hB2 with ⟨b, _⟩ | ⟨b, b2, _⟩
   ·rw [a] at b; cases b
   ·rw [a2, b2]
 subst ee
 rw [if_neg (by simp)]
 obtain ⟨y5, b5⟩ : ∃ x, At (B2 ++ (B1 ++ (cfgP n18 c :: A))) x (cfgP n18 c) := At.mem (by simp)
 refine ⟨_, hs.ld b5 rfl, _, hs.ld b5 rfl, _, hs.ld b5 rfl, _, hs.ld b5 rfl, _, hs.ld b5 rfl, _, hs.ld b5 rfl, _, hs.ld b5 rfl, ?_⟩
 have drop : ∀ {D : List Ent} {h' : H}, Sat h0 (D ++ (B2 ++ (B1 ++ (cfgP n18 c :: A)))) h' → Sat h0 A h' := fun {D h'} hs' => hs'.sub ((((List.sublist_cons_self _ _).trans (List.sublist_append_right _ _)).trans (List.sublist_append_right _ _)).trans (List.sublist_append_right _ _))
 refine rNew_sp c hs ?_ ?_
 ·intro nm h3 hs
  refine ⟨_, hs.ld b5 rfl, _, hs.ld b5 rfl, _, hs.ld b5 rfl, _, hs.ld b5 rfl, _, hs.ld b5 rfl, _, hs.ld b5 rfl, _, hs.ld b5 rfl, ?_⟩
  refine New_sp c hs ?_ (fun y => absurd y nm)
  intro _ h4 hs
  rw [if_neg (by decide)]
  intro J49 hJ49
  have := k0 (fun y => nm y.1) _ (drop (D := []) hs)
  split
  ·exact this
  ·exact this
 intro cm pr h3 hs
 refine ⟨_, hs.ld b5.s rfl, _, hs.ld b5.s rfl, _, hs.ld b5.s rfl, _, hs.ld b5.s rfl, _, hs.ld b5.s rfl, _, hs.ld b5.s rfl, _, hs.ld b5.s rfl, ?_⟩
 refine New_sp c hs (fun y => absurd cm y) ?_
 intro _ pc h4 hs
 rw [if_neg (by decide)]
 intro J49 hJ49
 rcases hB1 with ⟨a, _⟩ | ⟨a, a2, rr, lp', lc', R2, ho1, eR2, gR2, bb1⟩
 ·rw [if_pos (by simpa using newM_ne a)]
  exact k0 (fun y => by rw [a] at y; exact absurd y.2 (by simp)) _ (drop (D := [_, _]) hs)
 rcases hB2 with ⟨b, _⟩ | ⟨b, b2, rp, mp, R, ho2, eR, gR, bb2⟩
 ·rw [a] at b; cases b
 subst a2
 rw [if_neg (by decide), if_neg (by decide)]
 apply hJ49
 clear hJ49
 refine ⟨_, rfl, ?_⟩
 refine sMount_sp hs (i := 0) .z (fun y => by cases y) ?_
 intro _ st lg h5 hs
 intro J55 hJ55
 subst ho1 ho2
 rw [if_neg (by simp), if_neg (by simp), if_neg (by simp), if_neg (by decide)]
 apply hJ55
 clear hJ55
 intro w _ hn; replace hs := Sat.new hs hn; clear hn
 refine ⟨_, rfl, _, rfl, ?_⟩
 refine gnew_sp hs ?_
 intro g1 d1 h6 hs
 intro r1 _ hn; replace hs := Sat.new hs hn; clear hn
 refine ⟨Sat.can hs (i := 4) (.s (.s (.s (.s .z)))) (show 5 + 2 ≤ 9 by decide), ?_⟩
 intro h7 e7
 replace hs := Sat.wr hs (i := 4) (.s (.s (.s (.s .z)))) e7
 clear e7
 simp only [List.cons_append, List.nil_append, put_succ, put_zero] at hs
 refine ⟨_, rfl, _, rfl, ?_⟩
 refine gnew_sp hs ?_
 intro g2 d2 h8 hs
 intro r2 _ hn; replace hs := Sat.new hs hn; clear hn
 refine ⟨Sat.can hs (i := 8) (.s (.s (.s (.s (.s (.s (.s (.s .z)))))))) (show 7 + 2 ≤ 9 by decide), ?_⟩
 intro h9 e9
 replace hs := Sat.wr hs (i := 8) (.s (.s (.s (.s (.s (.s (.s (.s .z)))))))) e9
 clear e9
 simp only [List.cons_append, List.nil_append, put_succ, put_zero] at hs
 subst bb1 bb2
 obtain ⟨XX, hXX⟩ : ∃ XX : List Ent, XX = storeE st pc lg :: logE lg pc :: chipE pc (freshC c) :: (chipE pr (freshC c) :: (ringP rp mp R ++ (ringD rr lp' lc' R2 ++ (cfgP n18 c :: A)))) := ⟨_, rfl⟩
 have hs' : Sat h0 (blk w (wldL pc st rp pr rr g1 r1 g2 r2) :: (gt0 g1 st rp d1 ++ (gt0 g2 st rp d2 ++ XX))) h9 := by
  rw [hXX]
  exact wperm _ _ _ (gt0 g1 st rp d1) (gt0 g2 st rp d2) _ hs
 clear hs
 refine ⟨_, hs'.ld (i := 0) .z rfl, ?_⟩
 rw [if_pos (by simp)]
 refine ⟨_, hs'.ld (i := 0) .z rfl, ?_⟩
 have K := k1 cm a w pc st lg rp mp R pr rr g1 r1 d1 g2 r2 d2 h9 eR gR
 refine (show (!(some (⟨g2, 0, none⟩ : Addr)).isNone) = true by simp) ▸ K ?_
 have s2 : Sat h0 (blk w (wldL pc st rp pr rr g1 r1 g2 r2) :: (gt0 g1 st rp d1 ++ (gt0 g2 st rp d2 ++ (chipE pc (freshC c) :: storeE st pc lg :: logE lg pc :: (chipE pr (freshC c) :: (ringP rp mp R ++ (ringD rr lp' lc' R2 ++ (cfgP n18 c :: A)))))))) h9 := by
  refine hs'.perm (List.Perm.cons _ (List.Perm.append_left _ (List.Perm.append_left _ ?_)))
  rw [hXX]
  exact ((List.Perm.swap _ _ _).cons _).trans (List.Perm.swap _ _ _)
 refine s2.sub (List.Sublist.cons_cons _ ((List.Sublist.refl _).append ((List.Sublist.refl _).append (List.Sublist.cons_cons _ (List.Sublist.cons_cons _ (List.Sublist.cons_cons _ ?_))))))
 exact ((List.Sublist.refl _).append ((List.sublist_cons_self _ _).trans (List.sublist_append_right _ _))).trans (List.sublist_cons_self _ _)
theorem fixed26_sp {Q : Bool → H → Prop} (hg : hc h0 ⟨0, 0, none⟩ = some errTypeV) (hs : Sat h0 A h) (k : ∀ h', Sat h0 A h' → Q true h') : F_portcullislaw26_fixed Q h := by
 unfold F_portcullislaw26_fixed G_portcullislaw26_fixed
 try simp only [add_mk, Nat.zero_add, List.append_nil, Nat.sub_zero]
 unfold F_portcullislaw26_small G_portcullislaw26_small
 try simp only [add_mk, Nat.zero_add]
 intro n2 _ hn; replace hs := Sat.new hs hn; clear hn
 refine ⟨Sat.can hs (i := 0) .z (by decide), ?_⟩
 intro h1 e1
 replace hs := Sat.wra hs (i := 0) .z e1 rfl
 clear e1
 simp only [put_zero] at hs
 refine ⟨_, hs.ld (i := 0) .z rfl, _, hs.ld (i := 0) .z rfl, _, hs.ld (i := 0) .z rfl, _, hs.ld (i := 0) .z rfl, _, hs.ld (i := 0) .z rfl, _, hs.ld (i := 0) .z rfl, _, hs.ld (i := 0) .z rfl, ?_⟩
 replace hs := hs.drop
 unfold F_portcullislaw26_secrets G_portcullislaw26_secrets
 intro n11 _ hn; replace hs := Sat.new hs hn; clear hn
 intro n14 _ hn; replace hs := Sat.new hs hn; clear hn
 have rdX : ∀ h', Sat h0 (blk n14 [.int .i64 0, .slice (some ⟨n11, 0, none⟩) 1 1] :: blk n11 [.int .u8 7] :: A) h' → SecsAt h' (some ⟨n14, 0, none⟩) 1 [⟨0, [7], some ⟨n11, 0, none⟩, 1⟩] := by
  intro h' hs'
  refine ⟨rfl, ?_⟩
  intro x hx
  have : x = 0 := by simp at hx; exact hx
  subst this
  refine ⟨_, rfl, ?_, ?_, hs'.bv (i := 1) (l := 1) (.s .z) rfl (ints_one .u8 [7]), ?_, by show 1 < 2 ^ 47; decide⟩
  ·exact hs'.ld (i := 0) .z rfl
  ·exact hs'.ld (i := 0) .z rfl
  ·intro n hn
   simp only [List.getElem_cons_zero, List.mem_cons, List.not_mem_nil, or_false] at hn
   subst hn; decide
 refine begun_sp cfg26 hs rdX (by decide) (fun y => absurd ⟨cfg26_may, n26⟩ y) ?_
 intro cm _ w pc st lg rp mp R pr rr g1 r1 d1 g2 r2 d2 h2 eR gR hs
 intro J23 hJ23
 rw [if_neg (by simp), if_neg (by decide)]
 apply hJ23
 clear hJ23
 obtain ⟨TL, hTL⟩ : ∃ TL : List Ent, TL = ringP rp mp R ++ (blk n14 [.int .i64 0, .slice (some ⟨n11, 0, none⟩) 1 1] :: blk n11 [.int .u8 7] :: A) := ⟨_, rfl⟩
 have subA : A.Sublist TL := by rw [hTL]; exact ((List.sublist_cons_self _ _).trans (List.sublist_cons_self _ _)).trans (List.sublist_append_right _ _)
 obtain ⟨y3, a3⟩ : ∃ x, At TL x (blk rp [.map (some mp)]) := At.mem (by rw [hTL]; simp)
 obtain ⟨y4, a4⟩ : ∃ x, At TL x (mapE mp (R.map SR.ent)) := At.mem (by rw [hTL]; simp)
 have rR : ∀ x, x ∈ R → ∃ y, At TL y x.sl := fun x hx => At.mem (by rw [hTL]; exact List.mem_append_left _ (List.mem_cons_of_mem _ (List.mem_cons_of_mem _ (List.mem_map_of_mem hx))))
 rw [← hTL] at hs
 clear hTL
 replace hs : Sat h0 (gt0 g1 st rp d1 ++ (blk w (wldL pc st rp pr rr g1 r1 g2 r2) :: (chipE pc (freshC cfg26) :: storeE st pc lg :: logE lg pc :: TL))) h2 := by
  have s1 : Sat h0 (blk w (wldL pc st rp pr rr g1 r1 g2 r2) :: (gt0 g1 st rp d1 ++ (chipE pc (freshC cfg26) :: storeE st pc lg :: logE lg pc :: TL))) h2 := hs.sub (List.Sublist.cons_cons _ ((List.Sublist.refl _).append (List.sublist_append_right _ _)))
  exact s1.perm List.perm_middle.symm
 obtain ⟨RR, hRR⟩ : ∃ RR : List Ent, RR = blk w (wldL pc st rp pr rr g1 r1 g2 r2) :: (chipE pc (freshC cfg26) :: storeE st pc lg :: logE lg pc :: TL) := ⟨_, rfl⟩
 have aw : At RR 0 (blk w (wldL pc st rp pr rr g1 r1 g2 r2)) := by rw [hRR]; exact .z
 have ac : At RR 1 (chipE pc (freshC cfg26)) := by rw [hRR]; exact .s .z
 have ast : At RR 2 (storeE st pc lg) := by rw [hRR]; exact .s (.s .z)
 have al : At RR 3 (logE lg pc) := by rw [hRR]; exact .s (.s (.s .z))
 have a3' : At RR (y3 + 4) (blk rp [.map (some mp)]) := by rw [hRR]; exact a3.s.s.s.s
 have a4' : At RR (y4 + 4) (mapE mp (R.map SR.ent)) := by rw [hRR]; exact a4.s.s.s.s
 have rR' : ∀ x, x ∈ R → ∃ y, At RR y x.sl := fun x hx => ⟨_, by rw [hRR]; exact (rR x hx).choose_spec.s.s.s.s⟩
 have subA' : A.Sublist RR := by rw [hRR]; exact (((subA.trans (List.sublist_cons_self _ _)).trans (List.sublist_cons_self _ _)).trans (List.sublist_cons_self _ _)).trans (List.sublist_cons_self _ _)
 rw [← hRR] at hs
 clear hRR a3 a4 rR subA
 obtain ⟨f1, f2, f3, f4, f5, f6, f7, f8, f9⟩ := g26s
 have bl := b26_len
 have bo := b26_ok
 have ho : (freshC cfg26).out = false := rfl
 have eR' : R.map SR.kv = [(0, [7])] := eR
 intro n25 _ hn; replace hs := Sat.new hs hn; clear hn
 intro n28 _ hn; replace hs := Sat.new hs hn; clear hn
 refine rmake_sp (sec := [7]) (pay := [1, 2, 3]) (slot := 0) (key := 0) (ver := 5) (pl := 3) hs (zeros_len 32) (by decide) (by intro n hn; simp at hn; subst hn; decide) (by decide) (by intro n hn; simp at hn; rcases hn with rfl | rfl | rfl <;> decide) (fun h' hs' => hs'.bv (i := 1) (l := 1) (.s .z) rfl (ints_one .u8 [7])) (fun h' hs' => hs'.bv (i := 0) (l := 3) .z rfl (ints_one .u8 [1, 2, 3])) ?_
 intro pb cb h3 hs hcb
 replace hs : Sat h0 (slE pb 51 cb 1 (ints .u8 b26) :: blk n28 [.int .u8 1, .int .u8 2, .int .u8 3] :: blk n25 [.int .u8 7] :: (gt0 g1 st rp d1 ++ RR)) h3 := hs
 replace hs : Sat h0 (gt0 g1 st rp d1 ++ (slE pb 51 cb 1 (ints .u8 b26) :: RR)) h3 := by
  have s1 : Sat h0 (slE pb 51 cb 1 (ints .u8 b26) :: (gt0 g1 st rp d1 ++ RR)) h3 := hs.sub (List.Sublist.cons_cons _ ((List.sublist_cons_self _ _).trans (List.sublist_cons_self _ _)))
  exact s1.perm List.perm_middle.symm
 have rdb : ∀ {B : List Ent} {h' : H}, Sat h0 (B ++ (slE pb 51 cb 1 (ints .u8 b26) :: RR)) h' → hsv h' pb 1 51 (ints .u8 b26) := by
  intro B h' hs'
  obtain ⟨z, az⟩ : ∃ z, At (B ++ (slE pb 51 cb 1 (ints .u8 b26) :: RR)) z (slE pb 51 cb 1 (ints .u8 b26)) := At.mem (by simp)
  exact hs'.sv az
 have ldw : ∀ {B : List Ent} {h' : H} {o : Nat} {v : Value}, Sat h0 (B ++ (slE pb 51 cb 1 (ints .u8 b26) :: RR)) h' → (wldL pc st rp pr rr g1 r1 g2 r2)[o]? = some v → hc h' ⟨w, o, none⟩ = some v := by
  intro B h' o v hs' e
  have s1 := hs'.sub (List.sublist_append_right _ _)
  exact s1.ld aw.s e
 refine ⟨_, rfl, _, ldw hs rfl, by decide, by show (10 : Int) ≤ (cb : Int); omega, _, rfl, ?_⟩
 have R1 : ∀ {B : List Ent} {h' : H}, Sat h0 (B ++ (slE pb 51 cb 1 (ints .u8 b26) :: RR)) h' → hsv h' (subAddr pb 0 cb 1) 1 10 (ints .u8 (b26.take 10)) := by
  intro B h' hs'
  have := subRd (o := 0) (n := 10) (m := cb) (rdb hs') (by omega) (by omega)
  rw [List.drop_zero] at this
  exact this
 have R2 : ∀ {B : List Ent} {h' : H}, Sat h0 (B ++ (slE pb 51 cb 1 (ints .u8 b26) :: RR)) h' → hsv h' (subAddr pb 10 cb 1) 1 41 (ints .u8 (b26.drop 10)) := by
  intro B h' hs'
  have := subRd (o := 10) (n := 41) (m := cb) (rdb hs') (by omega) (by omega)
  rw [List.take_of_length_le (by rw [List.length_drop]; omega)] at this
  exact this
 have t10 : (b26.take 10).take 524289 = b26.take 10 := List.take_of_length_le (by rw [List.length_take]; omega)
 have t51 : b26.take 524289 = b26 := List.take_of_length_le (by omega)
 have l10 : (b26.take 10).length = 10 := by rw [List.length_take]; omega
 have l41 : (b26.drop 10).length = 41 := by rw [List.length_drop]; omega
 have o10 : bytesOk (b26.take 10) := fun v hv => bo v (List.mem_of_mem_take hv)
 have o41 : bytesOk (b26.drop 10) := fun v hv => bo v (List.mem_of_mem_drop hv)
 refine gwrite_sp (T := []) (xs := b26.take 10) (L := [(0, [7])]) hg hs dg_new ac.s al.s ast.s ho a3'.s a4'.s eR' (fun v hv => by cases hv) o10 (by rw [l10]; decide) (by show 10 ≤ cb; omega) (fun B h' hs' => R1 hs') ?_
 intro o1 c1 s1 m1 n1 h4 D1 hs
 simp only [List.nil_append] at D1 hs ⊢
 simp only [t10] at hs ⊢
 refine ⟨_, rfl, _, ldw hs rfl, _, rfl, ?_⟩
 refine gsum_sp (L := [(0, [7])]) hg hs ac.s al.s ast.s a3'.s a4'.s eR' gR (fun x hx => ⟨_, (rR' x hx).choose_spec.s⟩) o10 (by rw [l10]; decide) ?_
 intro h5 hs
 refine ⟨_, rfl, _, ldw hs rfl, by decide, by decide, _, rfl, ?_⟩
 have hs' : Sat h0 (gtA g1 st rp o1 c1 d1 s1 m1 n1 ((b26.take 10).take 524289) ++ (slE pb 51 cb 1 (ints .u8 b26) :: RR)) h5 := by rw [t10]; exact hs
 refine gwrite_sp (T := b26.take 10) (xs := b26.drop 10) (L := [(0, [7])]) hg hs' D1 ac.s al.s ast.s ho a3'.s a4'.s eR' o10 o41 (by rw [l10, l41]; decide) (by show 51 - 10 ≤ cb - 10; omega) (fun B h' hs' => R2 hs') ?_
 intro o2 c2 s2 m2 n2' h6 D2 hs
 simp only [List.take_append_drop] at D2 hs ⊢
 simp only [t51] at hs ⊢
 refine ⟨_, rfl, _, ldw hs rfl, _, rfl, ?_⟩
 refine gsum_sp (L := [(0, [7])]) hg hs ac.s al.s ast.s a3'.s a4'.s eR' gR (fun x hx => ⟨_, (rR' x hx).choose_spec.s⟩) bo (by omega) ?_
 intro h7 hs
 refine ⟨_, rfl, _, ldw hs rfl, ?_⟩
 intro n66 _ hn; replace hs := Sat.new hs hn; clear hn
 refine ⟨_, rfl, ?_⟩
 have hs3 : Sat h0 (gtA g1 st rp o2 c2 d1 s2 m2 n2' (b26.take 524289) ++ (blk n66 [.int .u8 1] :: (slE pb 51 cb 1 (ints .u8 b26) :: RR))) _ := (by
  rw [t51]
  exact hs.perm List.perm_middle.symm)
 refine gwrite_sp (T := b26) (xs := [1]) (L := [(0, [7])]) hg hs3 D2 ac.s.s al.s.s ast.s.s ho a3'.s.s a4'.s.s eR' bo (by intro v hv; simp at hv; subst hv; unfold isByte; decide) (by rw [bl]; decide) (by decide) (fun B h' hs' => by
  obtain ⟨z, az⟩ : ∃ z, At (B ++ (blk n66 [.int .u8 1] :: (slE pb 51 cb 1 (ints .u8 b26) :: RR))) z (blk n66 [.int .u8 1]) := At.mem (by simp)
  exact hs'.bv (l := 1) az rfl (ints_one .u8 [1])) ?_
 intro o3 c3 s3 m3 n3 h8 D3 hs
 have t52 : (b26 ++ [1]).take 524289 = b26 ++ [1] := List.take_of_length_le (by rw [List.length_append, bl]; decide)
 simp only [t52] at hs ⊢
 simp only [f1, f2, f3, f4, f9, f5, f6, f7, f8]
 rw [if_pos (by decide), if_pos (by decide), if_pos (by decide), if_pos (by decide), if_pos (by decide), if_pos (by decide), if_pos (by decide), if_pos (by decide)]
 exact k _ (hs.sub (((subA'.trans (List.sublist_cons_self _ _)).trans (List.sublist_cons_self _ _)).trans (List.sublist_append_right _ _)))
end
end Go.Proofs.YteedolonhdbieaaGreatDoor
end

/- StreamPieces: behind the gate's own answer (K1). Own work. -/
section
set_option maxRecDepth 100000
set_option linter.unusedVariables false
namespace Go.Proofs.YteedolonhdbieaaGreatDoor
open Go Go.Vc
attribute [local irreducible] macM gateM tSlot tKey tVer tPay tTag tellsM parseW

theorem pre_flat {b : List Int} {Ls : List (List Int)} (h : Ls.flatten = b) (t : Nat) : (Ls.take t).flatten = b.take (Ls.take t).flatten.length ∧ (Ls.take t).flatten.length ≤ b.length := by
 have e : b = (Ls.take t).flatten ++ (Ls.drop t).flatten := by rw [← h, ← List.flatten_append, List.take_append_drop]
 constructor
 ·conv => rhs; rw [e]
  rw [List.take_left' rfl]
 ·rw [e, List.length_append]; omega
theorem pieces_law {C : Cm} {L : List Sec} {b : List Int} {Ls : List (List Int)} (h : Ls.flatten = b) (t : Nat) (ho : C.out = false) (he : tellsM C L ((Ls.take t).flatten.take 524289) ≠ 0) :
  gateM C L b ≠ 0 ∧ ((parseW b).1 = 0 → gateM C L b = tellsM C L ((Ls.take t).flatten.take 524289)) ∧ ((parseW (Ls.take t).flatten).1 ≠ 0 → (parseW (Ls.take t).flatten).1 ≠ 6 → b.length ≤ 524288 → gateM C L b = tellsM C L ((Ls.take t).flatten.take 524289)) := by
 obtain ⟨p1, p2⟩ := pre_flat h t
 obtain ⟨m, hm⟩ : ∃ m, m = (Ls.take t).flatten.length := ⟨_, rfl⟩
 rw [← hm] at p1 p2
 rw [p1, List.take_take] at he ⊢
 have key := tells_law (C := C) (L := L) (b := b) (j := min 524289 m) (by omega) ho he
 refine ⟨key.1, key.2.1, fun h1 h2 h3 => key.2.2 ?_ ?_ h3⟩
 ·rw [show min 524289 m = m by omega]; exact h1
 ·rw [show min 524289 m = m by omega]; exact h2
section
variable {h0 h : H} {A : List Ent} {i j p r b s m : Nat} {C : Cm}
theorem gateV_sp {Q : Int → Int → Int → Option Addr → Nat → Nat → List Int → Int → H → Prop} {mm rr jm jr : Nat} {bs : List Int} {q : Option Addr} {l c : Nat} {R : List SR} {L : List Sec} (hg : hc h0 ⟨0, 0, none⟩ = some errTypeV) (hs : Sat h0 A h) (ci : At A i (chipE p C)) (cl' : At A j (logE r p)) (st : At A m (storeE s p r))
  (cr : At A jr (blk rr [.map (some mm)])) (cm : At A jm (mapE mm (R.map SR.ent))) (eR : R.map SR.kv = L) (gd : SR.good R) (rR : ∀ x, x ∈ R → ∃ y, At A y x.sl)
  (rd : ∀ h', Sat h0 A h' → hsv h' q 1 l (ints .u8 bs)) (hb : bytesOk bs) (hlc : l ≤ c) (hl : l < 2 ^ 50)
  (k : ∀ (x : Sl) h', (tTag (gateM C L bs) bs).length = 32 → x.2.1 = (tPay (gateM C L bs) bs).length → Sat h0 A h' → Q (tSlot (gateM C L bs) bs) (tKey (gateM C L bs) bs) (tVer (gateM C L bs) bs) x.1 x.2.1 x.2.2 (tTag (gateM C L bs) bs) (gateM C L bs) h') :
  F_gate_Check ⟨s, 0, none⟩ ⟨rr, 0, none⟩ q l c Q h := by
 refine gate_sp (bs := bs) hg hs ci cl' st cr cm gd (fun x hx h' hs' => hs'.sv (rR x hx).choose_spec) rd hb hlc hl ?_ ?_
 ·intro e he hne h5 hs
  rw [eR] at he
  subst he
  obtain ⟨e1, e2, e3, e4⟩ := t_err (bs := bs) hne
  have e5 : tTag (gateM C L bs) bs = zeros 32 := by unfold tTag; rw [if_neg hne]
  have := k (none, 0, 0) h5
  rw [e1, e2, e3, e4, e5] at this
  exact this (zeros_len 32) rfl hs
 ·intro own n hz hp hnn hln h5 hs
  rw [eR] at hz
  have tl32 : ((bs.drop (16 + n)).take 32).length = 32 := by rw [List.length_take, List.length_drop]; omega
  have pl : ((bs.drop 16).take n).length = n := by rw [List.length_take, List.length_drop]; omega
  have en : (num4 bs 12).toNat = n := by omega
  have e1 : tSlot (gateM C L bs) bs = bs.getD 5 0 := by unfold tSlot; rw [if_pos hz]
  have e2 : tKey (gateM C L bs) bs = bs.getD 6 0 := by unfold tKey; rw [if_pos hz]
  have e3 : tVer (gateM C L bs) bs = num4 bs 8 := by unfold tVer; rw [if_pos hz]
  have e4 : tPay (gateM C L bs) bs = (bs.drop 16).take n := by unfold tPay; rw [if_pos hz, en]
  have e5 : tTag (gateM C L bs) bs = (bs.drop (16 + n)).take 32 := by unfold tTag; rw [if_pos hz, en]
  have := k (subAddr own.1 16 (16 + n) 1, n, n) h5
  rw [e1, e2, e3, e4, e5, hz, pl] at this
  exact this tl32 rfl hs.drop
theorem parseV_sp {K : Value → H → Prop} {q : Option Addr} {l c : Nat} {bs : List Int} (hs : Sat h0 A h) (rd : ∀ h', Sat h0 A h' → hsv h' q 1 l (ints .u8 bs)) (hb : bytesOk bs) (hlc : l ≤ c) (hl : l < 2 ^ 50)
  (k : ∀ v h', isIfc v = true → isNilI v = decide ((parseW bs).1 = 0) → Sat h0 A h' → K v h') :
  F_image_Parse q l c (fun i1 i2 i3 o n m t v h => ∀ nb h', hnew h nb (.int .i64 0 :: .int .i64 0 :: .int .i64 0 :: .slice none 0 0 :: ints .u8 (zeros 32)) h' → hcan h' ⟨nb, 0, none⟩ 36 ∧ ∀ h'', h'' = hwr h' ⟨nb, 0, none⟩ (.int .i64 i1 :: .int .i64 i2 :: .int .i64 i3 :: .slice o n m :: ints .u8 t) → K v h'') h := by
 refine Parse_sp hs rd hb hlc hl ?_ ?_
 ·intro e at_ w h2 hp he hs
  intro n40 _ hn; replace hs := Sat.new hs hn; clear hn
  refine ⟨Sat.can hs (i := 0) .z (by simp [zeros]), ?_⟩
  intro h3 e3
  replace hs := Sat.wra (xs := imgL 0 0 0 (none, 0, 0) (zeros 32)) hs (i := 0) .z e3 rfl
  refine k _ _ rfl ?_ hs.drop.drop
  rw [hp]
  show false = decide (e = 0)
  rw [decide_eq_false he]
 ·intro own n h2 hp hnn hs
  have htl : ((bs.drop (16 + n)).take 32).length = 32 := by
   have := (parse_ok hb hp hnn).1
   rw [List.length_take, List.length_drop]; omega
  intro n40 _ hn; replace hs := Sat.new hs hn; clear hn
  refine ⟨Sat.can hs (i := 0) .z (by simp [zeros]), ?_⟩
  intro h3 e3
  replace hs := Sat.wra (xs := imgL (bs.getD 5 0) (bs.getD 6 0) (num4 bs 8) (subAddr own.1 16 (16 + n) 1, n, n) ((bs.drop (16 + n)).take 32)) hs (i := 0) .z e3 (by rw [img_len htl]; rfl)
  refine k _ _ rfl ?_ hs.drop.drop
  rw [hp]
  rfl
theorem copy_sp {K : Option Addr → Nat → Nat → H → Prop} {q : Option Addr} {l nb : Nat} {bs : List Int} (hs : Sat h0 (blk nb [] :: A) h) (rd : hsv h q 1 l (ints .u8 bs)) (hl : l < 2 ^ 47) (k : ∀ p' c' h', Sat h0 (slE p' l c' 1 (ints .u8 bs) :: A) h' → l ≤ c' → K p' l c' h') :
  ∃ (lv : List Value), hsv h q 1 l lv ∧ pApp h 1 [.int .u8 0] 1 (some ⟨nb, 0, none⟩) 0 0 l lv K := by
 have hbl : bs.length = l := by have := rd.1; simpa using this
 replace hs := as_sl0 hs (i := 0) (c := 0) (sz := 1) .z rfl
 simp only [put_zero] at hs
 refine ⟨_, rd, ?_⟩
 refine Sat.app hs (i := 0) (vs := ints .u8 bs) .z (by simp [hbl]) rfl (ints_one _ _) (by omega) ?_
 intro p1 c1 h4 hs
 simp only [put_zero, List.nil_append, Nat.zero_add] at hs ⊢
 exact k _ _ _ hs (capS hs (i := 0) .z)
theorem blow_on {C : Cm} (ho : C.out = false) (hl : C.left < 0) (k : Int) : (blowM C k).1.out = false := by
 have hl' : C.left ≠ 0 := by omega
 unfold blowM
 split
 ·exact ho
 ·dsimp only
  split
  ·exact act_out ho hl'
  ·exact act_out ho hl'
theorem revoke_on {C : Cm} (ho : C.out = false) (hl : C.left < 0) (key : Int) : (revokeM C key).1.out = false ∧ (revokeM C key).1.left < 0 := by
 unfold revokeM
 split
 ·exact ⟨ho, hl⟩
 ·split
  ·exact ⟨ho, hl⟩
  ·exact ⟨blow_on ho hl _, blow_left hl _⟩
end
end Go.Proofs.YteedolonhdbieaaGreatDoor
end

/- StreamPieces: behind the gate's own answer (K1). Own work. -/
section
set_option maxRecDepth 100000
set_option linter.unusedVariables false
namespace Go.Proofs.YteedolonhdbieaaGreatDoor
open Go Go.Vc
attribute [local irreducible] macM gateM tSlot tKey tVer tPay tTag tellsM parseW

def lastE (C : Cm) (L : List Sec) (Ls : List (List Int)) (t : Nat) : Int := if t = 0 then 0 else tellsM C L ((Ls.take t).flatten.take 524289)
theorem lastE_succ {C : Cm} {L : List Sec} {Ls : List (List Int)} {t : Nat} : lastE C L Ls (t + 1) = tellsM C L ((Ls.take (t + 1)).flatten.take 524289) := by unfold lastE; rw [if_neg (by omega)]
theorem map_get26 {α : Type} (f : α → Value) (l : List α) {i : Nat} (hi : i < l.length) : (l.map f)[i]? = some (f l[i]) := by
 rw [List.getElem?_map, List.getElem?_eq_getElem hi]; rfl
theorem perm2 {α : Type} (a b : α) (G X : List α) : (a :: b :: (G ++ X)).Perm (G ++ (a :: b :: X)) := by
 have := (List.perm_append_comm (l₁ := [a, b]) (l₂ := G)).append_right X
 simpa using this
theorem perm3 {α : Type} (a : α) (G1 G2 X : List α) : (a :: (G1 ++ (G2 ++ X))).Perm (G2 ++ (a :: (G1 ++ X))) := by
 have p1 : (G1 ++ (G2 ++ X)).Perm (G2 ++ (G1 ++ X)) := by
  rw [← List.append_assoc, ← List.append_assoc]
  exact List.perm_append_comm.append_right X
 exact (p1.cons a).trans List.perm_middle.symm
theorem perm4 {α : Type} (a : α) (G1 G2 X : List α) : (G2 ++ (a :: (G1 ++ X))).Perm (G1 ++ (a :: (G2 ++ X))) := by
 exact (perm3 a G1 G2 X).symm.trans (List.perm_middle (a := a) (l₁ := G1) (l₂ := G2 ++ X)).symm
theorem flat_succ {Ls : List (List Int)} {t : Nat} (h : t < Ls.length) : (Ls.take (t + 1)).flatten = (Ls.take t).flatten ++ Ls[t] := by
 rw [List.take_succ, List.getElem?_eq_getElem h, List.flatten_append]; simp
section
variable {h0 h : H} {A : List Ent} {i j p r b s m : Nat} {C : Cm}
theorem after26_sp {Q : Bool → H → Prop} {bs cuts others : List Int} {ap bp dp : Option Addr} {al ac bl bc dl dc : Nat} {w pc st lg rp mp pr rr g1 r1 g2 r2 nb : Nat} {d1 d2 : Nat} {R : List SR} {L : List Sec} {x : Sl} (hg : hc h0 ⟨0, 0, none⟩ = some errTypeV)
  (ra : hsv h0 ap 1 al (ints .u8 bs)) (hb : bytesOk bs) (hac : al ≤ ac) (hal : al + 4096 ≤ 2 ^ 47) (rb : hsv h0 bp 1 bl (ints .i64 cuts)) (hbl : bl < 2 ^ 40) (rd : hsv h0 dp 1 dl (ints .i64 others)) (hdl : dl < 2 ^ 40)
  (ho : C.out = false) (eR : R.map SR.kv = L) (gR : SR.good R) {jr jm : Nat} (cr : At A jr (blk rp [.map (some mp)])) (cm : At A jm (mapE mp (R.map SR.ent))) (rR : ∀ x, x ∈ R → ∃ y, At A y x.sl)
  (tl32 : (tTag (gateM C L bs) bs).length = 32) (hx : x.2.1 = (tPay (gateM C L bs) bs).length)
  (hs : Sat h0 (blk nb (imgL 0 0 0 (none, 0, 0) (zeros 32)) :: (gt0 g1 st rp d1 ++ (gt0 g2 st rp d2 ++ (blk w (wldL pc st rp pr rr g1 r1 g2 r2) :: chipE pc C :: storeE st pc lg :: logE lg pc :: A)))) h) (k : ∀ h', Sat h0 [] h' → Q true h') :
  K1_portcullislaw26_StreamPieces F_image_Parse F_portcullislaw26_cut F_stream_Gate_Write F_portcullisref11_Parse F_stream_Gate_Sum F_stream_Gate_Digest F_sha_Of ap al ac bp bl bc dp dl dc Q h nb (tSlot (gateM C L bs) bs) (tKey (gateM C L bs) bs) (tVer (gateM C L bs) bs) x.1 x.2.1 x.2.2 (tTag (gateM C L bs) bs) (some ⟨w, 0, none⟩) (gateM C L bs) true := by
 unfold K1_portcullislaw26_StreamPieces
 try simp only [add_mk, Nat.zero_add, List.append_nil]
 have hbl' : bs.length = al := by have := ra.1; simpa using this
 intro h1 e1
 obtain ⟨W, hW⟩ : ∃ W, W = imgL (tSlot (gateM C L bs) bs) (tKey (gateM C L bs) bs) (tVer (gateM C L bs) bs) x (tTag (gateM C L bs) bs) := ⟨_, rfl⟩
 replace hs : Sat h0 _ h1 := Sat.wra (xs := W) hs (i := 0) .z (by rw [hW]; exact e1) (by rw [hW, img_len tl32, img_len (zeros_len 32)])
 clear e1
 simp only [put_zero] at hs
 obtain ⟨BB, hBB⟩ : ∃ BB : List Ent, BB = blk w (wldL pc st rp pr rr g1 r1 g2 r2) :: chipE pc C :: storeE st pc lg :: logE lg pc :: blk nb W :: A := ⟨_, rfl⟩
 have aw : At BB 0 (blk w (wldL pc st rp pr rr g1 r1 g2 r2)) := by rw [hBB]; exact .z
 have ach : At BB 1 (chipE pc C) := by rw [hBB]; exact .s .z
 have ast : At BB 2 (storeE st pc lg) := by rw [hBB]; exact .s (.s .z)
 have alg : At BB 3 (logE lg pc) := by rw [hBB]; exact .s (.s (.s .z))
 have aimg : At BB 4 (blk nb W) := by rw [hBB]; exact .s (.s (.s (.s .z)))
 have acr : At BB (jr + 5) (blk rp [.map (some mp)]) := by rw [hBB]; exact cr.s.s.s.s.s
 have acm : At BB (jm + 5) (mapE mp (R.map SR.ent)) := by rw [hBB]; exact cm.s.s.s.s.s
 have arR : ∀ x, x ∈ R → ∃ y, At BB y x.sl := fun x hx => ⟨_, by rw [hBB]; exact (rR x hx).choose_spec.s.s.s.s.s⟩
 replace hs : Sat h0 (gt0 g1 st rp d1 ++ (gt0 g2 st rp d2 ++ BB)) h1 := by
  rw [hBB]
  refine hs.perm ?_
  refine (List.perm_middle (l₁ := gt0 g1 st rp d1)).symm.trans (List.Perm.append_left _ ?_)
  refine (List.perm_middle (l₁ := gt0 g2 st rp d2)).symm.trans (List.Perm.append_left _ ?_)
  exact (List.perm_middle (l₁ := [_, _, _, _])).symm
 clear hBB cr cm rR
 -- the form
 intro n285 _ hn; replace hs := Sat.new hs hn; clear hn
 refine copy_sp hs (hs.base ra) (by omega) ?_
 intro p2 c2 h2 hs hc2
 refine parseV_sp hs (fun h' hs' => hs'.sv (i := 0) .z) hb hc2 (by omega) ?_
 intro v300 h3 hv1 hv2 hs
 replace hs := hs.drop
 refine cut_sp hs ra hac (by omega) rb hbl ?_
 intro Ps o307 c307 h4 hPf hP0 hPl hPr hs
 obtain ⟨Ls, hLs⟩ : ∃ Ls, Ls = Ps.map Prod.snd := ⟨_, rfl⟩
 have hLl : Ls.length = Ps.length := by rw [hLs, List.length_map]
 rw [← hLs] at hPf
 have hLx : ∀ t (ht : t < Ps.length), Ls[t]'(by omega) = Ps[t].2 := fun t ht => by simp [hLs]
 have hTl : ∀ t, (Ls.take t).flatten.length ≤ al := fun t => by have := (pre_flat hPf t).2; omega
 have hTb : ∀ t, bytesOk (Ls.take t).flatten := fun t v hv => by
  rw [(pre_flat hPf t).1] at hv
  exact hb v (List.mem_of_mem_take hv)
 intro n311 _ hn; replace hs := Sat.new hs hn; clear hn
 replace hs := as_sl0 hs (i := 0) (c := 0) (sz := 1) .z rfl
 simp only [put_zero] at hs
 obtain ⟨Z, hZ⟩ : ∃ Z : List Ent, Z = slE o307 Ps.length c307 1 (Ps.map fun x => x.1.v) :: (gt0 g2 st rp d2 ++ BB) := ⟨_, rfl⟩
 have up : ∀ {y : Nat} {e : Ent}, At BB y e → At Z (y + 4) e := fun a => by rw [hZ]; exact a.s.s.s.s
 have apc : At Z 0 (slE o307 Ps.length c307 1 (Ps.map fun x => x.1.v)) := by rw [hZ]; exact .z
 replace hs : Sat h0 (gt0 g1 st rp d1 ++ (slE (some ⟨n311, 0, none⟩) 0 0 1 [] :: Z)) _ := (by
  rw [hZ]
  exact hs.perm (perm2 _ _ (gt0 g1 st rp d1) _))
 have pcs : ∀ {B : List Ent} {h' : H} {t : Nat}, Sat h0 (B ++ Z) h' → (ht : t < Ps.length) → ∃ q, o307 = some q ∧ hc h' (q.add t) = some (Ps[t].1.v) := by
  intro B h' t hs' ht
  exact hsv_get ((hs'.sub (List.sublist_append_right _ _)).sv apc) (i := t) (map_get26 _ _ ht)
 have ldw : ∀ {B : List Ent} {h' : H} {o : Nat} {v : Value}, Sat h0 (B ++ Z) h' → (wldL pc st rp pr rr g1 r1 g2 r2)[o]? = some v → hc h' ⟨w, o, none⟩ = some v := by
  intro B h' o v hs' e
  exact (hs'.sub (List.sublist_append_right _ _)).ld (up aw) e
 intro J314 hJ314
 refine loopS Ps.length (fun t (s : Option Addr × Nat) => [.dv (.one (.slice s.1 (Ls.take t).flatten.length s.2)), .dv (.one (.int .i64 (lastE C L Ls t))), si t])
  (fun t s h => ∃ o c s1 m1 n1, DgOk (Ls.take t).flatten s1 m1 n1 ∧ Sat h0 (gtA g1 st rp o c d1 s1 m1 n1 ((Ls.take t).flatten.take 524289) ++ (slE s.1 (Ls.take t).flatten.length s.2 1 (ints .u8 (Ls.take t).flatten) :: Z)) h) ?_ ?_ 0 (some ⟨n311, 0, none⟩, 0) _ (by omega) ⟨_, _, _, _, _, dg_new, hs⟩
 ·clear hs
  rintro t ⟨sp, sc⟩ h5 ht ⟨o, c, s1, m1, n1, D, hs⟩ hk
  dsimp only at hs hk ⊢
  apply hJ314
  clear hJ314
  rw [ltI_eq, if_pos (by rw [decide_eq_true_iff]; omega)]
  have htL : t < Ls.length := by omega
  intro J321 hJ321
  obtain ⟨T, hT⟩ : ∃ T, T = (Ls.take t).flatten := ⟨_, rfl⟩
  obtain ⟨xs, hxs⟩ : ∃ xs, xs = Ls[t] := ⟨_, rfl⟩
  have eT : (Ls.take (t + 1)).flatten = T ++ xs := by rw [flat_succ htL, hT, hxs]
  have hT1 := hTl t
  have hT2 := hTl (t + 1)
  have hT3 := hTb t
  have hT4 := hTb (t + 1)
  have law := fun e => pieces_law (C := C) (L := L) hPf (t + 1) ho e
  rw [eT] at hT2 hT4 law
  rw [lastE_succ, eT] at hk
  rw [← hT] at D hs hT1 hT3
  rw [← hT]
  rw [List.length_append] at hT2
  obtain ⟨pr1, pr2⟩ := hPr Ps[t] (List.getElem_mem ht)
  obtain ⟨pp, hpp⟩ : ∃ pp, pp = Ps[t] := ⟨_, rfl⟩
  rw [hLx t ht, ← hpp] at hxs
  rw [← hpp, ← hxs] at pr1
  rw [← hpp] at pr2
  have hpl : xs.length = pp.1.2.1 := by have := pr1.1; simpa using this
  have hxb : bytesOk xs := fun v hv => hT4 v (List.mem_append_right _ hv)
  have hs0 : Sat h0 ((gtA g1 st rp o c d1 s1 m1 n1 (T.take 524289) ++ [slE sp T.length sc 1 (ints .u8 T)]) ++ Z) h5 := by rw [List.append_assoc]; exact hs
  obtain ⟨q1, hq1, gq1⟩ := pcs hs0 ht
  rw [← hpp] at gq1
  refine ⟨_, rfl, _, ldw hs0 rfl, q1, hq1, by omega, by omega, ?_⟩
  simp only [Int.toNat_natCast, Nat.mul_one]
  refine ⟨_, _, _, gq1, ?_⟩
  intro n335 _ hn; replace hs := Sat.new hs hn; clear hn
  have hs0 : Sat h0 ((blk n335 [] :: (gtA g1 st rp o c d1 s1 m1 n1 (T.take 524289) ++ [slE sp T.length sc 1 (ints .u8 T)])) ++ Z) _ := (by rw [List.cons_append, List.append_assoc]; exact hs)
  obtain ⟨q2, hq2, gq2⟩ := pcs hs0 ht
  rw [← hpp] at gq2
  rw [hq1] at hq2
  cases hq2
  refine ⟨hcs_one gq2, hcs_one (ldw hs0 rfl), ?_⟩
  refine copy_sp hs (hs.base pr1) (by omega) ?_
  intro p3 c3 h6 hs hc3
  have hs0 : Sat h0 ((slE p3 pp.1.2.1 c3 1 (ints .u8 xs) :: (gtA g1 st rp o c d1 s1 m1 n1 (T.take 524289) ++ [slE sp T.length sc 1 (ints .u8 T)])) ++ Z) h6 := by rw [List.cons_append, List.append_assoc]; exact hs
  refine ⟨hcs_one (ldw hs0 rfl), _, rfl, ?_⟩
  replace hs : Sat h0 (gtA g1 st rp o c d1 s1 m1 n1 (T.take 524289) ++ (slE p3 pp.1.2.1 c3 1 (ints .u8 xs) :: slE sp T.length sc 1 (ints .u8 T) :: Z)) h6 := hs.perm (List.perm_middle (l₁ := gtA g1 st rp o c d1 s1 m1 n1 (T.take 524289))).symm
  refine gwrite_sp (T := T) (xs := xs) (L := L) hg hs D (up ach).s.s (up alg).s.s (up ast).s.s ho (up acr).s.s (up acm).s.s eR hT3 hxb (by omega) hc3 (fun B h' hs' => ?_) ?_
  ·obtain ⟨z, az⟩ : ∃ z, At (B ++ (slE p3 pp.1.2.1 c3 1 (ints .u8 xs) :: slE sp T.length sc 1 (ints .u8 T) :: Z)) z (slE p3 pp.1.2.1 c3 1 (ints .u8 xs)) := At.mem (by simp)
   exact hs'.sv az
  intro o' c' s1' m1' n1' h7 D' hs
  have hs0 : Sat h0 ((gtA g1 st rp o' c' d1 s1' m1' n1' ((T ++ xs).take 524289) ++ [slE p3 pp.1.2.1 c3 1 (ints .u8 xs), slE sp T.length sc 1 (ints .u8 T)]) ++ Z) h7 := by rw [List.append_assoc]; exact hs
  obtain ⟨q3, hq3, gq3⟩ := pcs hs0 ht
  rw [← hpp] at gq3
  rw [hq1] at hq3
  cases hq3
  refine ⟨q1, hq1, by omega, by omega, _, _, _, gq3, _, hs.base pr1, ?_⟩
  refine Sat.app hs (i := 4) (vs := ints .u8 xs) (.s (.s (.s (.s .z)))) (by simp [hpl]) rfl (ints_one _ _) (by omega) ?_
  intro sp2 sc2 h8 hs
  simp only [List.cons_append, List.nil_append, put_succ, put_zero] at hs
  rw [← ints_app] at hs
  have hsc := capS hs (i := 4) (.s (.s (.s (.s .z))))
  obtain ⟨E, hE⟩ : ∃ E, E = tellsM C L ((T ++ xs).take 524289) := ⟨_, rfl⟩
  rw [← hE] at hk law ⊢
  have el : T.length + pp.1.2.1 = (T ++ xs).length := by rw [List.length_append, hpl]
  rw [el] at hs hsc ⊢
  have hs2 : Sat h0 (gtA g1 st rp o' c' d1 s1' m1' n1' ((T ++ xs).take 524289) ++ (slE sp2 (T ++ xs).length sc2 1 (ints .u8 (T ++ xs)) :: Z)) h8 := hs.sub (List.Sublist.cons_cons _ (List.Sublist.cons_cons _ (List.Sublist.cons_cons _ (List.sublist_cons_self _ _))))
  have done : ∀ h', Sat h0 (gtA g1 st rp o' c' d1 s1' m1' n1' ((T ++ xs).take 524289) ++ (slE sp2 (T ++ xs).length sc2 1 (ints .u8 (T ++ xs)) :: Z)) h' → J321 [.dv (.one (.slice sp2 (T ++ xs).length sc2)), .dv (.one (.int .i64 E))] h' := by
   intro h' hs'
   apply hJ321
   rw [wrap_succ (by omega)]
   exact hk (sp2, sc2) h' ⟨_, _, _, _, _, D', hs'⟩
  clear hJ321 hk hs
  have fin : ∀ (e : Int) h', e = (parseW (T ++ xs)).1 → Sat h0 (gtA g1 st rp o' c' d1 s1' m1' n1' ((T ++ xs).take 524289) ++ (slE sp2 (T ++ xs).length sc2 1 (ints .u8 (T ++ xs)) :: Z)) h' → ∀ n368, hc h' ⟨n368, 0, none⟩ = some (.int .i64 e) →
    (e ≠ 0 ∧ e ≠ 6 → al ≤ 524288 → E ≠ 0 → gateM C L bs = E) := by
   intro e h' he hs' n368 _ h1 h2 h3
   rw [he] at h1
   exact (law h3).2.2 h1.1 h1.2 (by omega)
  clear fin
  have tail : ∀ (e at_ : Int) (a1 a2 a3 : Int) (oo : Sl) (tt : List Int) h', tt.length = 32 → (parseW (T ++ xs)).1 = e → Sat h0 (gtA g1 st rp o' c' d1 s1' m1' n1' ((T ++ xs).take 524289) ++ (slE sp2 (T ++ xs).length sc2 1 (ints .u8 (T ++ xs)) :: Z)) h' →
    ∀ n365 h366, hnew h' n365 (.int .i64 0 :: .int .i64 0 :: .int .i64 0 :: .slice none 0 0 :: ints .u8 (zeros 32)) h366 → ∀ n368 h369, hnew h366 n368 [.int .i64 0, .int .i64 0] h369 → hcan h369 ⟨n365, 0, none⟩ 36 ∧ ∀ h371, h371 = hwr h369 ⟨n365, 0, none⟩ (.int .i64 a1 :: .int .i64 a2 :: .int .i64 a3 :: .slice oo.1 oo.2.1 oo.2.2 :: ints .u8 tt) → hcan h371 ⟨n368, 0, none⟩ 2 ∧ ∀ h373, h373 = hwr h371 ⟨n368, 0, none⟩ [.int .i64 e, .int .i64 at_] →
     hc h373 ⟨n368, 0, none⟩ = some (.int .i64 e) ∧ Sat h0 (gtA g1 st rp o' c' d1 s1' m1' n1' ((T ++ xs).take 524289) ++ (slE sp2 (T ++ xs).length sc2 1 (ints .u8 (T ++ xs)) :: Z)) h373 := by
   intro e at_ a1 a2 a3 oo tt h' htt _ hs n365 h366 hn n368 h369 hn2
   replace hs := Sat.new hs hn
   replace hs := Sat.new hs hn2
   refine ⟨Sat.can hs (i := 1) (.s .z) (by simp [zeros]), ?_⟩
   intro h371 e371
   replace hs := Sat.wra (xs := imgL a1 a2 a3 oo tt) hs (i := 1) (.s .z) e371 (by rw [img_len htt]; rfl)
   simp only [put_succ, put_zero] at hs
   refine ⟨Sat.can hs (i := 0) .z (by simp), ?_⟩
   intro h373 e373
   replace hs := Sat.wra (xs := [.int .i64 e, .int .i64 at_]) hs (i := 0) .z e373 rfl
   simp only [put_zero] at hs
   exact ⟨hs.ld (i := 0) .z rfl, hs.drop.drop⟩
  have leaf : ∀ (e : Int) h373 n368, (parseW (T ++ xs)).1 = e → hc h373 ⟨n368, 0, none⟩ = some (.int .i64 e) → Sat h0 (gtA g1 st rp o' c' d1 s1' m1' n1' ((T ++ xs).take 524289) ++ (slE sp2 (T ++ xs).length sc2 1 (ints .u8 (T ++ xs)) :: Z)) h373 →
    ∃ i375 : Int, hc h373 ⟨n368, 0, none⟩ = some (.int .i64 i375) ∧ if (i375 != 0) = true then ∃ i376 : Int, hc h373 ⟨n368, 0, none⟩ = some (.int .i64 i376) ∧ if (E != 0) = true then if (gateM C L bs == 0) = true then Q false h373 else isIfc v300 = true ∧ if isNilI v300 = true then if (gateM C L bs != E) = true then Q false h373 else if (i376 != 6) = true then if leI (al : Int) 524288 = true then if (gateM C L bs != E) = true then Q false h373 else J321 [.dv (.one (.slice sp2 (T ++ xs).length sc2)), .dv (.one (.int .i64 E))] h373 else J321 [.dv (.one (.slice sp2 (T ++ xs).length sc2)), .dv (.one (.int .i64 E))] h373 else J321 [.dv (.one (.slice sp2 (T ++ xs).length sc2)), .dv (.one (.int .i64 E))] h373 else if (i376 != 6) = true then if leI (al : Int) 524288 = true then if (gateM C L bs != E) = true then Q false h373 else J321 [.dv (.one (.slice sp2 (T ++ xs).length sc2)), .dv (.one (.int .i64 E))] h373 else J321 [.dv (.one (.slice sp2 (T ++ xs).length sc2)), .dv (.one (.int .i64 E))] h373 else J321 [.dv (.one (.slice sp2 (T ++ xs).length sc2)), .dv (.one (.int .i64 E))] h373 else J321 [.dv (.one (.slice sp2 (T ++ xs).length sc2)), .dv (.one (.int .i64 E))] h373
     else if (E != 0) = true then if (gateM C L bs == 0) = true then Q false h373 else isIfc v300 = true ∧ if isNilI v300 = true then if (gateM C L bs != E) = true then Q false h373 else J321 [.dv (.one (.slice sp2 (T ++ xs).length sc2)), .dv (.one (.int .i64 E))] h373 else J321 [.dv (.one (.slice sp2 (T ++ xs).length sc2)), .dv (.one (.int .i64 E))] h373 else J321 [.dv (.one (.slice sp2 (T ++ xs).length sc2)), .dv (.one (.int .i64 E))] h373 := by
   intro e h373 n368 he g hs'
   have fin := done _ hs'
   generalize J321 [.dv (.one (.slice sp2 (T ++ xs).length sc2)), .dv (.one (.int .i64 E))] h373 = FIN at fin ⊢
   refine ⟨e, g, ?_⟩
   have nE : E = 0 → ¬ (E != 0) = true := fun y => by simpa using y
   by_cases cE : E = 0
   ·by_cases c0 : e = 0
    ·rw [if_neg (by simpa using c0), if_neg (nE cE)]
     exact fin
    ·rw [if_pos (by simpa using c0)]
     refine ⟨e, g, ?_⟩
     rw [if_neg (nE cE)]
     exact fin
   obtain ⟨w1, w2, w3⟩ := law cE
   rw [he] at w3
   have a1 : ¬ (gateM C L bs == 0) = true := by simpa using w1
   have a2 : (parseW bs).1 = 0 → ¬ (gateM C L bs != E) = true := fun y => by simpa using w2 y
   have a3 : isNilI v300 = true → ¬ (gateM C L bs != E) = true := fun y => a2 (by rw [hv2] at y; exact of_decide_eq_true y)
   have a0 : (E != 0) = true := by simpa using cE
   by_cases c0 : e = 0
   ·rw [if_neg (by simpa using c0), if_pos a0, if_neg a1]
    refine ⟨hv1, ?_⟩
    split
    ·rename_i y; rw [if_neg (a3 y)]; exact fin
    ·exact fin
   rw [if_pos (by simpa using c0)]
   refine ⟨e, g, ?_⟩
   rw [if_pos a0, if_neg a1]
   refine ⟨hv1, ?_⟩
   have inner : (if (e != 6) = true then if leI (al : Int) 524288 = true then if (gateM C L bs != E) = true then Q false h373 else FIN else FIN else FIN) := by
    split
    ·rename_i y6
     split
     ·rename_i y7
      rw [leI_eq, decide_eq_true_iff] at y7
      rw [if_neg (by have := w3 c0 (by simpa using y6) (by omega); simpa using this)]
      exact fin
     ·exact fin
    ·exact fin
   split
   ·rename_i y; rw [if_neg (a3 y)]; exact inner
   ·exact inner
  refine rParse_sp (bs := T ++ xs) hs2 (fun h' hs' => hs'.sv (i := 3) (.s (.s (.s .z)))) hT4 hsc (by rw [List.length_append]; omega) ?_ ?_
  ·intro e at_ h9 hp hne hs
   intro n365 h366 hn n368 h369 hn2
   have hp1 : (parseW (T ++ xs)).1 = e := by rw [hp]
   obtain ⟨u1, u2⟩ := tail e at_ 0 0 0 (none, 0, 0) (zeros 32) h9 (zeros_len 32) hp1 hs n365 h366 hn n368 h369 hn2
   refine ⟨u1, ?_⟩
   intro h371 e371
   obtain ⟨u3, u4⟩ := u2 h371 e371
   refine ⟨u3, ?_⟩
   intro h373 e373
   obtain ⟨u5, u6⟩ := u4 h373 e373
   exact leaf e h373 n368 hp1 u5 u6
  ·intro own n h9 hp hnn hon hs
   intro n365 h366 hn n368 h369 hn2
   have hp1 : (parseW (T ++ xs)).1 = 0 := by rw [hp]
   have htl : (((T ++ xs).drop (16 + n)).take 32).length = 32 := by
    have := (parse_ok hT4 hp hnn).1
    rw [List.length_take, List.length_drop]; omega
   obtain ⟨u1, u2⟩ := tail 0 0 ((T ++ xs).getD 5 0) ((T ++ xs).getD 6 0) (num4 (T ++ xs) 8) own (((T ++ xs).drop (16 + n)).take 32) h9 htl hp1 hs.drop n365 h366 hn n368 h369 hn2
   refine ⟨u1, ?_⟩
   intro h371 e371
   obtain ⟨u3, u4⟩ := u2 h371 e371
   refine ⟨u3, ?_⟩
   intro h373 e373
   obtain ⟨u5, u6⟩ := u4 h373 e373
   exact leaf 0 h373 n368 hp1 u5 u6
 clear hs
 rintro ⟨sp, sc⟩ h5 ⟨o, c, s1, m1, n1, D, hs⟩
 apply hJ314
 clear hJ314
 rw [ltI_eq, if_neg (by rw [decide_eq_true_iff]; omega)]
 have eF : (Ls.take Ps.length).flatten = bs := by rw [← hLl, List.take_length]; exact hPf
 have eLast : lastE C L Ls Ps.length = tellsM C L (bs.take 524289) := by unfold lastE; rw [if_neg (by omega), eF]
 rw [eF] at D
 simp only [eF] at hs ⊢
 rw [eLast]
 obtain ⟨gc1, gc2⟩ := gate_cut (L := L) bs ho
 have bT : bytesOk (bs.take 524289) := fun v hv => hb v (List.mem_of_mem_take hv)
 have hs0 : Sat h0 ((gtA g1 st rp o c d1 s1 m1 n1 (bs.take 524289) ++ [slE sp bs.length sc 1 (ints .u8 bs)]) ++ Z) h5 := by rw [List.append_assoc]; exact hs
 refine ⟨_, rfl, _, ldw hs0 rfl, _, rfl, ?_⟩
 refine gsum_sp (L := L) hg hs (up ach).s (up alg).s (up ast).s (up acr).s (up acm).s eR gR (fun x hx => ⟨_, (up (arR x hx).choose_spec).s⟩) bT (by rw [List.length_take]; omega) ?_
 intro h6 hs J386 hJ386
 have same : tSlot (gateM C L bs) (bs.take 524289) = tSlot (gateM C L bs) bs ∧ tKey (gateM C L bs) (bs.take 524289) = tKey (gateM C L bs) bs ∧ tVer (gateM C L bs) (bs.take 524289) = tVer (gateM C L bs) bs ∧ tPay (gateM C L bs) (bs.take 524289) = tPay (gateM C L bs) bs := by
  by_cases g : gateM C L bs = 0
  ·rw [gc2 g]; exact ⟨rfl, rfl, rfl, rfl⟩
  ·obtain ⟨u1, u2, u3, u4⟩ := t_err (bs := bs) g
   obtain ⟨v1, v2, v3, v4⟩ := t_err (bs := bs.take 524289) g
   rw [u1, u2, u3, u4, v1, v2, v3, v4]; exact ⟨rfl, rfl, rfl, rfl⟩
 obtain ⟨q1, q2, q3, q4⟩ := same
 simp only [gc1, q1, q2, q3, q4]
 rw [if_neg (by simp)]
 obtain ⟨zi, ai⟩ : ∃ z, At (gtA g1 st rp o c d1 s1 m1 n1 (bs.take 524289) ++ (slE sp bs.length sc 1 (ints .u8 bs) :: Z)) z (blk nb W) := ⟨_, (up aimg).s.s.s.s⟩
 refine ⟨_, hs.ld ai (by rw [hW]; rfl), ?_⟩
 rw [if_neg (by simp)]
 refine ⟨_, hs.ld ai (by rw [hW]; rfl), ?_⟩
 rw [if_neg (by simp)]
 refine ⟨_, hs.ld ai (by rw [hW]; rfl), ?_⟩
 rw [if_neg (by simp)]
 refine ⟨_, _, _, hs.ld ai (by rw [hW]; rfl), ?_⟩
 rw [if_neg (by rw [hx]; simp)]
 apply hJ386
 clear hJ386 ai ldw pcs up apc
 refine cut_sp hs ra hac (by omega) rd hdl ?_
 intro Ps2 o388 c388 h7 hPf2 hP02 hPl2 hPr2 hs
 obtain ⟨L2, hL2⟩ : ∃ L2, L2 = Ps2.map Prod.snd := ⟨_, rfl⟩
 have hL2l : L2.length = Ps2.length := by rw [hL2, List.length_map]
 rw [← hL2] at hPf2
 have hL2x : ∀ t (ht : t < Ps2.length), L2[t]'(by omega) = Ps2[t].2 := fun t ht => by simp [hL2]
 have hTl2 : ∀ t, (L2.take t).flatten.length ≤ al := fun t => by have := (pre_flat hPf2 t).2; omega
 have hTb2 : ∀ t, bytesOk (L2.take t).flatten := fun t v hv => by
  rw [(pre_flat hPf2 t).1] at hv
  exact hb v (List.mem_of_mem_take hv)
 rw [hZ] at hs
 clear hZ
 obtain ⟨G1, hG1⟩ : ∃ G1, G1 = gtA g1 st rp o c d1 s1 m1 n1 (bs.take 524289) := ⟨_, rfl⟩
 rw [← hG1] at hs
 replace hs : Sat h0 (slE o388 Ps2.length c388 1 (Ps2.map fun x => x.1.v) :: (G1 ++ (gt0 g2 st rp d2 ++ BB))) h7 := hs.sub (List.Sublist.cons_cons _ ((List.Sublist.refl _).append ((List.sublist_cons_self _ _).trans (List.sublist_cons_self _ _))))
 replace hs := hs.perm (perm3 _ G1 (gt0 g2 st rp d2) BB)
 obtain ⟨Z, hZ⟩ : ∃ Z : List Ent, Z = slE o388 Ps2.length c388 1 (Ps2.map fun x => x.1.v) :: (G1 ++ BB) := ⟨_, rfl⟩
 have up : ∀ {y : Nat} {e : Ent}, At BB y e → At Z (y + 4) e := fun a => by rw [hZ, hG1]; exact a.s.s.s.s
 have apc : At Z 0 (slE o388 Ps2.length c388 1 (Ps2.map fun x => x.1.v)) := by rw [hZ]; exact .z
 rw [← hZ] at hs
 have pcs : ∀ {B : List Ent} {h' : H} {t : Nat}, Sat h0 (B ++ Z) h' → (ht : t < Ps2.length) → ∃ q, o388 = some q ∧ hc h' (q.add t) = some (Ps2[t].1.v) := by
  intro B h' t hs' ht
  exact hsv_get ((hs'.sub (List.sublist_append_right _ _)).sv apc) (i := t) (map_get26 _ _ ht)
 have ldw : ∀ {B : List Ent} {h' : H} {o : Nat} {v : Value}, Sat h0 (B ++ Z) h' → (wldL pc st rp pr rr g1 r1 g2 r2)[o]? = some v → hc h' ⟨w, o, none⟩ = some v := by
  intro B h' o v hs' e
  exact (hs'.sub (List.sublist_append_right _ _)).ld (up aw) e
 intro J392 hJ392
 refine loopS Ps2.length (fun t (s : Unit) => [.dv (.one (.int .i64 (lastE C L L2 t))), si t])
  (fun t s h => ∃ o c s1 m1 n1, DgOk (L2.take t).flatten s1 m1 n1 ∧ Sat h0 (gtA g2 st rp o c d2 s1 m1 n1 ((L2.take t).flatten.take 524289) ++ Z) h) ?_ ?_ 0 () _ (by omega) ⟨_, _, _, _, _, dg_new, hs⟩
 ·clear hs
  rintro t _ h8 ht ⟨o', c', s', m', n', D', hs⟩ hk
  apply hJ392
  clear hJ392
  rw [ltI_eq, if_pos (by rw [decide_eq_true_iff]; omega)]
  have htL : t < L2.length := by omega
  obtain ⟨T, hT⟩ : ∃ T, T = (L2.take t).flatten := ⟨_, rfl⟩
  obtain ⟨xs, hxs⟩ : ∃ xs, xs = L2[t] := ⟨_, rfl⟩
  have eT : (L2.take (t + 1)).flatten = T ++ xs := by rw [flat_succ htL, hT, hxs]
  have hT2 := hTl2 (t + 1)
  have hT3 := hTb2 t
  have hT4 := hTb2 (t + 1)
  rw [eT] at hT2 hT4
  rw [lastE_succ, eT] at hk
  rw [← hT] at D' hs hT3
  rw [List.length_append] at hT2
  obtain ⟨pr1, pr2⟩ := hPr2 Ps2[t] (List.getElem_mem ht)
  obtain ⟨pp, hpp⟩ : ∃ pp, pp = Ps2[t] := ⟨_, rfl⟩
  rw [hL2x t ht, ← hpp] at hxs
  rw [← hpp, ← hxs] at pr1
  have hpl : xs.length = pp.1.2.1 := by have := pr1.1; simpa using this
  have hxb : bytesOk xs := fun v hv => hT4 v (List.mem_append_right _ hv)
  obtain ⟨q1, hq1, gq1⟩ := pcs hs ht
  rw [← hpp] at gq1
  refine ⟨_, rfl, _, ldw hs rfl, q1, hq1, by omega, by omega, ?_⟩
  simp only [Int.toNat_natCast, Nat.mul_one]
  refine ⟨_, _, _, gq1, ?_⟩
  intro n335 _ hn; replace hs := Sat.new hs hn; clear hn
  have hs0 : Sat h0 ((blk n335 [] :: gtA g2 st rp o' c' d2 s' m' n' (T.take 524289)) ++ Z) _ := hs
  obtain ⟨q2, hq2, gq2⟩ := pcs hs0 ht
  rw [← hpp] at gq2
  rw [hq1] at hq2
  cases hq2
  refine ⟨hcs_one gq2, hcs_one (ldw hs0 rfl), ?_⟩
  refine copy_sp hs (hs.base pr1) (by omega) ?_
  intro p3 c3 h9 hs hc3
  have hs0 : Sat h0 ((slE p3 pp.1.2.1 c3 1 (ints .u8 xs) :: gtA g2 st rp o' c' d2 s' m' n' (T.take 524289)) ++ Z) h9 := hs
  refine ⟨hcs_one (ldw hs0 rfl), _, rfl, ?_⟩
  replace hs : Sat h0 (gtA g2 st rp o' c' d2 s' m' n' (T.take 524289) ++ (slE p3 pp.1.2.1 c3 1 (ints .u8 xs) :: Z)) h9 := hs.perm (List.perm_middle (l₁ := gtA g2 st rp o' c' d2 s' m' n' (T.take 524289))).symm
  refine gwrite_sp (T := T) (xs := xs) (L := L) hg hs D' (up ach).s (up alg).s (up ast).s ho (up acr).s (up acm).s eR hT3 hxb (by omega) hc3 (fun B h' hs' => ?_) ?_
  ·obtain ⟨z, az⟩ : ∃ z, At (B ++ (slE p3 pp.1.2.1 c3 1 (ints .u8 xs) :: Z)) z (slE p3 pp.1.2.1 c3 1 (ints .u8 xs)) := At.mem (by simp)
   exact hs'.sv az
  intro o2 c2 s2 m2 n2 h10 D2 hs
  rw [wrap_succ (by omega)]
  refine hk () h10 ⟨_, _, _, _, _, D2, hs.sub ((List.Sublist.refl _).append (List.sublist_cons_self _ _))⟩
 clear hs
 rintro _ h8 ⟨o', c', s', m', n', D', hs⟩
 apply hJ392
 clear hJ392
 rw [ltI_eq, if_neg (by rw [decide_eq_true_iff]; omega)]
 have eF2 : (L2.take Ps2.length).flatten = bs := by rw [← hL2l, List.take_length]; exact hPf2
 have eLast2 : lastE C L L2 Ps2.length = tellsM C L (bs.take 524289) := by unfold lastE; rw [if_neg (by omega), eF2]
 rw [eF2] at D'
 simp only [eF2] at hs ⊢
 rw [eLast2]
 refine ⟨_, rfl, _, ldw hs rfl, _, rfl, ?_⟩
 obtain ⟨G2, hG2⟩ : ∃ G2, G2 = gtA g2 st rp o' c' d2 s' m' n' (bs.take 524289) := ⟨_, rfl⟩
 rw [← hG2, hZ] at hs
 replace hs := hs.perm (perm4 _ G1 G2 BB)
 rw [hG1] at hs
 have ldw2 : ∀ {B : List Ent} {h' : H} {o : Nat} {v : Value}, Sat h0 (B ++ BB) h' → (wldL pc st rp pr rr g1 r1 g2 r2)[o]? = some v → hc h' ⟨w, o, none⟩ = some v := by
  intro B h' o v hs' e
  exact (hs'.sub (List.sublist_append_right _ _)).ld aw e
 refine gdigest_sp hs D (by omega) ?_
 intro h9 hs
 intro n418 _ hn; replace hs := Sat.new hs hn; clear hn
 refine ⟨Sat.can hs (i := 0) .z (by simp [zeros]), ?_⟩
 intro h10 e10
 replace hs := Sat.wra (xs := ints .u8 (shaM bs)) hs (i := 0) .z e10 (by simp [zeros, shaM_len])
 clear e10
 simp only [put_zero] at hs
 rw [← hG1] at hs
 replace hs : Sat h0 (G2 ++ (blk n418 (ints .u8 (shaM bs)) :: BB)) h10 := by
  have s1 : Sat h0 (blk n418 (ints .u8 (shaM bs)) :: (G2 ++ BB)) h10 := hs.sub (List.Sublist.cons_cons _ ((List.Sublist.refl (G2 ++ BB)).trans ((List.sublist_cons_self _ _).trans (List.sublist_append_right _ _))))
  exact s1.perm List.perm_middle.symm
 have hs0 : Sat h0 ((G2 ++ [blk n418 (ints .u8 (shaM bs))]) ++ BB) h10 := by rw [List.append_assoc]; exact hs
 refine ⟨_, rfl, _, ldw2 hs0 rfl, _, rfl, ?_⟩
 rw [hG2] at hs
 refine gdigest_sp hs D' (by omega) ?_
 intro h11 hs
 intro n428 _ hn; replace hs := Sat.new hs hn; clear hn
 refine ⟨Sat.can hs (i := 0) .z (by simp [zeros]), ?_⟩
 intro h12 e12
 replace hs := Sat.wra (xs := ints .u8 (shaM bs)) hs (i := 0) .z e12 (by simp [zeros, shaM_len])
 clear e12
 simp only [put_zero] at hs
 replace hs : Sat h0 (blk n428 (ints .u8 (shaM bs)) :: blk n418 (ints .u8 (shaM bs)) :: BB) h12 := hs.sub (List.Sublist.cons_cons _ (List.sublist_append_right _ _))
 intro n433 _ hn; replace hs := Sat.new hs hn; clear hn
 refine copy_sp hs (hs.base ra) (by omega) ?_
 intro p4 c4 h13 hs hc4
 refine ShaOf_sp hs hc4 (by omega) (fun h' hs' => hs'.sv (i := 0) .z) ?_
 intro h14 hs
 intro n443 _ hn; replace hs := Sat.new hs hn; clear hn
 refine ⟨Sat.can hs (i := 0) .z (by simp [zeros]), ?_⟩
 intro h15 e15
 replace hs := Sat.wra (xs := ints .u8 (shaM bs)) hs (i := 0) .z e15 (by simp [zeros, shaM_len])
 clear e15
 simp only [put_zero] at hs
 rw [if_pos trivial, if_pos (by simp)]
 refine ⟨_, shaM_len _, hs.row0 (i := 3) (.s (.s (.s .z))), _, shaM_len _, hs.row0 (i := 0) .z, ?_⟩
 rw [if_pos (by simp)]
 refine ⟨_, shaM_len _, hs.row0 (i := 2) (.s (.s .z)), _, shaM_len _, hs.row0 (i := 0) .z, ?_⟩
 rw [beq_self_eq_true]
 exact k _ hs.nil
end
end Go.Proofs.YteedolonhdbieaaGreatDoor
end

/- StreamPieces. Own work. -/
section
set_option maxRecDepth 100000
set_option linter.unusedVariables false
namespace Go.Proofs.YteedolonhdbieaaGreatDoor
open Go Go.Vc
attribute [local irreducible] macM gateM tSlot tKey tVer tPay tTag tellsM parseW

theorem perm6 {α : Type} (a b : α) (G1 G2 X : List α) : (a :: b :: (G1 ++ (G2 ++ X))).Perm (G1 ++ (G2 ++ (b :: a :: X))) :=
 (List.Perm.swap b a _).trans ((perm2 b a G1 (G2 ++ X)).trans (List.Perm.append_left G1 (perm2 b a G2 X)))
theorem perm7 {α : Type} (w ch : α) (G1 G2 X : List α) : (w :: (G1 ++ (G2 ++ (ch :: X)))).Perm (ch :: w :: (G1 ++ (G2 ++ X))) := by
 have p1 : (G1 ++ (G2 ++ (ch :: X))).Perm (ch :: (G1 ++ (G2 ++ X))) := by
  rw [← List.append_assoc, ← List.append_assoc]
  exact List.perm_middle
 exact (p1.cons w).trans (List.Perm.swap _ _ _)
section
variable {h0 h : H} {A : List Ent} {i j p r b s m : Nat} {C : Cm}
theorem StreamPieces_sp {Q : Bool → H → Prop} {bs cuts others revs : List Int} {X : List SR} {lp ap bp dp rvp : Option Addr} {ll lc al ac bl bc dl dc rvl rvc : Nat} (c : Cfg) (hg : hc h0 ⟨0, 0, none⟩ = some errTypeV) (rl : SecsAt h0 lp ll X) (hll : ll < 2 ^ 47)
  (rv : hsv h0 rvp 1 rvl (ints .i64 revs)) (hrv : rvl < 2 ^ 60) (ra : hsv h0 ap 1 al (ints .u8 bs)) (hb : bytesOk bs) (hac : al ≤ ac) (hal : al + 4096 ≤ 2 ^ 47) (rb : hsv h0 bp 1 bl (ints .i64 cuts)) (hbl : bl < 2 ^ 40) (rd : hsv h0 dp 1 dl (ints .i64 others)) (hdl : dl < 2 ^ 40) (k : ∀ h', Sat h0 [] h' → Q true h') :
  F_portcullislaw26_StreamPieces c.cells c.slots c.fuses c.step c.keys c.erases c.area lp ll lc rvp rvl rvc ap al ac bp bl bc dp dl dc Q h0 := by
 unfold F_portcullislaw26_StreamPieces G_portcullislaw26_StreamPieces
 try simp only [add_mk, Nat.zero_add, List.append_nil]
 have hs := Sat.init h0
 intro n35 _ hn; replace hs := Sat.new hs hn; clear hn
 replace hs : Sat h0 [cfgP n35 c] _ := hs
 refine fixed26_sp hg hs ?_
 intro h1 hs
 refine ⟨_, hs.ld (i := 0) .z rfl, _, hs.ld (i := 0) .z rfl, _, hs.ld (i := 0) .z rfl, _, hs.ld (i := 0) .z rfl, _, hs.ld (i := 0) .z rfl, _, hs.ld (i := 0) .z rfl, _, hs.ld (i := 0) .z rfl, ?_⟩
 refine begun_sp (X := X) c hs (fun h' hs' => rl.ext hs') hll ?_ ?_
 ·intro _ h2 hs J50 hJ50
  rw [if_pos (by simp), if_pos rfl]
  exact k _ hs.nil
 intro cm hnew w pc st lg rp mp R pr rr g1 r1 d1 g2 r2 d2 h2 eR gR hs
 intro J50 hJ50
 rw [if_neg (by simp), if_neg (by decide)]
 apply hJ50
 clear hJ50
 obtain ⟨TT, hTT⟩ : ∃ TT : List Ent, TT = ringP rp mp R ++ [cfgP n35 c] := ⟨_, rfl⟩
 obtain ⟨y3, a3⟩ : ∃ x, At TT x (blk rp [.map (some mp)]) := At.mem (by rw [hTT]; simp)
 obtain ⟨y4, a4⟩ : ∃ x, At TT x (mapE mp (R.map SR.ent)) := At.mem (by rw [hTT]; simp)
 have rR : ∀ x, x ∈ R → ∃ y, At TT y x.sl := fun x hx => At.mem (by rw [hTT]; exact List.mem_append_left _ (List.mem_cons_of_mem _ (List.mem_cons_of_mem _ (List.mem_map_of_mem hx))))
 rw [← hTT] at hs
 clear hTT
 obtain ⟨L, hL⟩ : ∃ L, L = X.map SR.kv := ⟨_, rfl⟩
 rw [← hL] at eR
 clear hL hnew
 replace hs := hs.perm (perm7 _ _ (gt0 g1 st rp d1) (gt0 g2 st rp d2) _)
 intro J52 hJ52
 refine loop_up rvl (fun t h => ∃ C, C.out = false ∧ C.left < 0 ∧ Sat h0 (chipE pc C :: blk w (wldL pc st rp pr rr g1 r1 g2 r2) :: (gt0 g1 st rp d1 ++ (gt0 g2 st rp d2 ++ (storeE st pc lg :: logE lg pc :: TT)))) h) ?_ ?_ 0 _ (by omega) ⟨_, rfl, by show (-1 : Int) < 0; decide, hs⟩
 ·clear hs
  rintro t h3 ht ⟨C, ho, hl, hs⟩ hk
  apply hJ52
  rw [ltI_eq, if_pos (by rw [decide_eq_true_iff]; omega)]
  obtain ⟨q1, hq1, g1'⟩ := hsv_int (hs.base rv) (x := t) ht
  refine ⟨_, rfl, _, hs.ld (i := 1) (.s .z) rfl, q1, hq1, by omega, by omega, ?_⟩
  simp only [Int.toNat_natCast, Nat.mul_one]
  refine ⟨_, g1', _, rfl, ?_⟩
  refine sRevoke_sp hs (i := 0) .z (m := 8) (.s (.s (.s (.s (.s (.s (.s (.s .z)))))))) _ ?_
  intro h4 hs
  simp only [put_zero] at hs
  rw [wrap_succ (by omega)]
  obtain ⟨o1, o2⟩ := revoke_on ho hl (revs.getD t 0)
  exact hk _ ⟨_, o1, o2, hs⟩
 clear hs
 rintro h3 ⟨C, ho, _, hs⟩
 apply hJ52
 clear hJ52
 rw [ltI_eq, if_neg (by rw [decide_eq_true_iff]; omega)]
 replace hs := hs.perm (perm6 _ _ (gt0 g1 st rp d1) (gt0 g2 st rp d2) _)
 obtain ⟨REST, hR⟩ : ∃ REST : List Ent, REST = gt0 g1 st rp d1 ++ (gt0 g2 st rp d2 ++ (blk w (wldL pc st rp pr rr g1 r1 g2 r2) :: chipE pc C :: storeE st pc lg :: logE lg pc :: TT)) := ⟨_, rfl⟩
 rw [← hR] at hs
 have aw : At REST 6 (blk w (wldL pc st rp pr rr g1 r1 g2 r2)) := by rw [hR]; exact .s (.s (.s (.s (.s (.s .z)))))
 have ach : At REST 7 (chipE pc C) := by rw [hR]; exact .s (.s (.s (.s (.s (.s (.s .z))))))
 have ast : At REST 8 (storeE st pc lg) := by rw [hR]; exact .s (.s (.s (.s (.s (.s (.s (.s .z)))))))
 have alg : At REST 9 (logE lg pc) := by rw [hR]; exact .s (.s (.s (.s (.s (.s (.s (.s (.s .z))))))))
 have ar : At REST (y3 + 10) (blk rp [.map (some mp)]) := by rw [hR]; exact a3.s.s.s.s.s.s.s.s.s.s
 have am : At REST (y4 + 10) (mapE mp (R.map SR.ent)) := by rw [hR]; exact a4.s.s.s.s.s.s.s.s.s.s
 have arR : ∀ x, x ∈ R → ∃ y, At REST y x.sl := fun x hx => ⟨_, by rw [hR]; exact (rR x hx).choose_spec.s.s.s.s.s.s.s.s.s.s⟩
 have af : ∀ nb (x : Sl) h', (tTag (gateM C L bs) bs).length = 32 → x.2.1 = (tPay (gateM C L bs) bs).length → Sat h0 (blk nb (imgL 0 0 0 (none, 0, 0) (zeros 32)) :: REST) h' →
   K1_portcullislaw26_StreamPieces F_image_Parse F_portcullislaw26_cut F_stream_Gate_Write F_portcullisref11_Parse F_stream_Gate_Sum F_stream_Gate_Digest F_sha_Of ap al ac bp bl bc dp dl dc Q h' nb (tSlot (gateM C L bs) bs) (tKey (gateM C L bs) bs) (tVer (gateM C L bs) bs) x.1 x.2.1 x.2.2 (tTag (gateM C L bs) bs) (some ⟨w, 0, none⟩) (gateM C L bs) true := by
  intro nb x h' tl hx hs'
  rw [hR] at hs'
  exact after26_sp hg ra hb hac hal rb hbl rd hdl ho eR gR a3 a4 rR tl hx hs' k
 clear hR
 have two : ∀ nb p' c' h', al ≤ c' → Sat h0 (blk nb (imgL 0 0 0 (none, 0, 0) (zeros 32)) :: slE p' al c' 1 (ints .u8 bs) :: REST) h' →
   K2_portcullislaw26_StreamPieces F_gate_Check F_image_Parse F_portcullislaw26_cut F_stream_Gate_Write F_portcullisref11_Parse F_stream_Gate_Sum F_stream_Gate_Digest F_sha_Of ap al ac bp bl bc dp dl dc Q (some ⟨st, 0, none⟩) (some ⟨rp, 0, none⟩) p' al c' nb (some ⟨w, 0, none⟩) true h' := by
  intro nb p' c' h' hc hs'
  unfold K2_portcullislaw26_StreamPieces
  refine ⟨_, rfl, _, rfl, ?_⟩
  refine gateV_sp (L := L) (bs := bs) hg hs' ach.s.s alg.s.s ast.s.s ar.s.s am.s.s eR gR (fun x hx => ⟨_, (arR x hx).choose_spec.s.s⟩) (fun h' hs' => hs'.sv (i := 1) (.s .z)) hb hc (by omega) ?_
  intro x h4 tl hx hs4
  exact ⟨Sat.can hs4 (i := 0) .z (by simp [zeros]), af nb x h4 tl hx (hs4.sub (List.Sublist.cons_cons _ (List.sublist_cons_self _ _)))⟩
 have three : ∀ nb n667 h', Sat h0 (blk n667 [] :: blk nb (imgL 0 0 0 (none, 0, 0) (zeros 32)) :: REST) h' →
   K3_portcullislaw26_StreamPieces F_gate_Check F_image_Parse F_portcullislaw26_cut F_stream_Gate_Write F_portcullisref11_Parse F_stream_Gate_Sum F_stream_Gate_Digest F_sha_Of ap al ac bp bl bc dp dl dc Q h' n667 ⟨w, 0, none⟩ (some ⟨rp, 0, none⟩) ⟨w, 0, none⟩ (some ⟨st, 0, none⟩) nb (some ⟨w, 0, none⟩) true := by
  intro nb n667 h' hs'
  unfold K3_portcullislaw26_StreamPieces
  try simp only [add_mk, Nat.zero_add]
  refine copy_sp hs' (hs'.base ra) (by omega) ?_
  intro p' c' h4 hs4 hc
  exact ⟨Sat.cs hs4 aw.s.s rfl, Sat.cs hs4 aw.s.s rfl, two nb p' c' h4 hc (hs4.perm (List.Perm.swap _ _ _))⟩
 refine ⟨_, rfl, _, hs.ld aw rfl, _, rfl, _, hs.ld aw rfl, ?_, ?_⟩
 ·intro n66 h67 hn
  have hs1 := Sat.new hs hn
  clear hn
  refine ⟨Sat.cs hs1 aw.s rfl, Sat.cs hs1 aw.s rfl, ?_, ?_⟩
  ·refine copy_sp hs1 (hs1.base ra) (by omega) ?_
   intro p' c' h4 hs4 hc
   refine ⟨Sat.cs hs4 aw.s rfl, Sat.cs hs4 aw.s rfl, ⟨_, rfl, _, rfl, ?_⟩, ?_⟩
   ·refine gateV_sp (L := L) (bs := bs) hg hs4 ach.s alg.s ast.s ar.s am.s eR gR (fun x hx => ⟨_, (arR x hx).choose_spec.s⟩) (fun h' hs' => hs'.sv (i := 0) .z) hb hc (by omega) ?_
    intro x h5 tl hx hs5
    intro n85 h86 hn
    have hs6 := Sat.new hs5 hn
    replace hs6 : Sat h0 (blk n85 (imgL 0 0 0 (none, 0, 0) (zeros 32)) :: slE p' al c' 1 (ints .u8 bs) :: REST) h86 := hs6
    exact ⟨Sat.can hs6 (i := 0) .z (by simp [zeros]), af n85 x h86 tl hx (hs6.sub (List.Sublist.cons_cons _ (List.sublist_cons_self _ _)))⟩
   ·intro n269 h270 hn
    have hs6 := Sat.new hs4 hn
    replace hs6 : Sat h0 (blk n269 (imgL 0 0 0 (none, 0, 0) (zeros 32)) :: slE p' al c' 1 (ints .u8 bs) :: REST) h270 := hs6
    exact ⟨Sat.cs hs6 aw.s.s rfl, Sat.cs hs6 aw.s.s rfl, two n269 p' c' h270 hc hs6⟩
  ·intro n464 h465 hn
   have hs6 := Sat.new hs1 hn
   replace hs6 : Sat h0 (blk n464 (imgL 0 0 0 (none, 0, 0) (zeros 32)) :: blk n66 [] :: REST) h465 := hs6
   exact ⟨Sat.cs hs6 aw.s.s rfl, Sat.cs hs6 aw.s.s rfl, three n464 n66 h465 (hs6.perm (List.Perm.swap _ _ _))⟩
 ·intro n664 h665 hn
  have hs1 := Sat.new hs hn
  clear hn
  replace hs1 : Sat h0 (blk n664 (imgL 0 0 0 (none, 0, 0) (zeros 32)) :: REST) h665 := hs1
  refine ⟨Sat.cs hs1 aw.s rfl, Sat.cs hs1 aw.s rfl, ?_⟩
  intro n667 h668 hn
  have hs2 := Sat.new hs1 hn
  exact ⟨Sat.cs hs2 aw.s.s rfl, Sat.cs hs2 aw.s.s rfl, three n664 n667 h668 hs2⟩
end
end Go.Proofs.YteedolonhdbieaaGreatDoor
end

/- StreamPieces: any bytes in any pieces: Sum, Digest, and what an error of a Write says of the end; where what is read is of bounded bulk. -/
section
set_option maxRecDepth 100000
set_option linter.unusedVariables false
namespace Go.Proofs.YteedolonhdbieaaGreatDoor
open Go Go.Vc Go.ChangeShapes Go.WideShapes Go.ChangeAt Go.RowKit

theorem StreamPieces_calls {D : Type} {enc : TypeId × Value → D} {W : World} {base : Nat} (hg : hc W.heap ⟨0, 0, none⟩ = some errTypeV) (vs : List Value) (h : ArgsOk enc PP W base [23, 24, 25, 26, 25, 25] vs) (hz : SizOk PP 1048576 [23, 24, 25, 26, 25, 25] vs) : CallsTrue PP 3 vs W := by
 obtain ⟨hl, h⟩ := h
 match vs, hl with
 | [v0, v1, v2, v3, v4, v5], _ =>
 obtain ⟨r0, w0⟩ := h 0 _ v0 rfl rfl
 obtain ⟨r1, w1⟩ := h 1 _ v1 rfl rfl
 obtain ⟨r2, w2⟩ := h 2 _ v2 rfl rfl
 obtain ⟨r3, w3⟩ := h 3 _ v3 rfl rfl
 obtain ⟨r4, w4⟩ := h 4 _ v4 rfl rfl
 obtain ⟨r5, w5⟩ := h 5 _ v5 rfl rfl
 obtain ⟨c, rfl⟩ := cfg_of r0 w0
 obtain ⟨p1, l1, c1, rfl, hs1⟩ := slice24_of (e := 172) (by kernel_rfl) r1 w1
 obtain ⟨X, hX, hll⟩ := secs_of hs1
 obtain ⟨p2, l2, c2, rfl, hs2⟩ := slice24_of (e := 3) (by kernel_rfl) r2 w2
 obtain ⟨revs, v1, _, _⟩ := ints_of hs2
 obtain ⟨p3, l3, c3, rfl, hs3⟩ := slice24_of (e := 5) (by kernel_rfl) r3 w3
 obtain ⟨bs, b1, b2, b3, b4⟩ := bytes24_of hs3
 obtain ⟨p4, l4, c4, rfl, hs4⟩ := slice24_of (e := 3) (by kernel_rfl) r4 w4
 obtain ⟨cuts, e1, _, _⟩ := ints_of hs4
 obtain ⟨p5, l5, c5, rfl, hs5⟩ := slice24_of (e := 3) (by kernel_rfl) r5 w5
 obtain ⟨others, f1, _, _⟩ := ints_of hs5
 have u : PP.underlying 25 = some (.slice 3) := by kernel_rfl
 have z2 := hz 2 _ _ p2 l2 c2 rfl u rfl
 have z4 := hz 4 _ _ p4 l4 c4 rfl u rfl
 have z5 := hz 5 _ _ p5 l5 c5 rfl u rfl
 have := R_portcullislaw26_StreamPieces [.agg (c.vals.map .c), .one (.slice p1 l1 c1), .one (.slice p2 l2 c2), .one (.slice p3 l3 c3), .one (.slice p4 l4 c4), .one (.slice p5 l5 c5)] (fun rs h' => rs = [DV.one (.bool true)] ∧ Ext none_ W.heap h') W.heap (by
  intro x hx
  simp only [List.mem_cons, List.not_mem_nil, or_false] at hx
  rcases hx with rfl | rfl | rfl | rfl | rfl | rfl
  ·exact ok_cfg c
  ·rfl
  ·rfl
  ·rfl
  ·rfl
  ·rfl) (by
  show F_portcullislaw26_StreamPieces c.cells c.slots c.fuses c.step c.keys c.erases c.area p1 l1 c1 p2 l2 c2 p3 l3 c3 p4 l4 c4 p5 l5 c5 (fun b h' => [DV.one (.bool b)] = [DV.one (.bool true)] ∧ Ext none_ W.heap h') W.heap
  exact StreamPieces_sp c hg hX hll v1 (by omega) b1 b2 b3 b4 e1 (by omega) f1 (by omega) fun h' x => ⟨rfl, x.ex⟩)
 exact this
theorem StreamPieces_wit {α : Type} {o : Option α} {p q : α → Bool} (h : (match o with | some x => p x && q x | none => false) = true) : ∃ x, o = some x ∧ p x = true ∧ q x = true := by
 cases o with
 | none => cases h
 | some x => simp only [Bool.and_eq_true] at h; exact ⟨x, rfl, h⟩
theorem StreamPieces_upto (os : Os) (started : os.Started) (D : Type) (enc : TypeId × Value → D) (F : Stop.Interp) :
  ReturnsInHanded {} Tryz.checked os 3 .any (fun w args => ((Rows.OpenSpec.upto Rows.streamPiecesSpec).pre enc Tryz.prog Tryz.f3 [] false w args ∧ laidMetH Tryz.prog laidL w) ∧ sizedMet enc Tryz.prog Tryz.f3 (Rows.OpenSpec.upto Rows.streamPiecesSpec) false w args) (((Rows.OpenSpec.upto Rows.streamPiecesSpec).at F).post enc Tryz.prog Tryz.f3 false true false false) := by
 refine returnsInHanded_of_calls Tryz.own started (by kernel_rfl)
  (by
   obtain ⟨x, hx, h1, h2⟩ := StreamPieces_wit (p := fun x : List (DataW D) × List (DataW D) × List MemPlace => ([] : List PathCond).all (PathCond.test Tryz.checked.prog ⟨Tryz.f3.params.toList, x.1, (Rows.OpenSpec.upto Rows.streamPiecesSpec).bare.plain.varTypes Tryz.checked.prog, x.2.1⟩)) (q := fun x => Rows.uptoSmall D (x.1 ++ x.2.1))
    (o := DataW.whole enc Tryz.checked.prog ((laidWorld os).forCall (fun _ _ => 0) ⟨#[], #[.agg #[.int .i64 0, .int .i64 0, .int .i64 0, .int .i64 0, .int .i64 0, .int .i64 0, .int .i64 0], .slice none 0 0, .slice none 0 0, .slice none 0 0, .slice none 0 0, .slice none 0 0], []⟩).memory Tryz.f3.params.toList (Rows.OpenSpec.upto Rows.streamPiecesSpec).vars false [.agg #[.int .i64 0, .int .i64 0, .int .i64 0, .int .i64 0, .int .i64 0, .int .i64 0, .int .i64 0], .slice none 0 0, .slice none 0 0, .slice none 0 0, .slice none 0 0, .slice none 0 0] 8) (by kernel_rfl)
   have hok : Input.okWideB Tryz.checked.prog ((laidWorld os).forCall (fun _ _ => 0) ⟨#[], #[.agg #[.int .i64 0, .int .i64 0, .int .i64 0, .int .i64 0, .int .i64 0, .int .i64 0, .int .i64 0], .slice none 0 0, .slice none 0 0, .slice none 0 0, .slice none 0 0, .slice none 0 0], []⟩) 3 ⟨#[], #[.agg #[.int .i64 0, .int .i64 0, .int .i64 0, .int .i64 0, .int .i64 0, .int .i64 0, .int .i64 0], .slice none 0 0, .slice none 0 0, .slice none 0 0, .slice none 0 0, .slice none 0 0], []⟩ = true := by kernel_rfl
   exact ⟨laidWorld os, fun _ _ => 0, ⟨#[], #[.agg #[.int .i64 0, .int .i64 0, .int .i64 0, .int .i64 0, .int .i64 0, .int .i64 0, .int .i64 0], .slice none 0 0, .slice none 0 0, .slice none 0 0, .slice none 0 0, .slice none 0 0], []⟩, rfl, World.shaped_of_B (by kernel_rfl) (by kernel_rfl), (Input.okWide_of_okWideB (base := 0) hok).1, (Input.okWide_of_okWideB hok).2,
    ⟨⟨(OpenSpec.pre_some (s := Rows.OpenSpec.upto Rows.streamPiecesSpec) (k := Rows.uptoSmall) rfl [] false _ _).2 ⟨x.1, x.2.1, x.2.2, DataW.Whole_of_whole hx, h1, h2⟩, laidWorld_met os _⟩, sized_of (s := Rows.OpenSpec.upto Rows.streamPiecesSpec) (show (Rows.OpenSpec.upto Rows.streamPiecesSpec).bare.sizedB enc Tryz.checked.prog Tryz.f3 false ((laidWorld os).forCall (fun _ _ => 0) ⟨#[], #[.agg #[.int .i64 0, .int .i64 0, .int .i64 0, .int .i64 0, .int .i64 0, .int .i64 0, .int .i64 0], .slice none 0 0, .slice none 0 0, .slice none 0 0, .slice none 0 0, .slice none 0 0], []⟩).memory #[.agg #[.int .i64 0, .int .i64 0, .int .i64 0, .int .i64 0, .int .i64 0, .int .i64 0, .int .i64 0], .slice none 0 0, .slice none 0 0, .slice none 0 0, .slice none 0 0, .slice none 0 0] 8 = true by kernel_rfl)⟩, by
    simp only [Assume.holds]
    exact ⟨by simp, by simp, fun _ => Modest.zero, by simp, by simp⟩⟩) ?_
 intro w tape i _ _ _ hok hpre hholds
 obtain ⟨_, _, _, fn', hfn', _, _, _, _, hval⟩ := hok
 have e : fn' = Tryz.f3 := Option.some.inj (hfn'.symm.trans Tryz.func3)
 subst e
 obtain ⟨ds, gs, before, hw, hc, hkk⟩ := (OpenSpec.pre_some (s := Rows.OpenSpec.upto Rows.streamPiecesSpec) (k := Rows.uptoSmall) rfl _ _ _ _).1 hpre.1.1
 have hz := hpre.2.weights hw
 have hL : laidMetH Tryz.prog laidL (w.forCall tape i) := hpre.1.2.of_heap (by rfl)
 have hw' := DataW.Whole.of_heap (w' := w.forCall tape i) (by rfl) hw
 refine (law_goB (P := Tryz.prog) (fn := Tryz.f3) (s := Rows.streamPiecesSpec) (N := 1048576) [23, 24, 25, 26, 25, 25] (by kernel_rfl) Tryz.laidOut rfl (by kernel_rfl) (by kernel_rfl) Tryz.ubool
  (fun ds hl => match ds, hl with | [d1, d2, d3, d4, d5, d6], _ => rfl) hval hw' hz (of_decide_eq_true hkk) (StreamPieces_calls (handle_of_laid hL))).mono fun e W' ⟨v, he, hp⟩ => ?_
 subst he
 exact ChangeSpec.post_blind hp

theorem StreamPieces_k1 : (Rows.streamPiecesUptoRow.wf (OpenSpec.ofChange Rows.streamPiecesSpec) && laidOutB Tryz.prog && mapsRowed Tryz.prog && Tryz.f3.params.all (Tryz.prog.readableRec ·) && namedTie Tryz.prog Rows.streamPiecesUptoRow.named Rows.streamPiecesSpec.vars && (Rows.streamPiecesUptoRow.stops == []) && (Tryz.prog.stops == []) && (Rows.streamPiecesUptoRow.knobs == []) && (Tryz.prog.stopKnobs == [])) = true := by kernel_rfl
theorem StreamPieces_k2 : (Rows.streamPiecesUptoRow.inPlace == Tryz.prog.inPlace 3) = true := by kernel_rfl
theorem StreamPieces_k3 : (Rows.streamPiecesUptoRow.unfollowed == Tryz.prog.unfollowed 3) = true := by kernel_rfl
theorem StreamPieces_k4 : (Rows.streamPiecesUptoRow.recurses == Tryz.prog.recurses 3) = true := by kernel_rfl
theorem StreamPieces_k5 : (Rows.streamPiecesUptoRow.named == Tryz.prog.varsNamed 3) = true := by kernel_rfl
theorem StreamPieces_k6 : Tryz.prog.stopsHeard = true := by kernel_rfl
theorem StreamPieces_k7 : Tryz.prog.mayEnter = true := by kernel_rfl
theorem StreamPieces_k8 : (Rows.streamPiecesUptoRow.lifted == Tryz.prog.liftsFinal) = true := by kernel_rfl
theorem StreamPieces_k9 : (Tryz.prog.make == some Rows.streamPiecesUptoRow.make) = true := by kernel_rfl
theorem StreamPieces_facts : joinedFacts Tryz.pinned.checked.prog 3 Tryz.f3 Rows.streamPiecesSpec Rows.streamPiecesUptoRow = true := by
 unfold joinedFacts
 exact bool_and (bool_and (bool_and (bool_and (bool_and (bool_and (bool_and (bool_and (bool_and (bool_and (bool_and (bool_and (bool_and (bool_and (bool_and (bool_and (bool_and (bool_and (bool_and (bool_and (bool_and (bool_and (bool_and (StreamPieces_k1) StreamPieces_k2) StreamPieces_k3) StreamPieces_k4) StreamPieces_k5) (by kernel_rfl)) (by kernel_rfl)) (by kernel_rfl)) (by kernel_rfl)) (by kernel_rfl)) (by kernel_rfl)) (by kernel_rfl)) (by kernel_rfl)) (by kernel_rfl)) (by kernel_rfl)) (by kernel_rfl)) StreamPieces_k6) StreamPieces_k7) StreamPieces_k8) StreamPieces_k9) (by kernel_rfl)) (by kernel_rfl)) (by kernel_rfl)) (by kernel_rfl)
theorem StreamPieces_said : Rows.StreamPiecesUptoSaid :=
 OpenClaim.holds_of_cond 3 Tryz.f3 rfl rfl rfl rfl rfl rfl rfl ⟨rfl, rfl, rfl, rfl, rfl⟩ rfl rfl rfl rfl rfl (by kernel_rfl) Tryz.func3 StreamPieces_facts
  (of_decide_eq_true (by kernel_rfl)) (by unfold Func.isWrapper; first | (rw [if_pos (by decide +kernel)]; kernel_rfl) | (rw [if_neg (by decide +kernel)]; exact ⟨rfl, rfl⟩))
  (fun os started H enc _ F => StreamPieces_upto os started H enc F)

theorem StreamPieces_plain (f : FuncId) (fn : Func) (hf : Tryz.pinned.checked.prog.funcNamed "portcullis/portcullislaw26.StreamPieces" = some f) (hfn : Tryz.pinned.checked.prog.funcs[f]? = some fn) :
  true = Tryz.pinned.checked.prog.looks [] ∧ ∀ (j : Nat) t, fn.params[j]? = some t → Tryz.pinned.checked.prog.wantsStandIn t = false := by
 obtain rfl : f = 3 := Option.some.inj ((show Tryz.prog.funcNamed "portcullis/portcullislaw26.StreamPieces" = some 3 by kernel_rfl).symm.trans hf) |>.symm
 obtain rfl : fn = Tryz.f3 := (Option.some.inj (Tryz.func3.symm.trans hfn)).symm
 refine ⟨by kernel_rfl, fun j t ht => ?_⟩
 have hm := Array.mem_of_getElem? ht
 have hm2 : t ∈ ([23, 24, 25, 26, 25, 25] : List Nat) := by
  have : Tryz.f3.params.toList = [23, 24, 25, 26, 25, 25] := by kernel_rfl
  rw [← this]; exact Array.mem_toList_iff.2 hm
 simp only [List.mem_cons, List.not_mem_nil, or_false] at hm2
 rcases hm2 with rfl | rfl | rfl | rfl | rfl | rfl <;> (first | kernel_rfl | rfl)

theorem StreamPieces_holds : Rows.StreamPiecesUptoCardSaid :=
 Claim7.holds_tied_plain_at .later [] _ _ _ _ StreamPieces_said (fun _ h => by cases h) (by kernel_rfl) (fun _ h => by cases h) streamPiecesUpto_row_tie rfl ⟨rfl, rfl⟩ (by kernel_rfl) rfl StreamPieces_plain (by kernel_rfl)

end Go.Proofs.YteedolonhdbieaaGreatDoor
end
