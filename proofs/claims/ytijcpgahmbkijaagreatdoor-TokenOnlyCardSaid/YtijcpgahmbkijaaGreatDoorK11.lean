/- TokenOnly: what is proved and its parts, laid together by a program of ours: To3 To4 RwTokenOnly -/
import Derived.Test.YtijcpgahmbkijaaGreatDoorK10
set_option autoImplicit false
set_option linter.all false
/- Tokens, plain: two unlike ways to one tag have a clash. Own work. -/
section
set_option maxRecDepth 100000
set_option linter.unusedVariables false
namespace Go.Proofs.YtijcpgahmbkijaaGreatDoor
open Go Go.Vc
attribute [local irreducible] macM

theorem cbM_inj {a b : CvM} (ha : a.may) (hb : b.may) (ta : a.typed) (tb : b.typed) (h : cbM a = cbM b) : a = b := by
  have x : cvAt (cbM a) 0 = a := cvAt_cb (R := []) (by simp) ta ha
  have y : cvAt (cbM a) 0 = b := cvAt_cb (R := []) (by simp [h]) tb hb
  exact x.symm.trans y
theorem msg_inj {a b : List Int} (h : msgM a = msgM b) : a = b := by
  have ha : (msgM a).drop 18 = a := rfl
  have hb : (msgM b).drop 18 = b := rfl
  rw [← ha, ← hb, h]
theorem msg_cb {a : List Int} {c : CvM} (hc : c.may) : msgM a ≠ cbM c := by
  intro h
  have x : (msgM a).getD 0 0 = 112 := rfl
  have y : (cbM c).getD 0 0 = IntKind.u8.wrap c.kind := rfl
  obtain ⟨⟨k1, k2⟩, _⟩ := may_small hc
  rw [h, y, wrap_u8_id (by omega)] at x
  omega
theorem pairs_at (secret id : List Int) : ∀ (cs : List CvM) (n : Nat) (hn : n < cs.length), (pairsM secret id cs)[n + 1]? = some ⟨rightM secret id (cs.take n), cbM cs[n], rightM secret id (cs.take (n + 1))⟩ := by
  intro cs n hn
  have e : cs = cs.take (n + 1) ++ cs.drop (n + 1) := (List.take_append_drop _ _).symm
  have key : ∀ (a b : List CvM), ∃ r, pairsM secret id (a ++ b) = pairsM secret id a ++ r := by
    intro a b
    induction b generalizing a with
    | nil => exact ⟨[], by simp⟩
    | cons x b ih =>
      obtain ⟨r, hr⟩ := ih (a ++ [x])
      rw [List.append_assoc, pairsM_snoc, List.append_assoc] at hr
      exact ⟨_, hr⟩
  obtain ⟨r, hr⟩ := key (cs.take (n + 1)) (cs.drop (n + 1))
  rw [← e] at hr
  have hl : (cs.take n).length = n := by rw [List.length_take]; omega
  rw [hr, List.getElem?_append_left (by rw [pairsM_len, List.length_take]; omega), take_snoc _ hn, pairsM_snoc, List.getElem?_append_right (by rw [pairsM_len, hl]; omega), pairsM_len, hl, rightM_snoc]
  simp
theorem pairs_zero (secret id : List Int) (cs : List CvM) : (pairsM secret id cs)[0]? = some ⟨secret, msgM id, rightM secret id []⟩ := rfl
/-- Two ways to one tag: they are the same, or some two pairs clash. -/
theorem two_ways (secret id id2 : List Int) (cs cs2 : List CvM) (h1 : ∀ c ∈ cs, c.may ∧ c.typed) (h2 : ∀ c ∈ cs2, c.may ∧ c.typed) : ∀ (n m : Nat), n ≤ cs.length → m ≤ cs2.length → rightM secret id (cs.take n) = rightM secret id2 (cs2.take m) →
    (n = m ∧ id = id2 ∧ cs.take n = cs2.take m) ∨ ∃ (i k : Nat) (x y : PrM), (pairsM secret id cs)[i]? = some x ∧ (pairsM secret id2 cs2)[k]? = some y ∧ x.tag = y.tag ∧ (x.key ≠ y.key ∨ x.b ≠ y.b)
  | 0, 0, _, _, h => by
    by_cases e : id = id2
    · exact Or.inl ⟨rfl, e, rfl⟩
    · exact Or.inr ⟨0, 0, _, _, pairs_zero _ _ _, pairs_zero _ _ _, h, Or.inr fun y => e (msg_inj y)⟩
  | 0, m + 1, _, hm, h => Or.inr ⟨0, m + 1, _, _, pairs_zero _ _ _, pairs_at _ _ _ m hm, h, Or.inr (msg_cb (h2 _ (List.getElem_mem hm)).1)⟩
  | n + 1, 0, hn, _, h => Or.inr ⟨n + 1, 0, _, _, pairs_at _ _ _ n hn, pairs_zero _ _ _, h, Or.inr fun y => msg_cb (h1 _ (List.getElem_mem hn)).1 y.symm⟩
  | n + 1, m + 1, hn, hm, h => by
    have p := pairs_at secret id cs n hn
    have q := pairs_at secret id2 cs2 m hm
    by_cases e1 : rightM secret id (cs.take n) = rightM secret id2 (cs2.take m)
    · by_cases e2 : cbM cs[n] = cbM cs2[m]
      · rcases two_ways secret id id2 cs cs2 h1 h2 n m (by omega) (by omega) e1 with ⟨a, b, c⟩ | y
        · have x1 := h1 _ (List.getElem_mem hn)
          have x2 := h2 _ (List.getElem_mem hm)
          exact Or.inl ⟨by omega, b, by rw [take_snoc _ hn, take_snoc _ hm, c, cbM_inj x1.1 x2.1 x1.2 x2.2 e2]⟩
        · exact Or.inr y
      · exact Or.inr ⟨n + 1, m + 1, _, _, p, q, h, Or.inr e2⟩
    · exact Or.inr ⟨n + 1, m + 1, _, _, p, q, h, Or.inl e1⟩
theorem chain_bys (cs : List CvM) : ∀ t, isBy t → ∀ x, x ∈ chainM t cs → isBy x.key ∧ isBy x.b := by
  induction cs with
  | nil => intro t _ x hx; cases hx
  | cons c r ih =>
    intro t ht x hx
    rcases List.mem_cons.1 hx with rfl | hx
    · exact ⟨ht, isBy_cb c⟩
    · exact ih _ (isBy_mac _ _) x hx
theorem pairs_bys {secret id : List Int} (cs : List CvM) (hs : isBy secret) (hi : isBy id) : ∀ x, x ∈ pairsM secret id cs → x.tag.length = 32 ∧ isBy x.key ∧ isBy x.b := by
  intro x hx
  refine ⟨pairsM_tags _ _ _ x hx, ?_⟩
  rcases List.mem_cons.1 hx with rfl | hx
  · exact ⟨hs, isBy_msg hi⟩
  · exact chain_bys _ _ (isBy_mac _ _) x hx
/-- What the document's Clash looks for. -/
theorem clash_of {secret id id2 : List Int} {cs cs2 : List CvM} (h1 : ∀ c ∈ cs, c.may ∧ c.typed) (h2 : ∀ c ∈ cs2, c.may ∧ c.typed) (ht : rightM secret id cs = rightM secret id2 cs2) (hn : ¬ (id = id2 ∧ cs = cs2)) :
    ∃ i k, ∃ hi : i < (pairsM secret id cs ++ pairsM secret id2 cs2).length, ∃ hk : k < i, (pairsM secret id cs ++ pairsM secret id2 cs2)[i].tag = (pairsM secret id cs ++ pairsM secret id2 cs2)[k].tag ∧ ((pairsM secret id cs ++ pairsM secret id2 cs2)[i].key ≠ (pairsM secret id cs ++ pairsM secret id2 cs2)[k].key ∨ (pairsM secret id cs ++ pairsM secret id2 cs2)[i].b ≠ (pairsM secret id cs ++ pairsM secret id2 cs2)[k].b) := by
  have := two_ways secret id id2 cs cs2 h1 h2 cs.length cs2.length (Nat.le_refl _) (Nat.le_refl _) (by rw [List.take_length, List.take_length]; exact ht)
  rw [List.take_length, List.take_length] at this
  rcases this with ⟨_, a, b⟩ | ⟨i, k, x, y, hx, hy, et, ed⟩
  · exact absurd ⟨a, b⟩ hn
  · obtain ⟨hi, ei⟩ := List.getElem?_eq_some_iff.1 hx
    obtain ⟨hk, ek⟩ := List.getElem?_eq_some_iff.1 hy
    refine ⟨(pairsM secret id cs).length + k, i, by rw [List.length_append]; omega, by omega, ?_⟩
    have g1 : (pairsM secret id cs ++ pairsM secret id2 cs2)[(pairsM secret id cs).length + k]'(by rw [List.length_append]; omega) = y := by
      rw [List.getElem_append_right (by omega)]
      simpa using ek
    have g2 : (pairsM secret id cs ++ pairsM secret id2 cs2)[i]'(by rw [List.length_append]; omega) = x := by
      rw [List.getElem_append_left hi]; exact ei
    rw [g1, g2]
    exact ⟨et.symm, ed.imp (fun a b => a b.symm) (fun a b => a b.symm)⟩
end Go.Proofs.YtijcpgahmbkijaaGreatDoor
end

/- TokenOnly: walked. Own work. -/
section
set_option maxRecDepth 100000
set_option linter.unusedVariables false
namespace Go.Proofs.YtijcpgahmbkijaaGreatDoor
open Go Go.Vc
attribute [local irreducible] macM

theorem tok_tag2 {key : Int} {ip cp : Option Addr} {il ic cl cc : Nat} {tag tag2 : List Int} (ht : tag.length = 32) (ht2 : tag2.length = 32) : splice (tokL key ip il ic cp cl cc tag) 3 (ints .u8 tag2) = tokL key ip il ic cp cl cc tag2 := by
  have e1 : splice (tokL key ip il ic cp cl cc (zeros 32)) 3 (ints .u8 tag) = tokL key ip il ic cp cl cc tag := tok_tag ht
  have e2 : splice (tokL key ip il ic cp cl cc (zeros 32)) 3 (ints .u8 tag2) = tokL key ip il ic cp cl cc tag2 := tok_tag ht2
  have l0 : (tokL key ip il ic cp cl cc (zeros 32)).length = 35 := by simp [zeros]
  have l1 : (tokL key ip il ic cp cl cc tag).length = 35 := by simp [ht]
  rw [← e2]
  apply List.ext_getElem?
  intro x
  rw [splice_get, splice_get, ints_length, ht2, l0, l1]
  by_cases c : 3 ≤ x ∧ x < 3 + 32 ∧ x < 35
  · rw [if_pos c, if_pos c]
  · rw [if_neg c, if_neg c, ← e1, splice_get, ints_length, ht, l0, if_neg c]
theorem prsV_one (P : List PrM) : ∀ v, v ∈ prsV P → v.oneCell' = true := by
  induction P with
  | nil => intro v hv; cases hv
  | cons x r ih =>
    intro v hv
    rcases List.mem_append.1 hv with hv | hv
    · exact prV_one x v hv
    · exact ih v hv
theorem new1 (k : Int) (s : List Int) (h : 0 ≤ k ∧ k < 64) : newM [(k, s)] = if s.length < 1 then some (4, 0) else if 256 < s.length then some (4, 0) else none := by
  have e : newM [(k, s)] = if badM [] (k, s) = 0 then none else some (badM [] (k, s), 0) := rfl
  rw [e]
  have b : badM [] (k, s) = if s.length < 1 then 4 else if 256 < s.length then 4 else 0 := by
    unfold badM
    dsimp only
    rw [if_neg (by omega), if_neg (by omega)]
    rfl
  rw [b]
  by_cases c : s.length < 1
  · rw [if_pos c, if_pos c]; rfl
  rw [if_neg c, if_neg c]
  by_cases d : 256 < s.length
  · rw [if_pos d, if_pos d]; rfl
  · rw [if_neg d, if_neg d]; rfl
section
variable {h0 h : H} {A : List Ent} {i j d r m : Nat}
theorem TokenOnly_sp {Q : Bool → H → Prop} (hg : hc h0 ⟨0, 0, none⟩ = some errTypeV) {sp ip ip2 cp cp2 : Option Addr} {sl sc il ic il2 ic2 cl cc cl2 cc2 : Nat} {secret id id2 : List Int} {cs cs2 : List CvM}
    (rs : hsv h0 sp 1 sl (ints .u8 secret)) (hsb : isBy secret) (hsl : sl < 2 ^ 47) (ri : hsv h0 ip 1 il (ints .u8 id)) (hib : isBy id) (hil : il < 2 ^ 47) (ri2 : hsv h0 ip2 1 il2 (ints .u8 id2)) (hib2 : isBy id2) (hil2 : il2 < 2 ^ 47)
    (rc : hsv h0 cp 5 cl (cvsV cs)) (ty : ∀ c ∈ cs, c.typed) (rc2 : hsv h0 cp2 5 cl2 (cvsV cs2)) (ty2 : ∀ c ∈ cs2, c.typed) (hs : Sat h0 A h)
    (k : ∀ h', Sat h0 [] h' → Q true h') : F_portcullislaw24_TokenOnly sp sl sc ip il ic ip2 il2 ic2 cp cl cc cp2 cl2 cc2 Q h := by
  unfold F_portcullislaw24_TokenOnly G_portcullislaw24_TokenOnly
  simp only [add_mk, Nat.zero_add, List.append_nil]
  have hssl : secret.length = sl := by have := rs.1; simpa using this
  refine awake24_sp hg hs ?_
  intro h1 hs
  rw [if_neg (by decide)]
  intro sb _ hn; replace hs := Sat.new hs hn; clear hn
  have hL : [(⟨3, secret, sp, sc⟩ : SR)].map SR.kv = [(3, secret)] := rfl
  refine keysU_sp hs hL ?_ (by decide) ?_
  · intro h' hs'
    refine ⟨rfl, fun x hx => ?_⟩
    have hx0 : x = 0 := by simp at hx; exact hx
    subst hx0
    refine ⟨_, rfl, ?_, ?_, ?_, hsb, by dsimp only [List.getElem_cons_zero]; omega⟩
    · exact hs'.ld (i := 0) .z rfl
    · show hc h' ⟨sb, 0 * 2 + 1, none⟩ = some (.slice sp secret.length sc)
      rw [hssl]
      exact hs'.ld (i := 0) .z rfl
    · show hsv h' sp 1 secret.length (ints .u8 secret)
      rw [hssl]
      exact hs'.base rs
  intro o e ei h2 B0 hs hB
  rw [new1 3 secret (by decide)] at hB
  intro J34 hJ34
  rcases hB with ⟨a, rfl⟩ | ⟨a, rfl, r, m, R, rfl, eR, gR, rfl⟩
  · have he : e = 4 ∧ (sl < 1 ∨ 256 < sl) := by
      by_cases c : secret.length < 1
      · rw [if_pos c] at a; injection a with a; injection a with a1 a2; exact ⟨a1.symm, Or.inl (by omega)⟩
      · rw [if_neg c] at a
        by_cases d : 256 < secret.length
        · rw [if_pos d] at a; injection a with a; injection a with a1 a2; exact ⟨a1.symm, Or.inr (by omega)⟩
        · rw [if_neg d] at a; cases a
    obtain ⟨rfl, hb⟩ := he
    rw [if_pos (by decide), ltI_eq]
    by_cases c : sl < 1
    · rw [if_pos (by rw [decide_eq_true_iff]; omega), if_pos (by decide)]
      exact k _ hs.nil
    · rw [if_neg (by rw [decide_eq_true_iff]; omega), ltI_eq, if_pos (by rw [decide_eq_true_iff]; omega), if_pos (by decide)]
      exact k _ hs.nil
  have hs1 : 1 ≤ sl ∧ sl ≤ 256 := by
    by_cases c : secret.length < 1
    · rw [if_pos c] at a; cases a
    · rw [if_neg c] at a
      by_cases d : 256 < secret.length
      · rw [if_pos d] at a; cases a
      · omega
  rw [if_neg (by decide), if_neg (by simp)]
  apply hJ34
  clear hJ34 J34 a
  refine ⟨_, rfl, ?_⟩
  replace hs : Sat h0 (ringP r m R ++ []) h2 := by
    rw [List.append_nil]
    exact hs.sub (List.sublist_append_left _ _)
  have rRin : ∀ {C : List Ent} {h' : H}, Sat h0 (C ++ (ringP r m R ++ [])) h' → ∀ x, x ∈ R → hsv h' x.p 1 x.bytes.length (ints .u8 x.bytes) := by
    intro C h' hs' x hx
    have : ∃ y, At (C ++ (ringP r m R ++ [])) y x.sl := At.mem (List.mem_append_right _ (List.mem_append_left _ (List.mem_cons_of_mem _ (List.mem_cons_of_mem _ (List.mem_map_of_mem hx)))))
    obtain ⟨y, ay⟩ := this
    exact hs'.sv ay
  refine issued_sp (R := R) (secret := secret) (id := id) (cs := cs) hs (i := 0) (j := 1) .z (.s .z) gR eR (fun x hx h' hs' => rRin (C := []) hs' x hx) (fun h' hs' => hs'.base ri) (fun h' hs' => hs'.base rc) hil ?_ ?_
  · intro K p1 l1 c1 p2 l2 c2 T h3 hT hs
    intro xb _ hn; replace hs := Sat.new hs hn; clear hn
    refine ⟨Sat.can hs (i := 0) .z (by simp [zeros]), ?_⟩
    intro h4 e4
    replace hs := Sat.wra (xs := tokL K p1 l1 c1 p2 l2 c2 T) hs (i := 0) .z e4 (by simp [zeros, hT])
    clear e4
    simp only [put_zero] at hs
    refine ⟨_, rfl, ?_⟩
    have aft : ∀ (K2 : Int) (q1 : Option Addr) (l1 d1 : Nat) (q2 : Option Addr) (l2 d2 : Nat) (T2 : List Int) (b : Bool) (B : List Ent) h', T2.length = 32 → Sat h0 B h' → ∀ (n63 : Nat) (h64 : H), hnew h' n63 tok0 h64 → hcan h64 ⟨n63, 0, none⟩ 35 ∧ ∀ h66 : H, h66 = hwr h64 ⟨n63, 0, none⟩ (tokL K2 q1 l1 d1 q2 l2 d2 T2) → Q true h66 := by
      intro K2 q1 l1 d1 q2 l2 d2 T2 b B h' hT2 hs yb _ hn; replace hs := Sat.new hs hn; clear hn
      refine ⟨Sat.can hs (i := 0) .z (by simp [zeros]), ?_⟩
      intro h6 e6
      replace hs := Sat.wra (xs := tokL K2 q1 l1 d1 q2 l2 d2 T2) hs (i := 0) .z e6 (by simp [zeros, hT2])
      exact k _ hs.nil
    refine issued_sp (R := R) (secret := secret) (id := id2) (cs := cs2) hs (i := 1) (j := 2) (.s .z) (.s (.s .z)) gR eR (fun x hx h' hs' => rRin (C := [_]) hs' x hx) (fun h' hs' => hs'.base ri2) (fun h' hs' => hs'.base rc2) hil2 ?_ ?_
    · intro K2 q1 m1 d1 q2 m2 d2 T2 h5 hT2 hs
      intro yb h6 hn
      have := aft K2 q1 m1 d1 q2 m2 d2 T2 false _ _ hT2 hs yb h6 hn
      refine ⟨this.1, fun h7 e7 => ?_⟩
      intro J68 hJ68
      rw [if_pos (by decide)]
      exact this.2 h7 e7
    · intro _ es _ _ q1 d1 q2 d2 B h5 _ _ hs
      intro yb h6 hn
      have := aft 3 q1 il2 d1 q2 es.length d2 (rightM secret id2 es) true _ _ (rightM_len _ _ _) hs yb h6 hn
      refine ⟨this.1, fun h7 e7 => ?_⟩
      intro J68 hJ68
      rw [if_pos (by decide)]
      exact this.2 h7 e7
  intro hil64 ds hds hdl p1 c1 p2 c2 B h3 r1 r2 hs
  intro xb _ hn; replace hs := Sat.new hs hn; clear hn
  refine ⟨Sat.can hs (i := 0) .z (by simp [zeros]), ?_⟩
  intro h4 e4
  replace hs := Sat.wra (xs := tokL 3 p1 il c1 p2 ds.length c2 (rightM secret id ds)) hs (i := 0) .z e4 (by simp [zeros, rightM_len])
  clear e4
  simp only [put_zero] at hs
  refine ⟨_, rfl, ?_⟩
  obtain ⟨l1, hl1⟩ : ∃ l1, l1 = il := ⟨_, rfl⟩
  obtain ⟨y0, a0⟩ : ∃ y, At (blk xb (tokL 3 p1 il c1 p2 ds.length c2 (rightM secret id ds)) :: (B ++ (ringP r m R ++ []))) y (blk r [.map (some m)]) := At.mem (List.mem_cons_of_mem _ (List.mem_append_right _ (by simp)))
  obtain ⟨y1, a1⟩ : ∃ y, At (blk xb (tokL 3 p1 il c1 p2 ds.length c2 (rightM secret id ds)) :: (B ++ (ringP r m R ++ []))) y (mapE m (R.map SR.ent)) := At.mem (List.mem_cons_of_mem _ (List.mem_append_right _ (by simp)))
  refine issued_sp (R := R) (secret := secret) (id := id2) (cs := cs2) hs a0 a1 gR eR (fun x hx h' hs' => rRin (C := blk xb (tokL 3 p1 il c1 p2 ds.length c2 (rightM secret id ds)) :: B) (by rw [List.cons_append]; exact hs') x hx) (fun h' hs' => hs'.base ri2) (fun h' hs' => hs'.base rc2) hil2 ?_ ?_
  · intro K2 q1 m1 d1 q2 m2 d2 T2 h5 hT2 hs
    intro yb _ hn; replace hs := Sat.new hs hn; clear hn
    refine ⟨Sat.can hs (i := 0) .z (by simp [zeros]), ?_⟩
    intro h6 e6
    replace hs := Sat.wra (xs := tokL K2 q1 m1 d1 q2 m2 d2 T2) hs (i := 0) .z e6 (by simp [zeros, hT2])
    clear e6
    intro J68 hJ68
    rw [if_neg (by decide), if_pos (by decide)]
    exact k _ hs.nil
  intro hil264 es hes hel q1 d1 q2 d2 B2 h5 r3 r4 hs
  intro yb _ hn; replace hs := Sat.new hs hn; clear hn
  refine ⟨Sat.can hs (i := 0) .z (by simp [zeros]), ?_⟩
  intro h6 e6
  replace hs := Sat.wra (xs := tokL 3 q1 il2 d1 q2 es.length d2 (rightM secret id2 es)) hs (i := 0) .z e6 (by simp [zeros, rightM_len])
  clear e6
  simp only [put_zero] at hs
  intro J68 hJ68
  rw [if_neg (by decide), if_neg (by decide)]
  apply hJ68
  clear hJ68 J68
  obtain ⟨C, hC⟩ : ∃ C, C = B2 ++ B := ⟨_, rfl⟩
  replace hs : Sat h0 (blk yb (tokL 3 q1 il2 d1 q2 es.length d2 (rightM secret id2 es)) :: blk xb (tokL 3 p1 il c1 p2 ds.length c2 (rightM secret id ds)) :: C) h6 := by
    rw [hC]
    refine Sat.perm (hs.sub (B := blk yb (tokL 3 q1 il2 d1 q2 es.length d2 (rightM secret id2 es)) :: (B2 ++ (blk xb (tokL 3 p1 il c1 p2 ds.length c2 (rightM secret id ds)) :: B))) ?_) ?_
    · refine List.Sublist.cons_cons _ ((List.Sublist.refl B2).append ?_)
      exact List.Sublist.cons_cons _ (List.sublist_append_left _ _)
    · exact List.Perm.cons _ List.perm_middle
  replace r1 : ∀ h', Sat h0 C h' → hsv h' p1 1 il (ints .u8 id) := fun h' hs' => r1 _ ((hC ▸ hs').sub (List.sublist_append_right _ _))
  replace r2 : ∀ h', Sat h0 C h' → hsv h' p2 5 ds.length (cvsV ds) := fun h' hs' => r2 _ ((hC ▸ hs').sub (List.sublist_append_right _ _))
  replace r3 : ∀ h', Sat h0 C h' → hsv h' q1 1 il2 (ints .u8 id2) := fun h' hs' => r3 _ ((hC ▸ hs').sub (List.sublist_append_left _ _))
  replace r4 : ∀ h', Sat h0 C h' → hsv h' q2 5 es.length (cvsV es) := fun h' hs' => r4 _ ((hC ▸ hs').sub (List.sublist_append_left _ _))
  obtain ⟨m1, hm1⟩ : ∃ m1, m1 = il2 := ⟨_, rfl⟩
  rw [← hl1, ← hm1] at hs
  rw [← hl1] at r1
  rw [← hm1] at r3
  have hdt : ∀ c ∈ ds, c.may ∧ c.typed := fun c hc => ⟨(hds c hc).1, ty c (hds c hc).2⟩
  have het : ∀ c ∈ es, c.may ∧ c.typed := fun c hc => ⟨(hes c hc).1, ty2 c (hes c hc).2⟩
  have Xl := rightM_len secret id ds
  have Yl := rightM_len secret id2 es
  intro J70 hJ70
  have fin : ∀ (nx ny : Nat) (vx : Option Addr) (wx : Nat) (vy : Option Addr) (wy : Nat) h', Sat h0 (blk nx (tokL 3 p1 l1 c1 vx ds.length wx (rightM secret id ds)) :: blk ny (tokL 3 q1 m1 d1 vy es.length wy (rightM secret id2 es)) :: slE vx ds.length wx 5 (cvsV ds) :: slE vy es.length wy 5 (cvsV es) :: blk yb (tokL 3 q1 m1 d1 q2 es.length d2 (rightM secret id2 es)) :: blk xb (tokL 3 p1 l1 c1 p2 ds.length c2 (rightM secret id ds)) :: C) h' → J70 [.dv (.addr ⟨nx, 0, none⟩), .dv (.addr ⟨ny, 0, none⟩)] h' := by
    intro nx ny vx wx vy wy h7 hs
    apply hJ70
    clear hJ70
    simp only [add_mk, Nat.zero_add]
    refine ⟨_, Xl, tok_row hs (i := 0) .z, ?_⟩
    refine ⟨Sat.can hs (i := 1) (.s .z) (by simp [Yl]), ?_⟩
    intro h8 e8
    replace hs := Sat.wr hs (i := 1) (.s .z) e8
    clear e8
    rw [tok_tag2 Yl Xl] at hs
    simp only [put_succ, put_zero] at hs
    refine ⟨_, hs.ld (i := 0) .z rfl, _, _, _, hs.ld (i := 0) .z rfl, _, _, _, hs.ld (i := 0) .z rfl, _, Xl, tok_row hs (i := 0) .z, ?_⟩
    refine ⟨_, hs.ld (i := 1) (.s .z) rfl, _, _, _, hs.ld (i := 1) (.s .z) rfl, _, _, _, hs.ld (i := 1) (.s .z) rfl, _, Xl, tok_row hs (i := 1) (.s .z), ?_⟩
    refine rsame2_sp (id := id) (id2 := id2) (cs := ds) (cs2 := es) hs Xl (by omega) hib hib2 (fun h' hs' => r1 _ hs'.drop.drop.drop.drop.drop.drop) (fun h' hs' => hs'.sv (i := 2) (.s (.s .z))) (fun h' hs' => r3 _ hs'.drop.drop.drop.drop.drop.drop) (fun h' hs' => hs'.sv (i := 3) (.s (.s (.s .z)))) ?_
    intro b h9 hb hs
    refine ⟨_, Xl, tok_row hs (i := 5) (.s (.s (.s (.s (.s .z))))), _, Yl, tok_row hs (i := 4) (.s (.s (.s (.s .z)))), ?_⟩
    by_cases cb : ((rightM secret id ds == rightM secret id2 es) == b) = true
    · rw [if_pos cb]
      refine ⟨_, Xl, tok_row hs (i := 5) (.s (.s (.s (.s (.s .z))))), _, _, _, hs.ld (i := 0) .z rfl, ?_⟩
      refine rright_sp (secret := secret) (id := id) (cs := ds) hs hsb hib (by omega) (by omega) (by omega) (fun h' hs' => hs'.base rs) (fun h' hs' => hs'.base ri) (fun h' hs' => hs'.sv (i := 2) (.s (.s .z))) ?_
      intro h10 hs
      refine ⟨tok_row hs (i := 5) (.s (.s (.s (.s (.s .z))))), ?_⟩
      rw [if_pos (by simp)]
      refine ⟨_, Yl, tok_row hs (i := 4) (.s (.s (.s (.s .z)))), _, _, _, hs.ld (i := 1) (.s .z) rfl, ?_⟩
      refine rright_sp (secret := secret) (id := id2) (cs := es) hs hsb hib2 (by omega) (by omega) (by omega) (fun h' hs' => hs'.base rs) (fun h' hs' => hs'.base ri2) (fun h' hs' => hs'.sv (i := 3) (.s (.s (.s .z)))) ?_
      intro h11 hs
      refine ⟨tok_row hs (i := 4) (.s (.s (.s (.s .z)))), ?_⟩
      rw [show (rightM secret id2 es == rightM secret id2 es) = true by simp]
      exact k _ hs.nil
    · rw [if_neg cb]
      cases b with
      | true =>
        exfalso
        obtain ⟨e1, e2⟩ := hb.1 rfl
        apply cb
        rw [e1, e2]
        simp
      | false =>
        rw [if_pos (by decide)]
        have ht : rightM secret id ds = rightM secret id2 es := by
          by_cases c : rightM secret id ds = rightM secret id2 es
          · exact c
          · exfalso
            apply cb
            rw [beq_eq_false_iff_ne.2 c]
            rfl
        have hne : ¬ (id = id2 ∧ ds = es) := fun y => by have := hb.2 y; cases this
        have clash := clash_of hdt het ht hne
        refine ⟨_, _, _, hs.ld (i := 0) .z rfl, _, _, _, hs.ld (i := 1) (.s .z) rfl, ?_⟩
        refine rpairs_sp (secret := secret) (id := id) (cs := ds) hs hsb hib (by omega) (by omega) (by omega) (fun h' hs' => hs'.base rs) (fun h' hs' => hs'.base ri) (fun h' hs' => hs'.sv (i := 2) (.s (.s .z))) ?_
        intro pp pc h10 hs
        refine ⟨hcs_one (hs.ld (i := 2) (.s (.s .z)) rfl), ?_⟩
        refine rpairs_sp (secret := secret) (id := id2) (cs := es) hs hsb hib2 (by omega) (by omega) (by omega) (fun h' hs' => hs'.base rs) (fun h' hs' => hs'.base ri2) (fun h' hs' => hs'.sv (i := 4) (.s (.s (.s (.s .z))))) ?_
        intro pp2 pc2 h11 hs
        have Pt := pairs_bys ds hsb hib
        have Pt2 := pairs_bys es hsb hib2
        refine ⟨_, hs.sv (i := 0) .z, ?_⟩
        refine Sat.app hs (i := 1) (vs := prsV (pairsM secret id2 es)) (.s .z) (by rw [prsV_len fun x hx => (Pt2 x hx).1, pairsM_len]) (by simp [zeros]) ?_ (by omega) ?_
        · intro v hv
          exact prsV_one _ v hv
        intro pp3 pc3 h12 hs
        simp only [put_succ, put_zero] at hs
        rw [← prsV_app] at hs
        refine rclash_sp (P := pairsM secret id ds ++ pairsM secret id2 es) hs ?_ (fun h' hs' => hs'.sv (i := 1) (.s .z)) (by omega) clash ?_
        · intro x hx
          rcases List.mem_append.1 hx with hx | hx
          · exact Pt x hx
          · exact Pt2 x hx
        · exact k _ hs.nil
  clear hJ70
  refine ⟨_, hs.ld (i := 1) (.s .z) rfl, _, _, _, hs.ld (i := 1) (.s .z) rfl, _, _, _, hs.ld (i := 1) (.s .z) rfl, _, Xl, tok_row hs (i := 1) (.s .z), ?_⟩
  refine ⟨_, hs.ld (i := 0) .z rfl, _, _, _, hs.ld (i := 0) .z rfl, _, _, _, hs.ld (i := 0) .z rfl, _, Yl, tok_row hs (i := 0) .z, ?_⟩
  refine ⟨?_, ?_, ?_⟩
  · skip
    refine back_sp (cs := ds) hs (rightM_len _ _ _) (by omega) (fun h' hs' => r2 _ hs'.drop.drop) ?_
    intro vx wx hx hs
    refine ⟨Sat.cs hs (i := 1) (.s .z) (by rw [List.drop_zero, List.take_of_length_le (Nat.le_refl _)]), ?_⟩
    refine ⟨?_, ?_, ?_⟩
    · skip
      refine back_sp (cs := es) hs (rightM_len _ _ _) (by omega) (fun h' hs' => r4 _ hs'.drop.drop.drop) ?_
      intro vy wy hy hs
      refine ⟨?_, ?_⟩
      · skip
        intro n166 _ hn; replace hs := Sat.new hs hn; clear hn
        intro n169 _ hn; replace hs := Sat.new hs hn; clear hn
        refine ⟨Sat.can hs (i := 1) (.s .z) (by simp [zeros]), ?_⟩
        intro hw ew
        replace hs := Sat.wra (xs := tokL 3 p1 l1 c1 vx ds.length wx (rightM secret id ds)) hs (i := 1) (.s .z) ew (by simp [zeros, rightM_len])
        clear ew
        simp only [put_succ, put_zero] at hs
        refine ⟨Sat.can hs (i := 0) .z (by simp [zeros]), ?_⟩
        intro hw ew
        replace hs := Sat.wra (xs := tokL 3 q1 m1 d1 vy es.length wy (rightM secret id2 es)) hs (i := 0) .z ew (by simp [zeros, rightM_len])
        clear ew
        simp only [put_succ, put_zero] at hs
        replace hs := hs.front (e := blk xb (tokL 3 p1 l1 c1 p2 ds.length c2 (rightM secret id ds))) (i := 5) (.s (.s (.s (.s (.s .z)))))
        simp only [del] at hs
        replace hs := hs.front (e := blk yb (tokL 3 q1 m1 d1 q2 es.length d2 (rightM secret id2 es))) (i := 5) (.s (.s (.s (.s (.s .z)))))
        simp only [del] at hs
        replace hs := hs.front (e := slE vy es.length wy 5 (cvsV es)) (i := 4) (.s (.s (.s (.s .z))))
        simp only [del] at hs
        replace hs := hs.front (e := slE vx ds.length wx 5 (cvsV ds)) (i := 5) (.s (.s (.s (.s (.s .z)))))
        simp only [del] at hs
        replace hs := hs.front (e := blk n169 (tokL 3 q1 m1 d1 vy es.length wy (rightM secret id2 es))) (i := 4) (.s (.s (.s (.s .z))))
        simp only [del] at hs
        replace hs := hs.front (e := blk n166 (tokL 3 p1 l1 c1 vx ds.length wx (rightM secret id ds))) (i := 5) (.s (.s (.s (.s (.s .z)))))
        simp only [del] at hs
        exact fin n166 n169 vx wx vy wy _ hs
      · skip
        intro n176 _ hn; replace hs := Sat.new hs hn; clear hn
        intro n179 _ hn; replace hs := Sat.new hs hn; clear hn
        refine ⟨Sat.can hs (i := 0) .z (by simp [zeros]), ?_⟩
        intro hw ew
        replace hs := Sat.wra (xs := tokL 3 p1 l1 c1 vx ds.length wx (rightM secret id ds)) hs (i := 0) .z ew (by simp [zeros, rightM_len])
        clear ew
        simp only [put_succ, put_zero] at hs
        refine ⟨Sat.can hs (i := 1) (.s .z) (by simp [zeros]), ?_⟩
        intro hw ew
        replace hs := Sat.wra (xs := tokL 3 q1 m1 d1 vy es.length wy (rightM secret id2 es)) hs (i := 1) (.s .z) ew (by simp [zeros, rightM_len])
        clear ew
        simp only [put_succ, put_zero] at hs
        replace hs := hs.front (e := blk xb (tokL 3 p1 l1 c1 p2 ds.length c2 (rightM secret id ds))) (i := 5) (.s (.s (.s (.s (.s .z)))))
        simp only [del] at hs
        replace hs := hs.front (e := blk yb (tokL 3 q1 m1 d1 q2 es.length d2 (rightM secret id2 es))) (i := 5) (.s (.s (.s (.s (.s .z)))))
        simp only [del] at hs
        replace hs := hs.front (e := slE vy es.length wy 5 (cvsV es)) (i := 4) (.s (.s (.s (.s .z))))
        simp only [del] at hs
        replace hs := hs.front (e := slE vx ds.length wx 5 (cvsV ds)) (i := 5) (.s (.s (.s (.s (.s .z)))))
        simp only [del] at hs
        replace hs := hs.front (e := blk n176 (tokL 3 q1 m1 d1 vy es.length wy (rightM secret id2 es))) (i := 5) (.s (.s (.s (.s (.s .z)))))
        simp only [del] at hs
        replace hs := hs.front (e := blk n179 (tokL 3 p1 l1 c1 vx ds.length wx (rightM secret id ds))) (i := 5) (.s (.s (.s (.s (.s .z)))))
        simp only [del] at hs
        exact fin n179 n176 vx wx vy wy _ hs
    · skip
      intro n186 _ hn; replace hs := Sat.new hs hn; clear hn
      refine ⟨Sat.cs hs (i := 2) (.s (.s .z)) (by rw [List.drop_zero, List.take_of_length_le (Nat.le_refl _)]), ?_⟩
      refine ⟨?_, ?_⟩
      · skip
        refine back_sp (cs := es) hs (rightM_len _ _ _) (by omega) (fun h' hs' => r4 _ hs'.drop.drop.drop.drop) ?_
        intro vy wy hy hs
        intro n198 _ hn; replace hs := Sat.new hs hn; clear hn
        refine ⟨Sat.can hs (i := 2) (.s (.s .z)) (by simp [zeros]), ?_⟩
        intro hw ew
        replace hs := Sat.wra (xs := tokL 3 p1 l1 c1 vx ds.length wx (rightM secret id ds)) hs (i := 2) (.s (.s .z)) ew (by simp [zeros, rightM_len])
        clear ew
        simp only [put_succ, put_zero] at hs
        refine ⟨Sat.can hs (i := 0) .z (by simp [zeros]), ?_⟩
        intro hw ew
        replace hs := Sat.wra (xs := tokL 3 q1 m1 d1 vy es.length wy (rightM secret id2 es)) hs (i := 0) .z ew (by simp [zeros, rightM_len])
        clear ew
        simp only [put_succ, put_zero] at hs
        replace hs := hs.front (e := blk xb (tokL 3 p1 l1 c1 p2 ds.length c2 (rightM secret id ds))) (i := 5) (.s (.s (.s (.s (.s .z)))))
        simp only [del] at hs
        replace hs := hs.front (e := blk yb (tokL 3 q1 m1 d1 q2 es.length d2 (rightM secret id2 es))) (i := 5) (.s (.s (.s (.s (.s .z)))))
        simp only [del] at hs
        replace hs := hs.front (e := slE vy es.length wy 5 (cvsV es)) (i := 3) (.s (.s (.s .z)))
        simp only [del] at hs
        replace hs := hs.front (e := slE vx ds.length wx 5 (cvsV ds)) (i := 5) (.s (.s (.s (.s (.s .z)))))
        simp only [del] at hs
        replace hs := hs.front (e := blk n198 (tokL 3 q1 m1 d1 vy es.length wy (rightM secret id2 es))) (i := 4) (.s (.s (.s (.s .z))))
        simp only [del] at hs
        replace hs := hs.front (e := blk n186 (tokL 3 p1 l1 c1 vx ds.length wx (rightM secret id ds))) (i := 5) (.s (.s (.s (.s (.s .z)))))
        simp only [del] at hs
        exact fin n186 n198 vx wx vy wy _ hs
      · skip
        intro n205 _ hn; replace hs := Sat.new hs hn; clear hn
        refine ⟨Sat.cs hs (i := 3) (.s (.s (.s .z))) (by rw [List.drop_zero, List.take_of_length_le (Nat.le_refl _)]), ?_⟩
        refine back_sp (cs := es) hs (rightM_len _ _ _) (by omega) (fun h' hs' => r4 _ hs'.drop.drop.drop.drop.drop) ?_
        intro vy wy hy hs
        refine ⟨Sat.can hs (i := 2) (.s (.s .z)) (by simp [zeros]), ?_⟩
        intro hw ew
        replace hs := Sat.wra (xs := tokL 3 p1 l1 c1 vx ds.length wx (rightM secret id ds)) hs (i := 2) (.s (.s .z)) ew (by simp [zeros, rightM_len])
        clear ew
        simp only [put_succ, put_zero] at hs
        refine ⟨Sat.can hs (i := 1) (.s .z) (by simp [zeros]), ?_⟩
        intro hw ew
        replace hs := Sat.wra (xs := tokL 3 q1 m1 d1 vy es.length wy (rightM secret id2 es)) hs (i := 1) (.s .z) ew (by simp [zeros, rightM_len])
        clear ew
        simp only [put_succ, put_zero] at hs
        replace hs := hs.front (e := blk xb (tokL 3 p1 l1 c1 p2 ds.length c2 (rightM secret id ds))) (i := 5) (.s (.s (.s (.s (.s .z)))))
        simp only [del] at hs
        replace hs := hs.front (e := blk yb (tokL 3 q1 m1 d1 q2 es.length d2 (rightM secret id2 es))) (i := 5) (.s (.s (.s (.s (.s .z)))))
        simp only [del] at hs
        replace hs := hs.front (e := slE vy es.length wy 5 (cvsV es)) (i := 2) (.s (.s .z))
        simp only [del] at hs
        replace hs := hs.front (e := slE vx ds.length wx 5 (cvsV ds)) (i := 5) (.s (.s (.s (.s (.s .z)))))
        simp only [del] at hs
        replace hs := hs.front (e := blk n205 (tokL 3 q1 m1 d1 vy es.length wy (rightM secret id2 es))) (i := 4) (.s (.s (.s (.s .z))))
        simp only [del] at hs
        replace hs := hs.front (e := blk n186 (tokL 3 p1 l1 c1 vx ds.length wx (rightM secret id ds))) (i := 5) (.s (.s (.s (.s (.s .z)))))
        simp only [del] at hs
        exact fin n186 n205 vx wx vy wy _ hs
    · skip
      intro n221 _ hn; replace hs := Sat.new hs hn; clear hn
      refine ⟨Sat.cs hs (i := 2) (.s (.s .z)) (by rw [List.drop_zero, List.take_of_length_le (Nat.le_refl _)]), ?_⟩
      refine ⟨?_, ?_⟩
      · skip
        refine back_sp (cs := es) hs (rightM_len _ _ _) (by omega) (fun h' hs' => r4 _ hs'.drop.drop.drop.drop) ?_
        intro vy wy hy hs
        intro n233 _ hn; replace hs := Sat.new hs hn; clear hn
        refine ⟨Sat.can hs (i := 0) .z (by simp [zeros]), ?_⟩
        intro hw ew
        replace hs := Sat.wra (xs := tokL 3 p1 l1 c1 vx ds.length wx (rightM secret id ds)) hs (i := 0) .z ew (by simp [zeros, rightM_len])
        clear ew
        simp only [put_succ, put_zero] at hs
        refine ⟨Sat.can hs (i := 2) (.s (.s .z)) (by simp [zeros]), ?_⟩
        intro hw ew
        replace hs := Sat.wra (xs := tokL 3 q1 m1 d1 vy es.length wy (rightM secret id2 es)) hs (i := 2) (.s (.s .z)) ew (by simp [zeros, rightM_len])
        clear ew
        simp only [put_succ, put_zero] at hs
        replace hs := hs.front (e := blk xb (tokL 3 p1 l1 c1 p2 ds.length c2 (rightM secret id ds))) (i := 5) (.s (.s (.s (.s (.s .z)))))
        simp only [del] at hs
        replace hs := hs.front (e := blk yb (tokL 3 q1 m1 d1 q2 es.length d2 (rightM secret id2 es))) (i := 5) (.s (.s (.s (.s (.s .z)))))
        simp only [del] at hs
        replace hs := hs.front (e := slE vy es.length wy 5 (cvsV es)) (i := 3) (.s (.s (.s .z)))
        simp only [del] at hs
        replace hs := hs.front (e := slE vx ds.length wx 5 (cvsV ds)) (i := 5) (.s (.s (.s (.s (.s .z)))))
        simp only [del] at hs
        replace hs := hs.front (e := blk n221 (tokL 3 q1 m1 d1 vy es.length wy (rightM secret id2 es))) (i := 5) (.s (.s (.s (.s (.s .z)))))
        simp only [del] at hs
        replace hs := hs.front (e := blk n233 (tokL 3 p1 l1 c1 vx ds.length wx (rightM secret id ds))) (i := 5) (.s (.s (.s (.s (.s .z)))))
        simp only [del] at hs
        exact fin n233 n221 vx wx vy wy _ hs
      · skip
        intro n240 _ hn; replace hs := Sat.new hs hn; clear hn
        refine ⟨Sat.cs hs (i := 3) (.s (.s (.s .z))) (by rw [List.drop_zero, List.take_of_length_le (Nat.le_refl _)]), ?_⟩
        refine back_sp (cs := es) hs (rightM_len _ _ _) (by omega) (fun h' hs' => r4 _ hs'.drop.drop.drop.drop.drop) ?_
        intro vy wy hy hs
        refine ⟨Sat.can hs (i := 1) (.s .z) (by simp [zeros]), ?_⟩
        intro hw ew
        replace hs := Sat.wra (xs := tokL 3 p1 l1 c1 vx ds.length wx (rightM secret id ds)) hs (i := 1) (.s .z) ew (by simp [zeros, rightM_len])
        clear ew
        simp only [put_succ, put_zero] at hs
        refine ⟨Sat.can hs (i := 2) (.s (.s .z)) (by simp [zeros]), ?_⟩
        intro hw ew
        replace hs := Sat.wra (xs := tokL 3 q1 m1 d1 vy es.length wy (rightM secret id2 es)) hs (i := 2) (.s (.s .z)) ew (by simp [zeros, rightM_len])
        clear ew
        simp only [put_succ, put_zero] at hs
        replace hs := hs.front (e := blk xb (tokL 3 p1 l1 c1 p2 ds.length c2 (rightM secret id ds))) (i := 5) (.s (.s (.s (.s (.s .z)))))
        simp only [del] at hs
        replace hs := hs.front (e := blk yb (tokL 3 q1 m1 d1 q2 es.length d2 (rightM secret id2 es))) (i := 5) (.s (.s (.s (.s (.s .z)))))
        simp only [del] at hs
        replace hs := hs.front (e := slE vy es.length wy 5 (cvsV es)) (i := 2) (.s (.s .z))
        simp only [del] at hs
        replace hs := hs.front (e := slE vx ds.length wx 5 (cvsV ds)) (i := 5) (.s (.s (.s (.s (.s .z)))))
        simp only [del] at hs
        replace hs := hs.front (e := blk n221 (tokL 3 q1 m1 d1 vy es.length wy (rightM secret id2 es))) (i := 5) (.s (.s (.s (.s (.s .z)))))
        simp only [del] at hs
        replace hs := hs.front (e := blk n240 (tokL 3 p1 l1 c1 vx ds.length wx (rightM secret id ds))) (i := 5) (.s (.s (.s (.s (.s .z)))))
        simp only [del] at hs
        exact fin n240 n221 vx wx vy wy _ hs
  · skip
    intro n256 _ hn; replace hs := Sat.new hs hn; clear hn
    refine ⟨Sat.cs hs (i := 1) (.s .z) (by rw [List.drop_zero, List.take_of_length_le (Nat.le_refl _)]), ?_⟩
    refine ⟨Sat.cs hs (i := 2) (.s (.s .z)) (by rw [List.drop_zero, List.take_of_length_le (Nat.le_refl _)]), ?_⟩
    refine ⟨?_, ?_⟩
    · skip
      refine back_sp (cs := ds) hs (rightM_len _ _ _) (by omega) (fun h' hs' => r2 _ hs'.drop.drop.drop) ?_
      intro vx wx hx hs
      refine ⟨Sat.cs hs (i := 2) (.s (.s .z)) (by rw [List.drop_zero, List.take_of_length_le (Nat.le_refl _)]), ?_⟩
      refine ⟨?_, ?_⟩
      · skip
        refine back_sp (cs := es) hs (rightM_len _ _ _) (by omega) (fun h' hs' => r4 _ hs'.drop.drop.drop.drop) ?_
        intro vy wy hy hs
        intro n277 _ hn; replace hs := Sat.new hs hn; clear hn
        refine ⟨Sat.can hs (i := 3) (.s (.s (.s .z))) (by simp [zeros]), ?_⟩
        intro hw ew
        replace hs := Sat.wra (xs := tokL 3 p1 l1 c1 vx ds.length wx (rightM secret id ds)) hs (i := 3) (.s (.s (.s .z))) ew (by simp [zeros, rightM_len])
        clear ew
        simp only [put_succ, put_zero] at hs
        refine ⟨Sat.can hs (i := 0) .z (by simp [zeros]), ?_⟩
        intro hw ew
        replace hs := Sat.wra (xs := tokL 3 q1 m1 d1 vy es.length wy (rightM secret id2 es)) hs (i := 0) .z ew (by simp [zeros, rightM_len])
        clear ew
        simp only [put_succ, put_zero] at hs
        replace hs := hs.front (e := blk xb (tokL 3 p1 l1 c1 p2 ds.length c2 (rightM secret id ds))) (i := 5) (.s (.s (.s (.s (.s .z)))))
        simp only [del] at hs
        replace hs := hs.front (e := blk yb (tokL 3 q1 m1 d1 q2 es.length d2 (rightM secret id2 es))) (i := 5) (.s (.s (.s (.s (.s .z)))))
        simp only [del] at hs
        replace hs := hs.front (e := slE vy es.length wy 5 (cvsV es)) (i := 3) (.s (.s (.s .z)))
        simp only [del] at hs
        replace hs := hs.front (e := slE vx ds.length wx 5 (cvsV ds)) (i := 4) (.s (.s (.s (.s .z))))
        simp only [del] at hs
        replace hs := hs.front (e := blk n277 (tokL 3 q1 m1 d1 vy es.length wy (rightM secret id2 es))) (i := 4) (.s (.s (.s (.s .z))))
        simp only [del] at hs
        replace hs := hs.front (e := blk n256 (tokL 3 p1 l1 c1 vx ds.length wx (rightM secret id ds))) (i := 5) (.s (.s (.s (.s (.s .z)))))
        simp only [del] at hs
        exact fin n256 n277 vx wx vy wy _ hs
      · skip
        intro n284 _ hn; replace hs := Sat.new hs hn; clear hn
        refine ⟨Sat.cs hs (i := 3) (.s (.s (.s .z))) (by rw [List.drop_zero, List.take_of_length_le (Nat.le_refl _)]), ?_⟩
        refine back_sp (cs := es) hs (rightM_len _ _ _) (by omega) (fun h' hs' => r4 _ hs'.drop.drop.drop.drop.drop) ?_
        intro vy wy hy hs
        refine ⟨Sat.can hs (i := 3) (.s (.s (.s .z))) (by simp [zeros]), ?_⟩
        intro hw ew
        replace hs := Sat.wra (xs := tokL 3 p1 l1 c1 vx ds.length wx (rightM secret id ds)) hs (i := 3) (.s (.s (.s .z))) ew (by simp [zeros, rightM_len])
        clear ew
        simp only [put_succ, put_zero] at hs
        refine ⟨Sat.can hs (i := 1) (.s .z) (by simp [zeros]), ?_⟩
        intro hw ew
        replace hs := Sat.wra (xs := tokL 3 q1 m1 d1 vy es.length wy (rightM secret id2 es)) hs (i := 1) (.s .z) ew (by simp [zeros, rightM_len])
        clear ew
        simp only [put_succ, put_zero] at hs
        replace hs := hs.front (e := blk xb (tokL 3 p1 l1 c1 p2 ds.length c2 (rightM secret id ds))) (i := 5) (.s (.s (.s (.s (.s .z)))))
        simp only [del] at hs
        replace hs := hs.front (e := blk yb (tokL 3 q1 m1 d1 q2 es.length d2 (rightM secret id2 es))) (i := 5) (.s (.s (.s (.s (.s .z)))))
        simp only [del] at hs
        replace hs := hs.front (e := slE vy es.length wy 5 (cvsV es)) (i := 2) (.s (.s .z))
        simp only [del] at hs
        replace hs := hs.front (e := slE vx ds.length wx 5 (cvsV ds)) (i := 4) (.s (.s (.s (.s .z))))
        simp only [del] at hs
        replace hs := hs.front (e := blk n284 (tokL 3 q1 m1 d1 vy es.length wy (rightM secret id2 es))) (i := 4) (.s (.s (.s (.s .z))))
        simp only [del] at hs
        replace hs := hs.front (e := blk n256 (tokL 3 p1 l1 c1 vx ds.length wx (rightM secret id ds))) (i := 5) (.s (.s (.s (.s (.s .z)))))
        simp only [del] at hs
        exact fin n256 n284 vx wx vy wy _ hs
    · skip
      intro n300 _ hn; replace hs := Sat.new hs hn; clear hn
      refine ⟨Sat.cs hs (i := 2) (.s (.s .z)) (by rw [List.drop_zero, List.take_of_length_le (Nat.le_refl _)]), ?_⟩
      refine ⟨Sat.cs hs (i := 3) (.s (.s (.s .z))) (by rw [List.drop_zero, List.take_of_length_le (Nat.le_refl _)]), ?_⟩
      refine back_sp (cs := ds) hs (rightM_len _ _ _) (by omega) (fun h' hs' => r2 _ hs'.drop.drop.drop.drop) ?_
      intro vx wx hx hs
      refine ⟨Sat.cs hs (i := 3) (.s (.s (.s .z))) (by rw [List.drop_zero, List.take_of_length_le (Nat.le_refl _)]), ?_⟩
      refine back_sp (cs := es) hs (rightM_len _ _ _) (by omega) (fun h' hs' => r4 _ hs'.drop.drop.drop.drop.drop) ?_
      intro vy wy hy hs
      refine ⟨Sat.can hs (i := 3) (.s (.s (.s .z))) (by simp [zeros]), ?_⟩
      intro hw ew
      replace hs := Sat.wra (xs := tokL 3 p1 l1 c1 vx ds.length wx (rightM secret id ds)) hs (i := 3) (.s (.s (.s .z))) ew (by simp [zeros, rightM_len])
      clear ew
      simp only [put_succ, put_zero] at hs
      refine ⟨Sat.can hs (i := 2) (.s (.s .z)) (by simp [zeros]), ?_⟩
      intro hw ew
      replace hs := Sat.wra (xs := tokL 3 q1 m1 d1 vy es.length wy (rightM secret id2 es)) hs (i := 2) (.s (.s .z)) ew (by simp [zeros, rightM_len])
      clear ew
      simp only [put_succ, put_zero] at hs
      replace hs := hs.front (e := blk xb (tokL 3 p1 l1 c1 p2 ds.length c2 (rightM secret id ds))) (i := 5) (.s (.s (.s (.s (.s .z)))))
      simp only [del] at hs
      replace hs := hs.front (e := blk yb (tokL 3 q1 m1 d1 q2 es.length d2 (rightM secret id2 es))) (i := 5) (.s (.s (.s (.s (.s .z)))))
      simp only [del] at hs
      replace hs := hs.front (e := slE vy es.length wy 5 (cvsV es)) (i := 2) (.s (.s .z))
      simp only [del] at hs
      replace hs := hs.front (e := slE vx ds.length wx 5 (cvsV ds)) (i := 3) (.s (.s (.s .z)))
      simp only [del] at hs
      replace hs := hs.front (e := blk n300 (tokL 3 q1 m1 d1 vy es.length wy (rightM secret id2 es))) (i := 4) (.s (.s (.s (.s .z))))
      simp only [del] at hs
      replace hs := hs.front (e := blk n256 (tokL 3 p1 l1 c1 vx ds.length wx (rightM secret id ds))) (i := 5) (.s (.s (.s (.s (.s .z)))))
      simp only [del] at hs
      exact fin n256 n300 vx wx vy wy _ hs
  · skip
    intro n325 _ hn; replace hs := Sat.new hs hn; clear hn
    refine ⟨Sat.cs hs (i := 1) (.s .z) (by rw [List.drop_zero, List.take_of_length_le (Nat.le_refl _)]), ?_⟩
    refine ⟨Sat.cs hs (i := 2) (.s (.s .z)) (by rw [List.drop_zero, List.take_of_length_le (Nat.le_refl _)]), ?_⟩
    refine ⟨?_, ?_⟩
    · skip
      refine back_sp (cs := ds) hs (rightM_len _ _ _) (by omega) (fun h' hs' => r2 _ hs'.drop.drop.drop) ?_
      intro vx wx hx hs
      refine ⟨Sat.cs hs (i := 2) (.s (.s .z)) (by rw [List.drop_zero, List.take_of_length_le (Nat.le_refl _)]), ?_⟩
      refine ⟨?_, ?_⟩
      · skip
        refine back_sp (cs := es) hs (rightM_len _ _ _) (by omega) (fun h' hs' => r4 _ hs'.drop.drop.drop.drop) ?_
        intro vy wy hy hs
        intro n346 _ hn; replace hs := Sat.new hs hn; clear hn
        refine ⟨Sat.can hs (i := 0) .z (by simp [zeros]), ?_⟩
        intro hw ew
        replace hs := Sat.wra (xs := tokL 3 p1 l1 c1 vx ds.length wx (rightM secret id ds)) hs (i := 0) .z ew (by simp [zeros, rightM_len])
        clear ew
        simp only [put_succ, put_zero] at hs
        refine ⟨Sat.can hs (i := 3) (.s (.s (.s .z))) (by simp [zeros]), ?_⟩
        intro hw ew
        replace hs := Sat.wra (xs := tokL 3 q1 m1 d1 vy es.length wy (rightM secret id2 es)) hs (i := 3) (.s (.s (.s .z))) ew (by simp [zeros, rightM_len])
        clear ew
        simp only [put_succ, put_zero] at hs
        replace hs := hs.front (e := blk xb (tokL 3 p1 l1 c1 p2 ds.length c2 (rightM secret id ds))) (i := 5) (.s (.s (.s (.s (.s .z)))))
        simp only [del] at hs
        replace hs := hs.front (e := blk yb (tokL 3 q1 m1 d1 q2 es.length d2 (rightM secret id2 es))) (i := 5) (.s (.s (.s (.s (.s .z)))))
        simp only [del] at hs
        replace hs := hs.front (e := slE vy es.length wy 5 (cvsV es)) (i := 3) (.s (.s (.s .z)))
        simp only [del] at hs
        replace hs := hs.front (e := slE vx ds.length wx 5 (cvsV ds)) (i := 4) (.s (.s (.s (.s .z))))
        simp only [del] at hs
        replace hs := hs.front (e := blk n325 (tokL 3 q1 m1 d1 vy es.length wy (rightM secret id2 es))) (i := 5) (.s (.s (.s (.s (.s .z)))))
        simp only [del] at hs
        replace hs := hs.front (e := blk n346 (tokL 3 p1 l1 c1 vx ds.length wx (rightM secret id ds))) (i := 5) (.s (.s (.s (.s (.s .z)))))
        simp only [del] at hs
        exact fin n346 n325 vx wx vy wy _ hs
      · skip
        intro n353 _ hn; replace hs := Sat.new hs hn; clear hn
        refine ⟨Sat.cs hs (i := 3) (.s (.s (.s .z))) (by rw [List.drop_zero, List.take_of_length_le (Nat.le_refl _)]), ?_⟩
        refine back_sp (cs := es) hs (rightM_len _ _ _) (by omega) (fun h' hs' => r4 _ hs'.drop.drop.drop.drop.drop) ?_
        intro vy wy hy hs
        refine ⟨Sat.can hs (i := 1) (.s .z) (by simp [zeros]), ?_⟩
        intro hw ew
        replace hs := Sat.wra (xs := tokL 3 p1 l1 c1 vx ds.length wx (rightM secret id ds)) hs (i := 1) (.s .z) ew (by simp [zeros, rightM_len])
        clear ew
        simp only [put_succ, put_zero] at hs
        refine ⟨Sat.can hs (i := 3) (.s (.s (.s .z))) (by simp [zeros]), ?_⟩
        intro hw ew
        replace hs := Sat.wra (xs := tokL 3 q1 m1 d1 vy es.length wy (rightM secret id2 es)) hs (i := 3) (.s (.s (.s .z))) ew (by simp [zeros, rightM_len])
        clear ew
        simp only [put_succ, put_zero] at hs
        replace hs := hs.front (e := blk xb (tokL 3 p1 l1 c1 p2 ds.length c2 (rightM secret id ds))) (i := 5) (.s (.s (.s (.s (.s .z)))))
        simp only [del] at hs
        replace hs := hs.front (e := blk yb (tokL 3 q1 m1 d1 q2 es.length d2 (rightM secret id2 es))) (i := 5) (.s (.s (.s (.s (.s .z)))))
        simp only [del] at hs
        replace hs := hs.front (e := slE vy es.length wy 5 (cvsV es)) (i := 2) (.s (.s .z))
        simp only [del] at hs
        replace hs := hs.front (e := slE vx ds.length wx 5 (cvsV ds)) (i := 4) (.s (.s (.s (.s .z))))
        simp only [del] at hs
        replace hs := hs.front (e := blk n325 (tokL 3 q1 m1 d1 vy es.length wy (rightM secret id2 es))) (i := 5) (.s (.s (.s (.s (.s .z)))))
        simp only [del] at hs
        replace hs := hs.front (e := blk n353 (tokL 3 p1 l1 c1 vx ds.length wx (rightM secret id ds))) (i := 5) (.s (.s (.s (.s (.s .z)))))
        simp only [del] at hs
        exact fin n353 n325 vx wx vy wy _ hs
    · skip
      intro n369 _ hn; replace hs := Sat.new hs hn; clear hn
      refine ⟨Sat.cs hs (i := 2) (.s (.s .z)) (by rw [List.drop_zero, List.take_of_length_le (Nat.le_refl _)]), ?_⟩
      refine ⟨Sat.cs hs (i := 3) (.s (.s (.s .z))) (by rw [List.drop_zero, List.take_of_length_le (Nat.le_refl _)]), ?_⟩
      refine back_sp (cs := ds) hs (rightM_len _ _ _) (by omega) (fun h' hs' => r2 _ hs'.drop.drop.drop.drop) ?_
      intro vx wx hx hs
      refine ⟨Sat.cs hs (i := 3) (.s (.s (.s .z))) (by rw [List.drop_zero, List.take_of_length_le (Nat.le_refl _)]), ?_⟩
      refine back_sp (cs := es) hs (rightM_len _ _ _) (by omega) (fun h' hs' => r4 _ hs'.drop.drop.drop.drop.drop) ?_
      intro vy wy hy hs
      refine ⟨Sat.can hs (i := 2) (.s (.s .z)) (by simp [zeros]), ?_⟩
      intro hw ew
      replace hs := Sat.wra (xs := tokL 3 p1 l1 c1 vx ds.length wx (rightM secret id ds)) hs (i := 2) (.s (.s .z)) ew (by simp [zeros, rightM_len])
      clear ew
      simp only [put_succ, put_zero] at hs
      refine ⟨Sat.can hs (i := 3) (.s (.s (.s .z))) (by simp [zeros]), ?_⟩
      intro hw ew
      replace hs := Sat.wra (xs := tokL 3 q1 m1 d1 vy es.length wy (rightM secret id2 es)) hs (i := 3) (.s (.s (.s .z))) ew (by simp [zeros, rightM_len])
      clear ew
      simp only [put_succ, put_zero] at hs
      replace hs := hs.front (e := blk xb (tokL 3 p1 l1 c1 p2 ds.length c2 (rightM secret id ds))) (i := 5) (.s (.s (.s (.s (.s .z)))))
      simp only [del] at hs
      replace hs := hs.front (e := blk yb (tokL 3 q1 m1 d1 q2 es.length d2 (rightM secret id2 es))) (i := 5) (.s (.s (.s (.s (.s .z)))))
      simp only [del] at hs
      replace hs := hs.front (e := slE vy es.length wy 5 (cvsV es)) (i := 2) (.s (.s .z))
      simp only [del] at hs
      replace hs := hs.front (e := slE vx ds.length wx 5 (cvsV ds)) (i := 3) (.s (.s (.s .z)))
      simp only [del] at hs
      replace hs := hs.front (e := blk n325 (tokL 3 q1 m1 d1 vy es.length wy (rightM secret id2 es))) (i := 5) (.s (.s (.s (.s (.s .z)))))
      simp only [del] at hs
      replace hs := hs.front (e := blk n369 (tokL 3 p1 l1 c1 vx ds.length wx (rightM secret id ds))) (i := 5) (.s (.s (.s (.s (.s .z)))))
      simp only [del] at hs
      exact fin n369 n325 vx wx vy wy _ hs
end
end Go.Proofs.YtijcpgahmbkijaaGreatDoor
end

/- TokenOnly: one tag just of the same ID and caveats, or there is a clash; for every input. -/
section
set_option maxRecDepth 100000
set_option linter.unusedVariables false
namespace Go.Proofs.YtijcpgahmbkijaaGreatDoor
open Go Go.Vc Go.ChangeShapes Go.WideShapes Go.ChangeAt Go.RowKit

theorem TokenOnly_calls {D : Type} {enc : TypeId × Value → D} {W : World} {base : Nat} (hg : hc W.heap ⟨0, 0, none⟩ = some errTypeV) (vs : List Value) (h : ArgsOk enc PP W base [23, 23, 23, 24, 24] vs) : CallsTrue PP 4 vs W := by
  obtain ⟨hl, h⟩ := h
  match vs, hl with
  | [v0, v1, v2, v3, v4], _ =>
  obtain ⟨r0, w0⟩ := h 0 _ v0 rfl rfl
  obtain ⟨r1, w1⟩ := h 1 _ v1 rfl rfl
  obtain ⟨r2, w2⟩ := h 2 _ v2 rfl rfl
  obtain ⟨r3, w3⟩ := h 3 _ v3 rfl rfl
  obtain ⟨r4, w4⟩ := h 4 _ v4 rfl rfl
  obtain ⟨sp, sl, sc, rfl, hs0⟩ := slice24_of (e := 5) (by kernel_rfl) r0 w0
  obtain ⟨secret, a1, a2, _, a4⟩ := bytes24_of hs0
  obtain ⟨ip, il, ic, rfl, hs1⟩ := slice24_of (e := 5) (by kernel_rfl) r1 w1
  obtain ⟨id, b1, b2, _, b4⟩ := bytes24_of hs1
  obtain ⟨ip2, il2, ic2, rfl, hs2⟩ := slice24_of (e := 5) (by kernel_rfl) r2 w2
  obtain ⟨id2, c1, c2, _, c4⟩ := bytes24_of hs2
  obtain ⟨cp, cl, cc, rfl, hs3⟩ := slice24_of (e := 50) (by kernel_rfl) r3 w3
  obtain ⟨cs, d1, d2, _, _⟩ := cavs_of hs3
  obtain ⟨cp2, cl2, cc2, rfl, hs4⟩ := slice24_of (e := 50) (by kernel_rfl) r4 w4
  obtain ⟨cs2, e1, e2, _, _⟩ := cavs_of hs4
  have := R_portcullislaw24_TokenOnly [.one (.slice sp sl sc), .one (.slice ip il ic), .one (.slice ip2 il2 ic2), .one (.slice cp cl cc), .one (.slice cp2 cl2 cc2)] (fun rs h' => rs = [DV.one (.bool true)] ∧ Ext none_ W.heap h') W.heap (by
    intro x hx
    simp only [List.mem_cons, List.not_mem_nil, or_false] at hx
    rcases hx with rfl | rfl | rfl | rfl | rfl <;> rfl) (by
    show F_portcullislaw24_TokenOnly sp sl sc ip il ic ip2 il2 ic2 cp cl cc cp2 cl2 cc2 (fun b h' => [DV.one (.bool b)] = [DV.one (.bool true)] ∧ Ext none_ W.heap h') W.heap
    exact TokenOnly_sp hg a1 a2 (by omega) b1 b2 (by omega) c1 c2 (by omega) d1 d2 e1 e2 (Sat.init _) fun h' x => ⟨rfl, x.ex⟩)
  exact this
theorem TokenOnly_lifted (os : Os) (started : os.Started) (D : Type) (enc : TypeId × Value → D) :
    ReturnsInHanded {} Tryz.checked os 4 .any (fun w args => (Rows.tokenOnlySpec.pre enc Tryz.prog Tryz.f4 [] false w args ∧ laidMetH Tryz.prog laidL w) ∧ sizedMet enc Tryz.prog Tryz.f4 (OpenSpec.ofChange Rows.tokenOnlySpec) false w args)
      (Rows.tokenOnlySpec.post enc Tryz.prog Tryz.f4 false true false false) := by
  refine returnsInHanded_of_change_and (C := Tryz.checked) (X := fun w _ => laidMetH Tryz.prog laidL w) (fun _ _ _ hh h => h.of_heap hh) Tryz.own started (by kernel_rfl) Tryz.func4
    (ChangeSpec.witness_at (enc := enc) (C := Tryz.checked) (os := os) (X := fun w _ => laidMetH Tryz.prog laidL w) false (laidWorld os) #[.slice none 0 0, .slice none 0 0, .slice none 0 0, .slice none 0 0, .slice none 0 0] 8 rfl (by kernel_rfl) (by kernel_rfl) (by kernel_rfl) (by kernel_rfl) (by kernel_rfl) (laidWorld_met os _)) ?_
  intro W base args ds gs before hval hW hcnd hsz hL _
  exact law_go (P := Tryz.prog) (fn := Tryz.f4) (s := Rows.tokenOnlySpec) [23, 23, 23, 24, 24] (by kernel_rfl) Tryz.laidOut rfl (by kernel_rfl) (by kernel_rfl) Tryz.ubool
    (fun ds hl => match ds, hl with | [d1, d2, d3, d4, d5], _ => rfl) hval hW hsz (TokenOnly_calls (handle_of_laid hL))

theorem TokenOnly_said : Rows.TokenOnlySaid :=
  OpenClaim.holds_of_wide 4 Tryz.f4 rfl rfl rfl rfl rfl rfl rfl ⟨rfl, rfl, rfl, rfl, rfl⟩ rfl rfl rfl rfl rfl (by kernel_rfl) Tryz.func4 (by kernel_rfl)
    (of_decide_eq_true (by kernel_rfl)) (by unfold Func.isWrapper; first | (rw [if_pos (by decide +kernel)]; kernel_rfl) | (rw [if_neg (by decide +kernel)]; exact ⟨rfl, rfl⟩))
    (fun os started H enc _ => TokenOnly_lifted os started H enc)

theorem TokenOnly_plain (f : FuncId) (fn : Func) (hf : Tryz.pinned.checked.prog.funcNamed "portcullis/portcullislaw24.TokenOnly" = some f) (hfn : Tryz.pinned.checked.prog.funcs[f]? = some fn) :
    true = Tryz.pinned.checked.prog.looks [] ∧ ∀ (j : Nat) t, fn.params[j]? = some t → Tryz.pinned.checked.prog.wantsStandIn t = false := by
  obtain rfl : f = 4 := Option.some.inj ((show Tryz.prog.funcNamed "portcullis/portcullislaw24.TokenOnly" = some 4 by kernel_rfl).symm.trans hf) |>.symm
  obtain rfl : fn = Tryz.f4 := (Option.some.inj (Tryz.func4.symm.trans hfn)).symm
  refine ⟨by kernel_rfl, fun j t ht => ?_⟩
  have hm := Array.mem_of_getElem? ht
  have hm2 : t ∈ ([23, 23, 23, 24, 24] : List Nat) := by
    have : Tryz.f4.params.toList = [23, 23, 23, 24, 24] := by kernel_rfl
    rw [← this]; exact Array.mem_toList_iff.2 hm
  simp only [List.mem_cons, List.not_mem_nil, or_false] at hm2
  rcases hm2 with rfl | rfl | rfl | rfl | rfl <;> (first | kernel_rfl | rfl)

theorem TokenOnly_holds : Rows.TokenOnlyCardSaid :=
  Claim7.holds_tied_plain_at .later [] _ _ _ _ TokenOnly_said (fun _ h => by cases h) (by kernel_rfl) (fun _ h => by cases h) tokenOnly_row_tie rfl ⟨rfl, rfl⟩ (by kernel_rfl) rfl TokenOnly_plain (by kernel_rfl)

end Go.Proofs.YtijcpgahmbkijaaGreatDoor
end
