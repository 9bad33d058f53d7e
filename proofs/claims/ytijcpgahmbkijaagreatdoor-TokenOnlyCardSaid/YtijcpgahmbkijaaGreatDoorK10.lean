/- TokenOnly: what is proved and its parts, laid together by a program of ours: To1 Tm3 Tm4 To2 -/
import Derived.Test.YtijcpgahmbkijaaGreatDoorK9
set_option autoImplicit false
set_option linter.all false
/- Tokens: the document's pairs on the way to a tag. Own work. -/
section
set_option maxRecDepth 100000
set_option linter.unusedVariables false
namespace Go.Proofs.YtijcpgahmbkijaaGreatDoor
open Go Go.Vc
attribute [local irreducible] macM

structure PrM where
  key : List Int
  b : List Int
  tag : List Int
/-- The tag behind caveats. -/
def tagM : List Int → List CvM → List Int
  | t, [] => t
  | t, c :: r => tagM (macM t (cbM c)) r
def rightM (secret id : List Int) (cs : List CvM) : List Int := tagM (macM secret (msgM id)) cs
def chainM : List Int → List CvM → List PrM
  | _, [] => []
  | t, c :: r => ⟨t, cbM c, macM t (cbM c)⟩ :: chainM (macM t (cbM c)) r
def pairsM (secret id : List Int) (cs : List CvM) : List PrM := ⟨secret, msgM id, macM secret (msgM id)⟩ :: chainM (macM secret (msgM id)) cs
theorem tagM_snoc (cs : List CvM) (c : CvM) : ∀ t, tagM t (cs ++ [c]) = macM (tagM t cs) (cbM c) := by
  induction cs with
  | nil => intro t; rfl
  | cons x r ih => intro t; exact ih _
theorem chainM_snoc (cs : List CvM) (c : CvM) : ∀ t, chainM t (cs ++ [c]) = chainM t cs ++ [⟨tagM t cs, cbM c, macM (tagM t cs) (cbM c)⟩] := by
  induction cs with
  | nil => intro t; rfl
  | cons x r ih => intro t; show _ :: chainM _ (r ++ [c]) = _ :: (chainM _ r ++ _); rw [ih]; rfl
theorem rightM_snoc (secret id : List Int) (cs : List CvM) (c : CvM) : rightM secret id (cs ++ [c]) = macM (rightM secret id cs) (cbM c) := tagM_snoc _ _ _
theorem pairsM_snoc (secret id : List Int) (cs : List CvM) (c : CvM) : pairsM secret id (cs ++ [c]) = pairsM secret id cs ++ [⟨rightM secret id cs, cbM c, macM (rightM secret id cs) (cbM c)⟩] := by
  show _ :: chainM _ (cs ++ [c]) = _ :: (chainM _ cs ++ _)
  rw [chainM_snoc]; rfl
theorem chainM_len (cs : List CvM) : ∀ t, (chainM t cs).length = cs.length := by
  induction cs with
  | nil => intro t; rfl
  | cons x r ih => intro t; show (chainM _ r).length + 1 = _; rw [ih]; rfl
theorem pairsM_len (secret id : List Int) (cs : List CvM) : (pairsM secret id cs).length = cs.length + 1 := by show (chainM _ cs).length + 1 = _; rw [chainM_len]
theorem tagM_len (cs : List CvM) : ∀ t, t.length = 32 → (tagM t cs).length = 32 := by
  induction cs with
  | nil => intro t h; exact h
  | cons x r ih => intro t _; exact ih _ (macM_len _ _)
theorem tagM_by (cs : List CvM) : ∀ t, isBy t → isBy (tagM t cs) := by
  induction cs with
  | nil => intro t h; exact h
  | cons x r ih => intro t _; exact ih _ (isBy_mac _ _)
theorem rightM_len (secret id : List Int) (cs : List CvM) : (rightM secret id cs).length = 32 := tagM_len _ _ (macM_len _ _)
theorem rightM_by (secret id : List Int) (cs : List CvM) : isBy (rightM secret id cs) := tagM_by _ _ (isBy_mac _ _)
theorem chainM_tags (cs : List CvM) : ∀ t x, x ∈ chainM t cs → x.tag.length = 32 := by
  induction cs with
  | nil => intro t x hx; cases hx
  | cons c r ih =>
    intro t x hx
    rcases List.mem_cons.1 hx with rfl | hx
    · exact macM_len _ _
    · exact ih _ x hx
theorem pairsM_tags (secret id : List Int) (cs : List CvM) : ∀ x, x ∈ pairsM secret id cs → x.tag.length = 32 := by
  intro x hx
  rcases List.mem_cons.1 hx with rfl | hx
  · exact macM_len _ _
  · exact chainM_tags _ _ x hx
/-- The last tag is the right one. -/
theorem pairsM_last (secret id : List Int) (cs : List CvM) : ∃ x, (pairsM secret id cs)[cs.length]? = some x ∧ x.tag = rightM secret id cs := by
  rcases List.eq_nil_or_concat cs with rfl | ⟨r, c, rfl⟩
  · exact ⟨_, rfl, rfl⟩
  · refine ⟨⟨rightM secret id r, cbM c, macM (rightM secret id r) (cbM c)⟩, ?_, ?_⟩
    · rw [List.concat_eq_append, pairsM_snoc, List.getElem?_append_right (by rw [pairsM_len]; simp)]
      simp [pairsM_len]
    · rw [List.concat_eq_append, rightM_snoc]
def prV (x : PrM) : List Value := .string (bytesOf x.key) :: .string (bytesOf x.b) :: ints .u8 x.tag
def prsV : List PrM → List Value
  | [] => []
  | x :: r => prV x ++ prsV r
theorem prV_len {x : PrM} (h : x.tag.length = 32) : (prV x).length = 34 := by simp [prV, h]
theorem prV_one (x : PrM) : ∀ v, v ∈ prV x → v.oneCell' = true := by
  intro v hv
  rcases List.mem_cons.1 hv with rfl | hv
  · rfl
  rcases List.mem_cons.1 hv with rfl | hv
  · rfl
  exact ints_one _ _ v hv
theorem prsV_app (a b : List PrM) : prsV (a ++ b) = prsV a ++ prsV b := by
  induction a with
  | nil => rfl
  | cons x r ih => show prV x ++ prsV (r ++ b) = prV x ++ prsV r ++ prsV b; rw [ih, List.append_assoc]
theorem prsV_len {P : List PrM} (h : ∀ x, x ∈ P → x.tag.length = 32) : (prsV P).length = P.length * 34 := by
  induction P with
  | nil => rfl
  | cons x r ih =>
    show (prV x ++ prsV r).length = _
    rw [List.length_append, prV_len (h x (by simp)), ih (fun y hy => h y (by simp [hy]))]; simp; omega
theorem prsV_get {P : List PrM} (h : ∀ x, x ∈ P → x.tag.length = 32) : ∀ (i j : Nat) (hi : i < P.length), j < 34 → (prsV P)[i * 34 + j]? = (prV P[i])[j]? := by
  induction P with
  | nil => intro i j hi; simp at hi
  | cons x r ih =>
    intro i j hi hj
    show (prV x ++ prsV r)[i * 34 + j]? = _
    have hl := prV_len (h x (by simp))
    cases i with
    | zero => rw [List.getElem?_append_left (by omega)]; simp
    | succ i =>
      rw [List.getElem?_append_right (by omega)]
      have := ih (fun y hy => h y (by simp [hy])) i j (by simpa using hi) hj
      rw [show (i + 1) * 34 + j - (prV x).length = i * 34 + j by omega, this]
      rfl
theorem pr_rd {h : H} {p : Option Addr} {n : Nat} {P : List PrM} (hP : ∀ x, x ∈ P → x.tag.length = 32) (rd : hsv h p 34 n (prsV P)) {i : Nat} (hi : i < P.length) : ∃ q, p = some q ∧ hc h (q.add (i * 34)) = some (.string (bytesOf P[i].key)) ∧ hc h ((q.add (i * 34)).add 1) = some (.string (bytesOf P[i].b)) ∧ hrow h ((q.add (i * 34)).add 2) .u8 P[i].tag := by
  obtain ⟨q, hq, g0⟩ := hsv_get rd (i := i * 34 + 0) (by rw [prsV_get hP i 0 hi (by decide)]; rfl)
  obtain ⟨q1, hq1, g1⟩ := hsv_get rd (i := i * 34 + 1) (by rw [prsV_get hP i 1 hi (by decide)]; rfl)
  rw [hq] at hq1
  cases hq1
  refine ⟨q, hq, g0, by rw [addAdd]; exact g1, ?_⟩
  intro x v hv
  have hx : x < 32 := by
    have := (List.getElem?_eq_some_iff.1 hv).1
    rw [ints_length, hP _ (List.getElem_mem hi)] at this
    exact this
  have e : (prV P[i])[2 + x]? = some v := by
    show (Value.string _ :: .string _ :: ints .u8 P[i].tag)[2 + x]? = _
    rw [show 2 + x = x + 1 + 1 by omega, List.getElem?_cons_succ, List.getElem?_cons_succ]
    exact hv
  obtain ⟨q2, hq2, g2⟩ := hsv_get rd (i := i * 34 + (2 + x)) (by rw [prsV_get hP i (2 + x) hi (by omega)]; exact e)
  rw [hq] at hq2
  cases hq2
  rw [addAdd, addAdd]
  first | exact g2 | (rw [Nat.add_assoc]; exact g2)
section
variable {h0 h : H} {A : List Ent} {i j d r m : Nat}
theorem rpairs_sp {Q : Option Addr → Nat → Nat → H → Prop} {secret id : List Int} {cs : List CvM} {sp ip cp : Option Addr} {sl sc il ic cl cc : Nat} (hs : Sat h0 A h) (hsb : isBy secret) (hib : isBy id) (hsl : sl < 2 ^ 45) (hil : il < 2 ^ 40) (hcl : cl < 2 ^ 30)
    (rs : ∀ h', Sat h0 A h' → hsv h' sp 1 sl (ints .u8 secret)) (ri : ∀ h', Sat h0 A h' → hsv h' ip 1 il (ints .u8 id)) (rc : ∀ h', Sat h0 A h' → hsv h' cp 5 cl (cvsV cs))
    (k : ∀ p c h', Sat h0 (slE p (cl + 1) c 34 (prsV (pairsM secret id cs)) :: A) h' → Q p (cl + 1) c h') : F_portcullisref24_Pairs sp sl sc ip il ic cp cl cc Q h := by
  unfold F_portcullisref24_Pairs G_portcullisref24_Pairs
  simp only [add_mk, Nat.zero_add, List.append_nil]
  have hcsl : cs.length = cl := by have := (rc _ hs).1; rw [cvsV_len] at this; omega
  obtain ⟨M, hM⟩ : ∃ M, M = msgM id := ⟨_, rfl⟩
  have hMb : isBy M := by rw [hM]; exact isBy_msg hib
  refine rfirst_sp (id := id) hs hil ri ?_
  rw [← hM]
  intro mp mc h1 hs
  intro eb _ hn; replace hs := Sat.new hs hn; clear hn
  have e0 : pairsM secret id (cs.take 0) = [⟨secret, M, macM secret M⟩] := by rw [hM]; rfl
  refine ⟨?_, ?_, ?_⟩
  · skip
    refine ⟨secret, rs _ hs.drop.drop, ?_, ?_⟩
    · skip
      refine ⟨M, hs.sv (i := 1) (.s .z), ?_⟩
      refine rmac_sp (key := secret) (b := M) hs hsb hMb (by omega) (by omega) (fun h' hs' => rs _ hs'.drop.drop) (fun h' hs' => hs'.sv (i := 1) (.s .z)) ?_
      intro h2 hs
      intro pb _ hn; replace hs := Sat.new hs hn; clear hn
      replace hs : Sat h0 (blk pb (prV ⟨secret, M, macM secret M⟩) :: blk eb [] :: slE mp (18 + il) mc 1 (ints .u8 M) :: A) _ := hs
      refine ⟨_, hs.bv (i := 0) (l := 1) (sz := 34) .z (by rw [prV_len (macM_len _ _)]) (prV_one _), ?_⟩
      refine Sat.app_new (vs := prV ⟨secret, M, macM secret M⟩) hs (by rw [prV_len (macM_len _ _)]) (by simp [zeros]) (prV_one _) (by decide) ?_
      intro p0 c0 h3 hs
      replace hs : Sat h0 (slE p0 (0 + 1) c0 34 (prsV (pairsM secret id (cs.take 0))) :: A) h3 := by rw [e0]; exact (hs.sub (B := slE p0 1 c0 34 (prV ⟨secret, M, macM secret M⟩) :: A) (by (repeat (first | exact List.Sublist.refl _ | apply List.Sublist.cons_cons | apply List.Sublist.cons)))).eqL (by simp [prsV])
      intro J hJ
      refine loopS cl (fun t (s : Option Addr × Nat) => [.dv (.one (.slice s.1 (t + 1) s.2)), si t]) (fun t s h => Sat h0 (slE s.1 (t + 1) s.2 34 (prsV (pairsM secret id (cs.take t))) :: A) h) ?_ ?_ 0 (p0, c0) _ (by omega) hs
      · clear hs
        rintro t ⟨p2, c2⟩ h4 ht hs hk
        dsimp only at hs hk ⊢
        apply hJ
        clear hJ
        rw [ltI_eq, if_pos (by rw [decide_eq_true_iff]; omega)]
        have htl : (cs.take t).length = t := by rw [List.length_take]; omega
        have hPt := pairsM_tags secret id (cs.take t)
        obtain ⟨L, hL1, hL2⟩ := pairsM_last secret id (cs.take t)
        rw [htl] at hL1
        have hPl : t < (pairsM secret id (cs.take t)).length := by rw [pairsM_len, htl]; omega
        rw [List.getElem?_eq_getElem hPl] at hL1
        injection hL1 with hL1
        obtain ⟨T, hT⟩ : ∃ T, T = rightM secret id (cs.take t) := ⟨_, rfl⟩
        have hTl : T.length = 32 := by rw [hT]; exact rightM_len _ _ _
        have hTb : isBy T := by rw [hT]; exact rightM_by _ _ _
        have ew : IntKind.i64.wrap (((t + 1 : Nat) : Int) - 1) = (t : Int) := by rw [wrap_id (by omega)]; omega
        rw [ew]
        try simp only [Int.toNat_natCast]
        intro kb _ hn; replace hs := Sat.new hs hn; clear hn
        obtain ⟨q, hq, _, _, gr⟩ := pr_rd hPt (hs.sv (i := 1) (.s .z)) hPl
        rw [hL1, hL2, ← hT] at gr
        refine ⟨q, hq, by omega, by omega, T, hTl, gr, ?_⟩
        intro tb _ hn; replace hs := Sat.new hs hn; clear hn
        refine ⟨Sat.can hs (i := 0) .z (by simp [zeros]), ?_⟩
        intro h5 e5
        replace hs := Sat.wra hs (i := 0) .z e5 (by simp [zeros, hTl])
        clear e5
        simp only [put_zero] at hs
        intro J2 hJ2
        refine loopS 32 (fun u (s : Option Addr × Nat) => [.dv (.one (.slice s.1 u s.2)), si u]) (fun u s h => Sat h0 (slE s.1 u s.2 1 (ints .u8 (T.take u)) :: blk tb (ints .u8 T) :: slE p2 (t + 1) c2 34 (prsV (pairsM secret id (cs.take t))) :: A) h) ?_ ?_ 0 (some ⟨kb, 0, none⟩, 0) _ (by omega) ((hs.sub (B := blk tb (ints .u8 T) :: slE p2 (t + 1) c2 34 (prsV (pairsM secret id (cs.take t))) :: A) (by (repeat (first | exact List.Sublist.refl _ | apply List.Sublist.cons_cons | apply List.Sublist.cons)))).sl_nil 1 _)
        · clear hs
          rintro u ⟨p3, c3⟩ h6 hu hs hk2
          dsimp only at hs hk2 ⊢
          apply hJ2
          rw [ltI_eq, if_pos (by rw [decide_eq_true_iff]; omega)]
          try simp only [Int.toNat_natCast, Nat.mul_one]
          refine ⟨by omega, by omega, _, hs.ld (i := 1) (.s .z) (intsG (by omega)), ?_⟩
          intro b _ hn; replace hs := Sat.new hs hn; clear hn
          refine ⟨_, hs.bv (i := 0) (l := 1) .z rfl (ints_one .u8 [T.getD u 0]), ?_⟩
          refine Sat.app hs (i := 1) (vs := ints .u8 [T.getD u 0]) (.s .z) rfl rfl (ints_one _ _) (by omega) ?_
          intro p4 c4 h7 hs
          simp only [put_succ, put_zero] at hs
          rw [← intsApp, ← takeS _ (by omega)] at hs
          rw [wrap_succ (by omega)]
          exact hk2 (p4, c4) h7 hs.drop
        · clear hs
          rintro ⟨p3, c3⟩ h6 hs
          dsimp only at hs ⊢
          apply hJ2
          clear hJ2
          rw [ltI_eq, if_neg (by decide)]
          rw [List.take_of_length_le (by omega)] at hs
          obtain ⟨q5, hl5, hq5, g0, g1, g2, g3, g4⟩ := cv_rd (rc _ hs.drop.drop.drop) (i := t) ht
          refine ⟨q5, hq5, by omega, by omega, ?_⟩
          try simp only [Int.toNat_natCast]
          refine ⟨_, g0, _, g1, _, g2, _, g3, _, g4, ?_⟩
          clear g0 g1 g2 g3 g4
          obtain ⟨C, hC⟩ : ∃ C, C = cs[t] := ⟨_, rfl⟩
          rw [← hC]
          refine rcbytes_sp C hs ?_
          intro p6 c6 h8 hs
          have ep : pairsM secret id (cs.take (t + 1)) = pairsM secret id (cs.take t) ++ [⟨T, cbM C, macM T (cbM C)⟩] := by rw [take_snoc _ hl5, ← hC, pairsM_snoc, hT]
          refine ⟨?_, ?_, ?_⟩
          · skip
            refine ⟨T, hs.sv (i := 1) (.s .z), ?_, ?_⟩
            · skip
              refine ⟨cbM C, hs.sv (i := 0) .z, ?_⟩
              refine rmac_sp (key := T) (b := cbM C) hs hTb (isBy_cb C) (by decide) (by decide) (fun h' hs' => hs'.sv (i := 1) (.s .z)) (fun h' hs' => hs'.sv (i := 0) .z) ?_
              intro h9 hs
              intro nb _ hn; replace hs := Sat.new hs hn; clear hn
              refine ⟨prV ⟨T, cbM C, macM T (cbM C)⟩, hs.bv (i := 0) (l := 1) (sz := 34) (vs := prV ⟨T, cbM C, macM T (cbM C)⟩) .z (by rw [prV_len (macM_len _ _)]) (prV_one _), ?_⟩
              refine Sat.app hs (i := 4) (vs := prV ⟨T, cbM C, macM T (cbM C)⟩) (.s (.s (.s (.s .z)))) (by rw [prV_len (macM_len _ _)]) (by simp [zeros]) (prV_one _) (by omega) ?_
              intro p7 c7 h10 hs
              simp only [put_succ, put_zero] at hs
              rw [wrap_succ (by omega)]
              refine hk (p7, c7) h10 ?_
              dsimp only
              rw [ep, prsV_app]
              exact (hs.drop.drop.drop.drop).eqL (by simp [prsV])
            · skip
              refine rmac_sp (key := T) (b := cbM C) hs hTb (isBy_cb C) (by decide) (by decide) (fun h' hs' => hs'.sv (i := 1) (.s .z)) (fun h' hs' => hs'.sv (i := 0) .z) ?_
              intro h9 hs
              refine ⟨cbM C, hs.sv (i := 0) .z, ?_⟩
              intro nb _ hn; replace hs := Sat.new hs hn; clear hn
              refine ⟨prV ⟨T, cbM C, macM T (cbM C)⟩, hs.bv (i := 0) (l := 1) (sz := 34) (vs := prV ⟨T, cbM C, macM T (cbM C)⟩) .z (by rw [prV_len (macM_len _ _)]) (prV_one _), ?_⟩
              refine Sat.app hs (i := 4) (vs := prV ⟨T, cbM C, macM T (cbM C)⟩) (.s (.s (.s (.s .z)))) (by rw [prV_len (macM_len _ _)]) (by simp [zeros]) (prV_one _) (by omega) ?_
              intro p7 c7 h10 hs
              simp only [put_succ, put_zero] at hs
              rw [wrap_succ (by omega)]
              refine hk (p7, c7) h10 ?_
              dsimp only
              rw [ep, prsV_app]
              exact (hs.drop.drop.drop.drop).eqL (by simp [prsV])
          · skip
            refine ⟨cbM C, hs.sv (i := 0) .z, ?_, ?_⟩
            · skip
              refine ⟨T, hs.sv (i := 1) (.s .z), ?_⟩
              refine rmac_sp (key := T) (b := cbM C) hs hTb (isBy_cb C) (by decide) (by decide) (fun h' hs' => hs'.sv (i := 1) (.s .z)) (fun h' hs' => hs'.sv (i := 0) .z) ?_
              intro h9 hs
              intro nb _ hn; replace hs := Sat.new hs hn; clear hn
              refine ⟨prV ⟨T, cbM C, macM T (cbM C)⟩, hs.bv (i := 0) (l := 1) (sz := 34) (vs := prV ⟨T, cbM C, macM T (cbM C)⟩) .z (by rw [prV_len (macM_len _ _)]) (prV_one _), ?_⟩
              refine Sat.app hs (i := 4) (vs := prV ⟨T, cbM C, macM T (cbM C)⟩) (.s (.s (.s (.s .z)))) (by rw [prV_len (macM_len _ _)]) (by simp [zeros]) (prV_one _) (by omega) ?_
              intro p7 c7 h10 hs
              simp only [put_succ, put_zero] at hs
              rw [wrap_succ (by omega)]
              refine hk (p7, c7) h10 ?_
              dsimp only
              rw [ep, prsV_app]
              exact (hs.drop.drop.drop.drop).eqL (by simp [prsV])
            · skip
              refine rmac_sp (key := T) (b := cbM C) hs hTb (isBy_cb C) (by decide) (by decide) (fun h' hs' => hs'.sv (i := 1) (.s .z)) (fun h' hs' => hs'.sv (i := 0) .z) ?_
              intro h9 hs
              refine ⟨T, hs.sv (i := 1) (.s .z), ?_⟩
              intro nb _ hn; replace hs := Sat.new hs hn; clear hn
              refine ⟨prV ⟨T, cbM C, macM T (cbM C)⟩, hs.bv (i := 0) (l := 1) (sz := 34) (vs := prV ⟨T, cbM C, macM T (cbM C)⟩) .z (by rw [prV_len (macM_len _ _)]) (prV_one _), ?_⟩
              refine Sat.app hs (i := 4) (vs := prV ⟨T, cbM C, macM T (cbM C)⟩) (.s (.s (.s (.s .z)))) (by rw [prV_len (macM_len _ _)]) (by simp [zeros]) (prV_one _) (by omega) ?_
              intro p7 c7 h10 hs
              simp only [put_succ, put_zero] at hs
              rw [wrap_succ (by omega)]
              refine hk (p7, c7) h10 ?_
              dsimp only
              rw [ep, prsV_app]
              exact (hs.drop.drop.drop.drop).eqL (by simp [prsV])
          · skip
            refine rmac_sp (key := T) (b := cbM C) hs hTb (isBy_cb C) (by decide) (by decide) (fun h' hs' => hs'.sv (i := 1) (.s .z)) (fun h' hs' => hs'.sv (i := 0) .z) ?_
            intro h9 hs
            refine ⟨?_, ?_⟩
            · skip
              refine ⟨T, hs.sv (i := 1) (.s .z), ?_⟩
              refine ⟨cbM C, hs.sv (i := 0) .z, ?_⟩
              intro nb _ hn; replace hs := Sat.new hs hn; clear hn
              refine ⟨prV ⟨T, cbM C, macM T (cbM C)⟩, hs.bv (i := 0) (l := 1) (sz := 34) (vs := prV ⟨T, cbM C, macM T (cbM C)⟩) .z (by rw [prV_len (macM_len _ _)]) (prV_one _), ?_⟩
              refine Sat.app hs (i := 4) (vs := prV ⟨T, cbM C, macM T (cbM C)⟩) (.s (.s (.s (.s .z)))) (by rw [prV_len (macM_len _ _)]) (by simp [zeros]) (prV_one _) (by omega) ?_
              intro p7 c7 h10 hs
              simp only [put_succ, put_zero] at hs
              rw [wrap_succ (by omega)]
              refine hk (p7, c7) h10 ?_
              dsimp only
              rw [ep, prsV_app]
              exact (hs.drop.drop.drop.drop).eqL (by simp [prsV])
            · skip
              refine ⟨cbM C, hs.sv (i := 0) .z, ?_⟩
              refine ⟨T, hs.sv (i := 1) (.s .z), ?_⟩
              intro nb _ hn; replace hs := Sat.new hs hn; clear hn
              refine ⟨prV ⟨T, cbM C, macM T (cbM C)⟩, hs.bv (i := 0) (l := 1) (sz := 34) (vs := prV ⟨T, cbM C, macM T (cbM C)⟩) .z (by rw [prV_len (macM_len _ _)]) (prV_one _), ?_⟩
              refine Sat.app hs (i := 4) (vs := prV ⟨T, cbM C, macM T (cbM C)⟩) (.s (.s (.s (.s .z)))) (by rw [prV_len (macM_len _ _)]) (by simp [zeros]) (prV_one _) (by omega) ?_
              intro p7 c7 h10 hs
              simp only [put_succ, put_zero] at hs
              rw [wrap_succ (by omega)]
              refine hk (p7, c7) h10 ?_
              dsimp only
              rw [ep, prsV_app]
              exact (hs.drop.drop.drop.drop).eqL (by simp [prsV])
      · clear hs
        rintro ⟨p2, c2⟩ h4 hs
        dsimp only at hs ⊢
        apply hJ
        rw [ltI_eq, if_neg (by simp)]
        rw [List.take_of_length_le (by omega)] at hs
        exact k _ _ _ hs
    · skip
      refine rmac_sp (key := secret) (b := M) hs hsb hMb (by omega) (by omega) (fun h' hs' => rs _ hs'.drop.drop) (fun h' hs' => hs'.sv (i := 1) (.s .z)) ?_
      intro h2 hs
      refine ⟨M, hs.sv (i := 1) (.s .z), ?_⟩
      intro pb _ hn; replace hs := Sat.new hs hn; clear hn
      replace hs : Sat h0 (blk pb (prV ⟨secret, M, macM secret M⟩) :: blk eb [] :: slE mp (18 + il) mc 1 (ints .u8 M) :: A) _ := hs
      refine ⟨_, hs.bv (i := 0) (l := 1) (sz := 34) .z (by rw [prV_len (macM_len _ _)]) (prV_one _), ?_⟩
      refine Sat.app_new (vs := prV ⟨secret, M, macM secret M⟩) hs (by rw [prV_len (macM_len _ _)]) (by simp [zeros]) (prV_one _) (by decide) ?_
      intro p0 c0 h3 hs
      replace hs : Sat h0 (slE p0 (0 + 1) c0 34 (prsV (pairsM secret id (cs.take 0))) :: A) h3 := by rw [e0]; exact (hs.sub (B := slE p0 1 c0 34 (prV ⟨secret, M, macM secret M⟩) :: A) (by (repeat (first | exact List.Sublist.refl _ | apply List.Sublist.cons_cons | apply List.Sublist.cons)))).eqL (by simp [prsV])
      intro J hJ
      refine loopS cl (fun t (s : Option Addr × Nat) => [.dv (.one (.slice s.1 (t + 1) s.2)), si t]) (fun t s h => Sat h0 (slE s.1 (t + 1) s.2 34 (prsV (pairsM secret id (cs.take t))) :: A) h) ?_ ?_ 0 (p0, c0) _ (by omega) hs
      · clear hs
        rintro t ⟨p2, c2⟩ h4 ht hs hk
        dsimp only at hs hk ⊢
        apply hJ
        clear hJ
        rw [ltI_eq, if_pos (by rw [decide_eq_true_iff]; omega)]
        have htl : (cs.take t).length = t := by rw [List.length_take]; omega
        have hPt := pairsM_tags secret id (cs.take t)
        obtain ⟨L, hL1, hL2⟩ := pairsM_last secret id (cs.take t)
        rw [htl] at hL1
        have hPl : t < (pairsM secret id (cs.take t)).length := by rw [pairsM_len, htl]; omega
        rw [List.getElem?_eq_getElem hPl] at hL1
        injection hL1 with hL1
        obtain ⟨T, hT⟩ : ∃ T, T = rightM secret id (cs.take t) := ⟨_, rfl⟩
        have hTl : T.length = 32 := by rw [hT]; exact rightM_len _ _ _
        have hTb : isBy T := by rw [hT]; exact rightM_by _ _ _
        have ew : IntKind.i64.wrap (((t + 1 : Nat) : Int) - 1) = (t : Int) := by rw [wrap_id (by omega)]; omega
        rw [ew]
        try simp only [Int.toNat_natCast]
        intro kb _ hn; replace hs := Sat.new hs hn; clear hn
        obtain ⟨q, hq, _, _, gr⟩ := pr_rd hPt (hs.sv (i := 1) (.s .z)) hPl
        rw [hL1, hL2, ← hT] at gr
        refine ⟨q, hq, by omega, by omega, T, hTl, gr, ?_⟩
        intro tb _ hn; replace hs := Sat.new hs hn; clear hn
        refine ⟨Sat.can hs (i := 0) .z (by simp [zeros]), ?_⟩
        intro h5 e5
        replace hs := Sat.wra hs (i := 0) .z e5 (by simp [zeros, hTl])
        clear e5
        simp only [put_zero] at hs
        intro J2 hJ2
        refine loopS 32 (fun u (s : Option Addr × Nat) => [.dv (.one (.slice s.1 u s.2)), si u]) (fun u s h => Sat h0 (slE s.1 u s.2 1 (ints .u8 (T.take u)) :: blk tb (ints .u8 T) :: slE p2 (t + 1) c2 34 (prsV (pairsM secret id (cs.take t))) :: A) h) ?_ ?_ 0 (some ⟨kb, 0, none⟩, 0) _ (by omega) ((hs.sub (B := blk tb (ints .u8 T) :: slE p2 (t + 1) c2 34 (prsV (pairsM secret id (cs.take t))) :: A) (by (repeat (first | exact List.Sublist.refl _ | apply List.Sublist.cons_cons | apply List.Sublist.cons)))).sl_nil 1 _)
        · clear hs
          rintro u ⟨p3, c3⟩ h6 hu hs hk2
          dsimp only at hs hk2 ⊢
          apply hJ2
          rw [ltI_eq, if_pos (by rw [decide_eq_true_iff]; omega)]
          try simp only [Int.toNat_natCast, Nat.mul_one]
          refine ⟨by omega, by omega, _, hs.ld (i := 1) (.s .z) (intsG (by omega)), ?_⟩
          intro b _ hn; replace hs := Sat.new hs hn; clear hn
          refine ⟨_, hs.bv (i := 0) (l := 1) .z rfl (ints_one .u8 [T.getD u 0]), ?_⟩
          refine Sat.app hs (i := 1) (vs := ints .u8 [T.getD u 0]) (.s .z) rfl rfl (ints_one _ _) (by omega) ?_
          intro p4 c4 h7 hs
          simp only [put_succ, put_zero] at hs
          rw [← intsApp, ← takeS _ (by omega)] at hs
          rw [wrap_succ (by omega)]
          exact hk2 (p4, c4) h7 hs.drop
        · clear hs
          rintro ⟨p3, c3⟩ h6 hs
          dsimp only at hs ⊢
          apply hJ2
          clear hJ2
          rw [ltI_eq, if_neg (by decide)]
          rw [List.take_of_length_le (by omega)] at hs
          obtain ⟨q5, hl5, hq5, g0, g1, g2, g3, g4⟩ := cv_rd (rc _ hs.drop.drop.drop) (i := t) ht
          refine ⟨q5, hq5, by omega, by omega, ?_⟩
          try simp only [Int.toNat_natCast]
          refine ⟨_, g0, _, g1, _, g2, _, g3, _, g4, ?_⟩
          clear g0 g1 g2 g3 g4
          obtain ⟨C, hC⟩ : ∃ C, C = cs[t] := ⟨_, rfl⟩
          rw [← hC]
          refine rcbytes_sp C hs ?_
          intro p6 c6 h8 hs
          have ep : pairsM secret id (cs.take (t + 1)) = pairsM secret id (cs.take t) ++ [⟨T, cbM C, macM T (cbM C)⟩] := by rw [take_snoc _ hl5, ← hC, pairsM_snoc, hT]
          refine ⟨?_, ?_, ?_⟩
          · skip
            refine ⟨T, hs.sv (i := 1) (.s .z), ?_, ?_⟩
            · skip
              refine ⟨cbM C, hs.sv (i := 0) .z, ?_⟩
              refine rmac_sp (key := T) (b := cbM C) hs hTb (isBy_cb C) (by decide) (by decide) (fun h' hs' => hs'.sv (i := 1) (.s .z)) (fun h' hs' => hs'.sv (i := 0) .z) ?_
              intro h9 hs
              intro nb _ hn; replace hs := Sat.new hs hn; clear hn
              refine ⟨prV ⟨T, cbM C, macM T (cbM C)⟩, hs.bv (i := 0) (l := 1) (sz := 34) (vs := prV ⟨T, cbM C, macM T (cbM C)⟩) .z (by rw [prV_len (macM_len _ _)]) (prV_one _), ?_⟩
              refine Sat.app hs (i := 4) (vs := prV ⟨T, cbM C, macM T (cbM C)⟩) (.s (.s (.s (.s .z)))) (by rw [prV_len (macM_len _ _)]) (by simp [zeros]) (prV_one _) (by omega) ?_
              intro p7 c7 h10 hs
              simp only [put_succ, put_zero] at hs
              rw [wrap_succ (by omega)]
              refine hk (p7, c7) h10 ?_
              dsimp only
              rw [ep, prsV_app]
              exact (hs.drop.drop.drop.drop).eqL (by simp [prsV])
            · skip
              refine rmac_sp (key := T) (b := cbM C) hs hTb (isBy_cb C) (by decide) (by decide) (fun h' hs' => hs'.sv (i := 1) (.s .z)) (fun h' hs' => hs'.sv (i := 0) .z) ?_
              intro h9 hs
              refine ⟨cbM C, hs.sv (i := 0) .z, ?_⟩
              intro nb _ hn; replace hs := Sat.new hs hn; clear hn
              refine ⟨prV ⟨T, cbM C, macM T (cbM C)⟩, hs.bv (i := 0) (l := 1) (sz := 34) (vs := prV ⟨T, cbM C, macM T (cbM C)⟩) .z (by rw [prV_len (macM_len _ _)]) (prV_one _), ?_⟩
              refine Sat.app hs (i := 4) (vs := prV ⟨T, cbM C, macM T (cbM C)⟩) (.s (.s (.s (.s .z)))) (by rw [prV_len (macM_len _ _)]) (by simp [zeros]) (prV_one _) (by omega) ?_
              intro p7 c7 h10 hs
              simp only [put_succ, put_zero] at hs
              rw [wrap_succ (by omega)]
              refine hk (p7, c7) h10 ?_
              dsimp only
              rw [ep, prsV_app]
              exact (hs.drop.drop.drop.drop).eqL (by simp [prsV])
          · skip
            refine ⟨cbM C, hs.sv (i := 0) .z, ?_, ?_⟩
            · skip
              refine ⟨T, hs.sv (i := 1) (.s .z), ?_⟩
              refine rmac_sp (key := T) (b := cbM C) hs hTb (isBy_cb C) (by decide) (by decide) (fun h' hs' => hs'.sv (i := 1) (.s .z)) (fun h' hs' => hs'.sv (i := 0) .z) ?_
              intro h9 hs
              intro nb _ hn; replace hs := Sat.new hs hn; clear hn
              refine ⟨prV ⟨T, cbM C, macM T (cbM C)⟩, hs.bv (i := 0) (l := 1) (sz := 34) (vs := prV ⟨T, cbM C, macM T (cbM C)⟩) .z (by rw [prV_len (macM_len _ _)]) (prV_one _), ?_⟩
              refine Sat.app hs (i := 4) (vs := prV ⟨T, cbM C, macM T (cbM C)⟩) (.s (.s (.s (.s .z)))) (by rw [prV_len (macM_len _ _)]) (by simp [zeros]) (prV_one _) (by omega) ?_
              intro p7 c7 h10 hs
              simp only [put_succ, put_zero] at hs
              rw [wrap_succ (by omega)]
              refine hk (p7, c7) h10 ?_
              dsimp only
              rw [ep, prsV_app]
              exact (hs.drop.drop.drop.drop).eqL (by simp [prsV])
            · skip
              refine rmac_sp (key := T) (b := cbM C) hs hTb (isBy_cb C) (by decide) (by decide) (fun h' hs' => hs'.sv (i := 1) (.s .z)) (fun h' hs' => hs'.sv (i := 0) .z) ?_
              intro h9 hs
              refine ⟨T, hs.sv (i := 1) (.s .z), ?_⟩
              intro nb _ hn; replace hs := Sat.new hs hn; clear hn
              refine ⟨prV ⟨T, cbM C, macM T (cbM C)⟩, hs.bv (i := 0) (l := 1) (sz := 34) (vs := prV ⟨T, cbM C, macM T (cbM C)⟩) .z (by rw [prV_len (macM_len _ _)]) (prV_one _), ?_⟩
              refine Sat.app hs (i := 4) (vs := prV ⟨T, cbM C, macM T (cbM C)⟩) (.s (.s (.s (.s .z)))) (by rw [prV_len (macM_len _ _)]) (by simp [zeros]) (prV_one _) (by omega) ?_
              intro p7 c7 h10 hs
              simp only [put_succ, put_zero] at hs
              rw [wrap_succ (by omega)]
              refine hk (p7, c7) h10 ?_
              dsimp only
              rw [ep, prsV_app]
              exact (hs.drop.drop.drop.drop).eqL (by simp [prsV])
          · skip
            refine rmac_sp (key := T) (b := cbM C) hs hTb (isBy_cb C) (by decide) (by decide) (fun h' hs' => hs'.sv (i := 1) (.s .z)) (fun h' hs' => hs'.sv (i := 0) .z) ?_
            intro h9 hs
            refine ⟨?_, ?_⟩
            · skip
              refine ⟨T, hs.sv (i := 1) (.s .z), ?_⟩
              refine ⟨cbM C, hs.sv (i := 0) .z, ?_⟩
              intro nb _ hn; replace hs := Sat.new hs hn; clear hn
              refine ⟨prV ⟨T, cbM C, macM T (cbM C)⟩, hs.bv (i := 0) (l := 1) (sz := 34) (vs := prV ⟨T, cbM C, macM T (cbM C)⟩) .z (by rw [prV_len (macM_len _ _)]) (prV_one _), ?_⟩
              refine Sat.app hs (i := 4) (vs := prV ⟨T, cbM C, macM T (cbM C)⟩) (.s (.s (.s (.s .z)))) (by rw [prV_len (macM_len _ _)]) (by simp [zeros]) (prV_one _) (by omega) ?_
              intro p7 c7 h10 hs
              simp only [put_succ, put_zero] at hs
              rw [wrap_succ (by omega)]
              refine hk (p7, c7) h10 ?_
              dsimp only
              rw [ep, prsV_app]
              exact (hs.drop.drop.drop.drop).eqL (by simp [prsV])
            · skip
              refine ⟨cbM C, hs.sv (i := 0) .z, ?_⟩
              refine ⟨T, hs.sv (i := 1) (.s .z), ?_⟩
              intro nb _ hn; replace hs := Sat.new hs hn; clear hn
              refine ⟨prV ⟨T, cbM C, macM T (cbM C)⟩, hs.bv (i := 0) (l := 1) (sz := 34) (vs := prV ⟨T, cbM C, macM T (cbM C)⟩) .z (by rw [prV_len (macM_len _ _)]) (prV_one _), ?_⟩
              refine Sat.app hs (i := 4) (vs := prV ⟨T, cbM C, macM T (cbM C)⟩) (.s (.s (.s (.s .z)))) (by rw [prV_len (macM_len _ _)]) (by simp [zeros]) (prV_one _) (by omega) ?_
              intro p7 c7 h10 hs
              simp only [put_succ, put_zero] at hs
              rw [wrap_succ (by omega)]
              refine hk (p7, c7) h10 ?_
              dsimp only
              rw [ep, prsV_app]
              exact (hs.drop.drop.drop.drop).eqL (by simp [prsV])
      · clear hs
        rintro ⟨p2, c2⟩ h4 hs
        dsimp only at hs ⊢
        apply hJ
        rw [ltI_eq, if_neg (by simp)]
        rw [List.take_of_length_le (by omega)] at hs
        exact k _ _ _ hs
  · skip
    refine ⟨M, hs.sv (i := 1) (.s .z), ?_, ?_⟩
    · skip
      refine ⟨secret, rs _ hs.drop.drop, ?_⟩
      refine rmac_sp (key := secret) (b := M) hs hsb hMb (by omega) (by omega) (fun h' hs' => rs _ hs'.drop.drop) (fun h' hs' => hs'.sv (i := 1) (.s .z)) ?_
      intro h2 hs
      intro pb _ hn; replace hs := Sat.new hs hn; clear hn
      replace hs : Sat h0 (blk pb (prV ⟨secret, M, macM secret M⟩) :: blk eb [] :: slE mp (18 + il) mc 1 (ints .u8 M) :: A) _ := hs
      refine ⟨_, hs.bv (i := 0) (l := 1) (sz := 34) .z (by rw [prV_len (macM_len _ _)]) (prV_one _), ?_⟩
      refine Sat.app_new (vs := prV ⟨secret, M, macM secret M⟩) hs (by rw [prV_len (macM_len _ _)]) (by simp [zeros]) (prV_one _) (by decide) ?_
      intro p0 c0 h3 hs
      replace hs : Sat h0 (slE p0 (0 + 1) c0 34 (prsV (pairsM secret id (cs.take 0))) :: A) h3 := by rw [e0]; exact (hs.sub (B := slE p0 1 c0 34 (prV ⟨secret, M, macM secret M⟩) :: A) (by (repeat (first | exact List.Sublist.refl _ | apply List.Sublist.cons_cons | apply List.Sublist.cons)))).eqL (by simp [prsV])
      intro J hJ
      refine loopS cl (fun t (s : Option Addr × Nat) => [.dv (.one (.slice s.1 (t + 1) s.2)), si t]) (fun t s h => Sat h0 (slE s.1 (t + 1) s.2 34 (prsV (pairsM secret id (cs.take t))) :: A) h) ?_ ?_ 0 (p0, c0) _ (by omega) hs
      · clear hs
        rintro t ⟨p2, c2⟩ h4 ht hs hk
        dsimp only at hs hk ⊢
        apply hJ
        clear hJ
        rw [ltI_eq, if_pos (by rw [decide_eq_true_iff]; omega)]
        have htl : (cs.take t).length = t := by rw [List.length_take]; omega
        have hPt := pairsM_tags secret id (cs.take t)
        obtain ⟨L, hL1, hL2⟩ := pairsM_last secret id (cs.take t)
        rw [htl] at hL1
        have hPl : t < (pairsM secret id (cs.take t)).length := by rw [pairsM_len, htl]; omega
        rw [List.getElem?_eq_getElem hPl] at hL1
        injection hL1 with hL1
        obtain ⟨T, hT⟩ : ∃ T, T = rightM secret id (cs.take t) := ⟨_, rfl⟩
        have hTl : T.length = 32 := by rw [hT]; exact rightM_len _ _ _
        have hTb : isBy T := by rw [hT]; exact rightM_by _ _ _
        have ew : IntKind.i64.wrap (((t + 1 : Nat) : Int) - 1) = (t : Int) := by rw [wrap_id (by omega)]; omega
        rw [ew]
        try simp only [Int.toNat_natCast]
        intro kb _ hn; replace hs := Sat.new hs hn; clear hn
        obtain ⟨q, hq, _, _, gr⟩ := pr_rd hPt (hs.sv (i := 1) (.s .z)) hPl
        rw [hL1, hL2, ← hT] at gr
        refine ⟨q, hq, by omega, by omega, T, hTl, gr, ?_⟩
        intro tb _ hn; replace hs := Sat.new hs hn; clear hn
        refine ⟨Sat.can hs (i := 0) .z (by simp [zeros]), ?_⟩
        intro h5 e5
        replace hs := Sat.wra hs (i := 0) .z e5 (by simp [zeros, hTl])
        clear e5
        simp only [put_zero] at hs
        intro J2 hJ2
        refine loopS 32 (fun u (s : Option Addr × Nat) => [.dv (.one (.slice s.1 u s.2)), si u]) (fun u s h => Sat h0 (slE s.1 u s.2 1 (ints .u8 (T.take u)) :: blk tb (ints .u8 T) :: slE p2 (t + 1) c2 34 (prsV (pairsM secret id (cs.take t))) :: A) h) ?_ ?_ 0 (some ⟨kb, 0, none⟩, 0) _ (by omega) ((hs.sub (B := blk tb (ints .u8 T) :: slE p2 (t + 1) c2 34 (prsV (pairsM secret id (cs.take t))) :: A) (by (repeat (first | exact List.Sublist.refl _ | apply List.Sublist.cons_cons | apply List.Sublist.cons)))).sl_nil 1 _)
        · clear hs
          rintro u ⟨p3, c3⟩ h6 hu hs hk2
          dsimp only at hs hk2 ⊢
          apply hJ2
          rw [ltI_eq, if_pos (by rw [decide_eq_true_iff]; omega)]
          try simp only [Int.toNat_natCast, Nat.mul_one]
          refine ⟨by omega, by omega, _, hs.ld (i := 1) (.s .z) (intsG (by omega)), ?_⟩
          intro b _ hn; replace hs := Sat.new hs hn; clear hn
          refine ⟨_, hs.bv (i := 0) (l := 1) .z rfl (ints_one .u8 [T.getD u 0]), ?_⟩
          refine Sat.app hs (i := 1) (vs := ints .u8 [T.getD u 0]) (.s .z) rfl rfl (ints_one _ _) (by omega) ?_
          intro p4 c4 h7 hs
          simp only [put_succ, put_zero] at hs
          rw [← intsApp, ← takeS _ (by omega)] at hs
          rw [wrap_succ (by omega)]
          exact hk2 (p4, c4) h7 hs.drop
        · clear hs
          rintro ⟨p3, c3⟩ h6 hs
          dsimp only at hs ⊢
          apply hJ2
          clear hJ2
          rw [ltI_eq, if_neg (by decide)]
          rw [List.take_of_length_le (by omega)] at hs
          obtain ⟨q5, hl5, hq5, g0, g1, g2, g3, g4⟩ := cv_rd (rc _ hs.drop.drop.drop) (i := t) ht
          refine ⟨q5, hq5, by omega, by omega, ?_⟩
          try simp only [Int.toNat_natCast]
          refine ⟨_, g0, _, g1, _, g2, _, g3, _, g4, ?_⟩
          clear g0 g1 g2 g3 g4
          obtain ⟨C, hC⟩ : ∃ C, C = cs[t] := ⟨_, rfl⟩
          rw [← hC]
          refine rcbytes_sp C hs ?_
          intro p6 c6 h8 hs
          have ep : pairsM secret id (cs.take (t + 1)) = pairsM secret id (cs.take t) ++ [⟨T, cbM C, macM T (cbM C)⟩] := by rw [take_snoc _ hl5, ← hC, pairsM_snoc, hT]
          refine ⟨?_, ?_, ?_⟩
          · skip
            refine ⟨T, hs.sv (i := 1) (.s .z), ?_, ?_⟩
            · skip
              refine ⟨cbM C, hs.sv (i := 0) .z, ?_⟩
              refine rmac_sp (key := T) (b := cbM C) hs hTb (isBy_cb C) (by decide) (by decide) (fun h' hs' => hs'.sv (i := 1) (.s .z)) (fun h' hs' => hs'.sv (i := 0) .z) ?_
              intro h9 hs
              intro nb _ hn; replace hs := Sat.new hs hn; clear hn
              refine ⟨prV ⟨T, cbM C, macM T (cbM C)⟩, hs.bv (i := 0) (l := 1) (sz := 34) (vs := prV ⟨T, cbM C, macM T (cbM C)⟩) .z (by rw [prV_len (macM_len _ _)]) (prV_one _), ?_⟩
              refine Sat.app hs (i := 4) (vs := prV ⟨T, cbM C, macM T (cbM C)⟩) (.s (.s (.s (.s .z)))) (by rw [prV_len (macM_len _ _)]) (by simp [zeros]) (prV_one _) (by omega) ?_
              intro p7 c7 h10 hs
              simp only [put_succ, put_zero] at hs
              rw [wrap_succ (by omega)]
              refine hk (p7, c7) h10 ?_
              dsimp only
              rw [ep, prsV_app]
              exact (hs.drop.drop.drop.drop).eqL (by simp [prsV])
            · skip
              refine rmac_sp (key := T) (b := cbM C) hs hTb (isBy_cb C) (by decide) (by decide) (fun h' hs' => hs'.sv (i := 1) (.s .z)) (fun h' hs' => hs'.sv (i := 0) .z) ?_
              intro h9 hs
              refine ⟨cbM C, hs.sv (i := 0) .z, ?_⟩
              intro nb _ hn; replace hs := Sat.new hs hn; clear hn
              refine ⟨prV ⟨T, cbM C, macM T (cbM C)⟩, hs.bv (i := 0) (l := 1) (sz := 34) (vs := prV ⟨T, cbM C, macM T (cbM C)⟩) .z (by rw [prV_len (macM_len _ _)]) (prV_one _), ?_⟩
              refine Sat.app hs (i := 4) (vs := prV ⟨T, cbM C, macM T (cbM C)⟩) (.s (.s (.s (.s .z)))) (by rw [prV_len (macM_len _ _)]) (by simp [zeros]) (prV_one _) (by omega) ?_
              intro p7 c7 h10 hs
              simp only [put_succ, put_zero] at hs
              rw [wrap_succ (by omega)]
              refine hk (p7, c7) h10 ?_
              dsimp only
              rw [ep, prsV_app]
              exact (hs.drop.drop.drop.drop).eqL (by simp [prsV])
          · skip
            refine ⟨cbM C, hs.sv (i := 0) .z, ?_, ?_⟩
            · skip
              refine ⟨T, hs.sv (i := 1) (.s .z), ?_⟩
              refine rmac_sp (key := T) (b := cbM C) hs hTb (isBy_cb C) (by decide) (by decide) (fun h' hs' => hs'.sv (i := 1) (.s .z)) (fun h' hs' => hs'.sv (i := 0) .z) ?_
              intro h9 hs
              intro nb _ hn; replace hs := Sat.new hs hn; clear hn
              refine ⟨prV ⟨T, cbM C, macM T (cbM C)⟩, hs.bv (i := 0) (l := 1) (sz := 34) (vs := prV ⟨T, cbM C, macM T (cbM C)⟩) .z (by rw [prV_len (macM_len _ _)]) (prV_one _), ?_⟩
              refine Sat.app hs (i := 4) (vs := prV ⟨T, cbM C, macM T (cbM C)⟩) (.s (.s (.s (.s .z)))) (by rw [prV_len (macM_len _ _)]) (by simp [zeros]) (prV_one _) (by omega) ?_
              intro p7 c7 h10 hs
              simp only [put_succ, put_zero] at hs
              rw [wrap_succ (by omega)]
              refine hk (p7, c7) h10 ?_
              dsimp only
              rw [ep, prsV_app]
              exact (hs.drop.drop.drop.drop).eqL (by simp [prsV])
            · skip
              refine rmac_sp (key := T) (b := cbM C) hs hTb (isBy_cb C) (by decide) (by decide) (fun h' hs' => hs'.sv (i := 1) (.s .z)) (fun h' hs' => hs'.sv (i := 0) .z) ?_
              intro h9 hs
              refine ⟨T, hs.sv (i := 1) (.s .z), ?_⟩
              intro nb _ hn; replace hs := Sat.new hs hn; clear hn
              refine ⟨prV ⟨T, cbM C, macM T (cbM C)⟩, hs.bv (i := 0) (l := 1) (sz := 34) (vs := prV ⟨T, cbM C, macM T (cbM C)⟩) .z (by rw [prV_len (macM_len _ _)]) (prV_one _), ?_⟩
              refine Sat.app hs (i := 4) (vs := prV ⟨T, cbM C, macM T (cbM C)⟩) (.s (.s (.s (.s .z)))) (by rw [prV_len (macM_len _ _)]) (by simp [zeros]) (prV_one _) (by omega) ?_
              intro p7 c7 h10 hs
              simp only [put_succ, put_zero] at hs
              rw [wrap_succ (by omega)]
              refine hk (p7, c7) h10 ?_
              dsimp only
              rw [ep, prsV_app]
              exact (hs.drop.drop.drop.drop).eqL (by simp [prsV])
          · skip
            refine rmac_sp (key := T) (b := cbM C) hs hTb (isBy_cb C) (by decide) (by decide) (fun h' hs' => hs'.sv (i := 1) (.s .z)) (fun h' hs' => hs'.sv (i := 0) .z) ?_
            intro h9 hs
            refine ⟨?_, ?_⟩
            · skip
              refine ⟨T, hs.sv (i := 1) (.s .z), ?_⟩
              refine ⟨cbM C, hs.sv (i := 0) .z, ?_⟩
              intro nb _ hn; replace hs := Sat.new hs hn; clear hn
              refine ⟨prV ⟨T, cbM C, macM T (cbM C)⟩, hs.bv (i := 0) (l := 1) (sz := 34) (vs := prV ⟨T, cbM C, macM T (cbM C)⟩) .z (by rw [prV_len (macM_len _ _)]) (prV_one _), ?_⟩
              refine Sat.app hs (i := 4) (vs := prV ⟨T, cbM C, macM T (cbM C)⟩) (.s (.s (.s (.s .z)))) (by rw [prV_len (macM_len _ _)]) (by simp [zeros]) (prV_one _) (by omega) ?_
              intro p7 c7 h10 hs
              simp only [put_succ, put_zero] at hs
              rw [wrap_succ (by omega)]
              refine hk (p7, c7) h10 ?_
              dsimp only
              rw [ep, prsV_app]
              exact (hs.drop.drop.drop.drop).eqL (by simp [prsV])
            · skip
              refine ⟨cbM C, hs.sv (i := 0) .z, ?_⟩
              refine ⟨T, hs.sv (i := 1) (.s .z), ?_⟩
              intro nb _ hn; replace hs := Sat.new hs hn; clear hn
              refine ⟨prV ⟨T, cbM C, macM T (cbM C)⟩, hs.bv (i := 0) (l := 1) (sz := 34) (vs := prV ⟨T, cbM C, macM T (cbM C)⟩) .z (by rw [prV_len (macM_len _ _)]) (prV_one _), ?_⟩
              refine Sat.app hs (i := 4) (vs := prV ⟨T, cbM C, macM T (cbM C)⟩) (.s (.s (.s (.s .z)))) (by rw [prV_len (macM_len _ _)]) (by simp [zeros]) (prV_one _) (by omega) ?_
              intro p7 c7 h10 hs
              simp only [put_succ, put_zero] at hs
              rw [wrap_succ (by omega)]
              refine hk (p7, c7) h10 ?_
              dsimp only
              rw [ep, prsV_app]
              exact (hs.drop.drop.drop.drop).eqL (by simp [prsV])
      · clear hs
        rintro ⟨p2, c2⟩ h4 hs
        dsimp only at hs ⊢
        apply hJ
        rw [ltI_eq, if_neg (by simp)]
        rw [List.take_of_length_le (by omega)] at hs
        exact k _ _ _ hs
    · skip
      refine rmac_sp (key := secret) (b := M) hs hsb hMb (by omega) (by omega) (fun h' hs' => rs _ hs'.drop.drop) (fun h' hs' => hs'.sv (i := 1) (.s .z)) ?_
      intro h2 hs
      refine ⟨secret, rs _ hs.drop.drop, ?_⟩
      intro pb _ hn; replace hs := Sat.new hs hn; clear hn
      replace hs : Sat h0 (blk pb (prV ⟨secret, M, macM secret M⟩) :: blk eb [] :: slE mp (18 + il) mc 1 (ints .u8 M) :: A) _ := hs
      refine ⟨_, hs.bv (i := 0) (l := 1) (sz := 34) .z (by rw [prV_len (macM_len _ _)]) (prV_one _), ?_⟩
      refine Sat.app_new (vs := prV ⟨secret, M, macM secret M⟩) hs (by rw [prV_len (macM_len _ _)]) (by simp [zeros]) (prV_one _) (by decide) ?_
      intro p0 c0 h3 hs
      replace hs : Sat h0 (slE p0 (0 + 1) c0 34 (prsV (pairsM secret id (cs.take 0))) :: A) h3 := by rw [e0]; exact (hs.sub (B := slE p0 1 c0 34 (prV ⟨secret, M, macM secret M⟩) :: A) (by (repeat (first | exact List.Sublist.refl _ | apply List.Sublist.cons_cons | apply List.Sublist.cons)))).eqL (by simp [prsV])
      intro J hJ
      refine loopS cl (fun t (s : Option Addr × Nat) => [.dv (.one (.slice s.1 (t + 1) s.2)), si t]) (fun t s h => Sat h0 (slE s.1 (t + 1) s.2 34 (prsV (pairsM secret id (cs.take t))) :: A) h) ?_ ?_ 0 (p0, c0) _ (by omega) hs
      · clear hs
        rintro t ⟨p2, c2⟩ h4 ht hs hk
        dsimp only at hs hk ⊢
        apply hJ
        clear hJ
        rw [ltI_eq, if_pos (by rw [decide_eq_true_iff]; omega)]
        have htl : (cs.take t).length = t := by rw [List.length_take]; omega
        have hPt := pairsM_tags secret id (cs.take t)
        obtain ⟨L, hL1, hL2⟩ := pairsM_last secret id (cs.take t)
        rw [htl] at hL1
        have hPl : t < (pairsM secret id (cs.take t)).length := by rw [pairsM_len, htl]; omega
        rw [List.getElem?_eq_getElem hPl] at hL1
        injection hL1 with hL1
        obtain ⟨T, hT⟩ : ∃ T, T = rightM secret id (cs.take t) := ⟨_, rfl⟩
        have hTl : T.length = 32 := by rw [hT]; exact rightM_len _ _ _
        have hTb : isBy T := by rw [hT]; exact rightM_by _ _ _
        have ew : IntKind.i64.wrap (((t + 1 : Nat) : Int) - 1) = (t : Int) := by rw [wrap_id (by omega)]; omega
        rw [ew]
        try simp only [Int.toNat_natCast]
        intro kb _ hn; replace hs := Sat.new hs hn; clear hn
        obtain ⟨q, hq, _, _, gr⟩ := pr_rd hPt (hs.sv (i := 1) (.s .z)) hPl
        rw [hL1, hL2, ← hT] at gr
        refine ⟨q, hq, by omega, by omega, T, hTl, gr, ?_⟩
        intro tb _ hn; replace hs := Sat.new hs hn; clear hn
        refine ⟨Sat.can hs (i := 0) .z (by simp [zeros]), ?_⟩
        intro h5 e5
        replace hs := Sat.wra hs (i := 0) .z e5 (by simp [zeros, hTl])
        clear e5
        simp only [put_zero] at hs
        intro J2 hJ2
        refine loopS 32 (fun u (s : Option Addr × Nat) => [.dv (.one (.slice s.1 u s.2)), si u]) (fun u s h => Sat h0 (slE s.1 u s.2 1 (ints .u8 (T.take u)) :: blk tb (ints .u8 T) :: slE p2 (t + 1) c2 34 (prsV (pairsM secret id (cs.take t))) :: A) h) ?_ ?_ 0 (some ⟨kb, 0, none⟩, 0) _ (by omega) ((hs.sub (B := blk tb (ints .u8 T) :: slE p2 (t + 1) c2 34 (prsV (pairsM secret id (cs.take t))) :: A) (by (repeat (first | exact List.Sublist.refl _ | apply List.Sublist.cons_cons | apply List.Sublist.cons)))).sl_nil 1 _)
        · clear hs
          rintro u ⟨p3, c3⟩ h6 hu hs hk2
          dsimp only at hs hk2 ⊢
          apply hJ2
          rw [ltI_eq, if_pos (by rw [decide_eq_true_iff]; omega)]
          try simp only [Int.toNat_natCast, Nat.mul_one]
          refine ⟨by omega, by omega, _, hs.ld (i := 1) (.s .z) (intsG (by omega)), ?_⟩
          intro b _ hn; replace hs := Sat.new hs hn; clear hn
          refine ⟨_, hs.bv (i := 0) (l := 1) .z rfl (ints_one .u8 [T.getD u 0]), ?_⟩
          refine Sat.app hs (i := 1) (vs := ints .u8 [T.getD u 0]) (.s .z) rfl rfl (ints_one _ _) (by omega) ?_
          intro p4 c4 h7 hs
          simp only [put_succ, put_zero] at hs
          rw [← intsApp, ← takeS _ (by omega)] at hs
          rw [wrap_succ (by omega)]
          exact hk2 (p4, c4) h7 hs.drop
        · clear hs
          rintro ⟨p3, c3⟩ h6 hs
          dsimp only at hs ⊢
          apply hJ2
          clear hJ2
          rw [ltI_eq, if_neg (by decide)]
          rw [List.take_of_length_le (by omega)] at hs
          obtain ⟨q5, hl5, hq5, g0, g1, g2, g3, g4⟩ := cv_rd (rc _ hs.drop.drop.drop) (i := t) ht
          refine ⟨q5, hq5, by omega, by omega, ?_⟩
          try simp only [Int.toNat_natCast]
          refine ⟨_, g0, _, g1, _, g2, _, g3, _, g4, ?_⟩
          clear g0 g1 g2 g3 g4
          obtain ⟨C, hC⟩ : ∃ C, C = cs[t] := ⟨_, rfl⟩
          rw [← hC]
          refine rcbytes_sp C hs ?_
          intro p6 c6 h8 hs
          have ep : pairsM secret id (cs.take (t + 1)) = pairsM secret id (cs.take t) ++ [⟨T, cbM C, macM T (cbM C)⟩] := by rw [take_snoc _ hl5, ← hC, pairsM_snoc, hT]
          refine ⟨?_, ?_, ?_⟩
          · skip
            refine ⟨T, hs.sv (i := 1) (.s .z), ?_, ?_⟩
            · skip
              refine ⟨cbM C, hs.sv (i := 0) .z, ?_⟩
              refine rmac_sp (key := T) (b := cbM C) hs hTb (isBy_cb C) (by decide) (by decide) (fun h' hs' => hs'.sv (i := 1) (.s .z)) (fun h' hs' => hs'.sv (i := 0) .z) ?_
              intro h9 hs
              intro nb _ hn; replace hs := Sat.new hs hn; clear hn
              refine ⟨prV ⟨T, cbM C, macM T (cbM C)⟩, hs.bv (i := 0) (l := 1) (sz := 34) (vs := prV ⟨T, cbM C, macM T (cbM C)⟩) .z (by rw [prV_len (macM_len _ _)]) (prV_one _), ?_⟩
              refine Sat.app hs (i := 4) (vs := prV ⟨T, cbM C, macM T (cbM C)⟩) (.s (.s (.s (.s .z)))) (by rw [prV_len (macM_len _ _)]) (by simp [zeros]) (prV_one _) (by omega) ?_
              intro p7 c7 h10 hs
              simp only [put_succ, put_zero] at hs
              rw [wrap_succ (by omega)]
              refine hk (p7, c7) h10 ?_
              dsimp only
              rw [ep, prsV_app]
              exact (hs.drop.drop.drop.drop).eqL (by simp [prsV])
            · skip
              refine rmac_sp (key := T) (b := cbM C) hs hTb (isBy_cb C) (by decide) (by decide) (fun h' hs' => hs'.sv (i := 1) (.s .z)) (fun h' hs' => hs'.sv (i := 0) .z) ?_
              intro h9 hs
              refine ⟨cbM C, hs.sv (i := 0) .z, ?_⟩
              intro nb _ hn; replace hs := Sat.new hs hn; clear hn
              refine ⟨prV ⟨T, cbM C, macM T (cbM C)⟩, hs.bv (i := 0) (l := 1) (sz := 34) (vs := prV ⟨T, cbM C, macM T (cbM C)⟩) .z (by rw [prV_len (macM_len _ _)]) (prV_one _), ?_⟩
              refine Sat.app hs (i := 4) (vs := prV ⟨T, cbM C, macM T (cbM C)⟩) (.s (.s (.s (.s .z)))) (by rw [prV_len (macM_len _ _)]) (by simp [zeros]) (prV_one _) (by omega) ?_
              intro p7 c7 h10 hs
              simp only [put_succ, put_zero] at hs
              rw [wrap_succ (by omega)]
              refine hk (p7, c7) h10 ?_
              dsimp only
              rw [ep, prsV_app]
              exact (hs.drop.drop.drop.drop).eqL (by simp [prsV])
          · skip
            refine ⟨cbM C, hs.sv (i := 0) .z, ?_, ?_⟩
            · skip
              refine ⟨T, hs.sv (i := 1) (.s .z), ?_⟩
              refine rmac_sp (key := T) (b := cbM C) hs hTb (isBy_cb C) (by decide) (by decide) (fun h' hs' => hs'.sv (i := 1) (.s .z)) (fun h' hs' => hs'.sv (i := 0) .z) ?_
              intro h9 hs
              intro nb _ hn; replace hs := Sat.new hs hn; clear hn
              refine ⟨prV ⟨T, cbM C, macM T (cbM C)⟩, hs.bv (i := 0) (l := 1) (sz := 34) (vs := prV ⟨T, cbM C, macM T (cbM C)⟩) .z (by rw [prV_len (macM_len _ _)]) (prV_one _), ?_⟩
              refine Sat.app hs (i := 4) (vs := prV ⟨T, cbM C, macM T (cbM C)⟩) (.s (.s (.s (.s .z)))) (by rw [prV_len (macM_len _ _)]) (by simp [zeros]) (prV_one _) (by omega) ?_
              intro p7 c7 h10 hs
              simp only [put_succ, put_zero] at hs
              rw [wrap_succ (by omega)]
              refine hk (p7, c7) h10 ?_
              dsimp only
              rw [ep, prsV_app]
              exact (hs.drop.drop.drop.drop).eqL (by simp [prsV])
            · skip
              refine rmac_sp (key := T) (b := cbM C) hs hTb (isBy_cb C) (by decide) (by decide) (fun h' hs' => hs'.sv (i := 1) (.s .z)) (fun h' hs' => hs'.sv (i := 0) .z) ?_
              intro h9 hs
              refine ⟨T, hs.sv (i := 1) (.s .z), ?_⟩
              intro nb _ hn; replace hs := Sat.new hs hn; clear hn
              refine ⟨prV ⟨T, cbM C, macM T (cbM C)⟩, hs.bv (i := 0) (l := 1) (sz := 34) (vs := prV ⟨T, cbM C, macM T (cbM C)⟩) .z (by rw [prV_len (macM_len _ _)]) (prV_one _), ?_⟩
              refine Sat.app hs (i := 4) (vs := prV ⟨T, cbM C, macM T (cbM C)⟩) (.s (.s (.s (.s .z)))) (by rw [prV_len (macM_len _ _)]) (by simp [zeros]) (prV_one _) (by omega) ?_
              intro p7 c7 h10 hs
              simp only [put_succ, put_zero] at hs
              rw [wrap_succ (by omega)]
              refine hk (p7, c7) h10 ?_
              dsimp only
              rw [ep, prsV_app]
              exact (hs.drop.drop.drop.drop).eqL (by simp [prsV])
          · skip
            refine rmac_sp (key := T) (b := cbM C) hs hTb (isBy_cb C) (by decide) (by decide) (fun h' hs' => hs'.sv (i := 1) (.s .z)) (fun h' hs' => hs'.sv (i := 0) .z) ?_
            intro h9 hs
            refine ⟨?_, ?_⟩
            · skip
              refine ⟨T, hs.sv (i := 1) (.s .z), ?_⟩
              refine ⟨cbM C, hs.sv (i := 0) .z, ?_⟩
              intro nb _ hn; replace hs := Sat.new hs hn; clear hn
              refine ⟨prV ⟨T, cbM C, macM T (cbM C)⟩, hs.bv (i := 0) (l := 1) (sz := 34) (vs := prV ⟨T, cbM C, macM T (cbM C)⟩) .z (by rw [prV_len (macM_len _ _)]) (prV_one _), ?_⟩
              refine Sat.app hs (i := 4) (vs := prV ⟨T, cbM C, macM T (cbM C)⟩) (.s (.s (.s (.s .z)))) (by rw [prV_len (macM_len _ _)]) (by simp [zeros]) (prV_one _) (by omega) ?_
              intro p7 c7 h10 hs
              simp only [put_succ, put_zero] at hs
              rw [wrap_succ (by omega)]
              refine hk (p7, c7) h10 ?_
              dsimp only
              rw [ep, prsV_app]
              exact (hs.drop.drop.drop.drop).eqL (by simp [prsV])
            · skip
              refine ⟨cbM C, hs.sv (i := 0) .z, ?_⟩
              refine ⟨T, hs.sv (i := 1) (.s .z), ?_⟩
              intro nb _ hn; replace hs := Sat.new hs hn; clear hn
              refine ⟨prV ⟨T, cbM C, macM T (cbM C)⟩, hs.bv (i := 0) (l := 1) (sz := 34) (vs := prV ⟨T, cbM C, macM T (cbM C)⟩) .z (by rw [prV_len (macM_len _ _)]) (prV_one _), ?_⟩
              refine Sat.app hs (i := 4) (vs := prV ⟨T, cbM C, macM T (cbM C)⟩) (.s (.s (.s (.s .z)))) (by rw [prV_len (macM_len _ _)]) (by simp [zeros]) (prV_one _) (by omega) ?_
              intro p7 c7 h10 hs
              simp only [put_succ, put_zero] at hs
              rw [wrap_succ (by omega)]
              refine hk (p7, c7) h10 ?_
              dsimp only
              rw [ep, prsV_app]
              exact (hs.drop.drop.drop.drop).eqL (by simp [prsV])
      · clear hs
        rintro ⟨p2, c2⟩ h4 hs
        dsimp only at hs ⊢
        apply hJ
        rw [ltI_eq, if_neg (by simp)]
        rw [List.take_of_length_le (by omega)] at hs
        exact k _ _ _ hs
  · skip
    refine rmac_sp (key := secret) (b := M) hs hsb hMb (by omega) (by omega) (fun h' hs' => rs _ hs'.drop.drop) (fun h' hs' => hs'.sv (i := 1) (.s .z)) ?_
    intro h2 hs
    refine ⟨?_, ?_⟩
    · skip
      refine ⟨secret, rs _ hs.drop.drop, ?_⟩
      refine ⟨M, hs.sv (i := 1) (.s .z), ?_⟩
      intro pb _ hn; replace hs := Sat.new hs hn; clear hn
      replace hs : Sat h0 (blk pb (prV ⟨secret, M, macM secret M⟩) :: blk eb [] :: slE mp (18 + il) mc 1 (ints .u8 M) :: A) _ := hs
      refine ⟨_, hs.bv (i := 0) (l := 1) (sz := 34) .z (by rw [prV_len (macM_len _ _)]) (prV_one _), ?_⟩
      refine Sat.app_new (vs := prV ⟨secret, M, macM secret M⟩) hs (by rw [prV_len (macM_len _ _)]) (by simp [zeros]) (prV_one _) (by decide) ?_
      intro p0 c0 h3 hs
      replace hs : Sat h0 (slE p0 (0 + 1) c0 34 (prsV (pairsM secret id (cs.take 0))) :: A) h3 := by rw [e0]; exact (hs.sub (B := slE p0 1 c0 34 (prV ⟨secret, M, macM secret M⟩) :: A) (by (repeat (first | exact List.Sublist.refl _ | apply List.Sublist.cons_cons | apply List.Sublist.cons)))).eqL (by simp [prsV])
      intro J hJ
      refine loopS cl (fun t (s : Option Addr × Nat) => [.dv (.one (.slice s.1 (t + 1) s.2)), si t]) (fun t s h => Sat h0 (slE s.1 (t + 1) s.2 34 (prsV (pairsM secret id (cs.take t))) :: A) h) ?_ ?_ 0 (p0, c0) _ (by omega) hs
      · clear hs
        rintro t ⟨p2, c2⟩ h4 ht hs hk
        dsimp only at hs hk ⊢
        apply hJ
        clear hJ
        rw [ltI_eq, if_pos (by rw [decide_eq_true_iff]; omega)]
        have htl : (cs.take t).length = t := by rw [List.length_take]; omega
        have hPt := pairsM_tags secret id (cs.take t)
        obtain ⟨L, hL1, hL2⟩ := pairsM_last secret id (cs.take t)
        rw [htl] at hL1
        have hPl : t < (pairsM secret id (cs.take t)).length := by rw [pairsM_len, htl]; omega
        rw [List.getElem?_eq_getElem hPl] at hL1
        injection hL1 with hL1
        obtain ⟨T, hT⟩ : ∃ T, T = rightM secret id (cs.take t) := ⟨_, rfl⟩
        have hTl : T.length = 32 := by rw [hT]; exact rightM_len _ _ _
        have hTb : isBy T := by rw [hT]; exact rightM_by _ _ _
        have ew : IntKind.i64.wrap (((t + 1 : Nat) : Int) - 1) = (t : Int) := by rw [wrap_id (by omega)]; omega
        rw [ew]
        try simp only [Int.toNat_natCast]
        intro kb _ hn; replace hs := Sat.new hs hn; clear hn
        obtain ⟨q, hq, _, _, gr⟩ := pr_rd hPt (hs.sv (i := 1) (.s .z)) hPl
        rw [hL1, hL2, ← hT] at gr
        refine ⟨q, hq, by omega, by omega, T, hTl, gr, ?_⟩
        intro tb _ hn; replace hs := Sat.new hs hn; clear hn
        refine ⟨Sat.can hs (i := 0) .z (by simp [zeros]), ?_⟩
        intro h5 e5
        replace hs := Sat.wra hs (i := 0) .z e5 (by simp [zeros, hTl])
        clear e5
        simp only [put_zero] at hs
        intro J2 hJ2
        refine loopS 32 (fun u (s : Option Addr × Nat) => [.dv (.one (.slice s.1 u s.2)), si u]) (fun u s h => Sat h0 (slE s.1 u s.2 1 (ints .u8 (T.take u)) :: blk tb (ints .u8 T) :: slE p2 (t + 1) c2 34 (prsV (pairsM secret id (cs.take t))) :: A) h) ?_ ?_ 0 (some ⟨kb, 0, none⟩, 0) _ (by omega) ((hs.sub (B := blk tb (ints .u8 T) :: slE p2 (t + 1) c2 34 (prsV (pairsM secret id (cs.take t))) :: A) (by (repeat (first | exact List.Sublist.refl _ | apply List.Sublist.cons_cons | apply List.Sublist.cons)))).sl_nil 1 _)
        · clear hs
          rintro u ⟨p3, c3⟩ h6 hu hs hk2
          dsimp only at hs hk2 ⊢
          apply hJ2
          rw [ltI_eq, if_pos (by rw [decide_eq_true_iff]; omega)]
          try simp only [Int.toNat_natCast, Nat.mul_one]
          refine ⟨by omega, by omega, _, hs.ld (i := 1) (.s .z) (intsG (by omega)), ?_⟩
          intro b _ hn; replace hs := Sat.new hs hn; clear hn
          refine ⟨_, hs.bv (i := 0) (l := 1) .z rfl (ints_one .u8 [T.getD u 0]), ?_⟩
          refine Sat.app hs (i := 1) (vs := ints .u8 [T.getD u 0]) (.s .z) rfl rfl (ints_one _ _) (by omega) ?_
          intro p4 c4 h7 hs
          simp only [put_succ, put_zero] at hs
          rw [← intsApp, ← takeS _ (by omega)] at hs
          rw [wrap_succ (by omega)]
          exact hk2 (p4, c4) h7 hs.drop
        · clear hs
          rintro ⟨p3, c3⟩ h6 hs
          dsimp only at hs ⊢
          apply hJ2
          clear hJ2
          rw [ltI_eq, if_neg (by decide)]
          rw [List.take_of_length_le (by omega)] at hs
          obtain ⟨q5, hl5, hq5, g0, g1, g2, g3, g4⟩ := cv_rd (rc _ hs.drop.drop.drop) (i := t) ht
          refine ⟨q5, hq5, by omega, by omega, ?_⟩
          try simp only [Int.toNat_natCast]
          refine ⟨_, g0, _, g1, _, g2, _, g3, _, g4, ?_⟩
          clear g0 g1 g2 g3 g4
          obtain ⟨C, hC⟩ : ∃ C, C = cs[t] := ⟨_, rfl⟩
          rw [← hC]
          refine rcbytes_sp C hs ?_
          intro p6 c6 h8 hs
          have ep : pairsM secret id (cs.take (t + 1)) = pairsM secret id (cs.take t) ++ [⟨T, cbM C, macM T (cbM C)⟩] := by rw [take_snoc _ hl5, ← hC, pairsM_snoc, hT]
          refine ⟨?_, ?_, ?_⟩
          · skip
            refine ⟨T, hs.sv (i := 1) (.s .z), ?_, ?_⟩
            · skip
              refine ⟨cbM C, hs.sv (i := 0) .z, ?_⟩
              refine rmac_sp (key := T) (b := cbM C) hs hTb (isBy_cb C) (by decide) (by decide) (fun h' hs' => hs'.sv (i := 1) (.s .z)) (fun h' hs' => hs'.sv (i := 0) .z) ?_
              intro h9 hs
              intro nb _ hn; replace hs := Sat.new hs hn; clear hn
              refine ⟨prV ⟨T, cbM C, macM T (cbM C)⟩, hs.bv (i := 0) (l := 1) (sz := 34) (vs := prV ⟨T, cbM C, macM T (cbM C)⟩) .z (by rw [prV_len (macM_len _ _)]) (prV_one _), ?_⟩
              refine Sat.app hs (i := 4) (vs := prV ⟨T, cbM C, macM T (cbM C)⟩) (.s (.s (.s (.s .z)))) (by rw [prV_len (macM_len _ _)]) (by simp [zeros]) (prV_one _) (by omega) ?_
              intro p7 c7 h10 hs
              simp only [put_succ, put_zero] at hs
              rw [wrap_succ (by omega)]
              refine hk (p7, c7) h10 ?_
              dsimp only
              rw [ep, prsV_app]
              exact (hs.drop.drop.drop.drop).eqL (by simp [prsV])
            · skip
              refine rmac_sp (key := T) (b := cbM C) hs hTb (isBy_cb C) (by decide) (by decide) (fun h' hs' => hs'.sv (i := 1) (.s .z)) (fun h' hs' => hs'.sv (i := 0) .z) ?_
              intro h9 hs
              refine ⟨cbM C, hs.sv (i := 0) .z, ?_⟩
              intro nb _ hn; replace hs := Sat.new hs hn; clear hn
              refine ⟨prV ⟨T, cbM C, macM T (cbM C)⟩, hs.bv (i := 0) (l := 1) (sz := 34) (vs := prV ⟨T, cbM C, macM T (cbM C)⟩) .z (by rw [prV_len (macM_len _ _)]) (prV_one _), ?_⟩
              refine Sat.app hs (i := 4) (vs := prV ⟨T, cbM C, macM T (cbM C)⟩) (.s (.s (.s (.s .z)))) (by rw [prV_len (macM_len _ _)]) (by simp [zeros]) (prV_one _) (by omega) ?_
              intro p7 c7 h10 hs
              simp only [put_succ, put_zero] at hs
              rw [wrap_succ (by omega)]
              refine hk (p7, c7) h10 ?_
              dsimp only
              rw [ep, prsV_app]
              exact (hs.drop.drop.drop.drop).eqL (by simp [prsV])
          · skip
            refine ⟨cbM C, hs.sv (i := 0) .z, ?_, ?_⟩
            · skip
              refine ⟨T, hs.sv (i := 1) (.s .z), ?_⟩
              refine rmac_sp (key := T) (b := cbM C) hs hTb (isBy_cb C) (by decide) (by decide) (fun h' hs' => hs'.sv (i := 1) (.s .z)) (fun h' hs' => hs'.sv (i := 0) .z) ?_
              intro h9 hs
              intro nb _ hn; replace hs := Sat.new hs hn; clear hn
              refine ⟨prV ⟨T, cbM C, macM T (cbM C)⟩, hs.bv (i := 0) (l := 1) (sz := 34) (vs := prV ⟨T, cbM C, macM T (cbM C)⟩) .z (by rw [prV_len (macM_len _ _)]) (prV_one _), ?_⟩
              refine Sat.app hs (i := 4) (vs := prV ⟨T, cbM C, macM T (cbM C)⟩) (.s (.s (.s (.s .z)))) (by rw [prV_len (macM_len _ _)]) (by simp [zeros]) (prV_one _) (by omega) ?_
              intro p7 c7 h10 hs
              simp only [put_succ, put_zero] at hs
              rw [wrap_succ (by omega)]
              refine hk (p7, c7) h10 ?_
              dsimp only
              rw [ep, prsV_app]
              exact (hs.drop.drop.drop.drop).eqL (by simp [prsV])
            · skip
              refine rmac_sp (key := T) (b := cbM C) hs hTb (isBy_cb C) (by decide) (by decide) (fun h' hs' => hs'.sv (i := 1) (.s .z)) (fun h' hs' => hs'.sv (i := 0) .z) ?_
              intro h9 hs
              refine ⟨T, hs.sv (i := 1) (.s .z), ?_⟩
              intro nb _ hn; replace hs := Sat.new hs hn; clear hn
              refine ⟨prV ⟨T, cbM C, macM T (cbM C)⟩, hs.bv (i := 0) (l := 1) (sz := 34) (vs := prV ⟨T, cbM C, macM T (cbM C)⟩) .z (by rw [prV_len (macM_len _ _)]) (prV_one _), ?_⟩
              refine Sat.app hs (i := 4) (vs := prV ⟨T, cbM C, macM T (cbM C)⟩) (.s (.s (.s (.s .z)))) (by rw [prV_len (macM_len _ _)]) (by simp [zeros]) (prV_one _) (by omega) ?_
              intro p7 c7 h10 hs
              simp only [put_succ, put_zero] at hs
              rw [wrap_succ (by omega)]
              refine hk (p7, c7) h10 ?_
              dsimp only
              rw [ep, prsV_app]
              exact (hs.drop.drop.drop.drop).eqL (by simp [prsV])
          · skip
            refine rmac_sp (key := T) (b := cbM C) hs hTb (isBy_cb C) (by decide) (by decide) (fun h' hs' => hs'.sv (i := 1) (.s .z)) (fun h' hs' => hs'.sv (i := 0) .z) ?_
            intro h9 hs
            refine ⟨?_, ?_⟩
            · skip
              refine ⟨T, hs.sv (i := 1) (.s .z), ?_⟩
              refine ⟨cbM C, hs.sv (i := 0) .z, ?_⟩
              intro nb _ hn; replace hs := Sat.new hs hn; clear hn
              refine ⟨prV ⟨T, cbM C, macM T (cbM C)⟩, hs.bv (i := 0) (l := 1) (sz := 34) (vs := prV ⟨T, cbM C, macM T (cbM C)⟩) .z (by rw [prV_len (macM_len _ _)]) (prV_one _), ?_⟩
              refine Sat.app hs (i := 4) (vs := prV ⟨T, cbM C, macM T (cbM C)⟩) (.s (.s (.s (.s .z)))) (by rw [prV_len (macM_len _ _)]) (by simp [zeros]) (prV_one _) (by omega) ?_
              intro p7 c7 h10 hs
              simp only [put_succ, put_zero] at hs
              rw [wrap_succ (by omega)]
              refine hk (p7, c7) h10 ?_
              dsimp only
              rw [ep, prsV_app]
              exact (hs.drop.drop.drop.drop).eqL (by simp [prsV])
            · skip
              refine ⟨cbM C, hs.sv (i := 0) .z, ?_⟩
              refine ⟨T, hs.sv (i := 1) (.s .z), ?_⟩
              intro nb _ hn; replace hs := Sat.new hs hn; clear hn
              refine ⟨prV ⟨T, cbM C, macM T (cbM C)⟩, hs.bv (i := 0) (l := 1) (sz := 34) (vs := prV ⟨T, cbM C, macM T (cbM C)⟩) .z (by rw [prV_len (macM_len _ _)]) (prV_one _), ?_⟩
              refine Sat.app hs (i := 4) (vs := prV ⟨T, cbM C, macM T (cbM C)⟩) (.s (.s (.s (.s .z)))) (by rw [prV_len (macM_len _ _)]) (by simp [zeros]) (prV_one _) (by omega) ?_
              intro p7 c7 h10 hs
              simp only [put_succ, put_zero] at hs
              rw [wrap_succ (by omega)]
              refine hk (p7, c7) h10 ?_
              dsimp only
              rw [ep, prsV_app]
              exact (hs.drop.drop.drop.drop).eqL (by simp [prsV])
      · clear hs
        rintro ⟨p2, c2⟩ h4 hs
        dsimp only at hs ⊢
        apply hJ
        rw [ltI_eq, if_neg (by simp)]
        rw [List.take_of_length_le (by omega)] at hs
        exact k _ _ _ hs
    · skip
      refine ⟨M, hs.sv (i := 1) (.s .z), ?_⟩
      refine ⟨secret, rs _ hs.drop.drop, ?_⟩
      intro pb _ hn; replace hs := Sat.new hs hn; clear hn
      replace hs : Sat h0 (blk pb (prV ⟨secret, M, macM secret M⟩) :: blk eb [] :: slE mp (18 + il) mc 1 (ints .u8 M) :: A) _ := hs
      refine ⟨_, hs.bv (i := 0) (l := 1) (sz := 34) .z (by rw [prV_len (macM_len _ _)]) (prV_one _), ?_⟩
      refine Sat.app_new (vs := prV ⟨secret, M, macM secret M⟩) hs (by rw [prV_len (macM_len _ _)]) (by simp [zeros]) (prV_one _) (by decide) ?_
      intro p0 c0 h3 hs
      replace hs : Sat h0 (slE p0 (0 + 1) c0 34 (prsV (pairsM secret id (cs.take 0))) :: A) h3 := by rw [e0]; exact (hs.sub (B := slE p0 1 c0 34 (prV ⟨secret, M, macM secret M⟩) :: A) (by (repeat (first | exact List.Sublist.refl _ | apply List.Sublist.cons_cons | apply List.Sublist.cons)))).eqL (by simp [prsV])
      intro J hJ
      refine loopS cl (fun t (s : Option Addr × Nat) => [.dv (.one (.slice s.1 (t + 1) s.2)), si t]) (fun t s h => Sat h0 (slE s.1 (t + 1) s.2 34 (prsV (pairsM secret id (cs.take t))) :: A) h) ?_ ?_ 0 (p0, c0) _ (by omega) hs
      · clear hs
        rintro t ⟨p2, c2⟩ h4 ht hs hk
        dsimp only at hs hk ⊢
        apply hJ
        clear hJ
        rw [ltI_eq, if_pos (by rw [decide_eq_true_iff]; omega)]
        have htl : (cs.take t).length = t := by rw [List.length_take]; omega
        have hPt := pairsM_tags secret id (cs.take t)
        obtain ⟨L, hL1, hL2⟩ := pairsM_last secret id (cs.take t)
        rw [htl] at hL1
        have hPl : t < (pairsM secret id (cs.take t)).length := by rw [pairsM_len, htl]; omega
        rw [List.getElem?_eq_getElem hPl] at hL1
        injection hL1 with hL1
        obtain ⟨T, hT⟩ : ∃ T, T = rightM secret id (cs.take t) := ⟨_, rfl⟩
        have hTl : T.length = 32 := by rw [hT]; exact rightM_len _ _ _
        have hTb : isBy T := by rw [hT]; exact rightM_by _ _ _
        have ew : IntKind.i64.wrap (((t + 1 : Nat) : Int) - 1) = (t : Int) := by rw [wrap_id (by omega)]; omega
        rw [ew]
        try simp only [Int.toNat_natCast]
        intro kb _ hn; replace hs := Sat.new hs hn; clear hn
        obtain ⟨q, hq, _, _, gr⟩ := pr_rd hPt (hs.sv (i := 1) (.s .z)) hPl
        rw [hL1, hL2, ← hT] at gr
        refine ⟨q, hq, by omega, by omega, T, hTl, gr, ?_⟩
        intro tb _ hn; replace hs := Sat.new hs hn; clear hn
        refine ⟨Sat.can hs (i := 0) .z (by simp [zeros]), ?_⟩
        intro h5 e5
        replace hs := Sat.wra hs (i := 0) .z e5 (by simp [zeros, hTl])
        clear e5
        simp only [put_zero] at hs
        intro J2 hJ2
        refine loopS 32 (fun u (s : Option Addr × Nat) => [.dv (.one (.slice s.1 u s.2)), si u]) (fun u s h => Sat h0 (slE s.1 u s.2 1 (ints .u8 (T.take u)) :: blk tb (ints .u8 T) :: slE p2 (t + 1) c2 34 (prsV (pairsM secret id (cs.take t))) :: A) h) ?_ ?_ 0 (some ⟨kb, 0, none⟩, 0) _ (by omega) ((hs.sub (B := blk tb (ints .u8 T) :: slE p2 (t + 1) c2 34 (prsV (pairsM secret id (cs.take t))) :: A) (by (repeat (first | exact List.Sublist.refl _ | apply List.Sublist.cons_cons | apply List.Sublist.cons)))).sl_nil 1 _)
        · clear hs
          rintro u ⟨p3, c3⟩ h6 hu hs hk2
          dsimp only at hs hk2 ⊢
          apply hJ2
          rw [ltI_eq, if_pos (by rw [decide_eq_true_iff]; omega)]
          try simp only [Int.toNat_natCast, Nat.mul_one]
          refine ⟨by omega, by omega, _, hs.ld (i := 1) (.s .z) (intsG (by omega)), ?_⟩
          intro b _ hn; replace hs := Sat.new hs hn; clear hn
          refine ⟨_, hs.bv (i := 0) (l := 1) .z rfl (ints_one .u8 [T.getD u 0]), ?_⟩
          refine Sat.app hs (i := 1) (vs := ints .u8 [T.getD u 0]) (.s .z) rfl rfl (ints_one _ _) (by omega) ?_
          intro p4 c4 h7 hs
          simp only [put_succ, put_zero] at hs
          rw [← intsApp, ← takeS _ (by omega)] at hs
          rw [wrap_succ (by omega)]
          exact hk2 (p4, c4) h7 hs.drop
        · clear hs
          rintro ⟨p3, c3⟩ h6 hs
          dsimp only at hs ⊢
          apply hJ2
          clear hJ2
          rw [ltI_eq, if_neg (by decide)]
          rw [List.take_of_length_le (by omega)] at hs
          obtain ⟨q5, hl5, hq5, g0, g1, g2, g3, g4⟩ := cv_rd (rc _ hs.drop.drop.drop) (i := t) ht
          refine ⟨q5, hq5, by omega, by omega, ?_⟩
          try simp only [Int.toNat_natCast]
          refine ⟨_, g0, _, g1, _, g2, _, g3, _, g4, ?_⟩
          clear g0 g1 g2 g3 g4
          obtain ⟨C, hC⟩ : ∃ C, C = cs[t] := ⟨_, rfl⟩
          rw [← hC]
          refine rcbytes_sp C hs ?_
          intro p6 c6 h8 hs
          have ep : pairsM secret id (cs.take (t + 1)) = pairsM secret id (cs.take t) ++ [⟨T, cbM C, macM T (cbM C)⟩] := by rw [take_snoc _ hl5, ← hC, pairsM_snoc, hT]
          refine ⟨?_, ?_, ?_⟩
          · skip
            refine ⟨T, hs.sv (i := 1) (.s .z), ?_, ?_⟩
            · skip
              refine ⟨cbM C, hs.sv (i := 0) .z, ?_⟩
              refine rmac_sp (key := T) (b := cbM C) hs hTb (isBy_cb C) (by decide) (by decide) (fun h' hs' => hs'.sv (i := 1) (.s .z)) (fun h' hs' => hs'.sv (i := 0) .z) ?_
              intro h9 hs
              intro nb _ hn; replace hs := Sat.new hs hn; clear hn
              refine ⟨prV ⟨T, cbM C, macM T (cbM C)⟩, hs.bv (i := 0) (l := 1) (sz := 34) (vs := prV ⟨T, cbM C, macM T (cbM C)⟩) .z (by rw [prV_len (macM_len _ _)]) (prV_one _), ?_⟩
              refine Sat.app hs (i := 4) (vs := prV ⟨T, cbM C, macM T (cbM C)⟩) (.s (.s (.s (.s .z)))) (by rw [prV_len (macM_len _ _)]) (by simp [zeros]) (prV_one _) (by omega) ?_
              intro p7 c7 h10 hs
              simp only [put_succ, put_zero] at hs
              rw [wrap_succ (by omega)]
              refine hk (p7, c7) h10 ?_
              dsimp only
              rw [ep, prsV_app]
              exact (hs.drop.drop.drop.drop).eqL (by simp [prsV])
            · skip
              refine rmac_sp (key := T) (b := cbM C) hs hTb (isBy_cb C) (by decide) (by decide) (fun h' hs' => hs'.sv (i := 1) (.s .z)) (fun h' hs' => hs'.sv (i := 0) .z) ?_
              intro h9 hs
              refine ⟨cbM C, hs.sv (i := 0) .z, ?_⟩
              intro nb _ hn; replace hs := Sat.new hs hn; clear hn
              refine ⟨prV ⟨T, cbM C, macM T (cbM C)⟩, hs.bv (i := 0) (l := 1) (sz := 34) (vs := prV ⟨T, cbM C, macM T (cbM C)⟩) .z (by rw [prV_len (macM_len _ _)]) (prV_one _), ?_⟩
              refine Sat.app hs (i := 4) (vs := prV ⟨T, cbM C, macM T (cbM C)⟩) (.s (.s (.s (.s .z)))) (by rw [prV_len (macM_len _ _)]) (by simp [zeros]) (prV_one _) (by omega) ?_
              intro p7 c7 h10 hs
              simp only [put_succ, put_zero] at hs
              rw [wrap_succ (by omega)]
              refine hk (p7, c7) h10 ?_
              dsimp only
              rw [ep, prsV_app]
              exact (hs.drop.drop.drop.drop).eqL (by simp [prsV])
          · skip
            refine ⟨cbM C, hs.sv (i := 0) .z, ?_, ?_⟩
            · skip
              refine ⟨T, hs.sv (i := 1) (.s .z), ?_⟩
              refine rmac_sp (key := T) (b := cbM C) hs hTb (isBy_cb C) (by decide) (by decide) (fun h' hs' => hs'.sv (i := 1) (.s .z)) (fun h' hs' => hs'.sv (i := 0) .z) ?_
              intro h9 hs
              intro nb _ hn; replace hs := Sat.new hs hn; clear hn
              refine ⟨prV ⟨T, cbM C, macM T (cbM C)⟩, hs.bv (i := 0) (l := 1) (sz := 34) (vs := prV ⟨T, cbM C, macM T (cbM C)⟩) .z (by rw [prV_len (macM_len _ _)]) (prV_one _), ?_⟩
              refine Sat.app hs (i := 4) (vs := prV ⟨T, cbM C, macM T (cbM C)⟩) (.s (.s (.s (.s .z)))) (by rw [prV_len (macM_len _ _)]) (by simp [zeros]) (prV_one _) (by omega) ?_
              intro p7 c7 h10 hs
              simp only [put_succ, put_zero] at hs
              rw [wrap_succ (by omega)]
              refine hk (p7, c7) h10 ?_
              dsimp only
              rw [ep, prsV_app]
              exact (hs.drop.drop.drop.drop).eqL (by simp [prsV])
            · skip
              refine rmac_sp (key := T) (b := cbM C) hs hTb (isBy_cb C) (by decide) (by decide) (fun h' hs' => hs'.sv (i := 1) (.s .z)) (fun h' hs' => hs'.sv (i := 0) .z) ?_
              intro h9 hs
              refine ⟨T, hs.sv (i := 1) (.s .z), ?_⟩
              intro nb _ hn; replace hs := Sat.new hs hn; clear hn
              refine ⟨prV ⟨T, cbM C, macM T (cbM C)⟩, hs.bv (i := 0) (l := 1) (sz := 34) (vs := prV ⟨T, cbM C, macM T (cbM C)⟩) .z (by rw [prV_len (macM_len _ _)]) (prV_one _), ?_⟩
              refine Sat.app hs (i := 4) (vs := prV ⟨T, cbM C, macM T (cbM C)⟩) (.s (.s (.s (.s .z)))) (by rw [prV_len (macM_len _ _)]) (by simp [zeros]) (prV_one _) (by omega) ?_
              intro p7 c7 h10 hs
              simp only [put_succ, put_zero] at hs
              rw [wrap_succ (by omega)]
              refine hk (p7, c7) h10 ?_
              dsimp only
              rw [ep, prsV_app]
              exact (hs.drop.drop.drop.drop).eqL (by simp [prsV])
          · skip
            refine rmac_sp (key := T) (b := cbM C) hs hTb (isBy_cb C) (by decide) (by decide) (fun h' hs' => hs'.sv (i := 1) (.s .z)) (fun h' hs' => hs'.sv (i := 0) .z) ?_
            intro h9 hs
            refine ⟨?_, ?_⟩
            · skip
              refine ⟨T, hs.sv (i := 1) (.s .z), ?_⟩
              refine ⟨cbM C, hs.sv (i := 0) .z, ?_⟩
              intro nb _ hn; replace hs := Sat.new hs hn; clear hn
              refine ⟨prV ⟨T, cbM C, macM T (cbM C)⟩, hs.bv (i := 0) (l := 1) (sz := 34) (vs := prV ⟨T, cbM C, macM T (cbM C)⟩) .z (by rw [prV_len (macM_len _ _)]) (prV_one _), ?_⟩
              refine Sat.app hs (i := 4) (vs := prV ⟨T, cbM C, macM T (cbM C)⟩) (.s (.s (.s (.s .z)))) (by rw [prV_len (macM_len _ _)]) (by simp [zeros]) (prV_one _) (by omega) ?_
              intro p7 c7 h10 hs
              simp only [put_succ, put_zero] at hs
              rw [wrap_succ (by omega)]
              refine hk (p7, c7) h10 ?_
              dsimp only
              rw [ep, prsV_app]
              exact (hs.drop.drop.drop.drop).eqL (by simp [prsV])
            · skip
              refine ⟨cbM C, hs.sv (i := 0) .z, ?_⟩
              refine ⟨T, hs.sv (i := 1) (.s .z), ?_⟩
              intro nb _ hn; replace hs := Sat.new hs hn; clear hn
              refine ⟨prV ⟨T, cbM C, macM T (cbM C)⟩, hs.bv (i := 0) (l := 1) (sz := 34) (vs := prV ⟨T, cbM C, macM T (cbM C)⟩) .z (by rw [prV_len (macM_len _ _)]) (prV_one _), ?_⟩
              refine Sat.app hs (i := 4) (vs := prV ⟨T, cbM C, macM T (cbM C)⟩) (.s (.s (.s (.s .z)))) (by rw [prV_len (macM_len _ _)]) (by simp [zeros]) (prV_one _) (by omega) ?_
              intro p7 c7 h10 hs
              simp only [put_succ, put_zero] at hs
              rw [wrap_succ (by omega)]
              refine hk (p7, c7) h10 ?_
              dsimp only
              rw [ep, prsV_app]
              exact (hs.drop.drop.drop.drop).eqL (by simp [prsV])
      · clear hs
        rintro ⟨p2, c2⟩ h4 hs
        dsimp only at hs ⊢
        apply hJ
        rw [ltI_eq, if_neg (by simp)]
        rw [List.take_of_length_le (by omega)] at hs
        exact k _ _ _ hs
theorem rright_sp {Q : List Int → H → Prop} {secret id : List Int} {cs : List CvM} {sp ip cp : Option Addr} {sl sc il ic cl cc : Nat} (hs : Sat h0 A h) (hsb : isBy secret) (hib : isBy id) (hsl : sl < 2 ^ 45) (hil : il < 2 ^ 40) (hcl : cl < 2 ^ 30)
    (rs : ∀ h', Sat h0 A h' → hsv h' sp 1 sl (ints .u8 secret)) (ri : ∀ h', Sat h0 A h' → hsv h' ip 1 il (ints .u8 id)) (rc : ∀ h', Sat h0 A h' → hsv h' cp 5 cl (cvsV cs))
    (k : ∀ h', Sat h0 A h' → Q (rightM secret id cs) h') : F_portcullisref24_Right sp sl sc ip il ic cp cl cc Q h := by
  unfold F_portcullisref24_Right G_portcullisref24_Right
  simp only [add_mk, Nat.zero_add, List.append_nil]
  have hcsl : cs.length = cl := by have := (rc _ hs).1; rw [cvsV_len] at this; omega
  intro ob _ hn; replace hs := Sat.new hs hn; clear hn
  refine rpairs_sp (secret := secret) (id := id) (cs := cs) hs hsb hib hsl hil hcl (fun h' hs' => rs _ hs'.drop) (fun h' hs' => ri _ hs'.drop) (fun h' hs' => rc _ hs'.drop) ?_
  intro p c h1 hs
  have hPt := pairsM_tags secret id cs
  obtain ⟨L, hL1, hL2⟩ := pairsM_last secret id cs
  have hPl : cs.length < (pairsM secret id cs).length := by rw [pairsM_len]; omega
  rw [List.getElem?_eq_getElem hPl] at hL1
  injection hL1 with hL1
  have ew : IntKind.i64.wrap (((cl + 1 : Nat) : Int) - 1) = (cl : Int) := by rw [wrap_id (by omega)]; omega
  rw [ew]
  try simp only [Int.toNat_natCast]
  obtain ⟨q, hq, _, _, gr⟩ := pr_rd hPt (hs.sv (i := 0) .z) hPl
  rw [hL1, hL2, hcsl] at gr
  refine ⟨q, hq, by omega, by omega, _, rightM_len _ _ _, gr, ?_⟩
  refine ⟨Sat.can hs (i := 1) (.s .z) (by simp [zeros]), ?_⟩
  intro h2 e2
  replace hs := Sat.wra hs (i := 1) (.s .z) e2 (by simp [zeros, rightM_len])
  clear e2
  simp only [put_succ, put_zero] at hs
  exact ⟨_, rightM_len _ _ _, hs.row0 (i := 1) (.s .z), k _ hs.drop.drop⟩
end
end Go.Proofs.YtijcpgahmbkijaaGreatDoor
end

/- Issue, of the program and the document. Own work. -/
section
set_option maxRecDepth 100000
set_option linter.unusedVariables false
namespace Go.Proofs.YtijcpgahmbkijaaGreatDoor
open Go Go.Vc

structure TkE where
  e : Int
  key : Int
  id : List Int
  tag : List Int
def issM (S : List Sec) (key : Int) (id : List Int) : TkE :=
  match S.find? (fun x => x.1 == key) with
  | none => ⟨13, 0, [], zeros 32⟩
  | some s => if id.length < 1 then ⟨4, 0, [], zeros 32⟩ else if 64 < id.length then ⟨4, 0, [], zeros 32⟩ else ⟨0, key, id, macM s.2 (msgM id)⟩
theorem issM_tag (S : List Sec) (key : Int) (id : List Int) : (issM S key id).tag.length = 32 := by
  unfold issM
  generalize S.find? (fun x => x.1 == key) = o
  cases o with
  | none => exact zeros_len 32
  | some s =>
    dsimp only
    by_cases a : id.length < 1
    · simp only [if_pos a]; exact List.length_replicate
    simp only [if_neg a]
    by_cases b : 64 < id.length
    · simp only [if_pos b]; exact List.length_replicate
    simp only [if_neg b]; exact macM_len _ _
section
variable {h0 h : H} {A : List Ent} {i j d r m : Nat}
theorem issueN_sp {Q : Int → Option Addr → Nat → Nat → Option Addr → Nat → Nat → List Int → Int → H → Prop} (key : Int) {R : List SR} {ip : Option Addr} {il ic : Nat} {id : List Int} (hs : Sat h0 A h) (cr : At A i (blk r [.map (some m)])) (cm : At A j (mapE m (R.map SR.ent))) (gd : SR.good R)
    (rR : ∀ x, x ∈ R → ∀ h', Sat h0 A h' → hsv h' x.p 1 x.bytes.length (ints .u8 x.bytes)) (ri : ∀ h', Sat h0 A h' → hsv h' ip 1 il (ints .u8 id))
    (k : ∀ O, O = issM (R.map SR.kv) key id → ∀ p' c' h', Sat h0 (slE p' O.id.length c' 1 (ints .u8 O.id) :: A) h' → Q O.key p' O.id.length c' none 0 0 O.tag O.e h') : F_token_Issue ⟨r, 0, none⟩ key ip il ic Q h := by
  have hil : id.length = il := by have := (ri _ hs).1; simpa using this
  have ekv := at_kv R key
  cases e : SR.at_ R key with
  | some x =>
    by_cases g : 1 ≤ il ∧ il ≤ 64
    · have hx : x ∈ R := List.mem_of_find?_eq_some e
      have hg := gd x hx
      refine issue_sp (key := key) (secret := x.bytes) (id := id) hs cr cm (by rw [mlook_at, e]) hg.2.1 (by omega) g (rR x hx) ri ?_
      intro p' c' h' hc hs
      have eO : issM (R.map SR.kv) key id = ⟨0, key, id, macM x.bytes (msgM id)⟩ := by
        unfold issM
        rw [← ekv, e]
        dsimp only [Option.map_some]
        rw [if_neg (by omega), if_neg (by omega)]
      have K := k _ eO.symm p' c' h'
      dsimp only at K
      rw [hil] at K
      exact K hs
    · unfold F_token_Issue G_token_Issue
      simp only [add_mk, Nat.zero_add, List.append_nil]
      intro tb _ hn; replace hs := Sat.new hs hn; clear hn
      intro J hJ
      refine hasN_sp key hs cr.s cm.s ?_
      rw [e]
      rw [if_neg (by simp)]
      have eO : issM (R.map SR.kv) key id = ⟨4, 0, [], zeros 32⟩ := by
        unfold issM
        rw [← ekv, e]
        dsimp only [Option.map_some]
        by_cases b : id.length < 1
        · rw [if_pos b]
        · rw [if_neg b, if_pos (by omega)]
      have K := k _ eO.symm none 0
      clear k hJ
      rw [ltI_eq]
      by_cases b : il < 1
      · rw [if_pos (by rw [decide_eq_true_iff]; omega)]
        refine ⟨Sat.can hs (i := 0) .z (by simp [zeros]), ?_⟩
        intro h3 e3
        replace hs := Sat.wra (xs := tok0) hs (i := 0) .z e3 rfl
        clear e3
        rw [put_zero] at hs
        exact ⟨_, hs.ld (i := 0) .z rfl, _, _, _, hs.ld (i := 0) .z rfl, _, _, _, hs.ld (i := 0) .z rfl, _, zeros_len 32, tok_row hs (i := 0) .z, K _ (hs.drop.sl_nil 1 none)⟩
      · rw [if_neg (by rw [decide_eq_true_iff]; omega), ltI_eq, if_pos (by rw [decide_eq_true_iff]; omega)]
        refine ⟨Sat.can hs (i := 0) .z (by simp [zeros]), ?_⟩
        intro h3 e3
        replace hs := Sat.wra (xs := tok0) hs (i := 0) .z e3 rfl
        clear e3
        rw [put_zero] at hs
        exact ⟨_, hs.ld (i := 0) .z rfl, _, _, _, hs.ld (i := 0) .z rfl, _, _, _, hs.ld (i := 0) .z rfl, _, zeros_len 32, tok_row hs (i := 0) .z, K _ (hs.drop.sl_nil 1 none)⟩
  | none =>
    unfold F_token_Issue G_token_Issue
    simp only [add_mk, Nat.zero_add, List.append_nil]
    intro tb _ hn; replace hs := Sat.new hs hn; clear hn
    intro J hJ
    refine hasN_sp key hs cr.s cm.s ?_
    rw [e]
    rw [if_pos (by decide)]
    have eO : issM (R.map SR.kv) key id = ⟨13, 0, [], zeros 32⟩ := by
      unfold issM
      rw [← ekv, e]
      rfl
    have K := k _ eO.symm none 0
    refine ⟨Sat.can hs (i := 0) .z (by simp [zeros]), ?_⟩
    intro h3 e3
    replace hs := Sat.wra (xs := tok0) hs (i := 0) .z e3 rfl
    clear e3
    rw [put_zero] at hs
    exact ⟨_, hs.ld (i := 0) .z rfl, _, _, _, hs.ld (i := 0) .z rfl, _, _, _, hs.ld (i := 0) .z rfl, _, zeros_len 32, tok_row hs (i := 0) .z, K _ (hs.drop.sl_nil 1 none)⟩
end
end Go.Proofs.YtijcpgahmbkijaaGreatDoor
end

/- TokenMakes: walked. Own work. -/
section
set_option maxRecDepth 100000
set_option linter.unusedVariables false
namespace Go.Proofs.YtijcpgahmbkijaaGreatDoor
open Go Go.Vc

structure NkE where
  e : Int
  key : Int
  id : List Int
  cs : List CvM
  tag : List Int
def narM (key : Int) (id : List Int) (cs : List CvM) (tag : List Int) (c : CvM) : NkE :=
  if 32 ≤ cs.length then ⟨3, 0, [], [], zeros 32⟩ else if c.may then ⟨0, key, id, cs ++ [c], macM tag (cbM c)⟩ else ⟨1, 0, [], [], zeros 32⟩
theorem narM_tag (key : Int) (id : List Int) (cs : List CvM) (tag : List Int) (c : CvM) : (narM key id cs tag c).tag.length = 32 ∧ isBy (narM key id cs tag c).tag ∧ (narM key id cs tag c).cs.length ≤ 32 ∧ (narM key id cs tag c).id.length ≤ id.length := by
  unfold narM
  by_cases a : 32 ≤ cs.length
  · simp only [if_pos a]; exact ⟨List.length_replicate, isBy_zeros 32, Nat.zero_le _, Nat.zero_le _⟩
  · simp only [if_neg a]
    by_cases b : c.may
    · simp only [if_pos b]; exact ⟨macM_len _ _, isBy_mac _ _, by rw [List.length_append]; simp; omega, Nat.le_refl _⟩
    · simp only [if_neg b]; exact ⟨List.length_replicate, isBy_zeros 32, Nat.zero_le _, Nat.zero_le _⟩
section
variable {h0 h : H} {A : List Ent} {i j d r m : Nat}
theorem nar_sp {Q : Int → Option Addr → Nat → Nat → Option Addr → Nat → Nat → List Int → Int → H → Prop} {key : Int} {id tag : List Int} {cs : List CvM} {ip cp : Option Addr} {il ic cl cc : Nat} (c : CvM) (hs : Sat h0 A h) (ht : tag.length = 32) (hl : cl < 2 ^ 40) (hi : il < 2 ^ 47)
    (ri : ∀ h', Sat h0 A h' → hsv h' ip 1 il (ints .u8 id)) (rc : ∀ h', Sat h0 A h' → hsv h' cp 5 cl (cvsV cs))
    (k : ∀ O, O = narM key id cs tag c → ∀ p1 c1 p2 c2 h', Sat h0 (slE p2 O.cs.length c2 5 (cvsV O.cs) :: slE p1 O.id.length c1 1 (ints .u8 O.id) :: A) h' → Q O.key p1 O.id.length c1 p2 O.cs.length c2 O.tag O.e h') :
    F_token_Token_Narrow key ip il ic cp cl cc tag c.kind c.slot c.frm c.to c.set Q h := by
  have hcl : cs.length = cl := by have := (rc _ hs).1; rw [cvsV_len] at this; omega
  have hil : id.length = il := by have := (ri _ hs).1; simpa using this
  refine narrow_sp c hs ht hl hi ri rc ?_ ?_ ?_
  · intro g h' hs
    exact k ⟨3, 0, [], [], zeros 32⟩ (by unfold narM; rw [if_pos g]) none 0 none 0 h' ((hs.sl_nil 1 none).sl_nil 5 none)
  · intro g b h' hs
    exact k ⟨1, 0, [], [], zeros 32⟩ (by unfold narM; rw [if_neg (by omega), if_neg b]) none 0 none 0 h' ((hs.sl_nil 1 none).sl_nil 5 none)
  · intro g b p1 c1 p2 c2 h' hs
    have K := k ⟨0, key, id, cs ++ [c], macM tag (cbM c)⟩ (by unfold narM; rw [if_neg (by omega), if_pos b]) p1 c1 p2 c2 h'
    dsimp only at K
    rw [List.length_append, hcl, hil] at K
    exact K hs
theorem keysU_sp {Q : Option Addr → Int → Int → H → Prop} {X : List SR} {L : List Sec} {p : Option Addr} {l c : Nat} (hs : Sat h0 A h) (eL : X.map SR.kv = L) (rd : ∀ h', Sat h0 A h' → SecsAt h' p l X) (hl : l < 2 ^ 47)
    (k : ∀ o e i h' B, Sat h0 (B ++ A) h' → (newM L = some (e, i) ∧ o = none) ∨ (newM L = none ∧ e = 0 ∧ ∃ r m R, o = some ⟨r, 0, none⟩ ∧ R.map SR.kv = L ∧ SR.good R ∧ B = ringP r m R) → Q o e i h') : F_keys_New p l c Q h :=
  keysN_sp hs eL rd hl (fun e i h' he hs => k none e i h' [] hs (Or.inl ⟨he, rfl⟩)) (fun hn r m R h' e1 e2 hs => k _ 0 0 h' _ hs (Or.inr ⟨hn, rfl, r, m, R, rfl, e1, e2, rfl⟩))
end
end Go.Proofs.YtijcpgahmbkijaaGreatDoor
end

/- Tokens: issued and narrowed; whether two are the same; clashes. Own work. -/
section
set_option maxRecDepth 100000
set_option linter.unusedVariables false
namespace Go.Proofs.YtijcpgahmbkijaaGreatDoor
open Go Go.Vc
attribute [local irreducible] macM

theorem toList_loop (bs : ByteArray) : ∀ (n i : Nat) (r : List UInt8), bs.size - i = n → ByteArray.toList.loop bs i r = r.reverse ++ bs.data.toList.drop i
  | 0, i, r, h => by
    unfold ByteArray.toList.loop
    rw [if_neg (by omega), List.drop_of_length_le (by rw [Array.length_toList]; have : bs.size = bs.data.size := rfl; omega), List.append_nil]
  | n + 1, i, r, h => by
    have hi : i < bs.size := by omega
    unfold ByteArray.toList.loop
    rw [if_pos hi, toList_loop bs n (i + 1) _ (by omega)]
    have hi3 : i < bs.data.size := hi
    have hi2 : i < bs.data.toList.length := by rw [Array.length_toList]; exact hi3
    rw [List.drop_eq_getElem_cons hi2, List.reverse_cons, List.append_assoc]
    have : bs.get! i = bs.data.toList[i] := by
      show bs.data[i]! = _
      rw [getElem!_pos bs.data i hi3]
      exact (Array.getElem_toList hi3).symm
    rw [this]; rfl
theorem toList_data (bs : ByteArray) : bs.toList = bs.data.toList := by
  unfold ByteArray.toList
  rw [toList_loop bs _ 0 [] rfl]
  rfl
theorem bytesOf_inj {a b : List Int} (ha : isBy a) (hb : isBy b) (h : (bytesOf a).toList = (bytesOf b).toList) : a = b := by
  rw [toList_data, toList_data] at h
  replace h : (a.map fun n => UInt8.ofNat n.toNat) = b.map fun n => UInt8.ofNat n.toNat := h
  have hl : a.length = b.length := by have := congrArg List.length h; simpa using this
  apply List.ext_getElem hl
  intro i h1 h2
  have e : (a.map fun n => UInt8.ofNat n.toNat)[i]? = (b.map fun n => UInt8.ofNat n.toNat)[i]? := by rw [h]
  rw [List.getElem?_map, List.getElem?_map, List.getElem?_eq_getElem h1, List.getElem?_eq_getElem h2] at e
  simp only [Option.map_some, Option.some.injEq] at e
  have x := ha _ (List.getElem_mem h1)
  have y := hb _ (List.getElem_mem h2)
  have e2 := congrArg UInt8.toNat e
  rw [UInt8.toNat_ofNat', UInt8.toNat_ofNat', Nat.mod_eq_of_lt (by omega), Nat.mod_eq_of_lt (by omega)] at e2
  omega
theorem bytes_ne {a b : List Int} (ha : isBy a) (hb : isBy b) (h : a ≠ b) : ((bytesOf a).toList == (bytesOf b).toList) = false := by
  rw [beq_eq_false_iff_ne]
  exact fun y => h (bytesOf_inj ha hb y)
theorem cv_eta {a b : CvM} (h1 : a.kind = b.kind) (h2 : a.slot = b.slot) (h3 : a.frm = b.frm) (h4 : a.to = b.to) (h5 : a.set = b.set) : a = b := by
  cases a; cases b; simp_all
section
variable {h0 h : H} {A : List Ent} {i j d r m : Nat}
theorem rsame2_sp {Q : Bool → H → Prop} {key : Int} {id id2 tag : List Int} {cs cs2 : List CvM} {ip cp ip2 cp2 : Option Addr} {il ic cl cc il2 ic2 cl2 cc2 : Nat} (hs : Sat h0 A h) (ht : tag.length = 32) (hl : cl < 2 ^ 60) (hb : isBy id) (hb2 : isBy id2)
    (ri : ∀ h', Sat h0 A h' → hsv h' ip 1 il (ints .u8 id)) (rc : ∀ h', Sat h0 A h' → hsv h' cp 5 cl (cvsV cs)) (ri2 : ∀ h', Sat h0 A h' → hsv h' ip2 1 il2 (ints .u8 id2)) (rc2 : ∀ h', Sat h0 A h' → hsv h' cp2 5 cl2 (cvsV cs2))
    (k : ∀ b h', (b = true ↔ id = id2 ∧ cs = cs2) → Sat h0 A h' → Q b h') : F_portcullisref24_Same key ip il ic cp cl cc tag key ip2 il2 ic2 cp2 cl2 cc2 tag Q h := by
  unfold F_portcullisref24_Same G_portcullisref24_Same
  simp only [add_mk, Nat.zero_add, List.append_nil]
  have hcl : cs.length = cl := by have := (rc _ hs).1; rw [cvsV_len] at this; omega
  have hcl2 : cs2.length = cl2 := by have := (rc2 _ hs).1; rw [cvsV_len] at this; omega
  intro tb _ hn; replace hs := Sat.new hs hn; clear hn
  intro ub _ hn; replace hs := Sat.new hs hn; clear hn
  replace hs : Sat h0 (blk ub (tokL key ip2 il2 ic2 cp2 cl2 cc2 tag) :: blk tb (tokL key ip il ic cp cl cc tag) :: A) _ := hs
  intro J24 hJ24
  refine ⟨_, hs.ld (i := 1) (.s .z) rfl, _, hs.ld (i := 0) .z rfl, ?_⟩
  rw [if_neg (by simp)]
  refine ⟨_, _, _, hs.ld (i := 1) (.s .z) rfl, id, ri _ hs.drop.drop, _, _, _, hs.ld (i := 0) .z rfl, id2, ri2 _ hs.drop.drop, ?_⟩
  by_cases e1 : id = id2
  case neg =>
    rw [bytes_ne hb hb2 e1, if_pos (by decide)]
    exact k false _ (by simp [e1]) hs.drop.drop
  subst e1
  rw [if_neg (by simp)]
  refine ⟨tag, ht, tok_row hs (i := 1) (.s .z), tag, ht, tok_row hs (i := 0) .z, ?_⟩
  rw [if_neg (by simp)]
  refine ⟨_, _, _, hs.ld (i := 1) (.s .z) rfl, _, _, _, hs.ld (i := 0) .z rfl, ?_⟩
  by_cases e2 : cl = cl2
  case neg =>
    rw [if_pos (by rw [bne_iff_ne]; omega)]
    exact k false _ (by simp only [Bool.false_eq_true, false_iff]; rintro ⟨_, rfl⟩; omega) hs.drop.drop
  subst e2
  rw [if_neg (by simp)]
  apply hJ24
  clear hJ24 J24
  intro J hJ
  refine loop_up cl (fun t h => cs.take t = cs2.take t ∧ Sat h0 (blk ub (tokL key ip2 il2 ic2 cp2 cl cc2 tag) :: blk tb (tokL key ip il ic cp cl cc tag) :: A) h) ?_ ?_ 0 _ (by omega) ⟨rfl, hs⟩
  · rintro t h1 ht2 ⟨heq, hs⟩ hk
    apply hJ
    refine ⟨_, _, _, hs.ld (i := 1) (.s .z) rfl, ?_⟩
    rw [ltI_eq, if_pos (by simp; omega)]
    obtain ⟨q, hl2, hq, g0, g1, g2, g3, g4⟩ := cv_rd (rc _ hs.drop.drop) (i := t) ht2
    obtain ⟨q', hl2', hq', g0', g1', g2', g3', g4'⟩ := cv_rd (rc2 _ hs.drop.drop) (i := t) ht2
    refine ⟨_, _, _, hs.ld (i := 1) (.s .z) rfl, q, hq, by omega, by omega, ?_⟩
    simp only [Int.toNat_natCast]
    refine ⟨_, g0, _, g1, _, g2, _, g3, _, g4, ?_⟩
    refine ⟨_, _, _, hs.ld (i := 0) .z rfl, q', hq', by omega, by omega, _, g0', _, g1', _, g2', _, g3', _, g4', ?_⟩
    by_cases e3 : cs[t] = cs2[t]
    · rw [e3, if_neg (by simp), wrap_succ (by omega)]
      exact hk _ ⟨by rw [take_snoc _ hl2, take_snoc _ hl2', heq, e3], hs⟩
    · rw [if_pos (by
        rw [Bool.not_eq_true', ← Bool.not_eq_true]
        intro y
        simp only [Bool.and_eq_true, beq_iff_eq, and_true] at y
        exact e3 (cv_eta y.1 y.2.1 y.2.2.1 y.2.2.2.1 y.2.2.2.2))]
      refine k false _ ?_ hs.drop.drop
      simp only [Bool.false_eq_true, false_iff]
      rintro ⟨_, rfl⟩
      exact e3 rfl
  · rintro h1 ⟨heq, hs⟩
    apply hJ
    refine ⟨_, _, _, hs.ld (i := 1) (.s .z) rfl, ?_⟩
    rw [ltI_eq, if_neg (by simp)]
    rw [List.take_of_length_le (by omega), List.take_of_length_le (by omega)] at heq
    exact k true _ (by simp [heq]) hs.drop.drop
theorem rclash_sp {Q : Bool → H → Prop} {P : List PrM} {p : Option Addr} {n c : Nat} (hs : Sat h0 A h) (hP : ∀ x, x ∈ P → x.tag.length = 32 ∧ isBy x.key ∧ isBy x.b) (rd : ∀ h', Sat h0 A h' → hsv h' p 34 n (prsV P)) (hn : n < 2 ^ 40)
    (ex : ∃ i k, ∃ hi : i < P.length, ∃ hk : k < i, P[i].tag = P[k].tag ∧ (P[i].key ≠ P[k].key ∨ P[i].b ≠ P[k].b)) (k : Q true h) : F_portcullisref24_Clash p n c Q h := by
  unfold F_portcullisref24_Clash G_portcullisref24_Clash
  have hPt : ∀ x, x ∈ P → x.tag.length = 32 := fun x hx => (hP x hx).1
  have hPl : P.length = n := by have := (rd _ hs).1; rw [prsV_len hPt] at this; omega
  obtain ⟨i0, k0, hi0, hk0, et, ed⟩ := ex
  intro J5 hJ5
  refine loop_up n (fun t h' => t ≤ i0 ∧ h' = h) ?_ ?_ 0 _ (by omega) ⟨by omega, rfl⟩
  · rintro t h1 ht ⟨hti, rfl⟩ hk
    apply hJ5
    rw [ltI_eq, if_pos (by rw [decide_eq_true_iff]; omega)]
    simp only [Int.toNat_natCast]
    intro J8 hJ8
    refine loop_up t (fun u h' => (t = i0 → u ≤ k0) ∧ h' = h1) ?_ ?_ 0 _ (by omega) ⟨fun _ => by omega, rfl⟩
    · rintro u h2 hu ⟨huk, rfl⟩ hk2
      apply hJ8
      rw [ltI_eq, if_pos (by rw [decide_eq_true_iff]; omega)]
      simp only [Int.toNat_natCast]
      have ht' : t < P.length := by omega
      have hu' : u < P.length := by omega
      obtain ⟨q, hq, a0, a1, a2⟩ := pr_rd hPt (rd _ hs) ht'
      obtain ⟨q', hq', b0, b1, b2⟩ := pr_rd hPt (rd _ hs) hu'
      refine ⟨q, hq, by omega, by omega, _, hPt _ (List.getElem_mem ht'), a2, q', hq', by omega, by omega, _, hPt _ (List.getElem_mem hu'), b2, ?_⟩
      have go : ¬ (t = i0 ∧ u = k0) → J8 [si (u + 1)] h2 := fun y => hk2 _ ⟨fun z => by have := huk z; omega, rfl⟩
      by_cases e1 : P[t].tag = P[u].tag
      · rw [if_pos (by rw [e1]; simp)]
        refine ⟨q, hq, by omega, by omega, _, a0, q', hq', by omega, by omega, _, b0, ?_⟩
        have pk := hP _ (List.getElem_mem ht')
        have pu := hP _ (List.getElem_mem hu')
        by_cases e2 : P[t].key = P[u].key
        · rw [if_neg (by rw [e2]; simp)]
          refine ⟨q, hq, by omega, by omega, _, a1, q', hq', by omega, by omega, _, b1, ?_⟩
          by_cases e3 : P[t].b = P[u].b
          · rw [if_neg (by rw [e3]; simp), wrap_succ (by omega)]
            refine go ?_
            rintro ⟨rfl, rfl⟩
            rcases ed with ed | ed
            · exact ed e2
            · exact ed e3
          · rw [bytes_ne pk.2.2 pu.2.2 e3, if_pos (by decide)]
            exact k
        · rw [bytes_ne pk.2.1 pu.2.1 e2, if_pos (by decide)]
          exact k
      · rw [if_neg (by simpa using e1), wrap_succ (by omega)]
        refine go ?_
        rintro ⟨rfl, rfl⟩
        exact e1 et
    · rintro h2 ⟨huk, rfl⟩
      apply hJ8
      rw [ltI_eq, if_neg (by simp), wrap_succ (by omega)]
      refine hk _ ⟨?_, rfl⟩
      by_cases e : t = i0
      · have := huk e; omega
      · omega
  · rintro h1 ⟨hti, rfl⟩
    omega
theorem cv_cs {h : H} {a : Addr} {c : CvM} (h0 : hc h a = some (.int .i64 c.kind)) (h1 : hc h (a.add 1) = some (.int .i64 c.slot)) (h2 : hc h (a.add 2) = some (.int .i64 c.frm)) (h3 : hc h (a.add 3) = some (.int .i64 c.to)) (h4 : hc h (a.add 4) = some (.int .u64 c.set)) : hcs h a (cvV c) := by
  intro x v hv
  match x, hv with
  | 0, hv => injection hv with hv; subst hv; rw [add_zero]; exact h0
  | 1, hv => injection hv with hv; subst hv; exact h1
  | 2, hv => injection hv with hv; subst hv; exact h2
  | 3, hv => injection hv with hv; subst hv; exact h3
  | 4, hv => injection hv with hv; subst hv; exact h4
theorem issued_sp {Q : Int → Option Addr → Nat → Nat → Option Addr → Nat → Nat → List Int → Bool → H → Prop} {R : List SR} {secret id : List Int} {cs : List CvM} {ip cp : Option Addr} {il ic cl cc : Nat} (hs : Sat h0 A h) (cr : At A i (blk r [.map (some m)])) (cm : At A j (mapE m (R.map SR.ent))) (gd : SR.good R) (eR : R.map SR.kv = [(3, secret)])
    (rR : ∀ x, x ∈ R → ∀ h', Sat h0 A h' → hsv h' x.p 1 x.bytes.length (ints .u8 x.bytes)) (ri : ∀ h', Sat h0 A h' → hsv h' ip 1 il (ints .u8 id)) (rc : ∀ h', Sat h0 A h' → hsv h' cp 5 cl (cvsV cs)) (hil : il < 2 ^ 47)
    (kF : ∀ K p1 l1 c1 p2 l2 c2 T h', T.length = 32 → Sat h0 A h' → Q K p1 l1 c1 p2 l2 c2 T false h')
    (kT : 1 ≤ il ∧ il ≤ 64 → ∀ ds, (∀ c ∈ ds, c.may ∧ c ∈ cs) → ds.length ≤ 32 → ∀ p1 c1 p2 c2 B h', (∀ h', Sat h0 B h' → hsv h' p1 1 il (ints .u8 id)) → (∀ h', Sat h0 B h' → hsv h' p2 5 ds.length (cvsV ds)) → Sat h0 (B ++ A) h' → Q 3 p1 il c1 p2 ds.length c2 (rightM secret id ds) true h') :
    F_portcullislaw24_issued ⟨r, 0, none⟩ ip il ic cp cl cc Q h := by
  unfold F_portcullislaw24_issued G_portcullislaw24_issued
  simp only [add_mk, Nat.zero_add, List.append_nil]
  have hcl : cs.length = cl := by have := (rc _ hs).1; rw [cvsV_len] at this; omega
  have hidl : id.length = il := by have := (ri _ hs).1; simpa using this
  intro ob _ hn; replace hs := Sat.new hs hn; clear hn
  refine issueN_sp 3 (id := id) hs cr.s cm.s gd (fun x hx h' hs' => rR x hx _ hs'.drop) (fun h' hs' => ri _ hs'.drop) ?_
  intro O hO p1 c1 h1 hs
  have htg : O.tag.length = 32 := by rw [hO]; exact issM_tag _ _ _
  rw [eR] at hO
  intro tb _ hn; replace hs := Sat.new hs hn; clear hn
  refine ⟨Sat.can hs (i := 0) .z (by simp [zeros]), ?_⟩
  intro h2 e2
  replace hs := Sat.wra (xs := tokL O.key p1 O.id.length c1 none 0 0 O.tag) hs (i := 0) .z e2 (by simp [zeros, htg])
  clear e2
  simp only [put_zero] at hs
  have iss : issM [(3, secret)] 3 id = if id.length < 1 then ⟨4, 0, [], zeros 32⟩ else if 64 < id.length then ⟨4, 0, [], zeros 32⟩ else ⟨0, 3, id, macM secret (msgM id)⟩ := rfl
  by_cases good : 1 ≤ il ∧ il ≤ 64
  case neg =>
    have he : O.e = 4 := by
      rw [hO, iss]
      by_cases b : id.length < 1
      · rw [if_pos b]
      · rw [if_neg b, if_pos (by omega)]
    rw [he, if_pos (by decide)]
    refine ⟨_, hs.ld (i := 0) .z rfl, _, _, _, hs.ld (i := 0) .z rfl, _, _, _, hs.ld (i := 0) .z rfl, _, htg, tok_row hs (i := 0) .z, ?_⟩
    refine ⟨Sat.can hs (i := 2) (.s (.s .z)) (by simp [zeros]), ?_⟩
    intro h3 e3
    replace hs := Sat.wra (xs := tokL O.key p1 O.id.length c1 none 0 0 O.tag) hs (i := 2) (.s (.s .z)) e3 (by simp [zeros, htg])
    clear e3
    simp only [put_succ, put_zero] at hs
    refine ⟨_, hs.ld (i := 2) (.s (.s .z)) rfl, _, _, _, hs.ld (i := 2) (.s (.s .z)) rfl, _, _, _, hs.ld (i := 2) (.s (.s .z)) rfl, _, htg, tok_row hs (i := 2) (.s (.s .z)), ?_⟩
    exact kF _ _ _ _ _ _ _ _ _ htg hs.drop.drop.drop
  have eO : O = ⟨0, 3, id, macM secret (msgM id)⟩ := by rw [hO, iss, if_neg (by omega), if_neg (by omega)]
  subst eO
  clear hO iss kF
  dsimp only at hs htg ⊢
  rw [hidl] at hs
  rw [if_neg (by decide)]
  have kT := kT good
  intro J48 hJ48
  refine loop_up (min cl 32) (fun t h => ∃ (ds : List CvM) (p1 : Option Addr) (c1 : Nat) (p2 : Option Addr) (c2 : Nat) (B : List Ent), (∀ c ∈ ds, c.may ∧ c ∈ cs) ∧ ds.length ≤ t ∧ (∀ h', Sat h0 B h' → hsv h' p1 1 il (ints .u8 id)) ∧ (∀ h', Sat h0 B h' → hsv h' p2 5 ds.length (cvsV ds)) ∧
    Sat h0 (blk tb (tokL 3 p1 il c1 p2 ds.length c2 (rightM secret id ds)) :: blk ob tok0 :: (B ++ A)) h) ?_ ?_ 0 _ (by omega) ?_
  · clear hs
    rintro t h3 ht ⟨ds, p1, c1, p2, c2, B, hds, hdl, r1, r2, hs⟩ hk
    apply hJ48
    clear hJ48
    have hTl := rightM_len secret id ds
    intro J51 hJ51
    rw [ltI_eq, if_pos (by rw [decide_eq_true_iff]; omega), ltI_eq, if_pos (by rw [decide_eq_true_iff]; omega)]
    apply hJ51
    clear hJ51 J51
    refine ⟨_, hs.ld (i := 0) .z rfl, _, _, _, hs.ld (i := 0) .z rfl, _, _, _, hs.ld (i := 0) .z rfl, _, hTl, tok_row hs (i := 0) .z, ?_⟩
    have rdA : ∀ {C : List Ent} {h' : H}, Sat h0 (C ++ (B ++ A)) h' → Sat h0 A h' := fun {C h'} hs' => hs'.sub ((List.sublist_append_right _ _).trans (List.sublist_append_right _ _))
    have rdB : ∀ {C : List Ent} {h' : H}, Sat h0 (C ++ (B ++ A)) h' → Sat h0 B h' := fun {C h'} hs' => hs'.sub ((List.sublist_append_left _ _).trans (List.sublist_append_right _ _))
    obtain ⟨q, hlt, hq, g0, g1, g2, g3, g4⟩ := cv_rd (rc _ (rdA (C := [_, _]) hs)) (i := t) (by omega)
    obtain ⟨cv, hcv⟩ : ∃ cv, cv = cs[t] := ⟨_, rfl⟩
    refine ⟨q, hq, by omega, by omega, ?_⟩
    simp only [Int.toNat_natCast]
    refine ⟨_, g0, _, g1, _, g2, _, g3, _, g4, ?_⟩
    rw [← hcv]
    obtain ⟨n1, n2, n3, n4⟩ := narM_tag 3 id ds (rightM secret id ds) cv
    have nar := show narM 3 id ds (rightM secret id ds) cv = _ from rfl
    have fin : ∀ (O : NkE) (s1 : Option Addr) (x1 : Nat) (s2 : Option Addr) (x2 ab : Nat) h', O = narM 3 id ds (rightM secret id ds) cv → Sat h0 (blk ab (tokL O.key s1 O.id.length x1 s2 O.cs.length x2 O.tag) :: slE s2 O.cs.length x2 5 (cvsV O.cs) :: slE s1 O.id.length x1 1 (ints .u8 O.id) :: blk tb (tokL 3 p1 il c1 p2 ds.length c2 (rightM secret id ds)) :: blk ob tok0 :: (B ++ A)) h' →
        if (O.e == 0) = true then ∃ i88 : Int, hc h' ⟨ab, 0, none⟩ = some (.int .i64 i88) ∧ ∃ (o89 : Option Addr) (n90 n91 : Nat), hc h' ⟨ab, 1, none⟩ = some (.slice o89 n90 n91) ∧ ∃ (o92 : Option Addr) (n93 n94 : Nat), hc h' ⟨ab, 2, none⟩ = some (.slice o92 n93 n94) ∧ ∃ l95 : List Int, l95.length = 32 ∧ hrow h' ⟨ab, 3, none⟩ .u8 l95 ∧
          hcan h' ⟨tb, 0, none⟩ 35 ∧ ∀ h96 : H, h96 = hwr h' ⟨tb, 0, none⟩ (.int .i64 i88 :: .slice o89 n90 n91 :: .slice o92 n93 n94 :: ints .u8 l95) → J48 [.dv (.one (.int .i64 (IntKind.i64.wrap ((t : Int) + 1))))] h96
        else J48 [.dv (.one (.int .i64 (IntKind.i64.wrap ((t : Int) + 1))))] h' := by
      intro O s1 x1 s2 x2 ab h' hO hs
      rw [wrap_succ (by omega)]
      by_cases e0 : (O.e == 0) = true
      · rw [if_pos e0]
        have gO : O = ⟨0, 3, id, ds ++ [cv], rightM secret id (ds ++ [cv])⟩ ∧ cv.may := by
          unfold narM at hO
          by_cases a : 32 ≤ ds.length
          · rw [if_pos a] at hO; rw [hO] at e0; exact absurd e0 (by decide)
          · rw [if_neg a] at hO
            by_cases b : cv.may
            · rw [if_pos b] at hO
              exact ⟨by rw [hO, rightM_snoc], b⟩
            · rw [if_neg b] at hO; rw [hO] at e0; exact absurd e0 (by decide)
        obtain ⟨gO, gm⟩ := gO
        have hT2 := rightM_len secret id (ds ++ [cv])
        subst gO
        clear hO
        dsimp only at hs ⊢
        rw [hidl] at hs
        refine ⟨_, hs.ld (i := 0) .z rfl, _, _, _, hs.ld (i := 0) .z rfl, _, _, _, hs.ld (i := 0) .z rfl, _, hT2, tok_row hs (i := 0) .z, ?_⟩
        refine ⟨Sat.can hs (i := 3) (.s (.s (.s .z))) (by simp [hTl]), ?_⟩
        intro h9 e9
        replace hs := Sat.wra (xs := tokL 3 s1 il x1 s2 (ds ++ [cv]).length x2 (rightM secret id (ds ++ [cv]))) hs (i := 3) (.s (.s (.s .z))) e9 (by simp [hTl, hT2])
        clear e9
        simp only [put_succ, put_zero] at hs
        refine hk _ ⟨ds ++ [cv], s1, x1, s2, x2, slE s2 (ds ++ [cv]).length x2 5 (cvsV (ds ++ [cv])) :: slE s1 il x1 1 (ints .u8 id) :: B, ?_, by rw [List.length_append]; simp; omega, fun h' hs' => hs'.sv (i := 1) (.s .z), fun h' hs' => hs'.sv (i := 0) .z, ?_⟩
        · intro c hc
          rcases List.mem_append.1 hc with hc | hc
          · exact hds c hc
          · simp only [List.mem_cons, List.not_mem_nil, or_false] at hc
            subst hc
            exact ⟨gm, by rw [hcv]; exact List.getElem_mem hlt⟩
        · have := (hs.drop.front (e := blk ob tok0) (i := 3) (.s (.s (.s .z)))).front (e := blk tb (tokL 3 s1 il x1 s2 (ds ++ [cv]).length x2 (rightM secret id (ds ++ [cv])))) (i := 3) (.s (.s (.s .z)))
          exact this
      · rw [if_neg e0]
        exact hk _ ⟨ds, p1, c1, p2, c2, B, hds, by omega, r1, r2, hs.drop.drop.drop⟩
    refine ⟨?_, ?_⟩
    · skip
      refine caveat_sp cv hs ?_
      intro h10 hs
      refine ⟨Sat.cs hs (i := 0) .z (by rw [List.drop_zero, List.take_of_length_le (Nat.le_refl _)]), ?_, ?_⟩
      · skip
        refine nar_sp (id := id) (cs := ds) cv hs hTl (by omega) hil (fun h' hs' => r1 _ (rdB (C := [_, _]) hs')) (fun h' hs' => r2 _ (rdB (C := [_, _]) hs')) ?_
        intro O hO s1 x1 s2 x2 h11 hs
        rw [← hO] at n1
        intro ab _ hn; replace hs := Sat.new hs hn; clear hn
        refine ⟨Sat.can hs (i := 0) .z (by simp [zeros]), ?_⟩
        intro h12 e12
        replace hs := Sat.wra (xs := tokL O.key s1 O.id.length x1 s2 O.cs.length x2 O.tag) hs (i := 0) .z e12 (by simp [zeros, n1])
        clear e12
        simp only [put_succ, put_zero] at hs
        exact fin O s1 x1 s2 x2 ab _ hO hs
      · skip
        intro ab _ hn; replace hs := Sat.new hs hn; clear hn
        refine ⟨Sat.cs hs (i := 1) (.s .z) (by rw [List.drop_zero, List.take_of_length_le (Nat.le_refl _)]), ?_⟩
        refine nar_sp (id := id) (cs := ds) cv hs hTl (by omega) hil (fun h' hs' => r1 _ (rdB (C := [_, _, _]) hs')) (fun h' hs' => r2 _ (rdB (C := [_, _, _]) hs')) ?_
        intro O hO s1 x1 s2 x2 h11 hs
        rw [← hO] at n1
        refine ⟨Sat.can hs (i := 2) (.s (.s .z)) (by simp [zeros]), ?_⟩
        intro h12 e12
        replace hs := Sat.wra (xs := tokL O.key s1 O.id.length x1 s2 O.cs.length x2 O.tag) hs (i := 2) (.s (.s .z)) e12 (by simp [zeros, n1])
        clear e12
        simp only [put_succ, put_zero] at hs
        replace hs := hs.front (e := blk ab (tokL O.key s1 O.id.length x1 s2 O.cs.length x2 O.tag)) (i := 2) (.s (.s .z))
        simp only [del] at hs
        exact fin O s1 x1 s2 x2 ab _ hO hs
    · skip
      intro ab _ hn; replace hs := Sat.new hs hn; clear hn
      obtain ⟨q', _, hq', f0, f1, f2, f3, f4⟩ := cv_rd (rc _ (rdA (C := [_, _, _]) hs)) (i := t) (by omega)
      rw [hq] at hq'; injection hq' with hq'; subst hq'
      rw [← hcv] at f0 f1 f2 f3 f4
      refine ⟨cv_cs f0 f1 f2 f3 f4, Sat.cs hs (i := 1) (.s .z) (by rw [List.drop_zero, List.take_of_length_le (Nat.le_refl _)]), ?_⟩
      refine caveat_sp cv hs ?_
      intro h10 hs
      refine ⟨Sat.cs hs (i := 1) (.s .z) (by rw [List.drop_zero, List.take_of_length_le (Nat.le_refl _)]), ?_⟩
      refine nar_sp (id := id) (cs := ds) cv hs hTl (by omega) hil (fun h' hs' => r1 _ (rdB (C := [_, _, _]) hs')) (fun h' hs' => r2 _ (rdB (C := [_, _, _]) hs')) ?_
      intro O hO s1 x1 s2 x2 h11 hs
      rw [← hO] at n1
      refine ⟨Sat.can hs (i := 2) (.s (.s .z)) (by simp [zeros]), ?_⟩
      intro h12 e12
      replace hs := Sat.wra (xs := tokL O.key s1 O.id.length x1 s2 O.cs.length x2 O.tag) hs (i := 2) (.s (.s .z)) e12 (by simp [zeros, n1])
      clear e12
      simp only [put_succ, put_zero] at hs
      replace hs := hs.front (e := blk ab (tokL O.key s1 O.id.length x1 s2 O.cs.length x2 O.tag)) (i := 2) (.s (.s .z))
      simp only [del] at hs
      exact fin O s1 x1 s2 x2 ab _ hO hs
  · rintro h3 ⟨ds, p1, c1, p2, c2, B, hds, hdl, r1, r2, hs⟩
    apply hJ48
    clear hJ48
    have hTl := rightM_len secret id ds
    intro J51 hJ51
    have fin : ∃ i156 : Int, hc h3 ⟨tb, 0, none⟩ = some (.int .i64 i156) ∧ ∃ (o157 : Option Addr) (n158 n159 : Nat), hc h3 ⟨tb, 1, none⟩ = some (.slice o157 n158 n159) ∧ ∃ (o160 : Option Addr) (n161 n162 : Nat), hc h3 ⟨tb, 2, none⟩ = some (.slice o160 n161 n162) ∧ ∃ l163 : List Int, l163.length = 32 ∧ hrow h3 ⟨tb, 3, none⟩ .u8 l163 ∧
        hcan h3 ⟨ob, 0, none⟩ 35 ∧ ∀ h164 : H, h164 = hwr h3 ⟨ob, 0, none⟩ (.int .i64 i156 :: .slice o157 n158 n159 :: .slice o160 n161 n162 :: ints .u8 l163) → ∃ i166 : Int, hc h164 ⟨ob, 0, none⟩ = some (.int .i64 i166) ∧ ∃ (o167 : Option Addr) (n168 n169 : Nat), hc h164 ⟨ob, 1, none⟩ = some (.slice o167 n168 n169) ∧
          ∃ (o170 : Option Addr) (n171 n172 : Nat), hc h164 ⟨ob, 2, none⟩ = some (.slice o170 n171 n172) ∧ ∃ l173 : List Int, l173.length = 32 ∧ hrow h164 ⟨ob, 3, none⟩ .u8 l173 ∧ Q i166 o167 n168 n169 o170 n171 n172 l173 true h164 := by
      refine ⟨_, hs.ld (i := 0) .z rfl, _, _, _, hs.ld (i := 0) .z rfl, _, _, _, hs.ld (i := 0) .z rfl, _, hTl, tok_row hs (i := 0) .z, ?_⟩
      refine ⟨Sat.can hs (i := 1) (.s .z) (by simp [zeros]), ?_⟩
      intro h4 e4
      replace hs := Sat.wra (xs := tokL 3 p1 il c1 p2 ds.length c2 (rightM secret id ds)) hs (i := 1) (.s .z) e4 (by simp [zeros, hTl])
      clear e4
      simp only [put_succ, put_zero] at hs
      refine ⟨_, hs.ld (i := 1) (.s .z) rfl, _, _, _, hs.ld (i := 1) (.s .z) rfl, _, _, _, hs.ld (i := 1) (.s .z) rfl, _, hTl, tok_row hs (i := 1) (.s .z), ?_⟩
      exact kT ds hds (by omega) p1 c1 p2 c2 B h4 r1 r2 hs.drop.drop
    rw [ltI_eq]
    by_cases c : cl ≤ 32
    · rw [if_neg (by rw [decide_eq_true_iff]; omega)]
      exact fin
    · rw [if_pos (by rw [decide_eq_true_iff]; omega), ltI_eq, if_neg (by rw [decide_eq_true_iff]; omega)]
      exact fin
  · refine ⟨[], p1, c1, none, 0, [slE p1 il c1 1 (ints .u8 id)], fun c hc => (by cases hc), by simp, fun h' hs' => hs'.sv (i := 0) .z, fun h' hs' => hsv_nil _ _ _, ?_⟩
    have := (hs.front (e := blk ob tok0) (i := 2) (.s (.s .z))).front (e := blk tb (tokL 3 p1 il c1 none 0 0 (macM secret (msgM id)))) (i := 1) (.s .z)
    exact this
end
end Go.Proofs.YtijcpgahmbkijaaGreatDoor
end
