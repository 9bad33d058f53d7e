/- AreaDoes: what is proved and its parts, laid together by a program of ours: Ar15 Ar16 ScA RwAreaDoes -/
import Derived.JoinedCond
import Derived.Test.YtamfkofcpoglnaaK11
set_option autoImplicit false
set_option linter.all false
/- Areas: every script. Own work. -/
section
set_option maxRecDepth 100000
set_option linter.unusedVariables false
namespace Go.Proofs.Ytamfkofcpoglnaa
open Go Go.Vc

abbrev ofN (n : Nat) (v : Int) : List Int := List.replicate n v
theorem ofN_get (n : Nat) (v : Int) {x : Nat} (hx : x < n) : (ofN n v).getD x 0 = v := by
  unfold ofN; rw [List.getD_eq_getElem?_getD, List.getElem?_replicate, if_pos hx]; rfl
theorem ofN_snoc (n : Nat) (v : Int) (k : IntKind) : ints k (ofN n v) ++ ints k [v] = ints k (ofN (n + 1) v) := by
  unfold ofN ints
  rw [List.replicate_succ', List.map_append]
/-- The first n entries turned into v. -/
def fillTo (bs : List Int) (n : Nat) (v : Int) : List Int := bs.mapIdx fun j w => if j < n then v else w
theorem fillTo_len (bs : List Int) (n : Nat) (v : Int) : (fillTo bs n v).length = bs.length := by simp [fillTo]
theorem fillTo_zero (bs : List Int) (v : Int) : fillTo bs 0 v = bs := by
  apply List.ext_getElem?; intro j; simp [fillTo]
theorem fillTo_set (bs : List Int) (n : Nat) (v : Int) (hn : n < bs.length) : (fillTo bs n v).set n v = fillTo bs (n + 1) v := by
  apply List.ext_getElem?; intro j
  by_cases h : n = j
  · subst h
    rw [List.getElem?_set_self (by rw [fillTo_len]; exact hn)]
    simp [fillTo, hn]
  · rw [List.getElem?_set_ne h]
    simp only [fillTo, List.getElem?_mapIdx]
    congr 1; funext w
    by_cases h1 : j < n
    · rw [if_pos h1, if_pos (by omega)]
    · rw [if_neg h1, if_neg (by omega)]
theorem fillTo_all (bs : List Int) (v : Int) : fillTo bs bs.length v = ofN bs.length v := by
  apply List.ext_getElem?; intro j
  simp only [fillTo, ofN, List.getElem?_mapIdx, List.getElem?_replicate]
  by_cases h : j < bs.length
  · simp [h]
  · simp [h]
section
variable {h0 h : H} {A : List Ent} {i j p r b : Nat} {C : Cm}
/-- An owned slice is filled. -/
theorem fill_loop {J : List SV → H → Prop} {x : Sl} {bs : List Int} {v : Int} (m : At A i (sE x 1 (ints .u8 bs))) (hbl : bs.length = x.2.1) (hl : x.2.1 < 2 ^ 60) (hs : Sat h0 A h)
    (hJ : ∀ (n : Nat) h', n < x.2.1 → (∃ q, x.1 = some q ∧ 0 ≤ (n : Int) ∧ (n : Int) < (x.2.1 : Int) ∧ hcan h' (q.add ((n : Int).toNat * 1)) 1 ∧ ∀ h2, h2 = hwr h' (q.add ((n : Int).toNat * 1)) [.int .u8 v] → J [.dv (.one (.int .i64 (IntKind.i64.wrap ((n : Int) + 1))))] h2) → J [si n] h')
    (ex : ∀ h', Sat h0 (put A i (sE x 1 (ints .u8 (ofN bs.length v)))) h' → J [si x.2.1] h') : J [si 0] h := by
  have hs0 : Sat h0 (put A i (sE x 1 (ints .u8 (fillTo bs 0 v)))) h := by rw [fillTo_zero, m.put_self]; exact hs
  refine loop_up x.2.1 (fun n h => Sat h0 (put A i (sE x 1 (ints .u8 (fillTo bs n v)))) h) ?_ ?_ 0 _ (by omega) hs0
  · intro n h1 hn hs hk
    refine hJ n h1 hn ?_
    obtain ⟨q, hq, hcn, hw⟩ := hs.slPut (m.put _) (n := n) (v := .int .u8 v) hn rfl
    refine ⟨q, hq, by omega, by omega, ?_⟩
    rw [Int.toNat_natCast, Nat.mul_one]
    refine ⟨hcn, fun h2 e => ?_⟩
    have hs2 := hw h2 e
    rw [put_put, ints_set, fillTo_set _ _ _ (by omega)] at hs2
    rw [wrap_succ (by omega)]
    exact hk _ hs2
  · intro h1 hs
    rw [← hbl, fillTo_all] at hs
    exact ex h1 hs
theorem reads_sp {Q : Bool → H → Prop} (hs : Sat h0 (chipE p C :: refE r C :: A) h) (ar : Int) (k : ∀ h', Sat h0 (chipE p C :: refE r C :: A) h' → Q true h') : F_portcullislaw14_reads ⟨p, 0, none⟩ ⟨r, 0, none⟩ ar Q h := by
  unfold F_portcullislaw14_reads G_portcullislaw14_reads
  -- behind the three calls
  have rest : ∀ (w a b' : Sl) (B : List Int) (e : Int) (h1 : H), a.2.1 = B.length → a.2.2 = B.length → b'.2.1 = B.length → b'.2.2 = B.length → B.length < 2 ^ 40 → Sat h0 (sE b' 1 (ints .u8 B) :: sE a 1 (ints .u8 B) :: sE w 1 (ints .u8 B) :: chipE p C :: refE r C :: A) h1 →
      ∀ J22 : List SV → H → Prop, (∀ (b23 : Bool) (h24 : H), (∀ (J25 : List SV → H → Prop), (∀ (i26 : Int) (h27 : H), (if ltI i26 (a.2.1 : Int) = true then ∃ p28, a.1 = some p28 ∧ 0 ≤ i26 ∧ i26 < (a.2.1 : Int) ∧ hcan h27 (p28.add (i26.toNat * 1)) 1 ∧ ∀ h29, h29 = hwr h27 (p28.add (i26.toNat * 1)) [.int .u8 1] → J25 [.dv (.one (.int .i64 (IntKind.i64.wrap (i26 + 1))))] h29
        else ∀ (J31 : List SV → H → Prop), (∀ (i32 : Int) (h33 : H), (if ltI i32 (b'.2.1 : Int) = true then ∃ p34, b'.1 = some p34 ∧ 0 ≤ i32 ∧ i32 < (b'.2.1 : Int) ∧ hcan h33 (p34.add (i32.toNat * 1)) 1 ∧ ∀ h35, h35 = hwr h33 (p34.add (i32.toNat * 1)) [.int .u8 2] → J31 [.dv (.one (.int .i64 (IntKind.i64.wrap (i32 + 1))))] h35
          else ∀ (J37 : List SV → H → Prop), (∀ (o38 : Option Addr) (n39 n40 : Nat) (o41 : Option Addr) (n42 n43 : Nat) (i44 : Int) (h45 : H), (if ltI i44 40 = true then ∀ (n46 : Nat) (h47 : H), hnew h45 n46 [.int .u8 1] h47 → ∃ l49, hsv h47 (some ⟨n46, 0, none⟩) 1 1 l49 ∧ pApp h47 1 [.int .u8 0] 1 o38 n39 n40 1 l49 (fun o50 n51 n52 h53 => ∀ (n54 : Nat) (h55 : H), hnew h53 n54 [.int .u8 2] h55 → ∃ l57, hsv h55 (some ⟨n54, 0, none⟩) 1 1 l57 ∧ pApp h55 1 [.int .u8 0] 1 o41 n42 n43 1 l57 (fun o58 n59 n60 h61 => J37 [.dv (.one (.slice o50 n51 n52)), .dv (.one (.slice o58 n59 n60)), .dv (.one (.int .i64 (IntKind.i64.wrap (i44 + 1))))] h61))
            else ∀ (J62 : List SV → H → Prop), (∀ (b63 : Bool) (i64 : Int) (h65 : H), (if ltI i64 (n39 : Int) = true then if b63 = true then ∃ p66, o38 = some p66 ∧ 0 ≤ i64 ∧ i64 < (n39 : Int) ∧ ∃ i67 : Int, hc h65 (p66.add (i64.toNat * 1)) = some (.int .u8 i67) ∧ if (i67 == 1) = true then if leI (a.2.1 : Int) i64 = true then J62 [.dv (.one (.bool true)), .dv (.one (.int .i64 (IntKind.i64.wrap (i64 + 1))))] h65
                  else ∃ p68, a.1 = some p68 ∧ 0 ≤ i64 ∧ i64 < (a.2.1 : Int) ∧ ∃ i69 : Int, hc h65 (p68.add (i64.toNat * 1)) = some (.int .u8 i69) ∧ J62 [.dv (.one (.bool (i69 == 1))), .dv (.one (.int .i64 (IntKind.i64.wrap (i64 + 1))))] h65
                  else J62 [.dv (.one (.bool false)), .dv (.one (.int .i64 (IntKind.i64.wrap (i64 + 1))))] h65
                else J62 [.dv (.one (.bool false)), .dv (.one (.int .i64 (IntKind.i64.wrap (i64 + 1))))] h65
              else ∀ (J70 : List SV → H → Prop), (∀ (b71 : Bool) (i72 : Int) (h73 : H), (if ltI i72 (n42 : Int) = true then if b71 = true then ∃ p74, o41 = some p74 ∧ 0 ≤ i72 ∧ i72 < (n42 : Int) ∧ ∃ i75 : Int, hc h73 (p74.add (i72.toNat * 1)) = some (.int .u8 i75) ∧ if (i75 == 2) = true then if leI (b'.2.1 : Int) i72 = true then J70 [.dv (.one (.bool true)), .dv (.one (.int .i64 (IntKind.i64.wrap (i72 + 1))))] h73
                    else ∃ p76, b'.1 = some p76 ∧ 0 ≤ i72 ∧ i72 < (b'.2.1 : Int) ∧ ∃ i77 : Int, hc h73 (p76.add (i72.toNat * 1)) = some (.int .u8 i77) ∧ J70 [.dv (.one (.bool (i77 == 2))), .dv (.one (.int .i64 (IntKind.i64.wrap (i72 + 1))))] h73
                    else J70 [.dv (.one (.bool false)), .dv (.one (.int .i64 (IntKind.i64.wrap (i72 + 1))))] h73
                  else J70 [.dv (.one (.bool false)), .dv (.one (.int .i64 (IntKind.i64.wrap (i72 + 1))))] h73
                else Q b71 h73) → J70 [.dv (.one (.bool b71)), .dv (.one (.int .i64 i72))] h73) → J70 [.dv (.one (.bool b63)), .dv (.one (.int .i64 0))] h65) → J62 [.dv (.one (.bool b63)), .dv (.one (.int .i64 i64))] h65) → J62 [.dv (.one (.bool b23)), .dv (.one (.int .i64 0))] h45) → J37 [.dv (.one (.slice o38 n39 n40)), .dv (.one (.slice o41 n42 n43)), .dv (.one (.int .i64 i44))] h45) →
            J37 [.dv (.one (.slice a.1 a.2.1 a.2.2)), .dv (.one (.slice b'.1 b'.2.1 b'.2.2)), .dv (.one (.int .i64 0))] h33) → J31 [.dv (.one (.int .i64 i32))] h33) → J31 [.dv (.one (.int .i64 0))] h27) → J25 [.dv (.one (.int .i64 i26))] h27) → J25 [.dv (.one (.int .i64 0))] h24) → J22 [.dv (.one (.bool b23))] h24) → J22 [.dv (.one (.bool true))] h1 := by
    intro w a b' B e h1 ha1 ha2 hb1 hb2 hB hs J22 hJ22
    apply hJ22
    clear hJ22 J22
    intro J25 hJ25
    refine fill_loop (x := a) (v := 1) (i := 1) (.s .z) (by omega) (by omega) hs ?_ ?_
    · intro n h2 hn hk
      apply hJ25
      rw [ltI_eq, if_pos (by simp; omega)]
      exact hk
    intro h2 hs
    simp only [put] at hs
    apply hJ25
    rw [ltI_eq, if_neg (by simp)]
    clear hJ25 J25
    intro J31 hJ31
    refine fill_loop (x := b') (v := 2) (i := 0) .z (by omega) (by omega) hs ?_ ?_
    · intro n h3 hn hk
      apply hJ31
      rw [ltI_eq, if_pos (by simp; omega)]
      exact hk
    intro h3 hs
    simp only [put] at hs
    apply hJ31
    rw [ltI_eq, if_neg (by simp)]
    clear hJ31 J31
    intro J37 hJ37
    obtain ⟨n, hn⟩ : ∃ n, n = B.length := ⟨_, rfl⟩
    rw [← hn] at hs ha1 ha2 hb1 hb2 hB
    refine loop_st 40 (fun t (s : Sl × Sl) => [.dv (.one (.slice s.1.1 s.1.2.1 s.1.2.2)), .dv (.one (.slice s.2.1 s.2.2.1 s.2.2.2)), si t]) (fun t s h => (t = 0 ∧ s.1 = a ∧ s.2 = b' ∧ Sat h0 (sE b' 1 (ints .u8 (ofN n 2)) :: sE a 1 (ints .u8 (ofN n 1)) :: sE w 1 (ints .u8 B) :: chipE p C :: refE r C :: A) h) ∨
      (0 < t ∧ s.1.2.1 = n + t ∧ s.2.2.1 = n + t ∧ Sat h0 (sE s.2 1 (ints .u8 (ofN (n + t) 2)) :: sE s.1 1 (ints .u8 (ofN (n + t) 1)) :: sE b' 1 (ints .u8 (ofN n 2)) :: sE a 1 (ints .u8 (ofN n 1)) :: sE w 1 (ints .u8 B) :: chipE p C :: refE r C :: A) h)) ?_ ?_ 0 (a, b') _ (by omega) (Or.inl ⟨rfl, rfl, rfl, hs⟩)
    · rintro t ⟨x, y⟩ h4 ht inv hk
      dsimp only at inv hk ⊢
      apply hJ37
      rw [ltI_eq, if_pos (by simp; omega)]
      intro n46 _ hn46
      rw [wrap_succ (by omega)]
      rcases inv with ⟨rfl, rfl, rfl, hs⟩ | ⟨ht0, hx, hy, hs⟩
      · replace hs := Sat.new hs hn46
        refine ⟨_, Sat.bv hs .z (l := 1) rfl (ints_one .u8 [1]), ?_⟩
        refine Sat.app_keep hs (vs := ints .u8 [1]) (hs.sv (i := 2) (.s (.s .z))) (by omega) (by simp) rfl (ints_one _ _) (by omega) ?_
        intro p5 c5 h5 hs
        intro n54 _ hn54
        replace hs := Sat.new hs hn54
        refine ⟨_, Sat.bv hs .z (l := 1) rfl (ints_one .u8 [2]), ?_⟩
        refine Sat.app_keep hs (vs := ints .u8 [2]) (hs.sv (i := 3) (.s (.s (.s .z)))) (by omega) (by simp) rfl (ints_one _ _) (by omega) ?_
        intro p6 c6 h6 hs
        refine hk ((p5, x.2.1 + 1, c5), (p6, y.2.1 + 1, c6)) h6 (Or.inr ⟨by omega, by dsimp only; omega, by dsimp only; omega, ?_⟩)
        rw [ofN_snoc, ofN_snoc] at hs
        rw [Nat.zero_add]
        exact hs.sub (by (repeat (first | exact List.Sublist.refl _ | apply List.Sublist.cons_cons | apply List.Sublist.cons)))
      · replace hs := Sat.new hs hn46
        refine ⟨_, Sat.bv hs .z (l := 1) rfl (ints_one .u8 [1]), ?_⟩
        obtain ⟨xp, xl, xc⟩ := x
        obtain ⟨yp, yl, yc⟩ := y
        dsimp only at hx hy hs ⊢
        refine Sat.app hs (i := 2) (vs := ints .u8 [1]) (.s (.s .z)) (by simp) rfl (ints_one _ _) (by dsimp only; omega) ?_
        intro p5 c5 h5 hs
        simp only [put] at hs
        intro n54 _ hn54
        replace hs := Sat.new hs hn54
        refine ⟨_, Sat.bv hs .z (l := 1) rfl (ints_one .u8 [2]), ?_⟩
        refine Sat.app hs (i := 2) (vs := ints .u8 [2]) (.s (.s .z)) (by simp) rfl (ints_one _ _) (by dsimp only; omega) ?_
        intro p6 c6 h6 hs
        simp only [put] at hs
        refine hk ((p5, xl + 1, c5), (p6, yl + 1, c6)) h6 (Or.inr ⟨by omega, by dsimp only; omega, by dsimp only; omega, ?_⟩)
        rw [ofN_snoc, ofN_snoc] at hs
        exact hs.sub (by (repeat (first | exact List.Sublist.refl _ | apply List.Sublist.cons_cons | apply List.Sublist.cons)))
    rintro ⟨x, y⟩ h4 inv
    dsimp only at inv ⊢
    apply hJ37
    rw [ltI_eq, if_neg (by simp)]
    clear hJ37 J37
    rcases inv with ⟨ht, _⟩ | ⟨_, hx, hy, hs⟩
    · exact absurd ht (by decide)
    intro J62 hJ62
    have R : ∀ h', h' = h4 → Sat h0 (sE y 1 (ints .u8 (ofN (n + 40) 2)) :: sE x 1 (ints .u8 (ofN (n + 40) 1)) :: sE b' 1 (ints .u8 (ofN n 2)) :: sE a 1 (ints .u8 (ofN n 1)) :: sE w 1 (ints .u8 B) :: chipE p C :: refE r C :: A) h' := fun h' e => e ▸ hs
    refine loop_st (n + 40) (fun t (b : Bool) => [.dv (.one (.bool b)), si t]) (fun t b h' => h' = h4 ∧ b = true) ?_ ?_ 0 true _ (by omega) ⟨rfl, rfl⟩
    · rintro t bb h5 ht ⟨rfl, rfl⟩ hk
      apply hJ62
      rw [ltI_eq, if_pos (by simp; omega), if_pos rfl]
      obtain ⟨q, hq, g⟩ := hsv_int (hs.sv (i := 1) (.s .z)) (x := t) (by omega)
      rw [ofN_get _ _ (by omega)] at g
      refine ⟨_, hq, by omega, by omega, _, by rw [Int.toNat_natCast, Nat.mul_one]; exact g, ?_⟩
      rw [if_pos (by decide), leI_eq, wrap_succ (by omega)]
      by_cases c : n ≤ t
      · rw [if_pos (by simp; omega)]
        exact hk true _ ⟨rfl, rfl⟩
      · rw [if_neg (by simp; omega)]
        obtain ⟨q2, hq2, g2⟩ := hsv_int (hs.sv (i := 3) (.s (.s (.s .z)))) (x := t) (by omega)
        rw [ofN_get _ _ (by omega)] at g2
        refine ⟨_, hq2, by omega, by omega, _, by rw [Int.toNat_natCast, Nat.mul_one]; exact g2, ?_⟩
        exact hk true _ ⟨rfl, rfl⟩
    rintro bb h5 ⟨rfl, rfl⟩
    apply hJ62
    rw [ltI_eq, if_neg (by simp; omega)]
    clear hJ62 J62
    intro J70 hJ70
    refine loop_st (n + 40) (fun t (b : Bool) => [.dv (.one (.bool b)), si t]) (fun t b h' => h' = h5 ∧ b = true) ?_ ?_ 0 true _ (by omega) ⟨rfl, rfl⟩
    · rintro t bb h6 ht ⟨rfl, rfl⟩ hk
      apply hJ70
      rw [ltI_eq, if_pos (by simp; omega), if_pos rfl]
      obtain ⟨q, hq, g⟩ := hsv_int (hs.sv (i := 0) .z) (x := t) (by omega)
      rw [ofN_get _ _ (by omega)] at g
      refine ⟨_, hq, by omega, by omega, _, by rw [Int.toNat_natCast, Nat.mul_one]; exact g, ?_⟩
      rw [if_pos (by decide), leI_eq, wrap_succ (by omega)]
      by_cases c : n ≤ t
      · rw [if_pos (by simp; omega)]
        exact hk true _ ⟨rfl, rfl⟩
      · rw [if_neg (by simp; omega)]
        obtain ⟨q2, hq2, g2⟩ := hsv_int (hs.sv (i := 2) (.s (.s .z))) (x := t) (by omega)
        rw [ofN_get _ _ (by omega)] at g2
        refine ⟨_, hq2, by omega, by omega, _, by rw [Int.toNat_natCast, Nat.mul_one]; exact g2, ?_⟩
        exact hk true _ ⟨rfl, rfl⟩
    rintro bb h6 ⟨rfl, rfl⟩
    apply hJ70
    rw [ltI_eq, if_neg (by simp; omega)]
    exact k _ (hs.sub (by (repeat (first | exact List.Sublist.refl _ | apply List.Sublist.cons_cons | apply List.Sublist.cons))))
  have small : (areaR C ar).1.length < 2 ^ 40 := by
    have ok := chip_ok hs .z
    have hsz := sizeM_le C.cfg
    unfold areaR
    (repeat' split) <;> first | (show (0 : Nat) < _; decide) | skip
    rename_i g1 g2 g3 g4
    rw [List.length_take]
    have : (48 + num4 (areaAll C ar) 12).toNat < 2 ^ 40 := by omega
    omega
  by_cases e0 : (areaR C ar).2 = 0
  · refine rRead14_sp hs (j := 1) (.s .z) ar (fun y => absurd e0 y) ?_
    intro _ o7 n8 c9 h1 hn0 hn hs
    refine aRead_sp hs (i := 1) (.s .z) ar (fun y => absurd e0 y) ?_
    intro _ o12 n13 h2 _ hn13 hs
    refine aRead_sp hs (i := 2) (.s (.s .z)) ar (fun y => absurd e0 y) ?_
    intro _ o17 n18 h3 _ hn18 hs
    intro J22 hJ22
    have R := rest (o7, n8, c9) (o12, n13, n13) (o17, n18, n18) (areaR C ar).1 0 h3 hn13.symm hn13.symm hn18.symm hn18.symm small hs J22 hJ22
    refine ⟨_, hs.sv (i := 1) (.s .z), _, hs.sv (i := 2) (.s (.s .z)), ?_⟩
    rw [if_pos (by simp)]
    refine ⟨_, hs.sv (i := 0) .z, _, hs.sv (i := 2) (.s (.s .z)), ?_⟩
    rw [if_pos (by simp), if_pos (by simp)]
    exact R
  · refine rRead14_sp hs (j := 1) (.s .z) ar ?_ (fun y => absurd y e0)
    intro _ h1 hs
    refine aRead_sp hs (i := 0) .z ar ?_ (fun y => absurd y e0)
    intro _ h2 hs
    refine aRead_sp hs (i := 0) .z ar ?_ (fun y => absurd y e0)
    intro _ h3 hs
    intro J22 hJ22
    replace hs := ((hs.sl_nil 1 none).sl_nil 1 none).sl_nil 1 none
    have R := rest (none, 0, 0) (none, 0, 0) (none, 0, 0) [] 0 h3 rfl rfl rfl rfl (by decide) hs J22 hJ22
    refine ⟨[], hsv_nil, [], hsv_nil, ?_⟩
    rw [if_pos (by simp)]
    refine ⟨[], hsv_nil, [], hsv_nil, ?_⟩
    rw [if_pos (by simp), if_pos (by simp), beq_self_eq_true]
    exact R
end
end Go.Proofs.Ytamfkofcpoglnaa
end

/- Areas: every script over them. Own work. -/
section
set_option maxRecDepth 100000
set_option linter.unusedVariables false
namespace Go.Proofs.Ytamfkofcpoglnaa
open Go Go.Vc

structure StA where
  kind : Int
  a : Int
  n : Int
  bs : List Int
structure StA.ok (s : StA) : Prop where
  n : s.n < 2 ^ 63
  by_ : bytesOk s.bs
  len : s.bs.length + 4096 ≤ 2 ^ 47
structure ScriptA (h : H) (p : Option Addr) (l : Nat) (sc : List StA) : Prop where
  len : sc.length = l
  lt : l < 2 ^ 62
  at_ : ∀ i (hi : i < sc.length), ∃ q mp ml mc, p = some q ∧ hc h (q.add (i * 4)) = some (.int .i64 sc[i].kind) ∧ hc h ((q.add (i * 4)).add 1) = some (.int .i64 sc[i].a) ∧ hc h ((q.add (i * 4)).add 2) = some (.int .i64 sc[i].n) ∧
    hc h ((q.add (i * 4)).add 3) = some (.slice mp ml mc) ∧ hsv h mp 1 ml (ints .u8 sc[i].bs) ∧ ml ≤ mc ∧ sc[i].ok
def stepA (C : Cm) (s : StA) : Cm :=
  if s.kind = 1 then C else if s.kind = 2 then (writeM C s.a s.bs).1 else if s.kind = 3 then C else if s.kind = 4 then cutM C s.n s.bs else { C with out := false }
section
variable {h0 h : H} {A : List Ent} {i j p r b : Nat} {C : Cm}
theorem stepA_sp {Q : Bool → H → Prop} (s : StA) (ok : s.ok) {mp : Option Addr} {ml mc : Nat} (rd : hsv h0 mp 1 ml (ints .u8 s.bs)) (hlc : ml ≤ mc) (hs : Sat h0 (chipE p C :: refE r C :: A) h)
    (k : ∀ h', Sat h0 (chipE p (stepA C s) :: refE r (stepA C s) :: A) h' → Q true h') : F_portcullislaw14_step ⟨p, 0, none⟩ ⟨r, 0, none⟩ s.kind s.a s.n mp ml mc Q h := by
  unfold F_portcullislaw14_step G_portcullislaw14_step
  simp only [add_mk, Nat.zero_add]
  obtain ⟨kind, a, n, bs⟩ := s
  have hb := ok.by_
  have hlen := ok.len
  have hn := ok.n
  dsimp only at *
  have hbl : bs.length = ml := by have := rd.1; simpa using this
  unfold stepA at k
  dsimp only at k
  intro n21 _ hn21; replace hs := Sat.new hs hn21; clear hn21
  refine ⟨_, Sat.ld hs (by (repeat (first | exact At.z | apply At.s))) (by rfl), ?_⟩
  by_cases g1 : kind = 1
  · rw [if_pos g1] at k
    rw [if_pos (by simpa using g1)]
    refine ⟨_, Sat.ld hs (by (repeat (first | exact At.z | apply At.s))) (by rfl), ?_⟩
    have hs2 := hs.perm (List.Perm.trans (List.Perm.swap _ _ _) (List.Perm.cons _ (List.Perm.swap _ _ _)))
    refine reads_sp hs2 a ?_
    intro h1 hs
    exact k _ (hs.sub (by (repeat (first | exact List.Sublist.refl _ | apply List.Sublist.cons_cons | apply List.Sublist.cons))))
  rw [if_neg g1] at k
  rw [if_neg (by simpa using g1)]
  by_cases g2 : kind = 2
  · rw [if_pos g2] at k
    rw [if_pos (by simpa using g2)]
    refine ⟨_, _, _, Sat.ld hs (by (repeat (first | exact At.z | apply At.s))) (by rfl), ?_⟩
    refine lent_sp hs rd (by omega) ?_
    intro x h1 hx1 hx2 hs
    refine ⟨_, Sat.ld hs (by (repeat (first | exact At.z | apply At.s))) (by rfl), ?_⟩
    refine ⟨_, _, _, Sat.ld hs (by (repeat (first | exact At.z | apply At.s))) (by rfl), ?_⟩
    have eo : subAddr x.1 0 x.2.2 1 = x.1 := by
      unfold subAddr
      rw [if_neg (by omega)]
      obtain ⟨q', hq⟩ := hs.sl_some .z (by omega)
      rw [hq]; rfl
    rw [eo, Int.toNat_natCast, Nat.sub_zero, Nat.sub_zero]
    refine ⟨by omega, by omega, ?_⟩
    have rdx : ∀ (D : Cm) h', Sat h0 (put (sE x 1 (ints .u8 (bs ++ marks4 4)) :: blk n21 [.int .i64 kind, .int .i64 a, .int .i64 n, .slice mp ml mc] :: chipE p C :: refE r C :: A) 2 (chipE p D)) h' → hsv h' x.1 1 ml (ints .u8 bs) := by
      intro D h' hs'
      have := sub_rd (o := 0) (n := ml) (m := x.2.2) (hs'.sv (i := 0) .z) (by omega) (by omega)
      rw [List.drop_zero, List.take_left' hbl, eo] at this
      exact this
    refine aWrite_sp (bs := bs) hs (i := 2) (.s (.s .z)) a rdx (by omega) (by omega) ?_
    intro h2 hs
    simp only [put] at hs
    refine ⟨_, Sat.ld hs (by (repeat (first | exact At.z | apply At.s))) (by rfl), ?_⟩
    refine ⟨_, _, _, Sat.ld hs (by (repeat (first | exact At.z | apply At.s))) (by rfl), ?_⟩
    refine rWrite_sp (bs := bs) hs (i := 3) (.s (.s (.s .z))) a (fun D h' hs' => hs'.base rd) (by omega) ?_
    intro h3 hs
    simp only [put] at hs
    refine ⟨_, _, _, Sat.ld hs (by (repeat (first | exact At.z | apply At.s))) (by rfl), ?_⟩
    refine kept_sp (x := x) (y := (mp, ml, mc)) (l := ml) (bs := bs) (hs.sv .z) (hs.base rd) hx1 hx2 rfl (by omega) ?_
    intro J52 hJ52
    refine loop_up x.2.1 (fun t h => ∃ ns : List Int, ns.length = x.2.1 ∧ Sat h0 (sE x 1 (ints .u8 ns) :: blk n21 [.int .i64 kind, .int .i64 a, .int .i64 n, .slice mp ml mc] :: chipE p (writeM C a bs).1 :: refE r (writeM C a bs).1 :: A) h) ?_ ?_ 0 _ (by omega) ⟨_, by simp [marks4]; omega, hs⟩
    · rintro t h4 ht ⟨ns, hns, hs⟩ hk
      apply hJ52
      rw [ltI_eq, if_pos (by simp; omega)]
      obtain ⟨q, hq, g⟩ := hsv_int (hs.sv .z) (x := t) ht
      refine ⟨_, hq, by omega, by omega, _, by rw [Int.toNat_natCast, Nat.mul_one]; exact g, ?_⟩
      obtain ⟨q2, hq2, hcn, hw⟩ := hs.slPut .z (n := t) (v := .int .u8 (bits .xor .u8 (ns.getD t 0) 60)) ht rfl
      refine ⟨_, hq2, by omega, by omega, ?_⟩
      rw [Int.toNat_natCast, Nat.mul_one]
      refine ⟨hcn, fun h5 e => ?_⟩
      have hs2 := hw h5 e
      rw [ints_set] at hs2
      rw [wrap_succ (by omega)]
      exact hk _ ⟨_, by simp [hns], hs2⟩
    · rintro h4 ⟨ns, hns, hs⟩
      apply hJ52
      rw [ltI_eq, if_neg (by simp), if_pos rfl, beq_self_eq_true]
      exact k _ (hs.sub (by (repeat (first | exact List.Sublist.refl _ | apply List.Sublist.cons_cons | apply List.Sublist.cons))))
  rw [if_neg g2] at k
  rw [if_neg (by simpa using g2)]
  by_cases g3 : kind = 3
  · rw [if_pos g3] at k
    rw [if_pos (by simpa using g3)]
    refine ⟨_, Sat.ld hs (by (repeat (first | exact At.z | apply At.s))) (by rfl), ?_⟩
    refine Worn_sp hs (i := 1) (.s .z) a ?_
    intro h1 hs
    refine ⟨_, Sat.ld hs (by (repeat (first | exact At.z | apply At.s))) (by rfl), ?_⟩
    refine rWorn_sp hs (i := 2) (.s (.s .z)) a ?_
    intro h2 hs
    rw [if_pos (by simp), beq_self_eq_true]
    exact k _ (hs.sub (by (repeat (first | exact List.Sublist.refl _ | apply List.Sublist.cons_cons | apply List.Sublist.cons))))
  rw [if_neg g3] at k
  rw [if_neg (by simpa using g3)]
  by_cases g4 : kind = 4
  · rw [if_pos g4] at k
    rw [if_pos (by simpa using g4)]
    refine ⟨_, Sat.ld hs (by (repeat (first | exact At.z | apply At.s))) (by rfl), ?_⟩
    refine ⟨_, _, _, Sat.ld hs (by (repeat (first | exact At.z | apply At.s))) (by rfl), ?_⟩
    refine Cut_sp hs (i := 1) (.s .z) n hn (hs.base rd) hb (by omega) ?_
    intro h1 hs
    simp only [put] at hs
    refine ⟨_, Sat.ld hs (by (repeat (first | exact At.z | apply At.s))) (by rfl), ?_⟩
    refine ⟨_, _, _, Sat.ld hs (by (repeat (first | exact At.z | apply At.s))) (by rfl), ?_⟩
    refine rCut_sp hs (i := 2) (.s (.s .z)) n hn (fun C' h' hs' => hs'.base rd) hb (by omega) ?_
    intro h2 hs
    simp only [put] at hs
    exact k _ (hs.sub (by (repeat (first | exact List.Sublist.refl _ | apply List.Sublist.cons_cons | apply List.Sublist.cons))))
  rw [if_neg g4] at k
  rw [if_neg (by simpa using g4)]
  refine Restore_sp hs (i := 1) (.s .z) ?_
  intro h1 hs
  simp only [put] at hs
  refine rRestore_sp hs (i := 2) (.s (.s .z)) ?_
  intro h2 hs
  simp only [put] at hs
  exact k _ (hs.sub (by (repeat (first | exact List.Sublist.refl _ | apply List.Sublist.cons_cons | apply List.Sublist.cons))))
theorem AreaDoes_sp {a b c' : Sl} {Q : Bool → H → Prop} {mp : Option Addr} {ml mc : Nat} (c : Cfg) (s : St) (rd0 : RdS h0 a b c' s) (ty : s.typed) (sc : List StA) (rd : ScriptA h0 mp ml sc) (k : ∀ h', Ext none_ h0 h' → Q true h') :
    F_portcullislaw14_AreaDoes c.cells c.slots c.fuses c.step c.keys c.erases c.area a.1 a.2.1 a.2.2 b.1 b.2.1 b.2.2 c'.1 c'.2.1 c'.2.2 mp ml mc Q h0 := by
  unfold F_portcullislaw14_AreaDoes G_portcullislaw14_AreaDoes
  have hs := Sat.init h0
  simp only [add_mk, Nat.zero_add, List.append_nil]
  intro n1 _ hn; replace hs := Sat.new hs hn; clear hn
  intro n2 _ hn; replace hs := Sat.new hs hn; clear hn
  have hl := rd.len
  have hlt := rd.lt
  -- the game
  have game : ∀ (px pr : Nat) (C : Cm) h3, Sat h0 [refE pr C, chipE px C, blk n2 [a.v, b.v, c'.v], blk n1 [.int .i64 c.cells, .int .i64 c.slots, .int .i64 c.fuses, .int .i64 c.step, .int .i64 c.keys, .int .i64 c.erases, .int .i64 c.area]] h3 →
      ∀ (J97 : List SV → H → Prop), (∀ (x : Nat) (C : Cm) h', x < ml → Sat h0 [chipE px C, refE pr C, blk n2 [a.v, b.v, c'.v], blk n1 [.int .i64 c.cells, .int .i64 c.slots, .int .i64 c.fuses, .int .i64 c.step, .int .i64 c.keys, .int .i64 c.erases, .int .i64 c.area]] h' →
        (∀ (D : Cm) h'', Sat h0 [chipE px D, refE pr D, blk n2 [a.v, b.v, c'.v], blk n1 [.int .i64 c.cells, .int .i64 c.slots, .int .i64 c.fuses, .int .i64 c.step, .int .i64 c.keys, .int .i64 c.erases, .int .i64 c.area]] h'' → J97 [.dv (.one (.int .i64 (IntKind.i64.wrap ((x : Int) + 1))))] h'') → J97 [si x] h') →
      (∀ (C : Cm) h', Sat h0 [chipE px C, refE pr C, blk n2 [a.v, b.v, c'.v], blk n1 [.int .i64 c.cells, .int .i64 c.slots, .int .i64 c.fuses, .int .i64 c.step, .int .i64 c.keys, .int .i64 c.erases, .int .i64 c.area]] h' → J97 [si ml] h') → J97 [si 0] h3 := by
    intro px pr C h3 hs J97 hst hex
    refine loop_up ml (fun _ h => ∃ C : Cm, Sat h0 [chipE px C, refE pr C, blk n2 [a.v, b.v, c'.v], blk n1 [.int .i64 c.cells, .int .i64 c.slots, .int .i64 c.fuses, .int .i64 c.step, .int .i64 c.keys, .int .i64 c.erases, .int .i64 c.area]] h) ?_ ?_ 0 _ (by omega) ⟨C, hs.perm (List.Perm.swap _ _ _)⟩
    · rintro x h4 hx ⟨C, hs⟩ hk
      refine hst x C h4 hx hs fun D h5 hs => ?_
      rw [wrap_succ (by omega)]
      exact hk _ ⟨D, hs⟩
    · rintro h4 ⟨C, hs⟩
      exact hex C h4 hs
  refine fixed14_sp hs ?_
  intro h1 hs
  (repeat first | refine ⟨_, Sat.ld hs (by (repeat (first | exact At.z | apply At.s))) (by rfl), ?_⟩ | refine ⟨_, _, _, Sat.ld hs (by (repeat (first | exact At.z | apply At.s))) (by rfl), ?_⟩ | (intro _ _ hn; replace hs := Sat.new hs hn; clear hn) | refine ⟨Sat.cs hs (by (repeat (first | exact At.z | apply At.s))) (by rfl), ?_⟩ | (refine ⟨Sat.can hs (by (repeat (first | exact At.z | apply At.s))) (by simp), ?_⟩; intro _ e; replace hs := Sat.wr hs (by (repeat (first | exact At.z | apply At.s))) e; clear e; simp only [put, splice, List.set] at hs))
  refine Lay_sp (a := a) (b := b) (c' := c') (s := s) c hs (fun h' hs' => rd0.ext hs'.ex) ty ?_ ?_ ?_
  · intro nm h2 hs
    (repeat first | refine ⟨_, Sat.ld hs (by (repeat (first | exact At.z | apply At.s))) (by rfl), ?_⟩ | refine ⟨_, _, _, Sat.ld hs (by (repeat (first | exact At.z | apply At.s))) (by rfl), ?_⟩ | (intro _ _ hn; replace hs := Sat.new hs hn; clear hn) | refine ⟨Sat.cs hs (by (repeat (first | exact At.z | apply At.s))) (by rfl), ?_⟩ | (refine ⟨Sat.can hs (by (repeat (first | exact At.z | apply At.s))) (by simp), ?_⟩; intro _ e; replace hs := Sat.wr hs (by (repeat (first | exact At.z | apply At.s))) e; clear e; simp only [put, splice, List.set] at hs))
    refine rLay_sp (a := a) (b := b) (c' := c') (s := s) c hs (fun h' hs' => rd0.ext hs'.ex) ty ?_ (fun m => absurd m nm) (fun m => absurd m nm)
    intro _ h3 hs
    (repeat first | refine ⟨_, Sat.ld hs (by (repeat (first | exact At.z | apply At.s))) (by rfl), ?_⟩ | refine ⟨_, _, _, Sat.ld hs (by (repeat (first | exact At.z | apply At.s))) (by rfl), ?_⟩ | (intro _ _ hn; replace hs := Sat.new hs hn; clear hn) | refine ⟨Sat.cs hs (by (repeat (first | exact At.z | apply At.s))) (by rfl), ?_⟩ | (refine ⟨Sat.can hs (by (repeat (first | exact At.z | apply At.s))) (by simp), ?_⟩; intro _ e; replace hs := Sat.wr hs (by (repeat (first | exact At.z | apply At.s))) e; clear e; simp only [put, splice, List.set] at hs))
    refine aSize_sp c hs ?_
    intro h4 hs
    (repeat first | refine ⟨_, Sat.ld hs (by (repeat (first | exact At.z | apply At.s))) (by rfl), ?_⟩ | refine ⟨_, _, _, Sat.ld hs (by (repeat (first | exact At.z | apply At.s))) (by rfl), ?_⟩ | (intro _ _ hn; replace hs := Sat.new hs hn; clear hn) | refine ⟨Sat.cs hs (by (repeat (first | exact At.z | apply At.s))) (by rfl), ?_⟩ | (refine ⟨Sat.can hs (by (repeat (first | exact At.z | apply At.s))) (by simp), ?_⟩; intro _ e; replace hs := Sat.wr hs (by (repeat (first | exact At.z | apply At.s))) e; clear e; simp only [put, splice, List.set] at hs))
    refine rSize_sp c hs ?_
    intro h5 hs J hJ
    rw [if_neg (by simp), if_neg (by simp), if_neg (by simp), if_neg (by simp)]
    apply hJ
    intro J97 hJ97
    apply hJ97
    intro J100 hJ100
    rw [ltI_eq]
    have := k _ hs.ex
    split <;> simpa using this
  · intro m nl h2 hs
    (repeat first | refine ⟨_, Sat.ld hs (by (repeat (first | exact At.z | apply At.s))) (by rfl), ?_⟩ | refine ⟨_, _, _, Sat.ld hs (by (repeat (first | exact At.z | apply At.s))) (by rfl), ?_⟩ | (intro _ _ hn; replace hs := Sat.new hs hn; clear hn) | refine ⟨Sat.cs hs (by (repeat (first | exact At.z | apply At.s))) (by rfl), ?_⟩ | (refine ⟨Sat.can hs (by (repeat (first | exact At.z | apply At.s))) (by simp), ?_⟩; intro _ e; replace hs := Sat.wr hs (by (repeat (first | exact At.z | apply At.s))) e; clear e; simp only [put, splice, List.set] at hs))
    refine rLay_sp (a := a) (b := b) (c' := c') (s := s) c hs (fun h' hs' => rd0.ext hs'.ex) ty (fun nm => absurd m nm) ?_ (fun _ l => absurd l nl)
    intro _ _ h3 hs
    (repeat first | refine ⟨_, Sat.ld hs (by (repeat (first | exact At.z | apply At.s))) (by rfl), ?_⟩ | refine ⟨_, _, _, Sat.ld hs (by (repeat (first | exact At.z | apply At.s))) (by rfl), ?_⟩ | (intro _ _ hn; replace hs := Sat.new hs hn; clear hn) | refine ⟨Sat.cs hs (by (repeat (first | exact At.z | apply At.s))) (by rfl), ?_⟩ | (refine ⟨Sat.can hs (by (repeat (first | exact At.z | apply At.s))) (by simp), ?_⟩; intro _ e; replace hs := Sat.wr hs (by (repeat (first | exact At.z | apply At.s))) e; clear e; simp only [put, splice, List.set] at hs))
    refine aSize_sp c hs ?_
    intro h4 hs
    (repeat first | refine ⟨_, Sat.ld hs (by (repeat (first | exact At.z | apply At.s))) (by rfl), ?_⟩ | refine ⟨_, _, _, Sat.ld hs (by (repeat (first | exact At.z | apply At.s))) (by rfl), ?_⟩ | (intro _ _ hn; replace hs := Sat.new hs hn; clear hn) | refine ⟨Sat.cs hs (by (repeat (first | exact At.z | apply At.s))) (by rfl), ?_⟩ | (refine ⟨Sat.can hs (by (repeat (first | exact At.z | apply At.s))) (by simp), ?_⟩; intro _ e; replace hs := Sat.wr hs (by (repeat (first | exact At.z | apply At.s))) e; clear e; simp only [put, splice, List.set] at hs))
    refine rSize_sp c hs ?_
    intro h5 hs J hJ
    rw [if_neg (by simp), if_neg (by simp), if_neg (by simp), if_neg (by simp)]
    apply hJ
    intro J97 hJ97
    apply hJ97
    intro J100 hJ100
    rw [ltI_eq]
    have := k _ hs.ex
    split <;> simpa using this
  intro m lay px h2 hs
  (repeat first | refine ⟨_, Sat.ld hs (by (repeat (first | exact At.z | apply At.s))) (by rfl), ?_⟩ | refine ⟨_, _, _, Sat.ld hs (by (repeat (first | exact At.z | apply At.s))) (by rfl), ?_⟩ | (intro _ _ hn; replace hs := Sat.new hs hn; clear hn) | refine ⟨Sat.cs hs (by (repeat (first | exact At.z | apply At.s))) (by rfl), ?_⟩ | (refine ⟨Sat.can hs (by (repeat (first | exact At.z | apply At.s))) (by simp), ?_⟩; intro _ e; replace hs := Sat.wr hs (by (repeat (first | exact At.z | apply At.s))) e; clear e; simp only [put, splice, List.set] at hs))
  refine rLay_sp (a := a) (b := b) (c' := c') (s := s) c hs (fun h' hs' => rd0.ext hs'.ex) ty (fun nm => absurd m nm) (fun _ nl => absurd lay nl) ?_
  intro _ _ pr h3 hs
  (repeat first | refine ⟨_, Sat.ld hs (by (repeat (first | exact At.z | apply At.s))) (by rfl), ?_⟩ | refine ⟨_, _, _, Sat.ld hs (by (repeat (first | exact At.z | apply At.s))) (by rfl), ?_⟩ | (intro _ _ hn; replace hs := Sat.new hs hn; clear hn) | refine ⟨Sat.cs hs (by (repeat (first | exact At.z | apply At.s))) (by rfl), ?_⟩ | (refine ⟨Sat.can hs (by (repeat (first | exact At.z | apply At.s))) (by simp), ?_⟩; intro _ e; replace hs := Sat.wr hs (by (repeat (first | exact At.z | apply At.s))) e; clear e; simp only [put, splice, List.set] at hs))
  refine aSize_sp c hs ?_
  intro h4 hs
  (repeat first | refine ⟨_, Sat.ld hs (by (repeat (first | exact At.z | apply At.s))) (by rfl), ?_⟩ | refine ⟨_, _, _, Sat.ld hs (by (repeat (first | exact At.z | apply At.s))) (by rfl), ?_⟩ | (intro _ _ hn; replace hs := Sat.new hs hn; clear hn) | refine ⟨Sat.cs hs (by (repeat (first | exact At.z | apply At.s))) (by rfl), ?_⟩ | (refine ⟨Sat.can hs (by (repeat (first | exact At.z | apply At.s))) (by simp), ?_⟩; intro _ e; replace hs := Sat.wr hs (by (repeat (first | exact At.z | apply At.s))) e; clear e; simp only [put, splice, List.set] at hs))
  refine rSize_sp c hs ?_
  intro h5 hs J hJ
  rw [if_neg (by simp), if_neg (by simp), if_neg (by simp), if_neg (by simp)]
  apply hJ
  clear hJ J
  intro J97 hJ97
  refine game px pr _ _ hs J97 ?_ ?_
  · intro x C h6 hx hs hk
    apply hJ97
    intro J100 hJ100
    rw [ltI_eq, if_pos (by simp; omega), if_pos (by simp)]
    apply hJ100
    clear hJ100 J100
    obtain ⟨q, sp, sl, sc2, hq, e0, e1, e2, e3, hrd, hlc, hok⟩ := rd.at_ x (by omega)
    have X := hs.ex
    refine ⟨_, hq, by omega, by omega, ?_⟩
    rw [Int.toNat_natCast]
    refine ⟨_, hc_ext X e0 (fun y => y), _, hc_ext X e1 (fun y => y), _, hc_ext X e2 (fun y => y), _, _, _, hc_ext X e3 (fun y => y), _, rfl, _, rfl, ?_⟩
    refine stepA_sp sc[x] hok hrd hlc hs ?_
    intro h7 hs
    obtain ⟨o1, m1, c1, f1, o2, m2, c2, f2, o3, m3, c3, f3, hst⟩ := stateSame_sp (K := fun b134 h135 => if (!true) = true then Q false h135 else if (!b134) = true then Q false h135 else ∃ p136, (some (⟨pr, 0, none⟩ : Addr)) = some p136 ∧ ∃ i137 : Int, hc h135 (p136.add 10) = some (.int .i64 i137) ∧ ∃ p138, (some (⟨px, 0, none⟩ : Addr)) = some p138 ∧ F_chip_Chip_Acts p138 (fun i139 h140 => hcs h140 (p136.add 10) [.int .i64 i137] ∧
      if (i139 != i137) = true then Q false h140 else ∃ p141, (some (⟨pr, 0, none⟩ : Addr)) = some p141 ∧ ∃ b142 : Bool, hc h140 (p141.add 11) = some (.bool b142) ∧ ∃ p143, (some (⟨px, 0, none⟩ : Addr)) = some p143 ∧ F_chip_Chip_Out p143 (fun b144 h145 => hcs h145 (p141.add 11) [.bool b142] ∧
        if (!b144 == b142) = true then Q false h145 else J97 [.dv (.one (.int .i64 (IntKind.i64.wrap ((x : Int) + 1))))] h145) h140) h135) hs (i := 0) (j := 1) .z (.s .z) (by
      intro h8 hs
      rw [if_neg (by simp), if_neg (by simp)]
      exact actsOut_sp (X := Q false) hs (i := 0) (j := 1) .z (.s .z) (hk _ _ hs))
    exact ⟨_, rfl, _, _, _, f1, _, _, _, f2, _, _, _, f3, _, rfl, hst⟩
  · intro C h6 hs
    apply hJ97
    intro J100 hJ100
    rw [ltI_eq, if_neg (by simp)]
    exact k _ hs.ex
end
end Go.Proofs.Ytamfkofcpoglnaa
end

/- How scripts over areas came in. Own work. -/
section
set_option maxRecDepth 100000
set_option linter.unusedVariables false
namespace Go.Proofs.Ytamfkofcpoglnaa
open Go Go.Vc Go.ChangeShapes Go.WideShapes Go.ChangeAt Go.RowKit

theorem xStepA : xsh PP 8 99 = some [.int .i64, .int .i64, .int .i64, .slc 5] := by kernel_rfl
theorem scriptA_of {D : Type} {enc : TypeId × Value → D} {W : World} {p : Option Addr} {l c : Nat} (h : Sli enc PP W 99 p l c) : ∃ sc : List StA, ScriptA W.heap p l sc := by
  have hb : Try.prog.bytesOf 99 = 48 := by kernel_rfl
  have hc : Try.prog.cellsOf 99 = 4 := by kernel_rfl
  obtain ⟨ess, h1, h2, _, h4⟩ := h.els xStepA
  have hlc := h.1
  have hr := h.2.1
  rw [hb] at hr
  unfold reachBytes at hr
  have key : ∀ es, es ∈ ess → ∃ (s : StA) (mp : Option Addr) (ml mc : Nat), s.ok ∧ es = [.int .i64 s.kind, .int .i64 s.a, .int .i64 s.n, .slice mp ml mc] ∧ hsv W.heap mp 1 ml (ints .u8 s.bs) ∧ ml ≤ mc := by
    intro es hes
    obtain ⟨k, _, rfl, _, a, _, rfl, ha, b, _, rfl, hb, mp, ml, mc, _, rfl, hm, hr⟩ := (h2 es hes).2
    simp only [XM] at hr
    subst hr
    obtain ⟨ms, m1, m2, m3⟩ := bytes_of hm
    exact ⟨⟨k, a, b, ms⟩, mp, ml, mc, ⟨(has_i64 hb).2, m2, m3⟩, rfl, m1, hm.1⟩
  have key2 : ∀ ess : List (List Value), (∀ es, es ∈ ess → ∃ (s : StA) (mp : Option Addr) (ml mc : Nat), s.ok ∧ es = [.int .i64 s.kind, .int .i64 s.a, .int .i64 s.n, .slice mp ml mc] ∧ hsv W.heap mp 1 ml (ints .u8 s.bs) ∧ ml ≤ mc) →
      ∃ sc : List StA, sc.length = ess.length ∧ ∀ i (hi : i < sc.length) (hi2 : i < ess.length), ∃ (mp : Option Addr) (ml mc : Nat), sc[i].ok ∧ ess[i] = [.int .i64 sc[i].kind, .int .i64 sc[i].a, .int .i64 sc[i].n, .slice mp ml mc] ∧ hsv W.heap mp 1 ml (ints .u8 sc[i].bs) ∧ ml ≤ mc := by
    intro ess
    induction ess with
    | nil => intro _; exact ⟨[], rfl, fun i hi => by simp at hi⟩
    | cons y r ih =>
      intro h
      obtain ⟨sc, e1, e2⟩ := ih fun es hes => h es (by simp [hes])
      obtain ⟨s, hs⟩ := h y (by simp)
      refine ⟨s :: sc, by simp [e1], ?_⟩
      intro i hi hi2
      cases i with
      | zero => exact hs
      | succ i => exact e2 i (by simpa using hi) (by simpa using hi2)
  obtain ⟨sc, e1, e2⟩ := key2 ess key
  refine ⟨sc, by omega, by omega, ?_⟩
  intro i hi
  obtain ⟨mp, ml, mc, ok, e3, e4, e5⟩ := e2 i hi (by omega)
  obtain ⟨q, hq, hc2⟩ := h4 i (by omega)
  rw [hc, e3] at hc2
  refine ⟨q, mp, ml, mc, hq, ?_, hc2 1 _ rfl, hc2 2 _ rfl, hc2 3 _ rfl, e4, e5, ok⟩
  have := hc2 0 _ rfl; simpa [Addr.add] using this
end Go.Proofs.Ytamfkofcpoglnaa
end

/- AreaDoes: every script over the areas of a chip that holds anything, with cuts: every answer, all that lies there; Size; memory; for every input of bulk at most 1048576. -/
section
set_option maxRecDepth 100000
set_option linter.unusedVariables false
namespace Go.Proofs.Ytamfkofcpoglnaa
open Go Go.Vc Go.ChangeShapes Go.WideShapes Go.ChangeAt Go.RowKit

theorem AreaDoes_calls {D : Type} {enc : TypeId × Value → D} {W : World} {base : Nat} (vs : List Value) (h : ArgsOk enc PP W base [23, 40, 96] vs) : CallsTrue PP 13 vs W := by
  obtain ⟨hl, h⟩ := h
  match vs, hl with
  | [v0, v1, v2], _ =>
  obtain ⟨r0, w0⟩ := h 0 _ v0 rfl rfl
  obtain ⟨r1, w1⟩ := h 1 _ v1 rfl rfl
  obtain ⟨r2, w2⟩ := h 2 _ v2 rfl rfl
  obtain ⟨c, rfl⟩ := cfg_of r0 w0
  obtain ⟨a, b, c', s, rfl, rd, ty, sm⟩ := chip_of r1 w1
  obtain ⟨p, l, cc, rfl, hsl⟩ := slice_of (e := 99) (by kernel_rfl) r2 w2
  obtain ⟨sc, hsc⟩ := scriptA_of hsl
  have := R_portcullislaw14_AreaDoes [.agg (c.vals.map .c), .agg [.c a.v, .c b.v, .c c'.v], .one (.slice p l cc)] (fun rs h' => rs = [DV.one (.bool true)] ∧ Ext none_ W.heap h') W.heap (by
    intro x hx
    simp only [List.mem_cons, List.not_mem_nil, or_false] at hx
    rcases hx with rfl | rfl | rfl
    · exact ok_cfg c
    · exact ok_chip a b c'
    · rfl) (by
    show F_portcullislaw14_AreaDoes c.cells c.slots c.fuses c.step c.keys c.erases c.area a.1 a.2.1 a.2.2 b.1 b.2.1 b.2.2 c'.1 c'.2.1 c'.2.2 p l cc (fun b h' => [DV.one (.bool b)] = [DV.one (.bool true)] ∧ Ext none_ W.heap h') W.heap
    exact AreaDoes_sp c s rd ty sc hsc fun h' x => ⟨rfl, x⟩)
  exact this
theorem AreaDoes_wit {α : Type} {o : Option α} {p q : α → Bool} (h : (match o with | some x => p x && q x | none => false) = true) : ∃ x, o = some x ∧ p x = true ∧ q x = true := by
  cases o with
  | none => cases h
  | some x => simp only [Bool.and_eq_true] at h; exact ⟨x, rfl, h⟩
theorem AreaDoes_upto (os : Os) (started : os.Started) (D : Type) (enc : TypeId × Value → D) (F : Stop.Interp) :
    ReturnsInHanded {} Try.checked os 13 .any ((Rows.OpenSpec.upto Rows.areaDoesSpec).pre6 enc Try.prog Try.f13 Rows.areaDoesUptoRow.domain false) (((Rows.OpenSpec.upto Rows.areaDoesSpec).at F).post enc Try.prog Try.f13 false true false false) := by
  refine returnsInHanded_of_calls Try.own started (by kernel_rfl)
    (by
      obtain ⟨x, hx, h1, h2⟩ := AreaDoes_wit (p := fun x : List (DataW D) × List (DataW D) × List MemPlace => Rows.areaDoesUptoRow.domain.all (PathCond.test Try.checked.prog ⟨Try.f13.params.toList, x.1, (Rows.OpenSpec.upto Rows.areaDoesSpec).bare.plain.varTypes Try.checked.prog, x.2.1⟩)) (q := fun x => Rows.uptoSmall D (x.1 ++ x.2.1))
        (o := DataW.whole enc Try.checked.prog (World.plainHolding Try.checked.prog os ⟨#[], #[.agg #[.int .i64 0, .int .i64 0, .int .i64 0, .int .i64 0, .int .i64 0, .int .i64 0, .int .i64 0], .agg #[.slice none 0 0, .slice none 0 0, .slice none 0 0], .slice none 0 0], []⟩).memory Try.f13.params.toList (Rows.OpenSpec.upto Rows.areaDoesSpec).vars false [.agg #[.int .i64 0, .int .i64 0, .int .i64 0, .int .i64 0, .int .i64 0, .int .i64 0, .int .i64 0], .agg #[.slice none 0 0, .slice none 0 0, .slice none 0 0], .slice none 0 0] 8) (by kernel_rfl)
      exact OpenSpec.witness (s := Rows.OpenSpec.upto Rows.areaDoesSpec) (k := Rows.uptoSmall) (enc := enc) (C := Try.checked) rfl false ⟨#[], #[.agg #[.int .i64 0, .int .i64 0, .int .i64 0, .int .i64 0, .int .i64 0, .int .i64 0, .int .i64 0], .agg #[.slice none 0 0, .slice none 0 0, .slice none 0 0], .slice none 0 0], []⟩ 8 (by kernel_rfl) (by kernel_rfl) (by kernel_rfl) hx h1 h2 (by kernel_rfl)) ?_
  intro w tape i _ _ _ hok hpre hholds
  obtain ⟨_, _, _, fn', hfn', _, _, _, _, hval⟩ := hok
  have e : fn' = Try.f13 := Option.some.inj (hfn'.symm.trans Try.func13)
  subst e
  obtain ⟨ds, gs, before, hw, hc, hkk⟩ := (OpenSpec.pre_some (s := Rows.OpenSpec.upto Rows.areaDoesSpec) (k := Rows.uptoSmall) rfl _ _ _ _).1 hpre.1
  have hz := hpre.2.weights hw
  have hw' := DataW.Whole.of_heap (w' := w.forCall tape i) (by rfl) hw
  refine (law_go (P := Try.prog) (fn := Try.f13) (s := Rows.areaDoesSpec) [23, 40, 96] (by kernel_rfl) Try.laidOut rfl (by kernel_rfl) (by kernel_rfl) Try.ubool
    (fun ds hl => match ds, hl with | [d1, d2, d3], _ => rfl) hval hw' hz AreaDoes_calls).mono fun e W' ⟨v, he, hp⟩ => ?_
  subst he
  exact ChangeSpec.post_blind hp

theorem AreaDoes_holds : Rows.AreaDoesUptoSaid :=
  OpenClaim.holds_of_cond 13 Try.f13 rfl rfl rfl rfl rfl rfl rfl ⟨rfl, rfl, rfl, rfl, rfl⟩ rfl rfl rfl rfl rfl (by kernel_rfl) Try.func13 (by kernel_rfl)
    (of_decide_eq_true (by kernel_rfl)) (by unfold Func.isWrapper; first | (rw [if_pos (by decide +kernel)]; kernel_rfl) | (rw [if_neg (by decide +kernel)]; exact ⟨rfl, rfl⟩))
    (fun os started H enc _ F => AreaDoes_upto os started H enc F)

end Go.Proofs.Ytamfkofcpoglnaa
end
