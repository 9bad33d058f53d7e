/- TokenMakes: what is proved and its parts, laid together by a program of ours: Tm1 Tm2 Au Tm3 Tm4 RwTokenMakes -/
import Derived.Test.YtijcpgahmbkijaaGreatDoorK10
set_option autoImplicit false
set_option linter.all false
/- Tokens: the document's Narrow, and the message of the first tag. Own work. -/
section
set_option maxRecDepth 100000
set_option linter.unusedVariables false
namespace Go.Proofs.YtijcpgahmbkijaaGreatDoor
open Go Go.Vc
theorem isBy_cb (c : CvM) : isBy (cbM c) := by
  have e : ∀ n t, isBy (eightM n t) := by
    intro n t v hv
    unfold eightM at hv
    obtain ⟨i, _, rfl⟩ := List.mem_map.1 hv
    rw [IntKind.wrap_u8]; omega
  unfold cbM
  refine isBy_app (isBy_app (isBy_app ?_ (e _ _)) (e _ _)) (e _ _)
  intro v hv
  simp only [List.mem_cons, List.not_mem_nil, or_false] at hv
  rcases hv with rfl | rfl <;> (rw [IntKind.wrap_u8]; omega)
theorem isBy_msg {id : List Int} (h : isBy id) : isBy (msgM id) := by
  unfold msgM
  refine isBy_app (isBy_app ?_ ?_) h
  · intro v hv
    unfold beginsL at hv
    simp only [List.mem_cons, List.not_mem_nil, or_false] at hv
    omega
  · intro v hv
    simp only [List.mem_cons, List.not_mem_nil, or_false] at hv
    subst hv
    rw [IntKind.wrap_u8]; omega
section
variable {h0 h : H} {A : List Ent} {i j d : Nat}
theorem rfirst_sp {Q : Option Addr → Nat → Nat → H → Prop} {p : Option Addr} {l c : Nat} {id : List Int} (hs : Sat h0 A h) (hl : l < 2 ^ 40) (rd : ∀ h', Sat h0 A h' → hsv h' p 1 l (ints .u8 id))
    (k : ∀ p' c' h', Sat h0 (slE p' (18 + l) c' 1 (ints .u8 (msgM id)) :: A) h' → Q p' (18 + l) c' h') : F_portcullisref24_first p l c Q h := by
  unfold F_portcullisref24_first G_portcullisref24_first
  have hil : id.length = l := by have := (rd _ hs).1; simpa using this
  intro eb _ hn; replace hs := Sat.new hs hn; clear hn
  refine Sat.app_new (vs := ints .u8 [112, 111, 114, 116, 99, 117, 108, 108, 105, 115, 32, 116, 111, 107, 101, 110]) hs rfl rfl (ints_one _ _) (by decide) ?_
  intro p1 c1 h1 hs
  intro b _ hn; replace hs := Sat.new hs hn; clear hn
  refine ⟨_, hs.bv (i := 0) (l := 2) .z rfl (ints_one .u8 [0, IntKind.u8.wrap (l : Int)]), ?_⟩
  refine Sat.app hs (i := 1) (vs := ints .u8 [0, IntKind.u8.wrap (l : Int)]) (.s .z) rfl rfl (ints_one _ _) (by decide) ?_
  intro p2 c2 h2 hs
  simp only [put_succ, put_zero] at hs
  refine ⟨_, rd _ hs.drop.drop.drop, ?_⟩
  refine Sat.app hs (i := 1) (vs := ints .u8 id) (.s .z) (by simp [hil]) rfl (ints_one _ _) (by omega) ?_
  intro p3 c3 h3 hs
  simp only [put_succ, put_zero] at hs
  refine k p3 c3 h3 ?_
  have e : ints .u8 (msgM id) = ints .u8 [112, 111, 114, 116, 99, 117, 108, 108, 105, 115, 32, 116, 111, 107, 101, 110] ++ ints .u8 [0, IntKind.u8.wrap (l : Int)] ++ ints .u8 id := by
    unfold msgM beginsL; rw [ints_app, ints_app, hil]; rfl
  rw [e]
  exact hs.sub (by (repeat (first | exact List.Sublist.refl _ | apply List.Sublist.cons_cons | apply List.Sublist.cons)))
theorem rnarrow_sp {Q : Int → Option Addr → Nat → Nat → Option Addr → Nat → Nat → List Int → Int → H → Prop} {key : Int} {id tag : List Int} {cs : List CvM} {ip cp : Option Addr} {il ic cl cc : Nat} (c : CvM) (hs : Sat h0 A h) (ht : tag.length = 32) (htb : isBy tag) (hl : cl < 2 ^ 40) (hi : il < 2 ^ 47)
    (ri : ∀ h', Sat h0 A h' → hsv h' ip 1 il (ints .u8 id)) (rc : ∀ h', Sat h0 A h' → hsv h' cp 5 cl (cvsV cs))
    (k1 : 32 ≤ cs.length → ∀ h', Sat h0 A h' → Q 0 none 0 0 none 0 0 (zeros 32) 3 h')
    (k2 : cs.length < 32 → ¬ c.may → ∀ h', Sat h0 A h' → Q 0 none 0 0 none 0 0 (zeros 32) 1 h')
    (k3 : cs.length < 32 → c.may → ∀ p1 c1 p2 c2 h', Sat h0 (slE p2 (cl + 1) c2 5 (cvsV (cs ++ [c])) :: slE p1 il c1 1 (ints .u8 id) :: A) h' → Q key p1 il c1 p2 (cl + 1) c2 (macM tag (cbM c)) 0 h') :
    F_portcullisref24_Token_Narrow key ip il ic cp cl cc tag c.kind c.slot c.frm c.to c.set Q h := by
  unfold F_portcullisref24_Token_Narrow G_portcullisref24_Token_Narrow
  simp only [add_mk, Nat.zero_add, List.append_nil]
  have hcl : cs.length = cl := by have := (rc _ hs).1; rw [cvsV_len] at this; omega
  have hil : id.length = il := by have := (ri _ hs).1; simpa using this
  intro tb _ hn; replace hs := Sat.new hs hn; clear hn
  intro cb _ hn; replace hs := Sat.new hs hn; clear hn
  intro zb _ hn; replace hs := Sat.new hs hn; clear hn
  replace hs : Sat h0 (blk zb tok0 :: blk cb (cvV c) :: blk tb (tokL key ip il ic cp cl cc tag) :: A) _ := hs
  have bad : ∀ (e : Int) h', Sat h0 (blk zb tok0 :: blk cb (cvV c) :: blk tb (tokL key ip il ic cp cl cc tag) :: A) h' → (∀ h', Sat h0 A h' → Q 0 none 0 0 none 0 0 (zeros 32) e h') →
      hcan h' ⟨zb, 0, none⟩ 35 ∧ ∀ h31 : H, h31 = hwr h' ⟨zb, 0, none⟩ tok0 → ∃ i33 : Int, hc h31 ⟨zb, 0, none⟩ = some (.int .i64 i33) ∧ ∃ (o34 : Option Addr) (n35 n36 : Nat), hc h31 ⟨zb, 1, none⟩ = some (.slice o34 n35 n36) ∧ ∃ (o37 : Option Addr) (n38 n39 : Nat), hc h31 ⟨zb, 2, none⟩ = some (.slice o37 n38 n39) ∧
        ∃ l40 : List Int, l40.length = 32 ∧ hrow h31 ⟨zb, 3, none⟩ .u8 l40 ∧ Q i33 o34 n35 n36 o37 n38 n39 l40 e h31 := by
    intro e h2 hs kk
    refine ⟨Sat.can hs (i := 0) .z (by simp [zeros]), ?_⟩
    intro h3 e3
    replace hs := Sat.wra hs (i := 0) .z e3 rfl
    clear e3
    rw [put_zero] at hs
    exact ⟨_, hs.ld (i := 0) .z rfl, _, _, _, hs.ld (i := 0) .z rfl, _, _, _, hs.ld (i := 0) .z rfl, _, zeros_len 32, tok_row hs (i := 0) .z, kk _ hs.drop.drop.drop⟩
  refine ⟨_, _, _, hs.ld (i := 2) (.s (.s .z)) rfl, ?_⟩
  rw [leI_eq]
  by_cases g : 32 ≤ cl
  · rw [if_pos (by simp; omega)]
    exact bad 3 _ hs (k1 (by omega))
  rw [if_neg (by simp; omega)]
  refine ⟨_, hs.ld (i := 1) (.s .z) rfl, _, hs.ld (i := 1) (.s .z) rfl, _, hs.ld (i := 1) (.s .z) rfl, _, hs.ld (i := 1) (.s .z) rfl, _, hs.ld (i := 1) (.s .z) rfl, ?_⟩
  refine rcmay_sp c hs ?_
  intro h1 hs
  by_cases gm : c.may
  case neg =>
    rw [if_pos (by simp [gm])]
    exact bad 1 _ hs (k2 (by omega) gm)
  rw [if_neg (by simp [gm])]
  have K := k3 (by omega) gm
  clear bad k1 k2 k3
  intro eb _ hn; replace hs := Sat.new hs hn; clear hn
  intro fb _ hn; replace hs := Sat.new hs hn; clear hn
  refine ⟨_, _, _, hs.ld (i := 4) (.s (.s (.s (.s .z)))) rfl, _, rc _ hs.drop.drop.drop.drop.drop, ?_⟩
  refine Sat.app_new hs (by rw [cvsV_len, hcl]) rfl (cvsV_one cs) (by omega) ?_
  intro p2 c2 h2 hs
  replace hs : Sat h0 (slE p2 cl c2 5 (cvsV cs) :: blk zb tok0 :: blk cb (cvV c) :: blk tb (tokL key ip il ic cp cl cc tag) :: A) h2 := hs.sub (by (repeat (first | exact List.Sublist.refl _ | apply List.Sublist.cons_cons | apply List.Sublist.cons)))
  intro J71 hJ71
  have fin : ∀ (nt : Nat) (x : List Value) (p1 : Option Addr) (c1 : Nat) (p2 : Option Addr) (c2 : Nat) (h' : H), x.length = 35 → Sat h0 (blk nt x :: slE p2 (cl + 1) c2 5 (cvsV (cs ++ [c])) :: slE p1 il c1 1 (ints .u8 id) :: blk zb tok0 :: blk cb (cvV c) :: blk tb (tokL key ip il ic cp cl cc tag) :: A) h' →
      hcan h' ⟨nt, 0, none⟩ 35 ∧ ∀ h142 : H, h142 = hwr h' ⟨nt, 0, none⟩ (.int .i64 key :: .slice p1 il c1 :: .slice p2 (cl + 1) c2 :: ints .u8 (zeros 32)) → J71 [.dv (.addr ⟨nt, 0, none⟩)] h142 := by
    intro nt x p1 c1 p2 c2 h3 hx hs
    refine ⟨Sat.can hs (i := 0) .z (by omega), ?_⟩
    intro h4 e
    replace hs := Sat.wra (xs := tokL key p1 il c1 p2 (cl + 1) c2 (zeros 32)) hs (i := 0) .z e (by rw [hx]; simp [zeros])
    clear e
    simp only [put_zero] at hs
    apply hJ71
    refine ⟨_, hs.ld (i := 4) (.s (.s (.s (.s .z)))) rfl, _, hs.ld (i := 4) (.s (.s (.s (.s .z)))) rfl, _, hs.ld (i := 4) (.s (.s (.s (.s .z)))) rfl, _, hs.ld (i := 4) (.s (.s (.s (.s .z)))) rfl, _, hs.ld (i := 4) (.s (.s (.s (.s .z)))) rfl, ?_⟩
    refine rcbytes_sp c hs ?_
    intro p5 c5 h5 hs
    refine rmac_sp (key := tag) (b := cbM c) hs htb (isBy_cb c) (by decide) (by decide) ?_ (fun h' hs' => hs'.sv (i := 0) .z) ?_
    · intro h' hs'
      refine ⟨by simp [ht], ints_one _ _, Or.inr ⟨_, rfl, ?_⟩⟩
      exact tok_row hs' (i := 6) (.s (.s (.s (.s (.s (.s .z))))))
    intro h6 hs
    simp only [add_mk, Nat.zero_add]
    refine ⟨Sat.can hs (i := 1) (.s .z) (by simp [zeros]), ?_⟩
    intro h7 e
    replace hs := Sat.wr hs (i := 1) (.s .z) e
    clear e
    rw [tok_tag (macM_len _ _)] at hs
    simp only [put_succ, put_zero] at hs
    refine ⟨_, hs.ld (i := 1) (.s .z) rfl, _, _, _, hs.ld (i := 1) (.s .z) rfl, _, _, _, hs.ld (i := 1) (.s .z) rfl, _, macM_len _ _, tok_row hs (i := 1) (.s .z), ?_⟩
    refine ⟨Sat.can hs (i := 4) (.s (.s (.s (.s .z)))) (by simp [zeros]), ?_⟩
    intro h8 e
    replace hs := Sat.wra (xs := tokL key p1 il c1 p2 (cl + 1) c2 (macM tag (cbM c))) hs (i := 4) (.s (.s (.s (.s .z)))) e (by simp [zeros, macM_len])
    clear e
    simp only [put_succ, put_zero] at hs
    refine ⟨_, hs.ld (i := 4) (.s (.s (.s (.s .z)))) rfl, _, _, _, hs.ld (i := 4) (.s (.s (.s (.s .z)))) rfl, _, _, _, hs.ld (i := 4) (.s (.s (.s (.s .z)))) rfl, _, macM_len _ _, tok_row hs (i := 4) (.s (.s (.s (.s .z)))), ?_⟩
    exact K _ _ _ _ _ (hs.sub (by (repeat (first | exact List.Sublist.refl _ | apply List.Sublist.cons_cons | apply List.Sublist.cons))))
  clear hJ71
  have t35 : (tok0).length = 35 := by simp [zeros]
  have c0 : ∀ {B : List Ent} {h' : H} {x : Nat}, Sat h0 B h' → At B x (blk tb (tokL key ip il ic cp cl cc tag)) → hcs h' ⟨tb, 0, none⟩ [.int .i64 key] := fun s a => hcs_one (s.ld a rfl)
  have cI : ∀ {B : List Ent} {h' : H} {x : Nat}, Sat h0 B h' → At B x (blk tb (tokL key ip il ic cp cl cc tag)) → hcs h' ⟨tb, 1, none⟩ [.slice ip il ic] := fun s a => hcs_one (s.ld a rfl)
  have cC : ∀ {B : List Ent} {h' : H} {x : Nat}, Sat h0 B h' → At B x (blk cb (cvV c)) → hcs h' ⟨cb, 0, none⟩ (cvV c) := fun s a => s.cs a rfl
  refine ⟨_, hs.ld (i := 3) (.s (.s (.s .z))) rfl, _, _, _, hs.ld (i := 3) (.s (.s (.s .z))) rfl, ?_⟩
  refine ⟨_, hs.ld (i := 2) (.s (.s .z)) rfl, _, hs.ld (i := 2) (.s (.s .z)) rfl, _, hs.ld (i := 2) (.s (.s .z)) rfl, _, hs.ld (i := 2) (.s (.s .z)) rfl, _, hs.ld (i := 2) (.s (.s .z)) rfl, ?_⟩
  refine ⟨?_, ?_⟩
  · skip
    refine ⟨_, ri _ hs.drop.drop.drop.drop, ?_⟩
    refine Sat.app_new hs (by simp [hil]) rfl (ints_one _ _) (by omega) ?_
    intro p1 c1 h3 hs
    refine ⟨cC hs (x := 3) (.s (.s (.s .z))), ?_⟩
    refine ⟨c0 hs (x := 4) (.s (.s (.s (.s .z)))), ?_⟩
    refine ⟨?_, ?_⟩
    · skip
      intro bb _ hn; replace hs := Sat.new hs hn; clear hn
      refine ⟨c0 hs (x := 5) (.s (.s (.s (.s (.s .z))))), ?_⟩
      refine ⟨?_, ?_⟩
      · skip
        refine ⟨_, hs.bv (i := 0) (l := 1) (sz := 5) .z rfl (cv1 c), ?_⟩
        refine Sat.app hs (i := 2) (vs := cvV c) (.s (.s .z)) rfl rfl (cv1 c) (by omega) ?_
        intro p3 c3 h4 hs
        simp only [put_succ, put_zero] at hs
        rw [← cvsV_snoc] at hs
        refine ⟨c0 hs (x := 5) (.s (.s (.s (.s (.s .z))))), ?_⟩
        intro nt _ hn; replace hs := Sat.new hs hn; clear hn
        refine ⟨c0 hs (x := 6) (.s (.s (.s (.s (.s (.s .z)))))), ?_⟩
        replace hs := hs.front (e := blk bb (cvV c)) (i := 1) (.s .z)
        simp only [del] at hs
        replace hs := hs.drop
        replace hs := hs.front (e := slE p1 il c1 1 (ints .u8 id)) (i := 1) (.s .z)
        simp only [del] at hs
        replace hs := hs.front (e := slE p3 (cl + 1) c3 5 (cvsV (cs ++ [c]))) (i := 2) (.s (.s .z))
        simp only [del] at hs
        replace hs := hs.front (e := blk nt tok0) (i := 2) (.s (.s .z))
        simp only [del] at hs
        exact fin nt _ p1 c1 p3 c3 _ t35 hs
      · skip
        intro nt _ hn; replace hs := Sat.new hs hn; clear hn
        refine ⟨c0 hs (x := 6) (.s (.s (.s (.s (.s (.s .z)))))), ?_⟩
        refine ⟨_, hs.bv (i := 1) (l := 1) (sz := 5) (.s .z) rfl (cv1 c), ?_⟩
        refine Sat.app hs (i := 3) (vs := cvV c) (.s (.s (.s .z))) rfl rfl (cv1 c) (by omega) ?_
        intro p3 c3 h4 hs
        simp only [put_succ, put_zero] at hs
        rw [← cvsV_snoc] at hs
        refine ⟨c0 hs (x := 6) (.s (.s (.s (.s (.s (.s .z)))))), ?_⟩
        replace hs := hs.front (e := blk bb (cvV c)) (i := 1) (.s .z)
        simp only [del] at hs
        replace hs := hs.drop
        replace hs := hs.front (e := slE p1 il c1 1 (ints .u8 id)) (i := 1) (.s .z)
        simp only [del] at hs
        replace hs := hs.front (e := slE p3 (cl + 1) c3 5 (cvsV (cs ++ [c]))) (i := 2) (.s (.s .z))
        simp only [del] at hs
        replace hs := hs.front (e := blk nt tok0) (i := 2) (.s (.s .z))
        simp only [del] at hs
        exact fin nt _ p1 c1 p3 c3 _ t35 hs
    · skip
      intro nt _ hn; replace hs := Sat.new hs hn; clear hn
      refine ⟨cC hs (x := 4) (.s (.s (.s (.s .z)))), ?_⟩
      refine ⟨c0 hs (x := 5) (.s (.s (.s (.s (.s .z))))), ?_⟩
      intro bb _ hn; replace hs := Sat.new hs hn; clear hn
      refine ⟨c0 hs (x := 6) (.s (.s (.s (.s (.s (.s .z)))))), ?_⟩
      refine ⟨_, hs.bv (i := 0) (l := 1) (sz := 5) .z rfl (cv1 c), ?_⟩
      refine Sat.app hs (i := 3) (vs := cvV c) (.s (.s (.s .z))) rfl rfl (cv1 c) (by omega) ?_
      intro p3 c3 h4 hs
      simp only [put_succ, put_zero] at hs
      rw [← cvsV_snoc] at hs
      refine ⟨c0 hs (x := 6) (.s (.s (.s (.s (.s (.s .z)))))), ?_⟩
      replace hs := hs.front (e := blk bb (cvV c)) (i := 0) .z
      simp only [del] at hs
      replace hs := hs.drop
      replace hs := hs.front (e := slE p1 il c1 1 (ints .u8 id)) (i := 1) (.s .z)
      simp only [del] at hs
      replace hs := hs.front (e := slE p3 (cl + 1) c3 5 (cvsV (cs ++ [c]))) (i := 2) (.s (.s .z))
      simp only [del] at hs
      replace hs := hs.front (e := blk nt tok0) (i := 2) (.s (.s .z))
      simp only [del] at hs
      exact fin nt _ p1 c1 p3 c3 _ t35 hs
  · skip
    refine ⟨?_, ?_⟩
    · skip
      intro bb _ hn; replace hs := Sat.new hs hn; clear hn
      refine ⟨cI hs (x := 4) (.s (.s (.s (.s .z)))), ?_⟩
      refine ⟨c0 hs (x := 4) (.s (.s (.s (.s .z)))), ?_⟩
      refine ⟨?_, ?_⟩
      · skip
        refine ⟨_, ri _ hs.drop.drop.drop.drop.drop, ?_⟩
        refine Sat.app_new hs (by simp [hil]) rfl (ints_one _ _) (by omega) ?_
        intro p1 c1 h3 hs
        refine ⟨c0 hs (x := 5) (.s (.s (.s (.s (.s .z))))), ?_⟩
        refine ⟨?_, ?_⟩
        · skip
          refine ⟨_, hs.bv (i := 1) (l := 1) (sz := 5) (.s .z) rfl (cv1 c), ?_⟩
          refine Sat.app hs (i := 2) (vs := cvV c) (.s (.s .z)) rfl rfl (cv1 c) (by omega) ?_
          intro p3 c3 h4 hs
          simp only [put_succ, put_zero] at hs
          rw [← cvsV_snoc] at hs
          refine ⟨c0 hs (x := 5) (.s (.s (.s (.s (.s .z))))), ?_⟩
          intro nt _ hn; replace hs := Sat.new hs hn; clear hn
          refine ⟨c0 hs (x := 6) (.s (.s (.s (.s (.s (.s .z)))))), ?_⟩
          replace hs := hs.front (e := blk bb (cvV c)) (i := 2) (.s (.s .z))
          simp only [del] at hs
          replace hs := hs.drop
          replace hs := hs.front (e := slE p1 il c1 1 (ints .u8 id)) (i := 1) (.s .z)
          simp only [del] at hs
          replace hs := hs.front (e := slE p3 (cl + 1) c3 5 (cvsV (cs ++ [c]))) (i := 2) (.s (.s .z))
          simp only [del] at hs
          replace hs := hs.front (e := blk nt tok0) (i := 2) (.s (.s .z))
          simp only [del] at hs
          exact fin nt _ p1 c1 p3 c3 _ t35 hs
        · skip
          intro nt _ hn; replace hs := Sat.new hs hn; clear hn
          refine ⟨c0 hs (x := 6) (.s (.s (.s (.s (.s (.s .z)))))), ?_⟩
          refine ⟨_, hs.bv (i := 2) (l := 1) (sz := 5) (.s (.s .z)) rfl (cv1 c), ?_⟩
          refine Sat.app hs (i := 3) (vs := cvV c) (.s (.s (.s .z))) rfl rfl (cv1 c) (by omega) ?_
          intro p3 c3 h4 hs
          simp only [put_succ, put_zero] at hs
          rw [← cvsV_snoc] at hs
          refine ⟨c0 hs (x := 6) (.s (.s (.s (.s (.s (.s .z)))))), ?_⟩
          replace hs := hs.front (e := blk bb (cvV c)) (i := 2) (.s (.s .z))
          simp only [del] at hs
          replace hs := hs.drop
          replace hs := hs.front (e := slE p1 il c1 1 (ints .u8 id)) (i := 1) (.s .z)
          simp only [del] at hs
          replace hs := hs.front (e := slE p3 (cl + 1) c3 5 (cvsV (cs ++ [c]))) (i := 2) (.s (.s .z))
          simp only [del] at hs
          replace hs := hs.front (e := blk nt tok0) (i := 2) (.s (.s .z))
          simp only [del] at hs
          exact fin nt _ p1 c1 p3 c3 _ t35 hs
      · skip
        intro nt _ hn; replace hs := Sat.new hs hn; clear hn
        refine ⟨cI hs (x := 5) (.s (.s (.s (.s (.s .z))))), ?_⟩
        refine ⟨c0 hs (x := 5) (.s (.s (.s (.s (.s .z))))), ?_⟩
        refine ⟨_, ri _ hs.drop.drop.drop.drop.drop.drop, ?_⟩
        refine Sat.app_new hs (by simp [hil]) rfl (ints_one _ _) (by omega) ?_
        intro p1 c1 h3 hs
        refine ⟨c0 hs (x := 6) (.s (.s (.s (.s (.s (.s .z)))))), ?_⟩
        refine ⟨_, hs.bv (i := 2) (l := 1) (sz := 5) (.s (.s .z)) rfl (cv1 c), ?_⟩
        refine Sat.app hs (i := 3) (vs := cvV c) (.s (.s (.s .z))) rfl rfl (cv1 c) (by omega) ?_
        intro p3 c3 h4 hs
        simp only [put_succ, put_zero] at hs
        rw [← cvsV_snoc] at hs
        refine ⟨c0 hs (x := 6) (.s (.s (.s (.s (.s (.s .z)))))), ?_⟩
        replace hs := hs.front (e := blk bb (cvV c)) (i := 2) (.s (.s .z))
        simp only [del] at hs
        replace hs := hs.drop
        replace hs := hs.front (e := slE p1 il c1 1 (ints .u8 id)) (i := 0) .z
        simp only [del] at hs
        replace hs := hs.front (e := slE p3 (cl + 1) c3 5 (cvsV (cs ++ [c]))) (i := 2) (.s (.s .z))
        simp only [del] at hs
        replace hs := hs.front (e := blk nt tok0) (i := 2) (.s (.s .z))
        simp only [del] at hs
        exact fin nt _ p1 c1 p3 c3 _ t35 hs
    · skip
      intro nt _ hn; replace hs := Sat.new hs hn; clear hn
      refine ⟨cC hs (x := 3) (.s (.s (.s .z))), ?_⟩
      refine ⟨cI hs (x := 4) (.s (.s (.s (.s .z)))), ?_⟩
      refine ⟨c0 hs (x := 4) (.s (.s (.s (.s .z)))), ?_⟩
      refine ⟨?_, ?_⟩
      · skip
        refine ⟨_, ri _ hs.drop.drop.drop.drop.drop, ?_⟩
        refine Sat.app_new hs (by simp [hil]) rfl (ints_one _ _) (by omega) ?_
        intro p1 c1 h3 hs
        refine ⟨cC hs (x := 4) (.s (.s (.s (.s .z)))), ?_⟩
        refine ⟨c0 hs (x := 5) (.s (.s (.s (.s (.s .z))))), ?_⟩
        intro bb _ hn; replace hs := Sat.new hs hn; clear hn
        refine ⟨c0 hs (x := 6) (.s (.s (.s (.s (.s (.s .z)))))), ?_⟩
        refine ⟨_, hs.bv (i := 0) (l := 1) (sz := 5) .z rfl (cv1 c), ?_⟩
        refine Sat.app hs (i := 3) (vs := cvV c) (.s (.s (.s .z))) rfl rfl (cv1 c) (by omega) ?_
        intro p3 c3 h4 hs
        simp only [put_succ, put_zero] at hs
        rw [← cvsV_snoc] at hs
        refine ⟨c0 hs (x := 6) (.s (.s (.s (.s (.s (.s .z)))))), ?_⟩
        replace hs := hs.front (e := blk bb (cvV c)) (i := 0) .z
        simp only [del] at hs
        replace hs := hs.drop
        replace hs := hs.front (e := slE p1 il c1 1 (ints .u8 id)) (i := 0) .z
        simp only [del] at hs
        replace hs := hs.front (e := slE p3 (cl + 1) c3 5 (cvsV (cs ++ [c]))) (i := 2) (.s (.s .z))
        simp only [del] at hs
        replace hs := hs.front (e := blk nt tok0) (i := 2) (.s (.s .z))
        simp only [del] at hs
        exact fin nt _ p1 c1 p3 c3 _ t35 hs
      · skip
        intro bb _ hn; replace hs := Sat.new hs hn; clear hn
        refine ⟨cI hs (x := 5) (.s (.s (.s (.s (.s .z))))), ?_⟩
        refine ⟨c0 hs (x := 5) (.s (.s (.s (.s (.s .z))))), ?_⟩
        refine ⟨_, ri _ hs.drop.drop.drop.drop.drop.drop, ?_⟩
        refine Sat.app_new hs (by simp [hil]) rfl (ints_one _ _) (by omega) ?_
        intro p1 c1 h3 hs
        refine ⟨c0 hs (x := 6) (.s (.s (.s (.s (.s (.s .z)))))), ?_⟩
        refine ⟨_, hs.bv (i := 1) (l := 1) (sz := 5) (.s .z) rfl (cv1 c), ?_⟩
        refine Sat.app hs (i := 3) (vs := cvV c) (.s (.s (.s .z))) rfl rfl (cv1 c) (by omega) ?_
        intro p3 c3 h4 hs
        simp only [put_succ, put_zero] at hs
        rw [← cvsV_snoc] at hs
        refine ⟨c0 hs (x := 6) (.s (.s (.s (.s (.s (.s .z)))))), ?_⟩
        replace hs := hs.front (e := blk bb (cvV c)) (i := 1) (.s .z)
        simp only [del] at hs
        replace hs := hs.drop
        replace hs := hs.front (e := slE p1 il c1 1 (ints .u8 id)) (i := 0) .z
        simp only [del] at hs
        replace hs := hs.front (e := slE p3 (cl + 1) c3 5 (cvsV (cs ++ [c]))) (i := 2) (.s (.s .z))
        simp only [del] at hs
        replace hs := hs.front (e := blk nt tok0) (i := 2) (.s (.s .z))
        simp only [del] at hs
        exact fin nt _ p1 c1 p3 c3 _ t35 hs
end
end Go.Proofs.YtijcpgahmbkijaaGreatDoor
end

/- Rings of keys, the program's and the document's. Own work. -/
section
set_option maxRecDepth 100000
set_option linter.unusedVariables false
namespace Go.Proofs.YtijcpgahmbkijaaGreatDoor
open Go Go.Vc

abbrev Sec := Int × List Int
def badM (seen : List Sec) (s : Sec) : Int :=
  if s.1 < 0 then 2 else if 63 < s.1 then 2 else if s.2.length < 1 then 4 else if 256 < s.2.length then 4 else if (seen.find? (fun x => x.1 == s.1)).isSome = true then 18 else 0
def goM (L : List Sec) : Nat → Option (Int × Int)
  | 0 => none
  | k + 1 => if badM (L.take (L.length - (k + 1))) (L.getD (L.length - (k + 1)) (0, [])) = 0 then goM L k else some (badM (L.take (L.length - (k + 1))) (L.getD (L.length - (k + 1)) (0, [])), ((L.length - (k + 1) : Nat) : Int))
/-- What is wrong with secrets. -/
def newM (L : List Sec) : Option (Int × Int) := if 64 < L.length then some (3, 64) else goM L L.length
theorem goM_at (L : List Sec) {t : Nat} (ht : t < L.length) : goM L (L.length - t) = if badM (L.take t) L[t] = 0 then goM L (L.length - (t + 1)) else some (badM (L.take t) L[t], (t : Int)) := by
  obtain ⟨k, hk⟩ : ∃ k, L.length - t = k + 1 := ⟨L.length - t - 1, by omega⟩
  rw [hk]
  show (if badM (L.take (L.length - (k + 1))) (L.getD (L.length - (k + 1)) (0, [])) = 0 then _ else _) = _
  rw [show L.length - (k + 1) = t by omega, show L.length - (t + 1) = k by omega]
  have : L.getD t (0, []) = L[t] := by rw [List.getD_eq_getElem?_getD, List.getElem?_eq_getElem ht]; rfl
  rw [this]
/-- A secret in memory. -/
structure SR where
  key : Int
  bytes : List Int
  p : Option Addr
  c : Nat
abbrev SR.kv (x : SR) : Sec := (x.key, x.bytes)
abbrev SR.ent (x : SR) : Value × DV := (.int .i64 x.key, .one (.slice x.p x.bytes.length x.c))
abbrev SR.sl (x : SR) : Ent := slE x.p x.bytes.length x.c 1 (ints .u8 x.bytes)
def secV : List SR → List Value
  | [] => []
  | x :: r => [.int .i64 x.key, .slice x.p x.bytes.length x.c] ++ secV r
theorem secV_app (a b : List SR) : secV (a ++ b) = secV a ++ secV b := by
  induction a with
  | nil => rfl
  | cons x r ih => show [_, _] ++ secV (r ++ b) = [_, _] ++ secV r ++ secV b; rw [ih]; rfl
theorem secV_get (R : List SR) (i : Nat) (hi : i < R.length) : (secV R)[i * 2]? = some (.int .i64 R[i].key) ∧ (secV R)[i * 2 + 1]? = some (.slice R[i].p R[i].bytes.length R[i].c) := by
  induction R generalizing i with
  | nil => simp at hi
  | cons x r ih =>
    cases i with
    | zero => exact ⟨rfl, rfl⟩
    | succ i =>
      have := ih i (by simpa using hi)
      rw [show (i + 1) * 2 = i * 2 + 1 + 1 by omega]
      exact this
def SR.at_ (R : List SR) (key : Int) : Option SR := R.find? (fun x => x.key == key)
theorem at_kv (R : List SR) (key : Int) : (SR.at_ R key).map SR.kv = (R.map SR.kv).find? (fun x => x.1 == key) := by
  unfold SR.at_
  induction R with
  | nil => rfl
  | cons x r ih =>
    rw [List.map_cons, List.find?_cons, List.find?_cons]
    by_cases c : (x.key == key) = true
    · rw [c]; simp only [c]; rfl
    · have c' : (x.key == key) = false := by simpa using c
      rw [c']; simp only [c']; exact ih
theorem mlook_at (R : List SR) (key : Int) (z : DV) : mlook (.int .i64 key) z (R.map SR.ent) = match SR.at_ R key with | some x => some (.one (.slice x.p x.bytes.length x.c), true) | none => some (z, false) := by
  unfold SR.at_
  induction R with
  | nil => rfl
  | cons x r ih =>
    rw [List.map_cons, List.find?_cons]
    unfold mlook
    have e : keyEq (.int .i64 key) (SR.ent x).1 = some (key == x.key) := rfl
    rw [e]
    by_cases c : key = x.key
    · have c1 : (key == x.key) = true := by simpa using c
      have c2 : (x.key == key) = true := by simpa using c.symm
      rw [c1, c2]
    · have c1 : (key == x.key) = false := by simpa using c
      have c2 : (x.key == key) = false := by simpa using fun y => c y.symm
      rw [c1, c2]
      exact ih
theorem mins_at (R : List SR) (key : Int) (d : DV) (h : SR.at_ R key = none) : mins (.int .i64 key) d (R.map SR.ent) = some (R.map SR.ent ++ [(.int .i64 key, d)]) := by
  unfold SR.at_ at h
  induction R with
  | nil => rfl
  | cons x r ih =>
    rw [List.find?_cons] at h
    rw [List.map_cons]
    unfold mins
    have e : keyEq (.int .i64 key) (SR.ent x).1 = some (key == x.key) := rfl
    rw [e]
    by_cases c : key = x.key
    · have c2 : (x.key == key) = true := by simpa using c.symm
      rw [c2] at h; cases h
    · have c1 : (key == x.key) = false := by simpa using c
      have c2 : (x.key == key) = false := by simpa using fun y => c y.symm
      rw [c2] at h
      rw [c1]
      dsimp only
      rw [ih h]
      rfl
/-- Secrets that came in. -/
def SecsAt (h : H) (p : Option Addr) (l : Nat) (X : List SR) : Prop := l = X.length ∧ ∀ i (hi : i < X.length), ∃ q, p = some q ∧ hc h (q.add (i * 2)) = some (.int .i64 X[i].key) ∧ hc h ((q.add (i * 2)).add 1) = some (.slice X[i].p X[i].bytes.length X[i].c) ∧ hsv h X[i].p 1 X[i].bytes.length (ints .u8 X[i].bytes) ∧ isBy X[i].bytes ∧ X[i].bytes.length < 2 ^ 47
theorem SecsAt.ext {h0 h : H} {A : List Ent} (hs : Sat h0 A h) {p : Option Addr} {l : Nat} {X : List SR} (s : SecsAt h0 p l X) : SecsAt h p l X := by
  refine ⟨s.1, fun i hi => ?_⟩
  obtain ⟨q, h1, h2, h3, h4, h5, h6⟩ := s.2 i hi
  exact ⟨q, h1, hc_ext hs.ex h2 (fun y => y), hc_ext hs.ex h3 (fun y => y), hs.base h4, h5, h6⟩
theorem takeSec {L : List Sec} {t : Nat} (h : t < L.length) : L.take (t + 1) = L.take t ++ [L[t]] := by rw [List.take_succ, List.getElem?_eq_getElem h]; rfl
/-- A ring that the program made. -/
abbrev ringP (r m : Nat) (R : List SR) : List Ent := blk r [.map (some m)] :: mapE m (R.map SR.ent) :: R.map SR.sl
/-- A ring that the document made. -/
abbrev ringD (r : Nat) (lp : Option Addr) (lc : Nat) (R : List SR) : List Ent := blk r [.slice lp R.length lc] :: slE lp R.length lc 2 (secV R) :: R.map SR.sl
def SR.good (R : List SR) : Prop := ∀ x, x ∈ R → x.bytes.length ≤ 256 ∧ x.bytes.length ≤ x.c ∧ isBy x.bytes
section
variable {h0 h : H} {A : List Ent} {i j d r m : Nat}
theorem hasN_sp {Q : Bool → H → Prop} (key : Int) {R : List SR} (hs : Sat h0 A h) (cr : At A i (blk r [.map (some m)])) (cm : At A j (mapE m (R.map SR.ent))) (q : Q (SR.at_ R key).isSome h) : F_keys_Ring_Has ⟨r, 0, none⟩ key Q h := by
  cases e : SR.at_ R key with
  | none => exact has_sp key hs cr cm (b := false) (op := none) (ol := 0) (oc := 0) (by rw [mlook_at, e]) (by rw [e] at q; exact q)
  | some x => exact has_sp key hs cr cm (b := true) (op := x.p) (ol := x.bytes.length) (oc := x.c) (by rw [mlook_at, e]) (by rw [e] at q; exact q)
theorem keysN_sp {Q : Option Addr → Int → Int → H → Prop} {X : List SR} {L : List Sec} {p : Option Addr} {l c : Nat} (hs : Sat h0 A h) (eL : X.map SR.kv = L) (rd : ∀ h', Sat h0 A h' → SecsAt h' p l X) (hl : l < 2 ^ 47)
    (kE : ∀ e i h', newM L = some (e, i) → Sat h0 A h' → Q none e i h')
    (kT : newM L = none → ∀ r m R h', R.map SR.kv = L → SR.good R → Sat h0 (ringP r m R ++ A) h' → Q (some ⟨r, 0, none⟩) 0 0 h') : F_keys_New p l c Q h := by
  unfold F_keys_New G_keys_New
  simp only [add_mk, Nat.zero_add]
  have hL : l = L.length := by rw [← eL, List.length_map]; exact (rd _ hs).1
  rw [ltI_eq]
  by_cases g : 64 < l
  · rw [if_pos (by rw [decide_eq_true_iff]; omega)]
    exact kE _ _ _ (by unfold newM; rw [if_pos (by omega)]) hs
  rw [if_neg (by rw [decide_eq_true_iff]; omega)]
  have hn : newM L = goM L L.length := by unfold newM; rw [if_neg (by omega)]
  rw [hn] at kT
  replace kE : ∀ e i h', goM L L.length = some (e, i) → Sat h0 A h' → Q none e i h' := fun e i h' x => kE e i h' (hn.trans x)
  intro m _ hn; replace hs := hs.mapNew hn; clear hn
  intro r _ hn; replace hs := Sat.new hs hn; clear hn
  intro J13 hJ13
  refine loopN L.length (fun t (_ : List SR) => [si t]) (fun t R h => goM L L.length = goM L (L.length - t) ∧ R.map SR.kv = L.take t ∧ SR.good R ∧ Sat h0 (ringP r m R ++ A) h) ?_ ?_ 0 [] _ (by omega) ⟨rfl, rfl, (show SR.good [] from fun x hx => by cases hx), hs⟩
  · rintro t R h1 ht ⟨hg, hR, hgd, hs⟩ hk
    apply hJ13
    rw [ltI_eq, if_pos (by rw [decide_eq_true_iff]; omega)]
    have rd' : ∀ {B : List Ent} {h' : H}, Sat h0 (B ++ (ringP r m R ++ A)) h' → Sat h0 A h' := fun {B h'} hs' => by
      refine hs'.sub ?_
      exact (List.sublist_append_right _ _).trans (List.sublist_append_right _ _)
    have htX : t < X.length := by rw [← eL, List.length_map] at ht; exact ht
    obtain ⟨q, hq, g0, g1, _, hby, hbl⟩ := (rd _ (rd' (B := []) hs)).2 t htX
    have rdb : ∀ {B : List Ent} {h' : H}, Sat h0 (B ++ (ringP r m R ++ A)) h' → hsv h' X[t].p 1 X[t].bytes.length (ints .u8 X[t].bytes) := fun {B h'} hs' => by
      obtain ⟨_, _, _, _, y, _⟩ := (rd _ (rd' (B := B) hs')).2 t htX
      exact y
    rw [goM_at L ht] at hg
    have hkv : L[t] = (X[t].key, X[t].bytes) := by subst eL; simp
    obtain ⟨key, hkey⟩ : ∃ key, key = X[t].key := ⟨_, rfl⟩
    obtain ⟨bs, hbs⟩ : ∃ bs, bs = X[t].bytes := ⟨_, rfl⟩
    obtain ⟨bp, hbp⟩ : ∃ bp, bp = X[t].p := ⟨_, rfl⟩
    obtain ⟨bc, hbc⟩ : ∃ bc, bc = X[t].c := ⟨_, rfl⟩
    rw [← hkey, ← hbs] at hkv
    rw [← hkey] at g0
    rw [← hbp, ← hbs, ← hbc] at g1
    rw [← hbs] at hby hbl
    have rdb' : ∀ {B : List Ent} {h' : H}, Sat h0 (B ++ (ringP r m R ++ A)) h' → hsv h' bp 1 bs.length (ints .u8 bs) := fun {B h'} hs' => by
      rw [hbp, hbs]; exact rdb (B := B) hs'
    obtain ⟨bl, hbsl⟩ : ∃ bl, bs.length = bl := ⟨_, rfl⟩
    rw [hbsl] at g1 hbl
    rw [hkv] at hg
    refine ⟨q, hq, by omega, by omega, ?_⟩
    simp only [Int.toNat_natCast]
    refine ⟨_, g0, _, _, _, g1, ?_⟩
    intro b _ hn; replace hs := Sat.new hs hn; clear hn
    refine ⟨Sat.can hs (i := 0) .z (by simp), ?_⟩
    intro h2 e
    replace hs := Sat.wra hs (i := 0) .z e rfl
    clear e
    simp only [put_zero] at hs
    have bad : ∀ e, e ≠ 0 → badM (L.take t) (key, bs) = e → ∀ h', Sat h0 A h' → Q none e t h' := by
      intro e he hb h' hs'
      rw [hb, if_neg he] at hg
      exact kE e t h' hg hs'
    intro J26 hJ26
    have no : badM (L.take t) (key, bs) = 2 → J26 [.dv (.one (.bool true))] h2 := by
      intro hb
      apply hJ26
      rw [if_pos rfl]
      exact bad 2 (by decide) hb _ (rd' (B := [_]) hs)
    have way : 0 ≤ key → key < 64 → J26 [.dv (.one (.bool false))] h2 := by
      intro k0 k1
      apply hJ26
      clear hJ26 no
      rw [if_neg (by decide)]
      have bm : badM (L.take t) (key, bs) = if bs.length < 1 then 4 else if 256 < bs.length then 4 else if ((L.take t).find? (fun x => x.1 == key)).isSome = true then 18 else 0 := by
        unfold badM
        dsimp only
        rw [if_neg (by omega), if_neg (by omega)]
      rw [bm] at hg bad
      refine ⟨_, _, _, hs.ld (i := 0) .z rfl, ?_⟩
      rw [ltI_eq]
      by_cases b1 : bl < 1
      · rw [if_pos (by rw [decide_eq_true_iff]; omega)]
        exact bad 4 (by decide) (by rw [if_pos (by omega)]) _ (rd' (B := [_]) hs)
      rw [if_neg (by rw [decide_eq_true_iff]; omega)]
      rw [if_neg (show ¬ bs.length < 1 by omega)] at hg bad
      refine ⟨_, _, _, hs.ld (i := 0) .z rfl, ?_⟩
      rw [ltI_eq]
      by_cases b2 : 256 < bl
      · rw [if_pos (by rw [decide_eq_true_iff]; omega)]
        exact bad 4 (by decide) (by rw [if_pos (by omega)]) _ (rd' (B := [_]) hs)
      rw [if_neg (by rw [decide_eq_true_iff]; omega)]
      rw [if_neg (show ¬ 256 < bs.length by omega)] at hg bad
      refine ⟨_, hs.ld (i := 0) .z rfl, ?_⟩
      refine hasN_sp key hs (i := 1) (j := 2) (.s .z) (.s (.s .z)) ?_
      have ekv : (SR.at_ R key).isSome = ((L.take t).find? (fun x => x.1 == key)).isSome := by rw [← hR, ← at_kv]; simp
      rw [ekv]
      by_cases b3 : ((L.take t).find? (fun x => x.1 == key)).isSome = true
      · rw [if_pos b3]
        exact bad 18 (by decide) (by rw [if_pos b3]) _ (rd' (B := [_]) hs)
      rw [if_neg b3]
      rw [if_neg b3, if_pos rfl] at hg
      clear bad
      have hnone : SR.at_ R key = none := by
        rw [← ekv] at b3
        cases e : SR.at_ R key with
        | none => rfl
        | some x => rw [e] at b3; exact absurd rfl b3
      refine ⟨_, hs.ld (i := 1) (.s .z) rfl, _, hs.ld (i := 0) .z rfl, _, _, _, hs.ld (i := 0) .z rfl, ?_⟩
      refine clone1_sp (vs := ints .u8 bs) hs (by omega) (fun h' hs' => ?_) ?_
      · rw [← hbsl]; exact rdb' (B := [_]) hs'
      intro p' c' h3 _ hs
      refine ⟨hcs_one (hs.ld (i := 1) (.s .z) rfl), hcs_one (hs.ld (i := 2) (.s (.s .z)) rfl), _, _, _, rfl, hs.mapAt (i := 3) (.s (.s (.s .z))), mins_at R key _ hnone, ?_⟩
      intro h4 e
      replace hs := hs.mapSet (i := 3) (.s (.s (.s .z))) e
      clear e
      simp only [put_succ, put_zero] at hs
      rw [wrap_succ (by omega)]
      have hc' := capS hs (i := 0) .z
      refine hk (R ++ [⟨key, bs, p', c'⟩]) h4 ⟨hg, ?_, ?_, ?_⟩
      · rw [List.map_append, hR, takeSec ht, hkv]; rfl
      · intro x hx
        rcases List.mem_append.1 hx with hx | hx
        · exact hgd x hx
        · simp only [List.mem_cons, List.not_mem_nil, or_false] at hx
          subst hx
          exact ⟨by dsimp only; omega, by dsimp only; omega, hby⟩
      · rw [← hbsl] at hs
        have e1 : (R ++ [(⟨key, bs, p', c'⟩ : SR)]).map SR.ent = R.map SR.ent ++ [(.int .i64 key, .one (.slice p' bs.length c'))] := by rw [List.map_append]; rfl
        have e2 : (R ++ [(⟨key, bs, p', c'⟩ : SR)]).map SR.sl = R.map SR.sl ++ [slE p' bs.length c' 1 (ints .u8 bs)] := by rw [List.map_append]; rfl
        unfold ringP
        rw [e1, e2]
        refine Sat.perm (hs.sub (B := slE p' bs.length c' 1 (ints .u8 bs) :: blk r [.map (some m)] :: mapE m (R.map SR.ent ++ [(.int .i64 key, .one (.slice p' bs.length c'))]) :: (R.map SR.sl ++ A)) (by (repeat (first | exact List.Sublist.refl _ | apply List.Sublist.cons_cons | apply List.Sublist.cons)))) ?_
        simp only [List.cons_append, List.append_assoc, List.nil_append]
        refine (List.Perm.swap _ _ _).trans (List.Perm.cons _ ?_)
        refine (List.Perm.swap _ _ _).trans (List.Perm.cons _ ?_)
        exact List.perm_middle.symm
    refine ⟨_, hs.ld (i := 0) .z rfl, ?_⟩
    rw [ltI_eq]
    by_cases k0 : key < 0
    · rw [if_pos (by rw [decide_eq_true_iff]; omega)]
      exact no (by unfold badM; dsimp only; rw [if_pos k0])
    rw [if_neg (by rw [decide_eq_true_iff]; omega)]
    refine ⟨_, hs.ld (i := 0) .z rfl, ?_⟩
    rw [leI_eq]
    by_cases k1 : 63 < key
    · rw [decide_eq_true (by omega)]
      exact no (by unfold badM; dsimp only; rw [if_neg k0, if_pos k1])
    · rw [decide_eq_false (by omega)]
      exact way (by omega) (by omega)
  · rintro R h1 ⟨hg, hR, hgd, hs⟩
    apply hJ13
    rw [ltI_eq, if_neg (by rw [decide_eq_true_iff]; omega)]
    rw [List.take_of_length_le (Nat.le_refl _)] at hR
    rw [Nat.sub_self] at hg
    exact kT hg r m R h1 hR hgd hs
theorem find_sp {Q : Int → H → Prop} (key : Int) {lp : Option Addr} {lc : Nat} {R : List SR} (hs : Sat h0 A h) (cr : At A i (blk r [.slice lp R.length lc])) (cl : At A j (slE lp R.length lc 2 (secV R))) (hR : R.length < 2 ^ 40)
    (k : ∀ n : Int, (SR.at_ R key = none ∧ n = -1) ∨ (∃ t, ∃ ht : t < R.length, n = (t : Int) ∧ SR.at_ R key = some R[t]) → Q n h) : F_portcullisref12_Ring_find ⟨r, 0, none⟩ key Q h := by
  unfold F_portcullisref12_Ring_find G_portcullisref12_Ring_find
  intro J hJ
  refine loop_up R.length (fun t h' => SR.at_ R key = SR.at_ (R.drop t) key ∧ h' = h) ?_ ?_ 0 _ (by omega) ⟨rfl, rfl⟩
  · rintro t h1 ht ⟨hf, rfl⟩ hk
    apply hJ
    refine ⟨_, _, _, hs.ld cr rfl, ?_⟩
    rw [ltI_eq, if_pos (by rw [decide_eq_true_iff]; omega)]
    obtain ⟨q, hq, g⟩ := hsv_get (hs.sv cl) (secV_get R t ht).1
    refine ⟨_, _, _, hs.ld cr rfl, q, hq, by omega, by omega, ?_⟩
    simp only [Int.toNat_natCast]
    refine ⟨_, g, ?_⟩
    rw [List.drop_eq_getElem_cons ht] at hf
    unfold SR.at_ at hf
    rw [List.find?_cons] at hf
    by_cases c : R[t].key = key
    · have c2 : (R[t].key == key) = true := by simpa using c
      rw [c2] at hf
      rw [if_pos c2]
      exact k _ (Or.inr ⟨t, ht, rfl, hf⟩)
    · have c2 : (R[t].key == key) = false := by simpa using c
      rw [c2] at hf
      rw [if_neg (by rw [c2]; decide), wrap_succ (by omega)]
      exact hk _ ⟨hf, rfl⟩
  · rintro h1 ⟨hf, rfl⟩
    apply hJ
    refine ⟨_, _, _, hs.ld cr rfl, ?_⟩
    rw [ltI_eq, if_neg (by simp)]
    rw [List.drop_of_length_le (Nat.le_refl _)] at hf
    exact k _ (Or.inl ⟨hf, rfl⟩)
theorem rhas_sp {Q : Bool → H → Prop} (key : Int) {lp : Option Addr} {lc : Nat} {R : List SR} (hs : Sat h0 A h) (cr : At A i (blk r [.slice lp R.length lc])) (cl : At A j (slE lp R.length lc 2 (secV R))) (hR : R.length < 2 ^ 40) (q : Q (SR.at_ R key).isSome h) : F_portcullisref12_Ring_Has ⟨r, 0, none⟩ key Q h := by
  unfold F_portcullisref12_Ring_Has G_portcullisref12_Ring_Has
  refine find_sp key hs cr cl hR ?_
  intro n hn
  rw [leI_eq]
  rcases hn with ⟨e, rfl⟩ | ⟨t, ht, rfl, e⟩
  · rw [e] at q; exact q
  · rw [e] at q
    rw [decide_eq_true (by omega)]
    exact q
theorem ringsN_sp {Q : Option Addr → Int → Int → H → Prop} {X : List SR} {L : List Sec} {p : Option Addr} {l c : Nat} (hs : Sat h0 A h) (eL : X.map SR.kv = L) (rd : ∀ h', Sat h0 A h' → SecsAt h' p l X) (hl : l < 2 ^ 47)
    (kE : ∀ e i h', newM L = some (e, i) → Sat h0 A h' → Q none e i h')
    (kT : newM L = none → ∀ r lp lc R h', R.map SR.kv = L → SR.good R → Sat h0 (ringD r lp lc R ++ A) h' → Q (some ⟨r, 0, none⟩) 0 0 h') : F_portcullisref12_New p l c Q h := by
  unfold F_portcullisref12_New G_portcullisref12_New
  have hL : l = L.length := by rw [← eL, List.length_map]; exact (rd _ hs).1
  rw [ltI_eq]
  by_cases g : 64 < l
  · rw [if_pos (by rw [decide_eq_true_iff]; omega)]
    exact kE _ _ _ (by unfold newM; rw [if_pos (by omega)]) hs
  rw [if_neg (by rw [decide_eq_true_iff]; omega)]
  have hn : newM L = goM L L.length := by unfold newM; rw [if_neg (by omega)]
  rw [hn] at kT
  replace kE : ∀ e i h', goM L L.length = some (e, i) → Sat h0 A h' → Q none e i h' := fun e i h' x => kE e i h' (hn.trans x)
  intro r _ hn; replace hs := Sat.new hs hn; clear hn
  intro J9 hJ9
  refine loopN L.length (fun t (_ : List SR × Option Addr × Nat) => [si t]) (fun t s h => goM L L.length = goM L (L.length - t) ∧ s.1.map SR.kv = L.take t ∧ SR.good s.1 ∧ Sat h0 (ringD r s.2.1 s.2.2 s.1 ++ A) h) ?_ ?_ 0 ([], none, 0) _ (by omega) ⟨rfl, rfl, (show SR.good [] from fun x hx => by cases hx), ?_⟩
  · rintro t ⟨R, lp, lc⟩ h1 ht ⟨hg, hR, hgd, hs⟩ hk
    dsimp only at hg hR hgd hs hk ⊢
    apply hJ9
    rw [ltI_eq, if_pos (by rw [decide_eq_true_iff]; omega)]
    have hRl : R.length = t := by
      have := congrArg List.length hR
      rw [List.length_map, List.length_take] at this; omega
    have rd' : ∀ {B : List Ent} {h' : H}, Sat h0 (B ++ (ringD r lp lc R ++ A)) h' → Sat h0 A h' := fun {B h'} hs' => by
      refine hs'.sub ?_
      exact (List.sublist_append_right _ _).trans (List.sublist_append_right _ _)
    have htX : t < X.length := by rw [← eL, List.length_map] at ht; exact ht
    obtain ⟨q, hq, g0, g1, _, hby, hbl⟩ := (rd _ (rd' (B := []) hs)).2 t htX
    rw [goM_at L ht] at hg
    have hkv : L[t] = (X[t].key, X[t].bytes) := by subst eL; simp
    obtain ⟨Y, hY⟩ : ∃ Y, Y = X[t] := ⟨_, rfl⟩
    have rdY : ∀ {B : List Ent} {h' : H}, Sat h0 (B ++ (ringD r lp lc R ++ A)) h' → hc h' (q.add (t * 2)) = some (.int .i64 Y.key) ∧ hc h' ((q.add (t * 2)).add 1) = some (.slice Y.p Y.bytes.length Y.c) ∧ hsv h' Y.p 1 Y.bytes.length (ints .u8 Y.bytes) := fun {B h'} hs' => by
      obtain ⟨q', hq', y0, y1, y2, _, _⟩ := (rd _ (rd' (B := B) hs')).2 t htX
      rw [hq] at hq'
      injection hq' with hq'
      subst hq'
      rw [hY]
      exact ⟨y0, y1, y2⟩
    rw [← hY] at hkv hby hbl
    clear g0 g1
    obtain ⟨g0, g1, _⟩ := rdY (B := []) hs
    rw [hkv] at hg
    have bad : ∀ e, e ≠ 0 → badM (L.take t) (Y.key, Y.bytes) = e → Q none e t h1 := by
      intro e he hb
      rw [hb, if_neg he] at hg
      exact kE e t h1 hg (rd' (B := []) hs)
    simp only [Int.toNat_natCast]
    intro J12 hJ12
    have way : 0 ≤ Y.key → Y.key < 64 → J12 [] h1 := by
      intro k0 k1
      apply hJ12
      clear hJ12
      have bm : badM (L.take t) (Y.key, Y.bytes) = if Y.bytes.length < 1 then 4 else if 256 < Y.bytes.length then 4 else if ((L.take t).find? (fun x => x.1 == Y.key)).isSome = true then 18 else 0 := by
        unfold badM
        dsimp only
        rw [if_neg (by omega), if_neg (by omega)]
      rw [bm] at hg bad
      intro J14 hJ14
      refine ⟨q, hq, by omega, by omega, _, _, _, g1, ?_⟩
      rw [ltI_eq]
      by_cases b1 : Y.bytes.length < 1
      · rw [if_pos (by rw [decide_eq_true_iff]; omega)]
        exact bad 4 (by decide) (by rw [if_pos (by omega)])
      rw [if_neg (by rw [decide_eq_true_iff]; omega)]
      rw [if_neg (show ¬ Y.bytes.length < 1 by omega)] at hg bad
      refine ⟨q, hq, by omega, by omega, _, _, _, g1, ?_⟩
      rw [ltI_eq]
      by_cases b2 : 256 < Y.bytes.length
      · rw [if_pos (by rw [decide_eq_true_iff]; omega)]
        exact bad 4 (by decide) (by rw [if_pos (by omega)])
      rw [if_neg (by rw [decide_eq_true_iff]; omega)]
      rw [if_neg (show ¬ 256 < Y.bytes.length by omega)] at hg bad
      apply hJ14
      clear hJ14
      refine ⟨q, hq, by omega, by omega, _, g0, ?_⟩
      refine rhas_sp Y.key hs (i := 0) (j := 1) .z (.s .z) (by omega) ?_
      have ekv : (SR.at_ R Y.key).isSome = ((L.take t).find? (fun x => x.1 == Y.key)).isSome := by rw [← hR, ← at_kv]; simp
      rw [ekv]
      by_cases b3 : ((L.take t).find? (fun x => x.1 == Y.key)).isSome = true
      · rw [if_pos b3]
        exact bad 18 (by decide) (by rw [if_pos b3])
      rw [if_neg b3]
      rw [if_neg b3, if_pos rfl] at hg
      clear bad
      intro eb _ hn; replace hs := Sat.new hs hn; clear hn
      obtain ⟨g0, g1, gb⟩ := rdY (B := [_]) hs
      refine ⟨_, _, _, hs.ld (i := 1) (.s .z) rfl, q, hq, by omega, by omega, _, g0, q, hq, by omega, by omega, _, _, _, g1, _, gb, ?_⟩
      refine Sat.app_new hs (by simp) rfl (ints_one _ _) (by omega) ?_
      intro p' c' h3 hs
      have hc' := capS hs (i := 0) .z
      obtain ⟨g0, g1, gb⟩ := rdY (B := [_, _]) hs
      refine ⟨hcs_one g0, hcs_one (hs.ld (i := 2) (.s (.s .z)) rfl), ?_⟩
      intro nb _ hn; replace hs := Sat.new hs hn; clear hn
      have one2 : ∀ v, v ∈ [Value.int .i64 Y.key, .slice p' Y.bytes.length c'] → v.oneCell' = true := by
        intro v hv
        simp only [List.mem_cons, List.not_mem_nil, or_false] at hv
        rcases hv with rfl | rfl <;> rfl
      refine ⟨hcs_one (hs.ld (i := 3) (.s (.s (.s .z))) rfl), _, hs.bv (i := 0) (l := 1) (sz := 2) .z rfl one2, ?_⟩
      refine Sat.app hs (i := 4) (vs := [Value.int .i64 Y.key, .slice p' Y.bytes.length c']) (.s (.s (.s (.s .z)))) rfl rfl one2 (by omega) ?_
      intro lp2 lc2 h4 hs
      simp only [put_succ, put_zero] at hs
      refine ⟨Sat.can hs (i := 3) (.s (.s (.s .z))) (by simp), ?_⟩
      intro h5 e
      replace hs := Sat.wra (xs := [.slice lp2 (R.length + 1) lc2]) hs (i := 3) (.s (.s (.s .z))) e rfl
      clear e
      simp only [put_succ, put_zero] at hs
      rw [wrap_succ (by omega)]
      refine hk (R ++ [⟨Y.key, Y.bytes, p', c'⟩], lp2, lc2) h5 ⟨hg, ?_, ?_, ?_⟩
      · dsimp only
        rw [List.map_append, hR, takeSec ht, hkv]; rfl
      · intro x hx
        rcases List.mem_append.1 hx with hx | hx
        · exact hgd x hx
        · simp only [List.mem_cons, List.not_mem_nil, or_false] at hx
          subst hx
          exact ⟨by dsimp only; omega, by dsimp only; omega, hby⟩
      · dsimp only
        have e1 : secV (R ++ [(⟨Y.key, Y.bytes, p', c'⟩ : SR)]) = secV R ++ [.int .i64 Y.key, .slice p' Y.bytes.length c'] := by rw [secV_app]; rfl
        have e2 : (R ++ [(⟨Y.key, Y.bytes, p', c'⟩ : SR)]).map SR.sl = R.map SR.sl ++ [slE p' Y.bytes.length c' 1 (ints .u8 Y.bytes)] := by rw [List.map_append]; rfl
        have e3 : (R ++ [(⟨Y.key, Y.bytes, p', c'⟩ : SR)]).length = R.length + 1 := by simp
        unfold ringD
        rw [e1, e2, e3]
        refine Sat.perm (hs.sub (B := slE p' Y.bytes.length c' 1 (ints .u8 Y.bytes) :: blk r [.slice lp2 (R.length + 1) lc2] :: slE lp2 (R.length + 1) lc2 2 (secV R ++ [.int .i64 Y.key, .slice p' Y.bytes.length c']) :: (R.map SR.sl ++ A)) (by (repeat (first | exact List.Sublist.refl _ | apply List.Sublist.cons_cons | apply List.Sublist.cons)))) ?_
        simp only [List.cons_append, List.append_assoc, List.nil_append]
        refine (List.Perm.swap _ _ _).trans (List.Perm.cons _ ?_)
        refine (List.Perm.swap _ _ _).trans (List.Perm.cons _ ?_)
        exact List.perm_middle.symm
    refine ⟨q, hq, by omega, by omega, _, g0, ?_⟩
    rw [ltI_eq]
    by_cases k0 : Y.key < 0
    · rw [if_pos (by rw [decide_eq_true_iff]; omega)]
      exact bad 2 (by decide) (by unfold badM; dsimp only; rw [if_pos k0])
    rw [if_neg (by rw [decide_eq_true_iff]; omega)]
    refine ⟨q, hq, by omega, by omega, _, g0, ?_⟩
    rw [ltI_eq]
    by_cases k1 : 63 < Y.key
    · rw [if_pos (by rw [decide_eq_true_iff]; omega)]
      exact bad 2 (by decide) (by unfold badM; dsimp only; rw [if_neg k0, if_pos k1])
    · rw [if_neg (by rw [decide_eq_true_iff]; omega)]
      exact way (by omega) (by omega)
  · rintro ⟨R, lp, lc⟩ h1 ⟨hg, hR, hgd, hs⟩
    dsimp only at hg hR hgd hs ⊢
    apply hJ9
    rw [ltI_eq, if_neg (by rw [decide_eq_true_iff]; omega)]
    rw [List.take_of_length_le (Nat.le_refl _)] at hR
    rw [Nat.sub_self] at hg
    exact kT hg r lp lc R h1 hR hgd hs
  · dsimp only
    have := hs.sl_nil 2 none
    exact this.perm (List.Perm.swap _ _ _)
end
end Go.Proofs.YtijcpgahmbkijaaGreatDoor
end

/- What arguments of the statements are: secrets. Own work. -/
section
set_option maxRecDepth 100000
set_option linter.unusedVariables false
namespace Go.Proofs.YtijcpgahmbkijaaGreatDoor
open Go Go.Vc Go.ChangeShapes Go.WideShapes Go.ChangeAt Go.RowKit
theorem xSec : xsh PP 8 57 = some [.int .i64, .slc 5] := by kernel_rfl
section
variable {D : Type} {enc : TypeId × Value → D} {W : World}
theorem secs_of {p : Option Addr} {l c : Nat} (h : Sli enc PP W 57 p l c) : ∃ X : List SR, SecsAt W.heap p l X ∧ l < 2 ^ 47 := by
  have hb : Tryz.prog.bytesOf 57 = 32 := by kernel_rfl
  have hc : Tryz.prog.cellsOf 57 = 2 := by kernel_rfl
  obtain ⟨ess, h1, h2, _, h4⟩ := h.els xSec
  have hlc := h.1
  have hr := h.2.1
  rw [hb] at hr
  unfold reachBytes at hr
  have key : ∀ ess : List (List Value), (∀ es, es ∈ ess → es.length = Tryz.prog.cellsOf 57 ∧ XM enc PP W [.int .i64, .slc 5] es) → ∃ X : List SR, X.length = ess.length ∧ ∀ i (hi : i < X.length) (hi2 : i < ess.length), ess[i] = [.int .i64 X[i].key, .slice X[i].p X[i].bytes.length X[i].c] ∧ hsv W.heap X[i].p 1 X[i].bytes.length (ints .u8 X[i].bytes) ∧ isBytes X[i].bytes ∧ X[i].bytes.length < 2 ^ 47 := by
    intro ess
    induction ess with
    | nil => intro _; exact ⟨[], rfl, fun i hi => by simp at hi⟩
    | cons x r ih =>
      intro h
      obtain ⟨X, e1, e2⟩ := ih fun es hes => h es (by simp [hes])
      obtain ⟨k, _, rfl, _, xp, xl, xc, _, rfl, hh, hr⟩ := (h x (by simp)).2
      simp only [XM] at hr
      subst hr
      obtain ⟨bs, b1, b2, b3, b4⟩ := bytes24_of hh
      have hbl : bs.length = xl := by have := b1.1; simpa using this
      refine ⟨⟨k, bs, xp, xc⟩ :: X, by simp [e1], ?_⟩
      intro i hi hi2
      cases i with
      | zero => subst hbl; exact ⟨rfl, b1, b2, by dsimp only [List.getElem_cons_zero]; omega⟩
      | succ i => exact e2 i (by simpa using hi) (by simpa using hi2)
  obtain ⟨X, e1, e2⟩ := key ess h2
  refine ⟨X, ⟨by omega, fun i hi => ?_⟩, by omega⟩
  obtain ⟨e3, e4, e5, e6⟩ := e2 i hi (by omega)
  obtain ⟨q, hq, g⟩ := h4 i (by omega)
  rw [e3, hc] at g
  have g0 := g 0 _ rfl
  rw [add_zero] at g0
  exact ⟨q, hq, g0, g 1 _ rfl, e4, e5, e6⟩
end
end Go.Proofs.YtijcpgahmbkijaaGreatDoor
end

/- Issue, of the program and the document. Own work. -/
section
set_option maxRecDepth 100000
set_option linter.unusedVariables false
namespace Go.Proofs.YtijcpgahmbkijaaGreatDoor
open Go Go.Vc

structure TkE where
  e : Int
  key : Int
  id : List Int
  tag : List Int
def issM (S : List Sec) (key : Int) (id : List Int) : TkE :=
  match S.find? (fun x => x.1 == key) with
  | none => ⟨13, 0, [], zeros 32⟩
  | some s => if id.length < 1 then ⟨4, 0, [], zeros 32⟩ else if 64 < id.length then ⟨4, 0, [], zeros 32⟩ else ⟨0, key, id, macM s.2 (msgM id)⟩
theorem issM_tag (S : List Sec) (key : Int) (id : List Int) : (issM S key id).tag.length = 32 := by
  unfold issM
  generalize S.find? (fun x => x.1 == key) = o
  cases o with
  | none => exact zeros_len 32
  | some s =>
    dsimp only
    by_cases a : id.length < 1
    · simp only [if_pos a]; exact List.length_replicate
    simp only [if_neg a]
    by_cases b : 64 < id.length
    · simp only [if_pos b]; exact List.length_replicate
    simp only [if_neg b]; exact macM_len _ _
section
variable {h0 h : H} {A : List Ent} {i j d r m : Nat}
theorem issueN_sp {Q : Int → Option Addr → Nat → Nat → Option Addr → Nat → Nat → List Int → Int → H → Prop} (key : Int) {R : List SR} {ip : Option Addr} {il ic : Nat} {id : List Int} (hs : Sat h0 A h) (cr : At A i (blk r [.map (some m)])) (cm : At A j (mapE m (R.map SR.ent))) (gd : SR.good R)
    (rR : ∀ x, x ∈ R → ∀ h', Sat h0 A h' → hsv h' x.p 1 x.bytes.length (ints .u8 x.bytes)) (ri : ∀ h', Sat h0 A h' → hsv h' ip 1 il (ints .u8 id))
    (k : ∀ O, O = issM (R.map SR.kv) key id → ∀ p' c' h', Sat h0 (slE p' O.id.length c' 1 (ints .u8 O.id) :: A) h' → Q O.key p' O.id.length c' none 0 0 O.tag O.e h') : F_token_Issue ⟨r, 0, none⟩ key ip il ic Q h := by
  have hil : id.length = il := by have := (ri _ hs).1; simpa using this
  have ekv := at_kv R key
  cases e : SR.at_ R key with
  | some x =>
    by_cases g : 1 ≤ il ∧ il ≤ 64
    · have hx : x ∈ R := List.mem_of_find?_eq_some e
      have hg := gd x hx
      refine issue_sp (key := key) (secret := x.bytes) (id := id) hs cr cm (by rw [mlook_at, e]) hg.2.1 (by omega) g (rR x hx) ri ?_
      intro p' c' h' hc hs
      have eO : issM (R.map SR.kv) key id = ⟨0, key, id, macM x.bytes (msgM id)⟩ := by
        unfold issM
        rw [← ekv, e]
        dsimp only [Option.map_some]
        rw [if_neg (by omega), if_neg (by omega)]
      have K := k _ eO.symm p' c' h'
      dsimp only at K
      rw [hil] at K
      exact K hs
    · unfold F_token_Issue G_token_Issue
      simp only [add_mk, Nat.zero_add, List.append_nil]
      intro tb _ hn; replace hs := Sat.new hs hn; clear hn
      intro J hJ
      refine hasN_sp key hs cr.s cm.s ?_
      rw [e]
      rw [if_neg (by simp)]
      have eO : issM (R.map SR.kv) key id = ⟨4, 0, [], zeros 32⟩ := by
        unfold issM
        rw [← ekv, e]
        dsimp only [Option.map_some]
        by_cases b : id.length < 1
        · rw [if_pos b]
        · rw [if_neg b, if_pos (by omega)]
      have K := k _ eO.symm none 0
      clear k hJ
      rw [ltI_eq]
      by_cases b : il < 1
      · rw [if_pos (by rw [decide_eq_true_iff]; omega)]
        refine ⟨Sat.can hs (i := 0) .z (by simp [zeros]), ?_⟩
        intro h3 e3
        replace hs := Sat.wra (xs := tok0) hs (i := 0) .z e3 rfl
        clear e3
        rw [put_zero] at hs
        exact ⟨_, hs.ld (i := 0) .z rfl, _, _, _, hs.ld (i := 0) .z rfl, _, _, _, hs.ld (i := 0) .z rfl, _, zeros_len 32, tok_row hs (i := 0) .z, K _ (hs.drop.sl_nil 1 none)⟩
      · rw [if_neg (by rw [decide_eq_true_iff]; omega), ltI_eq, if_pos (by rw [decide_eq_true_iff]; omega)]
        refine ⟨Sat.can hs (i := 0) .z (by simp [zeros]), ?_⟩
        intro h3 e3
        replace hs := Sat.wra (xs := tok0) hs (i := 0) .z e3 rfl
        clear e3
        rw [put_zero] at hs
        exact ⟨_, hs.ld (i := 0) .z rfl, _, _, _, hs.ld (i := 0) .z rfl, _, _, _, hs.ld (i := 0) .z rfl, _, zeros_len 32, tok_row hs (i := 0) .z, K _ (hs.drop.sl_nil 1 none)⟩
  | none =>
    unfold F_token_Issue G_token_Issue
    simp only [add_mk, Nat.zero_add, List.append_nil]
    intro tb _ hn; replace hs := Sat.new hs hn; clear hn
    intro J hJ
    refine hasN_sp key hs cr.s cm.s ?_
    rw [e]
    rw [if_pos (by decide)]
    have eO : issM (R.map SR.kv) key id = ⟨13, 0, [], zeros 32⟩ := by
      unfold issM
      rw [← ekv, e]
      rfl
    have K := k _ eO.symm none 0
    refine ⟨Sat.can hs (i := 0) .z (by simp [zeros]), ?_⟩
    intro h3 e3
    replace hs := Sat.wra (xs := tok0) hs (i := 0) .z e3 rfl
    clear e3
    rw [put_zero] at hs
    exact ⟨_, hs.ld (i := 0) .z rfl, _, _, _, hs.ld (i := 0) .z rfl, _, _, _, hs.ld (i := 0) .z rfl, _, zeros_len 32, tok_row hs (i := 0) .z, K _ (hs.drop.sl_nil 1 none)⟩
theorem rissue_sp {Q : Int → Option Addr → Nat → Nat → Option Addr → Nat → Nat → List Int → Int → H → Prop} (key : Int) {R : List SR} {lp ip : Option Addr} {lc il ic : Nat} {id : List Int} (hs : Sat h0 A h) (cr : At A i (blk r [.slice lp R.length lc])) (cl : At A j (slE lp R.length lc 2 (secV R))) (gd : SR.good R) (hR : R.length < 2 ^ 40) (hib : isBy id)
    (rR : ∀ x, x ∈ R → ∀ h', Sat h0 A h' → hsv h' x.p 1 x.bytes.length (ints .u8 x.bytes)) (ri : ∀ h', Sat h0 A h' → hsv h' ip 1 il (ints .u8 id))
    (k : ∀ O, O = issM (R.map SR.kv) key id → ∀ p' c' h', Sat h0 (slE p' O.id.length c' 1 (ints .u8 O.id) :: A) h' → Q O.key p' O.id.length c' none 0 0 O.tag O.e h') : F_portcullisref24_Issue ⟨r, 0, none⟩ key ip il ic Q h := by
  have hil : id.length = il := by have := (ri _ hs).1; simpa using this
  have ekv := at_kv R key
  unfold F_portcullisref24_Issue G_portcullisref24_Issue
  simp only [add_mk, Nat.zero_add, List.append_nil]
  intro tb _ hn; replace hs := Sat.new hs hn; clear hn
  have bad : ∀ e, issM (R.map SR.kv) key id = ⟨e, 0, [], zeros 32⟩ → ∀ h', Sat h0 (blk tb tok0 :: A) h' → hcan h' ⟨tb, 0, none⟩ 35 ∧ ∀ h31 : H, h31 = hwr h' ⟨tb, 0, none⟩ tok0 → ∃ i33 : Int, hc h31 ⟨tb, 0, none⟩ = some (.int .i64 i33) ∧ ∃ (o34 : Option Addr) (n35 n36 : Nat), hc h31 ⟨tb, 1, none⟩ = some (.slice o34 n35 n36) ∧ ∃ (o37 : Option Addr) (n38 n39 : Nat), hc h31 ⟨tb, 2, none⟩ = some (.slice o37 n38 n39) ∧
        ∃ l40 : List Int, l40.length = 32 ∧ hrow h31 ⟨tb, 3, none⟩ .u8 l40 ∧ Q i33 o34 n35 n36 o37 n38 n39 l40 e h31 := by
    intro e eO h' hs
    refine ⟨Sat.can hs (i := 0) .z (by simp [zeros]), ?_⟩
    intro h3 e3
    replace hs := Sat.wra (xs := tok0) hs (i := 0) .z e3 rfl
    clear e3
    rw [put_zero] at hs
    exact ⟨_, hs.ld (i := 0) .z rfl, _, _, _, hs.ld (i := 0) .z rfl, _, _, _, hs.ld (i := 0) .z rfl, _, zeros_len 32, tok_row hs (i := 0) .z, k _ eO.symm none 0 _ (hs.drop.sl_nil 1 none)⟩
  refine rhas_sp key hs cr.s cl.s hR ?_
  cases e : SR.at_ R key with
  | none =>
    rw [if_pos (by decide)]
    exact bad 13 (by unfold issM; rw [← ekv, e]; rfl) _ hs
  | some x =>
    have hx : x ∈ R := List.mem_of_find?_eq_some e
    have hg := gd x hx
    have eO : issM (R.map SR.kv) key id = if id.length < 1 then ⟨4, 0, [], zeros 32⟩ else if 64 < id.length then ⟨4, 0, [], zeros 32⟩ else ⟨0, key, id, macM x.bytes (msgM id)⟩ := by
      unfold issM
      rw [← ekv, e]
      rfl
    rw [if_neg (by simp), ltI_eq]
    by_cases b : il < 1
    · rw [if_pos (by rw [decide_eq_true_iff]; omega)]
      exact bad 4 (by rw [eO, if_pos (by omega)]) _ hs
    rw [if_neg (by rw [decide_eq_true_iff]; omega), ltI_eq]
    rw [if_neg (show ¬ id.length < 1 by omega)] at eO
    by_cases b2 : 64 < il
    · rw [if_pos (by rw [decide_eq_true_iff]; omega)]
      exact bad 4 (by rw [eO, if_pos (by omega)]) _ hs
    rw [if_neg (by rw [decide_eq_true_iff]; omega)]
    rw [if_neg (show ¬ 64 < id.length by omega)] at eO
    clear bad
    have K := k _ eO.symm
    dsimp only at K
    rw [hil] at K
    refine rfirst_sp (id := id) hs (by omega) (fun h' hs' => ri _ hs'.drop) ?_
    intro p1 c1 h1 hs
    unfold F_portcullisref12_Ring_Sign G_portcullisref12_Ring_Sign
    simp only [add_mk, Nat.zero_add, List.append_nil]
    intro ob _ hn; replace hs := Sat.new hs hn; clear hn
    refine find_sp key hs cr.s.s.s cl.s.s.s hR ?_
    intro n hn
    rcases hn with ⟨e', _⟩ | ⟨t, ht, rfl, e'⟩
    · rw [e] at e'; cases e'
    rw [e] at e'
    injection e' with e'
    rw [ltI_eq, if_neg (by rw [decide_eq_true_iff]; omega)]
    obtain ⟨q, hq, g⟩ := hsv_get (hs.sv cl.s.s.s) (secV_get R t ht).2
    rw [← e'] at g
    refine ⟨_, _, _, hs.ld cr.s.s.s rfl, q, hq, by omega, by omega, ?_⟩
    simp only [Int.toNat_natCast]
    rw [addAdd]
    refine ⟨_, _, _, g, ?_⟩
    refine rmac_sp (key := x.bytes) (b := msgM id) hs hg.2.2 (isBy_msg hib) (by omega) (by omega) (fun h' hs' => rR x hx _ hs'.drop.drop.drop) (fun h' hs' => hs'.sv (i := 1) (.s .z)) ?_
    intro h2 hs
    refine ⟨Sat.can hs (i := 0) .z (by simp [zeros]), ?_⟩
    intro h3 e3
    replace hs := Sat.wra hs (i := 0) .z e3 (by simp [zeros, macM_len])
    clear e3
    simp only [put_zero] at hs
    refine ⟨_, macM_len _ _, hs.row0 (i := 0) .z, ?_⟩
    intro gb _ hn; replace hs := Sat.new hs hn; clear hn
    refine ⟨Sat.can hs (i := 0) .z (by simp [zeros]), ?_⟩
    intro h4 e4
    replace hs := Sat.wra hs (i := 0) .z e4 (by simp [zeros, macM_len])
    clear e4
    simp only [put_zero] at hs
    intro eb _ hn; replace hs := Sat.new hs hn; clear hn
    refine ⟨_, macM_len _ _, hs.row0 (i := 1) (.s .z), _, ri _ hs.drop.drop.drop.drop.drop, ?_⟩
    refine Sat.app_new hs (by simp [hil]) rfl (ints_one _ _) (by omega) ?_
    intro p2 c2 h5 hs
    refine ⟨Sat.cs hs (i := 2) (.s (.s .z)) (by rw [List.drop_zero, List.take_of_length_le (Nat.le_refl _)]), ?_⟩
    refine ⟨Sat.can hs (i := 5) (.s (.s (.s (.s (.s .z))))) (by simp [zeros]), ?_⟩
    intro h6 e6
    replace hs := Sat.wra (xs := tokL key p2 il c2 none 0 0 (macM x.bytes (msgM id))) hs (i := 5) (.s (.s (.s (.s (.s .z))))) e6 (by simp [zeros, macM_len])
    clear e6
    simp only [put_succ, put_zero] at hs
    refine ⟨_, hs.ld (i := 5) (.s (.s (.s (.s (.s .z))))) rfl, _, _, _, hs.ld (i := 5) (.s (.s (.s (.s (.s .z))))) rfl, _, _, _, hs.ld (i := 5) (.s (.s (.s (.s (.s .z))))) rfl, _, macM_len _ _, tok_row hs (i := 5) (.s (.s (.s (.s (.s .z))))), ?_⟩
    exact K p2 c2 _ (hs.sub (by (repeat (first | exact List.Sublist.refl _ | apply List.Sublist.cons_cons | apply List.Sublist.cons))))
end
end Go.Proofs.YtijcpgahmbkijaaGreatDoor
end

/- TokenMakes: walked. Own work. -/
section
set_option maxRecDepth 100000
set_option linter.unusedVariables false
namespace Go.Proofs.YtijcpgahmbkijaaGreatDoor
open Go Go.Vc

structure NkE where
  e : Int
  key : Int
  id : List Int
  cs : List CvM
  tag : List Int
def narM (key : Int) (id : List Int) (cs : List CvM) (tag : List Int) (c : CvM) : NkE :=
  if 32 ≤ cs.length then ⟨3, 0, [], [], zeros 32⟩ else if c.may then ⟨0, key, id, cs ++ [c], macM tag (cbM c)⟩ else ⟨1, 0, [], [], zeros 32⟩
theorem narM_tag (key : Int) (id : List Int) (cs : List CvM) (tag : List Int) (c : CvM) : (narM key id cs tag c).tag.length = 32 ∧ isBy (narM key id cs tag c).tag ∧ (narM key id cs tag c).cs.length ≤ 32 ∧ (narM key id cs tag c).id.length ≤ id.length := by
  unfold narM
  by_cases a : 32 ≤ cs.length
  · simp only [if_pos a]; exact ⟨List.length_replicate, isBy_zeros 32, Nat.zero_le _, Nat.zero_le _⟩
  · simp only [if_neg a]
    by_cases b : c.may
    · simp only [if_pos b]; exact ⟨macM_len _ _, isBy_mac _ _, by rw [List.length_append]; simp; omega, Nat.le_refl _⟩
    · simp only [if_neg b]; exact ⟨List.length_replicate, isBy_zeros 32, Nat.zero_le _, Nat.zero_le _⟩
section
variable {h0 h : H} {A : List Ent} {i j d r m : Nat}
theorem nar_sp {Q : Int → Option Addr → Nat → Nat → Option Addr → Nat → Nat → List Int → Int → H → Prop} {key : Int} {id tag : List Int} {cs : List CvM} {ip cp : Option Addr} {il ic cl cc : Nat} (c : CvM) (hs : Sat h0 A h) (ht : tag.length = 32) (hl : cl < 2 ^ 40) (hi : il < 2 ^ 47)
    (ri : ∀ h', Sat h0 A h' → hsv h' ip 1 il (ints .u8 id)) (rc : ∀ h', Sat h0 A h' → hsv h' cp 5 cl (cvsV cs))
    (k : ∀ O, O = narM key id cs tag c → ∀ p1 c1 p2 c2 h', Sat h0 (slE p2 O.cs.length c2 5 (cvsV O.cs) :: slE p1 O.id.length c1 1 (ints .u8 O.id) :: A) h' → Q O.key p1 O.id.length c1 p2 O.cs.length c2 O.tag O.e h') :
    F_token_Token_Narrow key ip il ic cp cl cc tag c.kind c.slot c.frm c.to c.set Q h := by
  have hcl : cs.length = cl := by have := (rc _ hs).1; rw [cvsV_len] at this; omega
  have hil : id.length = il := by have := (ri _ hs).1; simpa using this
  refine narrow_sp c hs ht hl hi ri rc ?_ ?_ ?_
  · intro g h' hs
    exact k ⟨3, 0, [], [], zeros 32⟩ (by unfold narM; rw [if_pos g]) none 0 none 0 h' ((hs.sl_nil 1 none).sl_nil 5 none)
  · intro g b h' hs
    exact k ⟨1, 0, [], [], zeros 32⟩ (by unfold narM; rw [if_neg (by omega), if_neg b]) none 0 none 0 h' ((hs.sl_nil 1 none).sl_nil 5 none)
  · intro g b p1 c1 p2 c2 h' hs
    have K := k ⟨0, key, id, cs ++ [c], macM tag (cbM c)⟩ (by unfold narM; rw [if_neg (by omega), if_pos b]) p1 c1 p2 c2 h'
    dsimp only at K
    rw [List.length_append, hcl, hil] at K
    exact K hs
theorem rnar_sp {Q : Int → Option Addr → Nat → Nat → Option Addr → Nat → Nat → List Int → Int → H → Prop} {key : Int} {id tag : List Int} {cs : List CvM} {ip cp : Option Addr} {il ic cl cc : Nat} (c : CvM) (hs : Sat h0 A h) (ht : tag.length = 32) (htb : isBy tag) (hl : cl < 2 ^ 40) (hi : il < 2 ^ 47)
    (ri : ∀ h', Sat h0 A h' → hsv h' ip 1 il (ints .u8 id)) (rc : ∀ h', Sat h0 A h' → hsv h' cp 5 cl (cvsV cs))
    (k : ∀ O, O = narM key id cs tag c → ∀ p1 c1 p2 c2 h', Sat h0 (slE p2 O.cs.length c2 5 (cvsV O.cs) :: slE p1 O.id.length c1 1 (ints .u8 O.id) :: A) h' → Q O.key p1 O.id.length c1 p2 O.cs.length c2 O.tag O.e h') :
    F_portcullisref24_Token_Narrow key ip il ic cp cl cc tag c.kind c.slot c.frm c.to c.set Q h := by
  have hcl : cs.length = cl := by have := (rc _ hs).1; rw [cvsV_len] at this; omega
  have hil : id.length = il := by have := (ri _ hs).1; simpa using this
  refine rnarrow_sp c hs ht htb hl hi ri rc ?_ ?_ ?_
  · intro g h' hs
    exact k ⟨3, 0, [], [], zeros 32⟩ (by unfold narM; rw [if_pos g]) none 0 none 0 h' ((hs.sl_nil 1 none).sl_nil 5 none)
  · intro g b h' hs
    exact k ⟨1, 0, [], [], zeros 32⟩ (by unfold narM; rw [if_neg (by omega), if_neg b]) none 0 none 0 h' ((hs.sl_nil 1 none).sl_nil 5 none)
  · intro g b p1 c1 p2 c2 h' hs
    have K := k ⟨0, key, id, cs ++ [c], macM tag (cbM c)⟩ (by unfold narM; rw [if_neg (by omega), if_pos b]) p1 c1 p2 c2 h'
    dsimp only at K
    rw [List.length_append, hcl, hil] at K
    exact K hs
theorem keysU_sp {Q : Option Addr → Int → Int → H → Prop} {X : List SR} {L : List Sec} {p : Option Addr} {l c : Nat} (hs : Sat h0 A h) (eL : X.map SR.kv = L) (rd : ∀ h', Sat h0 A h' → SecsAt h' p l X) (hl : l < 2 ^ 47)
    (k : ∀ o e i h' B, Sat h0 (B ++ A) h' → (newM L = some (e, i) ∧ o = none) ∨ (newM L = none ∧ e = 0 ∧ ∃ r m R, o = some ⟨r, 0, none⟩ ∧ R.map SR.kv = L ∧ SR.good R ∧ B = ringP r m R) → Q o e i h') : F_keys_New p l c Q h :=
  keysN_sp hs eL rd hl (fun e i h' he hs => k none e i h' [] hs (Or.inl ⟨he, rfl⟩)) (fun hn r m R h' e1 e2 hs => k _ 0 0 h' _ hs (Or.inr ⟨hn, rfl, r, m, R, rfl, e1, e2, rfl⟩))
theorem ringsU_sp {Q : Option Addr → Int → Int → H → Prop} {X : List SR} {L : List Sec} {p : Option Addr} {l c : Nat} (hs : Sat h0 A h) (eL : X.map SR.kv = L) (rd : ∀ h', Sat h0 A h' → SecsAt h' p l X) (hl : l < 2 ^ 47)
    (k : ∀ o e i h' B, Sat h0 (B ++ A) h' → (newM L = some (e, i) ∧ o = none) ∨ (newM L = none ∧ e = 0 ∧ ∃ r lp lc R, o = some ⟨r, 0, none⟩ ∧ R.map SR.kv = L ∧ SR.good R ∧ B = ringD r lp lc R) → Q o e i h') : F_portcullisref12_New p l c Q h :=
  ringsN_sp hs eL rd hl (fun e i h' he hs => k none e i h' [] hs (Or.inl ⟨he, rfl⟩)) (fun hn r lp lc R h' e1 e2 hs => k _ 0 0 h' _ hs (Or.inr ⟨hn, rfl, r, lp, lc, R, rfl, e1, e2, rfl⟩))
theorem memAt {A : List Ent} {x : Nat} {E : Ent} (a : At A x E) : E ∈ A := by
  induction a with
  | z => exact List.mem_cons_self
  | s _ ih => exact List.mem_cons_of_mem _ ih
theorem TokenMakes_sp {Q : Bool → H → Prop} (hg : hc h0 ⟨0, 0, none⟩ = some errTypeV) {X : List SR} {lp ip0 ip cp cp4 : Option Addr} {ll lc il0 ic0 il ic cl cc cl4 cc4 : Nat} {key0 key : Int} {id0 id tag : List Int} {cs cs4 : List CvM}
    (rl : SecsAt h0 lp ll X) (hll : ll < 2 ^ 47) (ri0 : hsv h0 ip0 1 il0 (ints .u8 id0)) (hb0 : isBy id0) (ht : tag.length = 32) (htb : isBy tag) (hi : il + 4096 ≤ 2 ^ 47)
    (ri : hsv h0 ip 1 il (ints .u8 id)) (rc : hsv h0 cp 5 cl (cvsV cs)) (rc4 : hsv h0 cp4 5 cl4 (cvsV cs4)) (hs : Sat h0 A h)
    (k : ∀ h', Sat h0 [] h' → Q true h') : F_portcullislaw24_TokenMakes lp ll lc key0 ip0 il0 ic0 key ip il ic cp cl cc tag cp4 cl4 cc4 Q h := by
  unfold F_portcullislaw24_TokenMakes G_portcullislaw24_TokenMakes
  simp only [add_mk, Nat.zero_add, List.append_nil]
  have hcl : cs.length = cl := by have := rc.1; rw [cvsV_len] at this; omega
  have hil : id.length = il := by have := ri.1; simpa using this
  have hil0 : id0.length = il0 := by have := ri0.1; simpa using this
  intro tb _ hn; replace hs := Sat.new hs hn; clear hn
  replace hs : Sat h0 (blk tb (tokL key ip il ic cp cl cc tag) :: A) _ := hs
  refine awake24_sp hg hs ?_
  intro h1 hs
  rw [if_neg (by decide)]
  intro J37 hJ37
  refine ⟨_, hs.ld (i := 0) .z rfl, _, _, _, hs.ld (i := 0) .z rfl, _, _, _, hs.ld (i := 0) .z rfl, tag, ht, tok_row hs (i := 0) .z, ?_⟩
  refine rfew_sp hs ?_
  intro h2 hs
  by_cases cf : cl ≤ 65536
  case neg =>
    rw [if_pos (by simp [cf])]
    exact k _ hs.nil
  rw [if_neg (by simp [cf]), ltI_eq]
  by_cases c1 : 100 < cl4
  · rw [if_pos (by rw [decide_eq_true_iff]; omega)]
    exact k _ hs.nil
  rw [if_neg (by rw [decide_eq_true_iff]; omega)]
  apply hJ37
  clear hJ37 J37
  obtain ⟨L, hL⟩ : ∃ L, X.map SR.kv = L := ⟨_, rfl⟩
  refine keysU_sp hs hL (fun h' hs' => rl.ext hs') hll ?_
  intro o e i h3 B hs hB
  refine ringsU_sp hs hL (fun h' hs' => rl.ext hs') hll ?_
  intro o2 e2 i2 h4 B2 hs hB2
  intro J47 hJ47
  have ee : e = e2 := by
    rcases hB with ⟨a, _⟩ | ⟨a, b, _⟩ <;> rcases hB2 with ⟨a2, _⟩ | ⟨a2, b2, _⟩
    · rw [a] at a2; injection a2 with a2; injection a2
    · rw [a] at a2; cases a2
    · rw [a] at a2; cases a2
    · rw [b, b2]
  have eo : o.isNone = o2.isNone := by
    rcases hB with ⟨a, b⟩ | ⟨a, _, _, _, _, b, _⟩ <;> rcases hB2 with ⟨a2, b2⟩ | ⟨a2, _, _, _, _, _, b2, _⟩
    · rw [b, b2]
    · rw [a] at a2; cases a2
    · rw [a] at a2; cases a2
    · rw [b, b2]; rfl
  rw [ee, if_neg (by simp), eo, if_neg (by simp)]
  apply hJ47
  clear hJ47 J47
  intro J49 hJ49
  have way : ∀ h', Sat h0 (blk tb (tokL key ip il ic cp cl cc tag) :: A) h' → J49 [] h' := by
    intro h5 hs
    apply hJ49
    clear hJ49
    refine ⟨_, hs.ld (i := 0) .z rfl, _, _, _, hs.ld (i := 0) .z rfl, _, _, _, hs.ld (i := 0) .z rfl, tag, ht, tok_row hs (i := 0) .z, ?_⟩
    refine lawof_sp (id := id) (cs := cs) hs ht hi cf (fun h' hs' => hs'.base ri) (fun h' hs' => hs'.base rc) ?_
    intro p1 c1 p2 c2 h6 hc1 hs
    intro mb _ hn; replace hs := Sat.new hs hn; clear hn
    refine ⟨Sat.can hs (i := 0) .z (by simp [zeros]), ?_⟩
    intro h7 e7
    replace hs := Sat.wra (xs := tokL key (subAddr p1 0 c1 1) il c1 p2 cl c2 tag) hs (i := 0) .z e7 (by simp [zeros, ht])
    clear e7
    simp only [put_zero] at hs
    intro J73 hJ73
    refine loop_up cl4 (fun t h => ∃ (key : Int) (id : List Int) (cs : List CvM) (tag : List Int) (p1 : Option Addr) (l1 c1 : Nat) (p2 : Option Addr) (l2 c2 : Nat) (q1 : Option Addr) (m1 d1 : Nat) (q2 : Option Addr) (m2 d2 : Nat) (B : List Ent), tag.length = 32 ∧ isBy tag ∧ l2 < 2 ^ 40 ∧ m2 < 2 ^ 40 ∧ l1 < 2 ^ 47 ∧ m1 < 2 ^ 47 ∧
      (∀ h', Sat h0 B h' → hsv h' p1 1 l1 (ints .u8 id)) ∧ (∀ h', Sat h0 B h' → hsv h' p2 5 l2 (cvsV cs)) ∧ (∀ h', Sat h0 B h' → hsv h' q1 1 m1 (ints .u8 id)) ∧ (∀ h', Sat h0 B h' → hsv h' q2 5 m2 (cvsV cs)) ∧
      Sat h0 (blk mb (tokL key p1 l1 c1 p2 l2 c2 tag) :: blk tb (tokL key q1 m1 d1 q2 m2 d2 tag) :: B) h) ?_ ?_ 0 _ (by omega) ?_
    · clear hs
      rintro t h8 ht4 ⟨key, id, cs, tag, p1, l1, c1, p2, l2, c2, q1, m1, d1, q2, m2, d2, B, htl, htb, hl2, hm2, hl1, hm1, r1, r2, r3, r4, hs⟩ hk
      apply hJ73
      clear hJ73
      rw [ltI_eq, if_pos (by rw [decide_eq_true_iff]; omega)]
      obtain ⟨q, hlt, hq, g0, g1, g2, g3, g4⟩ := cv_rd (hs.base rc4) (i := t) ht4
      refine ⟨q, hq, by omega, by omega, ?_⟩
      simp only [Int.toNat_natCast]
      refine ⟨_, g0, _, g1, _, g2, _, g3, _, g4, ?_⟩
      clear g0 g1 g2 g3 g4
      obtain ⟨cv, hcv⟩ : ∃ cv, cv = cs4[t] := ⟨_, rfl⟩
      rw [← hcv]
      obtain ⟨n1, n2, n3, n4⟩ := narM_tag key id cs tag cv
      have hidl : id.length = l1 := by have := (r1 _ hs.drop.drop).1; simpa using this
      intro cb _ hn; replace hs := Sat.new hs hn; clear hn
      refine ⟨Sat.can hs (i := 0) .z (by simp), ?_⟩
      intro h9 e9
      replace hs := Sat.wra (xs := cvV cv) hs (i := 0) .z e9 rfl
      clear e9
      simp only [put_zero] at hs
      refine ⟨_, hs.ld (i := 1) (.s .z) rfl, _, _, _, hs.ld (i := 1) (.s .z) rfl, _, _, _, hs.ld (i := 1) (.s .z) rfl, tag, htl, tok_row hs (i := 1) (.s .z), ?_⟩
      refine ⟨_, hs.ld (i := 0) .z rfl, _, hs.ld (i := 0) .z rfl, _, hs.ld (i := 0) .z rfl, _, hs.ld (i := 0) .z rfl, _, hs.ld (i := 0) .z rfl, ?_⟩
      refine ⟨?_, ?_⟩
      · skip
        refine caveat_sp cv hs ?_
        intro h10 hs
        refine ⟨Sat.cs hs (i := 1) (.s .z) (by rw [List.drop_zero, List.take_of_length_le (Nat.le_refl _)]), ?_, ?_⟩
        · skip
          refine nar_sp (id := id) (cs := cs) cv hs htl hl2 hl1 (fun h' hs' => r1 _ hs'.drop.drop.drop) (fun h' hs' => r2 _ hs'.drop.drop.drop) ?_
          intro O hO s1 x1 s2 x2 h11 hs
          rw [← hO] at n1 n2 n3 n4
          intro ab _ hn; replace hs := Sat.new hs hn; clear hn
          refine ⟨Sat.can hs (i := 0) .z (by simp [zeros]), ?_⟩
          intro h12 e12
          replace hs := Sat.wra (xs := tokL O.key s1 O.id.length x1 s2 O.cs.length x2 O.tag) hs (i := 0) .z e12 (by simp [zeros, n1])
          clear e12
          simp only [put_succ, put_zero] at hs
          refine ⟨_, hs.ld (i := 5) (.s (.s (.s (.s (.s .z))))) rfl, _, _, _, hs.ld (i := 5) (.s (.s (.s (.s (.s .z))))) rfl, _, _, _, hs.ld (i := 5) (.s (.s (.s (.s (.s .z))))) rfl, tag, htl, tok_row hs (i := 5) (.s (.s (.s (.s (.s .z))))), ?_⟩
          refine ⟨_, hs.ld (i := 3) (.s (.s (.s .z))) rfl, _, hs.ld (i := 3) (.s (.s (.s .z))) rfl, _, hs.ld (i := 3) (.s (.s (.s .z))) rfl, _, hs.ld (i := 3) (.s (.s (.s .z))) rfl, _, hs.ld (i := 3) (.s (.s (.s .z))) rfl, ?_⟩
          refine rnar_sp (id := id) (cs := cs) cv hs htl htb hm2 hm1 (fun h' hs' => r3 _ hs'.drop.drop.drop.drop.drop.drop) (fun h' hs' => r4 _ hs'.drop.drop.drop.drop.drop.drop) ?_
          intro O' hO' u1 y1 u2 y2 h13 hs
          rw [← hO] at hO'
          subst hO'
          intro bb _ hn; replace hs := Sat.new hs hn; clear hn
          refine ⟨Sat.can hs (i := 0) .z (by simp [zeros]), ?_⟩
          intro h14 e14
          replace hs := Sat.wra (xs := tokL O'.key u1 O'.id.length y1 u2 O'.cs.length y2 O'.tag) hs (i := 0) .z e14 (by simp [zeros, n1])
          clear e14
          simp only [put_zero] at hs
          rw [if_neg (by simp)]
          refine ⟨_, hs.ld (i := 3) (.s (.s (.s .z))) rfl, _, _, _, hs.ld (i := 3) (.s (.s (.s .z))) rfl, _, _, _, hs.ld (i := 3) (.s (.s (.s .z))) rfl, _, n1, tok_row hs (i := 3) (.s (.s (.s .z))), ?_⟩
          refine ⟨_, hs.ld (i := 0) .z rfl, _, _, _, hs.ld (i := 0) .z rfl, _, _, _, hs.ld (i := 0) .z rfl, _, n1, tok_row hs (i := 0) .z, ?_⟩
          refine back_sp (cs := O'.cs) hs n1 (by omega) (fun h' hs' => hs'.sv (i := 4) (.s (.s (.s (.s .z))))) ?_
          intro v2 z2 h15 hs
          refine ⟨Sat.cs hs (i := 1) (.s .z) (by rw [List.drop_zero, List.take_of_length_le (Nat.le_refl _)]), ?_⟩
          refine rsame_sp (id := O'.id) (cs := O'.cs) hs n1 (by omega) (fun h' hs' => hs'.sv (i := 6) (.s (.s (.s (.s (.s (.s .z))))))) (fun h' hs' => hs'.sv (i := 0) .z) (fun h' hs' => hs'.sv (i := 3) (.s (.s (.s .z)))) (fun h' hs' => hs'.sv (i := 2) (.s (.s .z))) ?_
          intro h16 hs
          replace hs := hs.drop
          rw [if_neg (by decide)]
          refine ⟨_, hs.ld (i := 7) (.s (.s (.s (.s (.s (.s (.s .z))))))) rfl, _, _, _, hs.ld (i := 7) (.s (.s (.s (.s (.s (.s (.s .z))))))) rfl, _, _, _, hs.ld (i := 7) (.s (.s (.s (.s (.s (.s (.s .z))))))) rfl, _, htl, tok_row hs (i := 7) (.s (.s (.s (.s (.s (.s (.s .z))))))), ?_⟩
          refine ⟨_, hs.ld (i := 8) (.s (.s (.s (.s (.s (.s (.s (.s .z)))))))) rfl, _, _, _, hs.ld (i := 8) (.s (.s (.s (.s (.s (.s (.s (.s .z)))))))) rfl, _, _, _, hs.ld (i := 8) (.s (.s (.s (.s (.s (.s (.s (.s .z)))))))) rfl, _, htl, tok_row hs (i := 8) (.s (.s (.s (.s (.s (.s (.s (.s .z)))))))), ?_⟩
          refine back_sp (cs := cs) hs htl hl2 (fun h' hs' => r2 _ hs'.drop.drop.drop.drop.drop.drop.drop.drop.drop) ?_
          intro v3 z3 h17 hs
          refine ⟨Sat.cs hs (i := 9) (.s (.s (.s (.s (.s (.s (.s (.s (.s .z))))))))) (by rw [List.drop_zero, List.take_of_length_le (Nat.le_refl _)]), ?_⟩
          refine rsame_sp (id := id) (cs := cs) hs htl (by omega) (fun h' hs' => r1 _ hs'.drop.drop.drop.drop.drop.drop.drop.drop.drop.drop) (fun h' hs' => hs'.sv (i := 0) .z) (fun h' hs' => r3 _ hs'.drop.drop.drop.drop.drop.drop.drop.drop.drop.drop) (fun h' hs' => r4 _ hs'.drop.drop.drop.drop.drop.drop.drop.drop.drop.drop) ?_
          intro h18 hs
          replace hs := hs.drop
          rw [if_neg (by decide), wrap_succ (by omega)]
          by_cases e0 : (O'.e == 0) = true
          · rw [if_pos e0]
            refine ⟨_, hs.ld (i := 3) (.s (.s (.s .z))) rfl, _, _, _, hs.ld (i := 3) (.s (.s (.s .z))) rfl, _, _, _, hs.ld (i := 3) (.s (.s (.s .z))) rfl, _, n1, tok_row hs (i := 3) (.s (.s (.s .z))), ?_⟩
            refine ⟨_, hs.ld (i := 0) .z rfl, _, _, _, hs.ld (i := 0) .z rfl, _, _, _, hs.ld (i := 0) .z rfl, _, n1, tok_row hs (i := 0) .z, ?_⟩
            refine ⟨Sat.can hs (i := 7) (.s (.s (.s (.s (.s (.s (.s .z))))))) (by simp [htl]), ?_⟩
            intro h19 e19
            replace hs := Sat.wra (xs := tokL O'.key s1 O'.id.length x1 s2 O'.cs.length x2 O'.tag) hs (i := 7) (.s (.s (.s (.s (.s (.s (.s .z))))))) e19 (by simp [htl, n1])
            clear e19
            simp only [put_succ, put_zero] at hs
            refine ⟨Sat.cs hs (i := 0) .z (by rw [List.drop_zero, List.take_of_length_le (Nat.le_refl _)]), ?_⟩
            refine ⟨Sat.can hs (i := 8) (.s (.s (.s (.s (.s (.s (.s (.s .z)))))))) (by simp [htl]), ?_⟩
            intro h20 e20
            replace hs := Sat.wra (xs := tokL O'.key u1 O'.id.length y1 u2 O'.cs.length y2 O'.tag) hs (i := 8) (.s (.s (.s (.s (.s (.s (.s (.s .z)))))))) e20 (by simp [htl, n1])
            clear e20
            simp only [put_succ, put_zero] at hs
            replace hs := hs.front (e := blk tb (tokL O'.key u1 O'.id.length y1 u2 O'.cs.length y2 O'.tag)) (i := 8) (.s (.s (.s (.s (.s (.s (.s (.s .z))))))))
            simp only [del] at hs
            replace hs := hs.front (e := blk mb (tokL O'.key s1 O'.id.length x1 s2 O'.cs.length x2 O'.tag)) (i := 8) (.s (.s (.s (.s (.s (.s (.s (.s .z))))))))
            simp only [del] at hs
            refine hk _ ⟨O'.key, O'.id, O'.cs, O'.tag, s1, _, x1, s2, _, x2, u1, _, y1, u2, _, y2, _, n1, n2, by omega, by omega, by omega, by omega, ?_, ?_, ?_, ?_, hs⟩
            · exact fun h' hs' => hs'.sv (i := 5) (.s (.s (.s (.s (.s .z)))))
            · exact fun h' hs' => hs'.sv (i := 4) (.s (.s (.s (.s .z))))
            · exact fun h' hs' => hs'.sv (i := 2) (.s (.s .z))
            · exact fun h' hs' => hs'.sv (i := 1) (.s .z)
          · rw [if_neg e0]
            replace hs := hs.front (e := blk tb (tokL key q1 m1 d1 q2 m2 d2 tag)) (i := 8) (.s (.s (.s (.s (.s (.s (.s (.s .z))))))))
            simp only [del] at hs
            replace hs := hs.front (e := blk mb (tokL key p1 l1 c1 p2 l2 c2 tag)) (i := 8) (.s (.s (.s (.s (.s (.s (.s (.s .z))))))))
            simp only [del] at hs
            refine hk _ ⟨key, id, cs, tag, p1, l1, c1, p2, l2, c2, q1, m1, d1, q2, m2, d2, _, htl, htb, hl2, hm2, hl1, hm1, ?_, ?_, ?_, ?_, hs⟩
            · exact fun h' hs' => r1 _ hs'.drop.drop.drop.drop.drop.drop.drop
            · exact fun h' hs' => r2 _ hs'.drop.drop.drop.drop.drop.drop.drop
            · exact fun h' hs' => r3 _ hs'.drop.drop.drop.drop.drop.drop.drop
            · exact fun h' hs' => r4 _ hs'.drop.drop.drop.drop.drop.drop.drop
        · skip
          intro ab _ hn; replace hs := Sat.new hs hn; clear hn
          refine ⟨Sat.cs hs (i := 2) (.s (.s .z)) (by rw [List.drop_zero, List.take_of_length_le (Nat.le_refl _)]), ?_⟩
          refine nar_sp (id := id) (cs := cs) cv hs htl hl2 hl1 (fun h' hs' => r1 _ hs'.drop.drop.drop.drop) (fun h' hs' => r2 _ hs'.drop.drop.drop.drop) ?_
          intro O hO s1 x1 s2 x2 h11 hs
          rw [← hO] at n1 n2 n3 n4
          refine ⟨Sat.can hs (i := 2) (.s (.s .z)) (by simp [zeros]), ?_⟩
          intro h12 e12
          replace hs := Sat.wra (xs := tokL O.key s1 O.id.length x1 s2 O.cs.length x2 O.tag) hs (i := 2) (.s (.s .z)) e12 (by simp [zeros, n1])
          clear e12
          simp only [put_succ, put_zero] at hs
          replace hs := hs.front (e := blk ab (tokL O.key s1 O.id.length x1 s2 O.cs.length x2 O.tag)) (i := 2) (.s (.s .z))
          simp only [del] at hs
          refine ⟨_, hs.ld (i := 5) (.s (.s (.s (.s (.s .z))))) rfl, _, _, _, hs.ld (i := 5) (.s (.s (.s (.s (.s .z))))) rfl, _, _, _, hs.ld (i := 5) (.s (.s (.s (.s (.s .z))))) rfl, tag, htl, tok_row hs (i := 5) (.s (.s (.s (.s (.s .z))))), ?_⟩
          refine ⟨_, hs.ld (i := 3) (.s (.s (.s .z))) rfl, _, hs.ld (i := 3) (.s (.s (.s .z))) rfl, _, hs.ld (i := 3) (.s (.s (.s .z))) rfl, _, hs.ld (i := 3) (.s (.s (.s .z))) rfl, _, hs.ld (i := 3) (.s (.s (.s .z))) rfl, ?_⟩
          refine rnar_sp (id := id) (cs := cs) cv hs htl htb hm2 hm1 (fun h' hs' => r3 _ hs'.drop.drop.drop.drop.drop.drop) (fun h' hs' => r4 _ hs'.drop.drop.drop.drop.drop.drop) ?_
          intro O' hO' u1 y1 u2 y2 h13 hs
          rw [← hO] at hO'
          subst hO'
          intro bb _ hn; replace hs := Sat.new hs hn; clear hn
          refine ⟨Sat.can hs (i := 0) .z (by simp [zeros]), ?_⟩
          intro h14 e14
          replace hs := Sat.wra (xs := tokL O'.key u1 O'.id.length y1 u2 O'.cs.length y2 O'.tag) hs (i := 0) .z e14 (by simp [zeros, n1])
          clear e14
          simp only [put_zero] at hs
          rw [if_neg (by simp)]
          refine ⟨_, hs.ld (i := 3) (.s (.s (.s .z))) rfl, _, _, _, hs.ld (i := 3) (.s (.s (.s .z))) rfl, _, _, _, hs.ld (i := 3) (.s (.s (.s .z))) rfl, _, n1, tok_row hs (i := 3) (.s (.s (.s .z))), ?_⟩
          refine ⟨_, hs.ld (i := 0) .z rfl, _, _, _, hs.ld (i := 0) .z rfl, _, _, _, hs.ld (i := 0) .z rfl, _, n1, tok_row hs (i := 0) .z, ?_⟩
          refine back_sp (cs := O'.cs) hs n1 (by omega) (fun h' hs' => hs'.sv (i := 4) (.s (.s (.s (.s .z))))) ?_
          intro v2 z2 h15 hs
          refine ⟨Sat.cs hs (i := 1) (.s .z) (by rw [List.drop_zero, List.take_of_length_le (Nat.le_refl _)]), ?_⟩
          refine rsame_sp (id := O'.id) (cs := O'.cs) hs n1 (by omega) (fun h' hs' => hs'.sv (i := 6) (.s (.s (.s (.s (.s (.s .z))))))) (fun h' hs' => hs'.sv (i := 0) .z) (fun h' hs' => hs'.sv (i := 3) (.s (.s (.s .z)))) (fun h' hs' => hs'.sv (i := 2) (.s (.s .z))) ?_
          intro h16 hs
          replace hs := hs.drop
          rw [if_neg (by decide)]
          refine ⟨_, hs.ld (i := 7) (.s (.s (.s (.s (.s (.s (.s .z))))))) rfl, _, _, _, hs.ld (i := 7) (.s (.s (.s (.s (.s (.s (.s .z))))))) rfl, _, _, _, hs.ld (i := 7) (.s (.s (.s (.s (.s (.s (.s .z))))))) rfl, _, htl, tok_row hs (i := 7) (.s (.s (.s (.s (.s (.s (.s .z))))))), ?_⟩
          refine ⟨_, hs.ld (i := 8) (.s (.s (.s (.s (.s (.s (.s (.s .z)))))))) rfl, _, _, _, hs.ld (i := 8) (.s (.s (.s (.s (.s (.s (.s (.s .z)))))))) rfl, _, _, _, hs.ld (i := 8) (.s (.s (.s (.s (.s (.s (.s (.s .z)))))))) rfl, _, htl, tok_row hs (i := 8) (.s (.s (.s (.s (.s (.s (.s (.s .z)))))))), ?_⟩
          refine back_sp (cs := cs) hs htl hl2 (fun h' hs' => r2 _ hs'.drop.drop.drop.drop.drop.drop.drop.drop.drop) ?_
          intro v3 z3 h17 hs
          refine ⟨Sat.cs hs (i := 9) (.s (.s (.s (.s (.s (.s (.s (.s (.s .z))))))))) (by rw [List.drop_zero, List.take_of_length_le (Nat.le_refl _)]), ?_⟩
          refine rsame_sp (id := id) (cs := cs) hs htl (by omega) (fun h' hs' => r1 _ hs'.drop.drop.drop.drop.drop.drop.drop.drop.drop.drop) (fun h' hs' => hs'.sv (i := 0) .z) (fun h' hs' => r3 _ hs'.drop.drop.drop.drop.drop.drop.drop.drop.drop.drop) (fun h' hs' => r4 _ hs'.drop.drop.drop.drop.drop.drop.drop.drop.drop.drop) ?_
          intro h18 hs
          replace hs := hs.drop
          rw [if_neg (by decide), wrap_succ (by omega)]
          by_cases e0 : (O'.e == 0) = true
          · rw [if_pos e0]
            refine ⟨_, hs.ld (i := 3) (.s (.s (.s .z))) rfl, _, _, _, hs.ld (i := 3) (.s (.s (.s .z))) rfl, _, _, _, hs.ld (i := 3) (.s (.s (.s .z))) rfl, _, n1, tok_row hs (i := 3) (.s (.s (.s .z))), ?_⟩
            refine ⟨_, hs.ld (i := 0) .z rfl, _, _, _, hs.ld (i := 0) .z rfl, _, _, _, hs.ld (i := 0) .z rfl, _, n1, tok_row hs (i := 0) .z, ?_⟩
            refine ⟨Sat.can hs (i := 7) (.s (.s (.s (.s (.s (.s (.s .z))))))) (by simp [htl]), ?_⟩
            intro h19 e19
            replace hs := Sat.wra (xs := tokL O'.key s1 O'.id.length x1 s2 O'.cs.length x2 O'.tag) hs (i := 7) (.s (.s (.s (.s (.s (.s (.s .z))))))) e19 (by simp [htl, n1])
            clear e19
            simp only [put_succ, put_zero] at hs
            refine ⟨Sat.cs hs (i := 0) .z (by rw [List.drop_zero, List.take_of_length_le (Nat.le_refl _)]), ?_⟩
            refine ⟨Sat.can hs (i := 8) (.s (.s (.s (.s (.s (.s (.s (.s .z)))))))) (by simp [htl]), ?_⟩
            intro h20 e20
            replace hs := Sat.wra (xs := tokL O'.key u1 O'.id.length y1 u2 O'.cs.length y2 O'.tag) hs (i := 8) (.s (.s (.s (.s (.s (.s (.s (.s .z)))))))) e20 (by simp [htl, n1])
            clear e20
            simp only [put_succ, put_zero] at hs
            replace hs := hs.front (e := blk tb (tokL O'.key u1 O'.id.length y1 u2 O'.cs.length y2 O'.tag)) (i := 8) (.s (.s (.s (.s (.s (.s (.s (.s .z))))))))
            simp only [del] at hs
            replace hs := hs.front (e := blk mb (tokL O'.key s1 O'.id.length x1 s2 O'.cs.length x2 O'.tag)) (i := 8) (.s (.s (.s (.s (.s (.s (.s (.s .z))))))))
            simp only [del] at hs
            refine hk _ ⟨O'.key, O'.id, O'.cs, O'.tag, s1, _, x1, s2, _, x2, u1, _, y1, u2, _, y2, _, n1, n2, by omega, by omega, by omega, by omega, ?_, ?_, ?_, ?_, hs⟩
            · exact fun h' hs' => hs'.sv (i := 5) (.s (.s (.s (.s (.s .z)))))
            · exact fun h' hs' => hs'.sv (i := 4) (.s (.s (.s (.s .z))))
            · exact fun h' hs' => hs'.sv (i := 2) (.s (.s .z))
            · exact fun h' hs' => hs'.sv (i := 1) (.s .z)
          · rw [if_neg e0]
            replace hs := hs.front (e := blk tb (tokL key q1 m1 d1 q2 m2 d2 tag)) (i := 8) (.s (.s (.s (.s (.s (.s (.s (.s .z))))))))
            simp only [del] at hs
            replace hs := hs.front (e := blk mb (tokL key p1 l1 c1 p2 l2 c2 tag)) (i := 8) (.s (.s (.s (.s (.s (.s (.s (.s .z))))))))
            simp only [del] at hs
            refine hk _ ⟨key, id, cs, tag, p1, l1, c1, p2, l2, c2, q1, m1, d1, q2, m2, d2, _, htl, htb, hl2, hm2, hl1, hm1, ?_, ?_, ?_, ?_, hs⟩
            · exact fun h' hs' => r1 _ hs'.drop.drop.drop.drop.drop.drop.drop
            · exact fun h' hs' => r2 _ hs'.drop.drop.drop.drop.drop.drop.drop
            · exact fun h' hs' => r3 _ hs'.drop.drop.drop.drop.drop.drop.drop
            · exact fun h' hs' => r4 _ hs'.drop.drop.drop.drop.drop.drop.drop
      · skip
        intro ab _ hn; replace hs := Sat.new hs hn; clear hn
        refine ⟨Sat.cs hs (i := 1) (.s .z) rfl, Sat.cs hs (i := 2) (.s (.s .z)) (by rw [List.drop_zero, List.take_of_length_le (Nat.le_refl _)]), ?_⟩
        refine caveat_sp cv hs ?_
        intro h10 hs
        refine ⟨Sat.cs hs (i := 2) (.s (.s .z)) (by rw [List.drop_zero, List.take_of_length_le (Nat.le_refl _)]), ?_⟩
        refine nar_sp (id := id) (cs := cs) cv hs htl hl2 hl1 (fun h' hs' => r1 _ hs'.drop.drop.drop.drop) (fun h' hs' => r2 _ hs'.drop.drop.drop.drop) ?_
        intro O hO s1 x1 s2 x2 h11 hs
        rw [← hO] at n1 n2 n3 n4
        refine ⟨Sat.can hs (i := 2) (.s (.s .z)) (by simp [zeros]), ?_⟩
        intro h12 e12
        replace hs := Sat.wra (xs := tokL O.key s1 O.id.length x1 s2 O.cs.length x2 O.tag) hs (i := 2) (.s (.s .z)) e12 (by simp [zeros, n1])
        clear e12
        simp only [put_succ, put_zero] at hs
        replace hs := hs.front (e := blk ab (tokL O.key s1 O.id.length x1 s2 O.cs.length x2 O.tag)) (i := 2) (.s (.s .z))
        simp only [del] at hs
        refine ⟨_, hs.ld (i := 5) (.s (.s (.s (.s (.s .z))))) rfl, _, _, _, hs.ld (i := 5) (.s (.s (.s (.s (.s .z))))) rfl, _, _, _, hs.ld (i := 5) (.s (.s (.s (.s (.s .z))))) rfl, tag, htl, tok_row hs (i := 5) (.s (.s (.s (.s (.s .z))))), ?_⟩
        refine ⟨_, hs.ld (i := 3) (.s (.s (.s .z))) rfl, _, hs.ld (i := 3) (.s (.s (.s .z))) rfl, _, hs.ld (i := 3) (.s (.s (.s .z))) rfl, _, hs.ld (i := 3) (.s (.s (.s .z))) rfl, _, hs.ld (i := 3) (.s (.s (.s .z))) rfl, ?_⟩
        refine rnar_sp (id := id) (cs := cs) cv hs htl htb hm2 hm1 (fun h' hs' => r3 _ hs'.drop.drop.drop.drop.drop.drop) (fun h' hs' => r4 _ hs'.drop.drop.drop.drop.drop.drop) ?_
        intro O' hO' u1 y1 u2 y2 h13 hs
        rw [← hO] at hO'
        subst hO'
        intro bb _ hn; replace hs := Sat.new hs hn; clear hn
        refine ⟨Sat.can hs (i := 0) .z (by simp [zeros]), ?_⟩
        intro h14 e14
        replace hs := Sat.wra (xs := tokL O'.key u1 O'.id.length y1 u2 O'.cs.length y2 O'.tag) hs (i := 0) .z e14 (by simp [zeros, n1])
        clear e14
        simp only [put_zero] at hs
        rw [if_neg (by simp)]
        refine ⟨_, hs.ld (i := 3) (.s (.s (.s .z))) rfl, _, _, _, hs.ld (i := 3) (.s (.s (.s .z))) rfl, _, _, _, hs.ld (i := 3) (.s (.s (.s .z))) rfl, _, n1, tok_row hs (i := 3) (.s (.s (.s .z))), ?_⟩
        refine ⟨_, hs.ld (i := 0) .z rfl, _, _, _, hs.ld (i := 0) .z rfl, _, _, _, hs.ld (i := 0) .z rfl, _, n1, tok_row hs (i := 0) .z, ?_⟩
        refine back_sp (cs := O'.cs) hs n1 (by omega) (fun h' hs' => hs'.sv (i := 4) (.s (.s (.s (.s .z))))) ?_
        intro v2 z2 h15 hs
        refine ⟨Sat.cs hs (i := 1) (.s .z) (by rw [List.drop_zero, List.take_of_length_le (Nat.le_refl _)]), ?_⟩
        refine rsame_sp (id := O'.id) (cs := O'.cs) hs n1 (by omega) (fun h' hs' => hs'.sv (i := 6) (.s (.s (.s (.s (.s (.s .z))))))) (fun h' hs' => hs'.sv (i := 0) .z) (fun h' hs' => hs'.sv (i := 3) (.s (.s (.s .z)))) (fun h' hs' => hs'.sv (i := 2) (.s (.s .z))) ?_
        intro h16 hs
        replace hs := hs.drop
        rw [if_neg (by decide)]
        refine ⟨_, hs.ld (i := 7) (.s (.s (.s (.s (.s (.s (.s .z))))))) rfl, _, _, _, hs.ld (i := 7) (.s (.s (.s (.s (.s (.s (.s .z))))))) rfl, _, _, _, hs.ld (i := 7) (.s (.s (.s (.s (.s (.s (.s .z))))))) rfl, _, htl, tok_row hs (i := 7) (.s (.s (.s (.s (.s (.s (.s .z))))))), ?_⟩
        refine ⟨_, hs.ld (i := 8) (.s (.s (.s (.s (.s (.s (.s (.s .z)))))))) rfl, _, _, _, hs.ld (i := 8) (.s (.s (.s (.s (.s (.s (.s (.s .z)))))))) rfl, _, _, _, hs.ld (i := 8) (.s (.s (.s (.s (.s (.s (.s (.s .z)))))))) rfl, _, htl, tok_row hs (i := 8) (.s (.s (.s (.s (.s (.s (.s (.s .z)))))))), ?_⟩
        refine back_sp (cs := cs) hs htl hl2 (fun h' hs' => r2 _ hs'.drop.drop.drop.drop.drop.drop.drop.drop.drop) ?_
        intro v3 z3 h17 hs
        refine ⟨Sat.cs hs (i := 9) (.s (.s (.s (.s (.s (.s (.s (.s (.s .z))))))))) (by rw [List.drop_zero, List.take_of_length_le (Nat.le_refl _)]), ?_⟩
        refine rsame_sp (id := id) (cs := cs) hs htl (by omega) (fun h' hs' => r1 _ hs'.drop.drop.drop.drop.drop.drop.drop.drop.drop.drop) (fun h' hs' => hs'.sv (i := 0) .z) (fun h' hs' => r3 _ hs'.drop.drop.drop.drop.drop.drop.drop.drop.drop.drop) (fun h' hs' => r4 _ hs'.drop.drop.drop.drop.drop.drop.drop.drop.drop.drop) ?_
        intro h18 hs
        replace hs := hs.drop
        rw [if_neg (by decide), wrap_succ (by omega)]
        by_cases e0 : (O'.e == 0) = true
        · rw [if_pos e0]
          refine ⟨_, hs.ld (i := 3) (.s (.s (.s .z))) rfl, _, _, _, hs.ld (i := 3) (.s (.s (.s .z))) rfl, _, _, _, hs.ld (i := 3) (.s (.s (.s .z))) rfl, _, n1, tok_row hs (i := 3) (.s (.s (.s .z))), ?_⟩
          refine ⟨_, hs.ld (i := 0) .z rfl, _, _, _, hs.ld (i := 0) .z rfl, _, _, _, hs.ld (i := 0) .z rfl, _, n1, tok_row hs (i := 0) .z, ?_⟩
          refine ⟨Sat.can hs (i := 7) (.s (.s (.s (.s (.s (.s (.s .z))))))) (by simp [htl]), ?_⟩
          intro h19 e19
          replace hs := Sat.wra (xs := tokL O'.key s1 O'.id.length x1 s2 O'.cs.length x2 O'.tag) hs (i := 7) (.s (.s (.s (.s (.s (.s (.s .z))))))) e19 (by simp [htl, n1])
          clear e19
          simp only [put_succ, put_zero] at hs
          refine ⟨Sat.cs hs (i := 0) .z (by rw [List.drop_zero, List.take_of_length_le (Nat.le_refl _)]), ?_⟩
          refine ⟨Sat.can hs (i := 8) (.s (.s (.s (.s (.s (.s (.s (.s .z)))))))) (by simp [htl]), ?_⟩
          intro h20 e20
          replace hs := Sat.wra (xs := tokL O'.key u1 O'.id.length y1 u2 O'.cs.length y2 O'.tag) hs (i := 8) (.s (.s (.s (.s (.s (.s (.s (.s .z)))))))) e20 (by simp [htl, n1])
          clear e20
          simp only [put_succ, put_zero] at hs
          replace hs := hs.front (e := blk tb (tokL O'.key u1 O'.id.length y1 u2 O'.cs.length y2 O'.tag)) (i := 8) (.s (.s (.s (.s (.s (.s (.s (.s .z))))))))
          simp only [del] at hs
          replace hs := hs.front (e := blk mb (tokL O'.key s1 O'.id.length x1 s2 O'.cs.length x2 O'.tag)) (i := 8) (.s (.s (.s (.s (.s (.s (.s (.s .z))))))))
          simp only [del] at hs
          refine hk _ ⟨O'.key, O'.id, O'.cs, O'.tag, s1, _, x1, s2, _, x2, u1, _, y1, u2, _, y2, _, n1, n2, by omega, by omega, by omega, by omega, ?_, ?_, ?_, ?_, hs⟩
          · exact fun h' hs' => hs'.sv (i := 5) (.s (.s (.s (.s (.s .z)))))
          · exact fun h' hs' => hs'.sv (i := 4) (.s (.s (.s (.s .z))))
          · exact fun h' hs' => hs'.sv (i := 2) (.s (.s .z))
          · exact fun h' hs' => hs'.sv (i := 1) (.s .z)
        · rw [if_neg e0]
          replace hs := hs.front (e := blk tb (tokL key q1 m1 d1 q2 m2 d2 tag)) (i := 8) (.s (.s (.s (.s (.s (.s (.s (.s .z))))))))
          simp only [del] at hs
          replace hs := hs.front (e := blk mb (tokL key p1 l1 c1 p2 l2 c2 tag)) (i := 8) (.s (.s (.s (.s (.s (.s (.s (.s .z))))))))
          simp only [del] at hs
          refine hk _ ⟨key, id, cs, tag, p1, l1, c1, p2, l2, c2, q1, m1, d1, q2, m2, d2, _, htl, htb, hl2, hm2, hl1, hm1, ?_, ?_, ?_, ?_, hs⟩
          · exact fun h' hs' => r1 _ hs'.drop.drop.drop.drop.drop.drop.drop
          · exact fun h' hs' => r2 _ hs'.drop.drop.drop.drop.drop.drop.drop
          · exact fun h' hs' => r3 _ hs'.drop.drop.drop.drop.drop.drop.drop
          · exact fun h' hs' => r4 _ hs'.drop.drop.drop.drop.drop.drop.drop
    · rintro h8 ⟨key, id, cs, tag, p1, l1, c1, p2, l2, c2, q1, m1, d1, q2, m2, d2, B, _, _, _, _, _, _, _, _, _, _, hs⟩
      apply hJ73
      rw [ltI_eq, if_neg (by rw [decide_eq_true_iff]; omega)]
      exact k _ hs.nil
    · refine ⟨key, id, cs, tag, _, _, _, _, _, _, _, _, _, _, _, _, _, ht, htb, by omega, by omega, by omega, by omega, ?_, ?_, ?_, ?_, (hs.front (e := blk tb (tokL key ip il ic cp cl cc tag)) (i := 3) (.s (.s (.s .z)))).front (e := blk mb (tokL key (subAddr p1 0 c1 1) il c1 p2 cl c2 tag)) (i := 1) (.s .z)⟩
      · exact fun h' hs' => ofId hil hc1 (hs'.sv (i := 1) (.s .z))
      · exact fun h' hs' => hs'.sv (i := 0) .z
      · exact fun h' hs' => hs'.base ri
      · exact fun h' hs' => hs'.base rc
  clear hJ49
  rcases hB with ⟨a, b⟩ | ⟨a, _, r, m, R, b, eR, gR, b1⟩
  · rcases hB2 with ⟨a2, b2⟩ | ⟨a2, _, _, _, _, _, b2, _⟩
    · rw [b2, if_neg (by simp)]
      exact way _ (hs.sub ((List.sublist_append_right _ _).trans (List.sublist_append_right _ _)))
    · rw [a] at a2; cases a2
  rcases hB2 with ⟨a2, b2⟩ | ⟨_, _, r2, lp2, lc2, R2, b2, eR2, gR2, b3⟩
  · rw [a] at a2; cases a2
  rw [b2, if_pos (by simp)]
  subst b b1 b3
  refine ⟨_, rfl, ?_⟩
  have hX : X.length = ll := rl.1.symm
  have lR2 : R2.length < 2 ^ 40 := by
    have := congrArg List.length eR2
    rw [List.length_map] at this
    have h64 : ¬ 64 < L.length := fun y => by unfold newM at a; rw [if_pos y] at a; cases a
    omega
  have At2 : ∀ {C : List Ent} {x : Nat} {E : Ent}, At C x E → ∃ y, At (ringD r2 lp2 lc2 R2 ++ C) y E := fun {C x E} a => by
    refine At.mem ?_
    refine List.mem_append_right _ ?_
    exact memAt a
  obtain ⟨y0, a0⟩ := At2 (C := ringP r m R ++ blk tb (tokL key ip il ic cp cl cc tag) :: A) (E := blk r [.map (some m)]) .z
  obtain ⟨y1, a1⟩ := At2 (C := ringP r m R ++ blk tb (tokL key ip il ic cp cl cc tag) :: A) (E := mapE m (R.map SR.ent)) (.s .z)
  refine issueN_sp key0 (id := id0) hs a0 a1 gR ?_ (fun h' hs' => hs'.base ri0) ?_
  · intro x hx h' hs'
    have : ∃ y, At (ringD r2 lp2 lc2 R2 ++ (ringP r m R ++ blk tb (tokL key ip il ic cp cl cc tag) :: A)) y x.sl := At.mem (List.mem_append_right _ (List.mem_append_left _ (List.mem_cons_of_mem _ (List.mem_cons_of_mem _ (List.mem_map_of_mem hx)))))
    obtain ⟨y, ay⟩ := this
    exact hs'.sv ay
  intro O hO p1 c1 h5 hs
  rw [eR] at hO
  have htg : O.tag.length = 32 := by rw [hO]; exact issM_tag _ _ _
  intro ab _ hn; replace hs := Sat.new hs hn; clear hn
  refine ⟨Sat.can hs (i := 0) .z (by simp [zeros]), ?_⟩
  intro h6 e6
  replace hs := Sat.wra (xs := tokL O.key p1 O.id.length c1 none 0 0 O.tag) hs (i := 0) .z e6 (by simp [zeros, htg])
  clear e6
  simp only [put_zero] at hs
  refine ⟨_, rfl, ?_⟩
  refine rissue_sp key0 (id := id0) (R := R2) hs (i := 2) (j := 3) (.s (.s .z)) (.s (.s (.s .z))) gR2 lR2 hb0 ?_ (fun h' hs' => hs'.base ri0) ?_
  · intro x hx h' hs'
    have : ∃ y, At (blk ab (tokL O.key p1 O.id.length c1 none 0 0 O.tag) :: slE p1 O.id.length c1 1 (ints .u8 O.id) :: (ringD r2 lp2 lc2 R2 ++ (ringP r m R ++ blk tb (tokL key ip il ic cp cl cc tag) :: A))) y x.sl := At.mem (List.mem_cons_of_mem _ (List.mem_cons_of_mem _ (List.mem_append_left _ (List.mem_cons_of_mem _ (List.mem_cons_of_mem _ (List.mem_map_of_mem hx))))))
    obtain ⟨y, ay⟩ := this
    exact hs'.sv ay
  intro O' hO' p2 c2 h7 hs
  rw [eR2, ← hO] at hO'
  subst hO'
  intro bb _ hn; replace hs := Sat.new hs hn; clear hn
  refine ⟨Sat.can hs (i := 0) .z (by simp [zeros]), ?_⟩
  intro h8 e8
  replace hs := Sat.wra (xs := tokL O'.key p2 O'.id.length c2 none 0 0 O'.tag) hs (i := 0) .z e8 (by simp [zeros, htg])
  clear e8
  simp only [put_zero] at hs
  rw [if_neg (by simp)]
  refine ⟨_, hs.ld (i := 2) (.s (.s .z)) rfl, _, _, _, hs.ld (i := 2) (.s (.s .z)) rfl, _, _, _, hs.ld (i := 2) (.s (.s .z)) rfl, _, htg, tok_row hs (i := 2) (.s (.s .z)), ?_⟩
  refine ⟨_, hs.ld (i := 0) .z rfl, _, _, _, hs.ld (i := 0) .z rfl, _, _, _, hs.ld (i := 0) .z rfl, _, htg, tok_row hs (i := 0) .z, ?_⟩
  refine back_sp (cs := []) hs htg (by decide) (fun h' hs' => hsv_nil _ _ _) ?_
  intro p5 c5 h9 hs
  refine ⟨Sat.cs hs (i := 1) (.s .z) (by rw [List.drop_zero, List.take_of_length_le (Nat.le_refl _)]), ?_⟩
  refine rsame_sp (id := O'.id) (cs := []) hs htg (by decide) (fun h' hs' => hs'.sv (i := 4) (.s (.s (.s (.s .z))))) (fun h' hs' => hs'.sv (i := 0) .z) (fun h' hs' => hs'.sv (i := 2) (.s (.s .z))) (fun h' hs' => hsv_nil _ _ _) ?_
  intro h10 hs
  rw [if_neg (by decide)]
  exact way _ (hs.drop.drop.drop.drop.drop.sub ((List.sublist_append_right _ _).trans (List.sublist_append_right _ _)))
end
end Go.Proofs.YtijcpgahmbkijaaGreatDoor
end

/- TokenMakes: Issue of any secrets, Narrow of any token by any caveats; for every input. -/
section
set_option maxRecDepth 100000
set_option linter.unusedVariables false
namespace Go.Proofs.YtijcpgahmbkijaaGreatDoor
open Go Go.Vc Go.ChangeShapes Go.WideShapes Go.ChangeAt Go.RowKit

theorem TokenMakes_calls {D : Type} {enc : TypeId × Value → D} {W : World} {base : Nat} (hg : hc W.heap ⟨0, 0, none⟩ = some errTypeV) (vs : List Value) (h : ArgsOk enc PP W base [22, 3, 23, 28, 24] vs) : CallsTrue PP 3 vs W := by
  obtain ⟨hl, h⟩ := h
  match vs, hl with
  | [v0, v1, v2, v3, v4], _ =>
  obtain ⟨r0, w0⟩ := h 0 _ v0 rfl rfl
  obtain ⟨r1, w1⟩ := h 1 _ v1 rfl rfl
  obtain ⟨r2, w2⟩ := h 2 _ v2 rfl rfl
  obtain ⟨r3, w3⟩ := h 3 _ v3 rfl rfl
  obtain ⟨r4, w4⟩ := h 4 _ v4 rfl rfl
  obtain ⟨lp, ll, lc, rfl, hs0⟩ := slice24_of (e := 57) (by kernel_rfl) r0 w0
  obtain ⟨X, hX, hll⟩ := secs_of hs0
  obtain ⟨key0, rfl⟩ := int24_of (by kernel_rfl) r1 w1
  obtain ⟨ip0, il0, ic0, rfl, hs2⟩ := slice24_of (e := 5) (by kernel_rfl) r2 w2
  obtain ⟨id0, i1, i2, _, _⟩ := bytes24_of hs2
  obtain ⟨key, id, tag, cs, ip, il, ic, cp, cl, cc, rfl, T⟩ := tok24_of r3 w3
  obtain ⟨cp4, cl4, cc4, rfl, hs4⟩ := slice24_of (e := 50) (by kernel_rfl) r4 w4
  obtain ⟨cs4, c1, c2, _, _⟩ := cavs_of hs4
  have := R_portcullislaw24_TokenMakes [.one (.slice lp ll lc), .one (.int .i64 key0), .one (.slice ip0 il0 ic0), .agg [.c (.int .i64 key), .c (.slice ip il ic), .c (.slice cp cl cc), .row .u8 32 tag], .one (.slice cp4 cl4 cc4)] (fun rs h' => rs = [DV.one (.bool true)] ∧ Ext none_ W.heap h') W.heap (by
    intro x hx
    simp only [List.mem_cons, List.not_mem_nil, or_false] at hx
    rcases hx with rfl | rfl | rfl | rfl | rfl
    · rfl
    · rfl
    · rfl
    · exact ok_tok T.tl
    · rfl) (by
    show F_portcullislaw24_TokenMakes lp ll lc key0 ip0 il0 ic0 key ip il ic cp cl cc tag cp4 cl4 cc4 (fun b h' => [DV.one (.bool b)] = [DV.one (.bool true)] ∧ Ext none_ W.heap h') W.heap
    exact TokenMakes_sp hg hX hll i1 i2 T.tl T.tb T.ii T.ri T.rc c1 (Sat.init _) fun h' x => ⟨rfl, x.ex⟩)
  have e : [DV.one (.slice lp ll lc), .one (.int .i64 key0), .one (.slice ip0 il0 ic0), DV.agg [.c (.int .i64 key), .c (.slice ip il ic), .c (.slice cp cl cc), .row .u8 32 tag], .one (.slice cp4 cl4 cc4)].map DV.flat = [.slice lp ll lc, .int .i64 key0, .slice ip0 il0 ic0, .agg (tokL key ip il ic cp cl cc tag).toArray, .slice cp4 cl4 cc4] := by
    simp [DV.flat, flats, Ch.flat]
  rw [e] at this
  exact this
theorem TokenMakes_lifted (os : Os) (started : os.Started) (D : Type) (enc : TypeId × Value → D) :
    ReturnsInHanded {} Tryz.checked os 3 .any (fun w args => (Rows.tokenMakesSpec.pre enc Tryz.prog Tryz.f3 [] false w args ∧ laidMetH Tryz.prog laidL w) ∧ sizedMet enc Tryz.prog Tryz.f3 (OpenSpec.ofChange Rows.tokenMakesSpec) false w args)
      (Rows.tokenMakesSpec.post enc Tryz.prog Tryz.f3 false true false false) := by
  refine returnsInHanded_of_change_and (C := Tryz.checked) (X := fun w _ => laidMetH Tryz.prog laidL w) (fun _ _ _ hh h => h.of_heap hh) Tryz.own started (by kernel_rfl) Tryz.func3
    (ChangeSpec.witness_at (enc := enc) (C := Tryz.checked) (os := os) (X := fun w _ => laidMetH Tryz.prog laidL w) false (laidWorld os) #[.slice none 0 0, .int .i64 0, .slice none 0 0, .agg #[.int .i64 0, .slice none 0 0, .slice none 0 0, .int .u8 0, .int .u8 0, .int .u8 0, .int .u8 0, .int .u8 0, .int .u8 0, .int .u8 0, .int .u8 0, .int .u8 0, .int .u8 0, .int .u8 0, .int .u8 0, .int .u8 0, .int .u8 0, .int .u8 0, .int .u8 0, .int .u8 0, .int .u8 0, .int .u8 0, .int .u8 0, .int .u8 0, .int .u8 0, .int .u8 0, .int .u8 0, .int .u8 0, .int .u8 0, .int .u8 0, .int .u8 0, .int .u8 0, .int .u8 0, .int .u8 0, .int .u8 0], .slice none 0 0] 8 rfl (by kernel_rfl) (by kernel_rfl) (by kernel_rfl) (by kernel_rfl) (by kernel_rfl) (laidWorld_met os _)) ?_
  intro W base args ds gs before hval hW hcnd hsz hL _
  exact law_go (P := Tryz.prog) (fn := Tryz.f3) (s := Rows.tokenMakesSpec) [22, 3, 23, 28, 24] (by kernel_rfl) Tryz.laidOut rfl (by kernel_rfl) (by kernel_rfl) Tryz.ubool
    (fun ds hl => match ds, hl with | [d1, d2, d3, d4, d5], _ => rfl) hval hW hsz (TokenMakes_calls (handle_of_laid hL))

theorem TokenMakes_said : Rows.TokenMakesSaid :=
  OpenClaim.holds_of_wide 3 Tryz.f3 rfl rfl rfl rfl rfl rfl rfl ⟨rfl, rfl, rfl, rfl, rfl⟩ rfl rfl rfl rfl rfl (by kernel_rfl) Tryz.func3 (by kernel_rfl)
    (of_decide_eq_true (by kernel_rfl)) (by unfold Func.isWrapper; first | (rw [if_pos (by decide +kernel)]; kernel_rfl) | (rw [if_neg (by decide +kernel)]; exact ⟨rfl, rfl⟩))
    (fun os started H enc _ => TokenMakes_lifted os started H enc)

theorem TokenMakes_plain (f : FuncId) (fn : Func) (hf : Tryz.pinned.checked.prog.funcNamed "portcullis/portcullislaw24.TokenMakes" = some f) (hfn : Tryz.pinned.checked.prog.funcs[f]? = some fn) :
    true = Tryz.pinned.checked.prog.looks [] ∧ ∀ (j : Nat) t, fn.params[j]? = some t → Tryz.pinned.checked.prog.wantsStandIn t = false := by
  obtain rfl : f = 3 := Option.some.inj ((show Tryz.prog.funcNamed "portcullis/portcullislaw24.TokenMakes" = some 3 by kernel_rfl).symm.trans hf) |>.symm
  obtain rfl : fn = Tryz.f3 := (Option.some.inj (Tryz.func3.symm.trans hfn)).symm
  refine ⟨by kernel_rfl, fun j t ht => ?_⟩
  have hm := Array.mem_of_getElem? ht
  have hm2 : t ∈ ([22, 3, 23, 28, 24] : List Nat) := by
    have : Tryz.f3.params.toList = [22, 3, 23, 28, 24] := by kernel_rfl
    rw [← this]; exact Array.mem_toList_iff.2 hm
  simp only [List.mem_cons, List.not_mem_nil, or_false] at hm2
  rcases hm2 with rfl | rfl | rfl | rfl | rfl <;> (first | kernel_rfl | rfl)

theorem TokenMakes_holds : Rows.TokenMakesCardSaid :=
  Claim7.holds_tied_plain_at .later [] _ _ _ _ TokenMakes_said (fun _ h => by cases h) (by kernel_rfl) (fun _ h => by cases h) tokenMakes_row_tie rfl ⟨rfl, rfl⟩ (by kernel_rfl) rfl TokenMakes_plain (by kernel_rfl)

end Go.Proofs.YtijcpgahmbkijaaGreatDoor
end
