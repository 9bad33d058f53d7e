/- StoreDoes: what is proved and its parts, laid together by a program of ours: Ly3 St4 Sr St5 St6 ScO RwStoreDoes -/
import Derived.Test.YteabcbpimjjdpaaGreatK15
set_option autoImplicit false
set_option linter.all false
/- The document's log: target, number, worn, turn, lay. Own work. -/
section
set_option maxRecDepth 100000
set_option linter.unusedVariables false
namespace Go.Proofs.YteabcbpimjjdpaaGreat
open Go Go.Vc

section
variable {h0 h : H} {A : List Ent} {i j p r l b : Nat} {C : Cm}
theorem ref_er (hs : Sat h0 A h) (cj : At A j (refE r C)) {k : Nat} (hk : (k : Int) < C.s.erases.length) :
    ∃ (q : Nat) (n c : Nat), hc h ⟨r, 8, none⟩ = some (.slice (some ⟨q, 0, none⟩) n c) ∧ (k : Int) < n ∧ hc h ⟨q, k, none⟩ = some (.int .i64 (C.er k)) := by
  obtain ⟨⟨w, ms⟩, ⟨ok, _, _, _⟩, hs⟩ := (hs.front cj).open_
  dsimp only [refL, List.cons_append, List.nil_append] at hs
  have hl := hs.sl_len (i := 2) (.s (.s .z))
  simp only [ints_length, Nat.mul_one] at hl
  have hkn : k < C.s.erases.length := by omega
  obtain ⟨q, hq⟩ := hs.sl_some (i := 2) (.s (.s .z)) (by omega)
  have e8 := hs.ld (i := 0) .z (o := 8) rfl
  obtain ⟨⟨a1, a2, a3⟩, ⟨b1, b2, b3⟩, c, m⟩ := w
  dsimp only at hq hl hs
  subst hq
  refine ⟨q, b2, b3, e8, by omega, hs.sld (i := 2) (.s (.s .z)) ?_⟩
  rw [ints_get, List.getElem?_eq_getElem hkn]
  unfold Cm.er
  simp [List.getD, List.getElem?_eq_getElem hkn]
theorem rTarget9_sp {Q : Int → H → Prop} (hs : Sat h0 A h) (cj : At A j (refE r C)) (cl : At A i (logE l r)) (ho : C.out = false) (k : ∀ h', Sat h0 A h' → Q (tgtM C : Int) h') : F_portcullisref09_Log_target ⟨l, 0, none⟩ Q h := by
  unfold F_portcullisref09_Log_target G_portcullisref09_Log_target
  refine rPresent9_sp hs cj cl ?_
  intro h1 hs
  have e : presT C = presM C := by unfold presT; rw [if_neg (by simp [ho])]
  rw [e]
  have := k _ hs
  rw [← tgt_eq] at this
  by_cases g : presM C = 0
  · rw [if_pos g] at this; rw [if_pos (by simpa using g)]; exact this
  · rw [if_neg g] at this; rw [if_neg (by simpa using g)]; exact this
theorem rinfo_in {C : Cm} (ho : C.out = false) : rinfo C = infoM C := by unfold rinfo; rw [if_neg (by simp [ho])]
theorem rNumber9_sp {Q : Int → Int → H → Prop} (hs : Sat h0 A h) (cj : At A j (refE r C)) (cl : At A i (logE l r)) (slot : Int) (k : ∀ h', Sat h0 A h' → Q (numberM C slot).1 (numberM C slot).2 h') : F_portcullisref09_Log_Number ⟨l, 0, none⟩ slot Q h := by
  unfold F_portcullisref09_Log_Number G_portcullisref09_Log_Number
  have ok := ref_ok hs cj
  have hm := ok.may.slots
  obtain ⟨w, lc⟩ := ref_cell hs cj
  refine ⟨_, hs.ld cl rfl, _, rfl, _, lc 11 _ rfl, ?_⟩
  unfold numberM at k
  by_cases ho : C.out = true
  · rw [if_pos ho] at k ⊢; exact k _ hs
  rw [if_neg ho] at k ⊢
  have ho' : C.out = false := by simpa using ho
  by_cases g1 : slot < 0
  · rw [ltI_eq, if_pos (by simpa using g1)]
    rw [if_pos (by omega)] at k
    exact k _ hs
  rw [ltI_eq, if_neg (by simpa using g1)]
  refine ⟨_, hs.ld cl rfl, _, rfl, _, lc 1 _ rfl, ?_⟩
  by_cases g2 : C.cfg.slots < slot
  · rw [ltI_eq, if_pos (by simpa using g2)]
    rw [if_pos (by omega)] at k
    exact k _ hs
  rw [ltI_eq, if_neg (by simpa using g2)]
  rw [if_neg (fun y => y ⟨by omega, by omega⟩)] at k
  refine rInfo9_sp hs cj cl ?_
  intro h1 hs
  rw [rinfo_in ho']
  exact ⟨by omega, by omega, k _ hs⟩
theorem rWorn9_sp {Q : Bool → H → Prop} (hs : Sat h0 A h) (cj : At A j (refE r C)) (cl : At A i (logE l r)) (k : ∀ h', Sat h0 A h' → Q (wornT C) h') : F_portcullisref09_Log_Worn ⟨l, 0, none⟩ Q h := by
  unfold F_portcullisref09_Log_Worn G_portcullisref09_Log_Worn
  have ok := ref_ok hs cj
  obtain ⟨w, lc⟩ := ref_cell hs cj
  refine ⟨_, hs.ld cl rfl, _, rfl, _, lc 11 _ rfl, ?_⟩
  unfold wornT at k
  by_cases ho : C.out = true
  · rw [if_pos ho] at k ⊢; exact k _ hs
  rw [if_neg ho] at k ⊢
  have ho' : C.out = false := by simpa using ho
  refine rTarget9_sp hs cj cl ho' ?_
  intro h1 hs
  have ht := tgt_lt C
  obtain ⟨h2, h3⟩ := ok_pages ok
  obtain ⟨pl, pc, q, xp, xl, xc, e7, hl, hx, exl, hrd, hb, hl60⟩ := rPage hs cj (k := tgtM C) (by omega)
  refine ⟨_, hs.ld cl rfl, _, rfl, _, _, _, e7, _, rfl, by omega, by omega, _, _, _, by rw [Nat.mul_one, Int.toNat_natCast]; exact hx, ?_⟩
  refine Of_sp (A := []) (Sat.init _) (fun h' hs' => hsv_ext hs'.ex hrd (fun _ _ y => y)) hb hl60 ?_
  intro h4 hs2; replace hs := hs.ext hs2.ex; clear hs2
  subst exl
  have fin : ((!(pI C (tgtM C)).blank && decide (C.cfg.erases ≤ C.er (tgtM C))) = false) → ∀ h', Sat h0 A h' → F_portcullisref09_Log_info ⟨l, 0, none⟩ (fun i36 l37 i38 b39 i40 h41 => ∀ i42 : Int, i42 = 4611686018427387904 → Q (leI i42 i36) h41) h' := by
    intro e h' hs
    refine rInfo9_sp hs cj cl ?_
    intro h5 hs i42 hi
    subst hi
    rw [rinfo_in ho', leI_eq]
    have := k _ hs
    unfold wornF at this
    rw [e, Bool.false_or] at this
    exact this
  show if (!(pI C (tgtM C)).blank) = true then _ else _
  by_cases g : (pI C (tgtM C)).blank = true
  · rw [if_neg (by rw [g]; decide)]
    exact fin (by rw [g]; rfl) _ hs
  · have g' : (pI C (tgtM C)).blank = false := by simpa using g
    rw [if_pos (by rw [g']; decide)]
    obtain ⟨eq, en, ec, e8, el, ee⟩ := ref_er hs cj (k := tgtM C) (by omega)
    obtain ⟨w, lc⟩ := ref_cell hs cj
    refine ⟨_, hs.ld cl rfl, _, rfl, _, _, _, e8, _, rfl, by omega, by omega, ?_⟩
    rw [Int.toNat_natCast, Nat.mul_one, add_mk, Nat.zero_add]
    refine ⟨_, ee, _, hs.ld cl rfl, _, rfl, _, lc 5 _ rfl, ?_⟩
    by_cases g2 : C.cfg.erases ≤ C.er (tgtM C)
    · rw [leI_eq, if_pos (by simpa using g2)]
      have := k _ hs
      unfold wornF at this
      rw [g', decide_eq_true g2] at this
      exact this
    · rw [leI_eq, if_neg (by simpa using g2)]
      exact fin (by rw [decide_eq_false g2, Bool.and_false]) _ hs
theorem rTurn9_sp {Q : Int → H → Prop} (hs : Sat h0 A h) (cj : At A j (refE r C)) (cl : At A i (logE l r)) (hij : i ≠ j) (ho : C.out = false) (slot : Nat) (n : Int) (hsl : (slot : Int) ≤ C.cfg.slots) (hn1 : 1 ≤ n) (hn2 : n ≤ most) (hg : (infoM C).head < most)
    (k : ∀ h', Sat h0 (put A j (refE r (turnL C slot n).1)) h' → Q (turnL C slot n).2 h') : F_portcullisref09_Log_turn ⟨l, 0, none⟩ (slot : Int) n Q h := by
  unfold F_portcullisref09_Log_turn G_portcullisref09_Log_turn
  try simp only [add_mk, Nat.zero_add, List.append_nil]
  have ok := ref_ok hs cj
  have hslots := ok.may.slots
  have hcells := ok.may.cells
  have ht := tgt_lt C
  have iok := infoM_ok ok
  have ilen := infoM_len C
  obtain ⟨hp2, he2⟩ := ok_pages ok
  refine rTarget9_sp hs cj cl ho ?_
  intro h1 hs
  refine rInfo9_sp hs cj cl ?_
  intro h2 hs
  rw [rinfo_in ho]
  intro n20 _ hn; replace hs := Sat.new hs hn; clear hn
  refine ⟨Sat.can hs (i := 0) .z (by decide), ?_⟩
  intro h3 e3
  replace hs := Sat.wra hs (i := 0) .z e3 ((inf_len ilen).trans rfl)
  clear e3
  replace hs : Sat h0 (blk n20 (infI (infoM C)) :: A) h3 := hs
  obtain ⟨t, htd⟩ : ∃ t, t = tgtM C := ⟨_, rfl⟩
  obtain ⟨nums, hnums⟩ : ∃ nums, nums = (infoM C).nums.set slot n := ⟨_, rfl⟩
  have hnb : ∀ x, 0 ≤ nums.getD x 0 ∧ nums.getD x 0 ≤ most := by
    intro x
    rw [hnums, set_getD]
    split
    · omega
    · exact iok.nums x
  have hnl : nums.length = 9 := by rw [hnums, List.length_set, ilen]
  have kk : turnL C slot n = if (pI C t).blank = true then turnA (infoM C).head (t : Int) nums (C.cfg.slots + 1).toNat C else if (eraseM C (t : Int)).2 ≠ 0 then eraseM C (t : Int) else turnA (infoM C).head (t : Int) nums (C.cfg.slots + 1).toNat (eraseM C (t : Int)).1 := by rw [htd, hnums]; rfl
  rw [kk] at k
  rw [← htd] at ht ⊢
  clear kk
  obtain ⟨pl, pc, q, xp, xl, xc, e7, hl, hx, exl, hrd, hb, hl60⟩ := rPage hs cj.s (k := t) (by omega)
  refine ⟨_, hs.ld cl.s rfl, _, rfl, _, _, _, e7, _, rfl, by omega, by omega, _, _, _, by rw [Nat.mul_one, Int.toNat_natCast]; exact hx, ?_⟩
  refine Of_sp (A := []) (Sat.init _) (fun h' hs' => hsv_ext hs'.ex hrd (fun _ _ y => y)) hb hl60 ?_
  intro h4 hs2; replace hs := hs.ext hs2.ex; clear hs2
  subst exl
  intro J40 hJ40
  have way : ∀ (D : Cm) h', D.cfg = C.cfg → Sat h0 (blk n20 (infI (infoM C)) :: put A j (refE r D)) h' →
      (∀ h', Sat h0 (put A j (refE r (turnA (infoM C).head (t : Int) nums (C.cfg.slots + 1).toNat D).1)) h' → Q (turnA (infoM C).head (t : Int) nums (C.cfg.slots + 1).toNat D).2 h') → J40 [] h' := by
    intro D h5 hcf hs k
    apply hJ40
    clear hJ40 J40
    have cj2 := cj.put (refE r D)
    have cl2 := cl.put_ne hij (refE r D)
    have pp : ∀ E : Cm, put (put A j (refE r D)) j (refE r E) = put A j (refE r E) := fun E => put_put _ _ _ _
    generalize put A j (refE r D) = A2 at *
    refine ⟨by omega, by omega, ?_⟩
    rw [Int.toNat_natCast, Nat.mul_one]
    try simp only [add_mk, Nat.zero_add]
    refine ⟨Sat.can hs (i := 0) .z (by rw [inf_len ilen]; omega), ?_⟩
    intro h6 e6
    replace hs := Sat.wr hs (i := 0) .z e6
    clear e6
    rw [inf_sn ilen (by omega), ← hnums] at hs
    simp only [put] at hs
    intro J44 hJ44
    obtain ⟨m, hm⟩ : ∃ m, m = (C.cfg.slots + 1).toNat := ⟨_, rfl⟩
    rw [← hm] at k
    have hm9 : m ≤ 9 := by omega
    obtain ⟨E, hE⟩ : ∃ E, E = turnP (t : Int) nums m 0 1 D := ⟨_, rfl⟩
    have kE : turnA (infoM C).head (t : Int) nums m D = if E.2 ≠ 0 then E else programM E.1 (t : Int) 0 (headM ((infoM C).head + 1)).1 := by unfold turnA; rw [← hE]
    rw [kE] at k
    clear kE
    obtain ⟨I, hI⟩ : ∃ I : Inf, I = { infoM C with nums := nums } := ⟨_, rfl⟩
    have hIl : I.nums.length = 9 := by rw [hI]; exact hnl
    have hIh : I.head = (infoM C).head := by rw [hI]
    have hIn : I.nums = nums := by rw [hI]
    replace hs : Sat h0 (blk n20 (infI I) :: A2) h6 := by rw [hI]; exact hs
    refine loop_st m (fun x (a : Nat) => [.dv (.one (.int .i64 (a : Int))), si x]) (fun x a h => ∃ F : Cm, F.cfg = C.cfg ∧ a ≤ x + 1 ∧ Sat h0 (blk n20 (infI I) :: put A2 j (refE r F)) h ∧ turnP (t : Int) nums (m - x) x a F = E) ?_ ?_ 0 1 _ (by omega)
      ⟨D, hcf, by omega, by rw [cj2.put_self]; exact hs, hE.symm⟩
    · rintro x a h7 hx ⟨F, ecF, hat, hs, hT⟩ hk
      apply hJ44
      obtain ⟨w, lc⟩ := ref_cell hs (cj2.put (refE r F)).s
      refine ⟨_, hs.ld (cl2.put_ne hij (refE r F)).s rfl, _, rfl, _, lc 1 _ rfl, ?_⟩
      rw [ecF, leI_eq, if_pos (by simp; omega)]
      obtain ⟨m', hm'⟩ : ∃ m', m - x = m' + 1 := ⟨m - x - 1, by omega⟩
      rw [hm'] at hT
      unfold turnP at hT
      have g : hc h7 ⟨n20, 1 + x, none⟩ = some (.int .i64 (nums.getD x 0)) := hs.ld (i := 0) .z (by rw [inf_num hIl (by omega), hIn])
      rw [wrap_succ (i := x) (by omega)]
      refine ⟨by omega, by omega, ?_⟩
      rw [Int.toNat_natCast, Nat.mul_one]
      try simp only [add_mk, Nat.zero_add]
      refine ⟨_, g, ?_⟩
      by_cases gz : nums.getD x 0 = 0
      · rw [if_pos gz] at hT
        rw [if_pos (by simpa using gz)]
        exact hk a _ ⟨F, ecF, by omega, hs, by rw [show m - (x + 1) = m' by omega]; exact hT⟩
      rw [if_neg gz] at hT
      rw [if_neg (by simpa using gz)]
      refine ⟨by omega, by omega, _, g, ?_⟩
      have hb := hnb x
      refine rValue_sp (x : Int) (nums.getD x 0) hs ?_
      intro h8 hs
      have hl := valueM_length (x : Int) (nums.getD x 0)
      generalize (valueM (x : Int) (nums.getD x 0)).1 = rec at *
      intro n56 _ hn; replace hs := Sat.new hs hn; clear hn
      refine ⟨Sat.can hs (i := 0) .z (by simp [zeros]), ?_⟩
      intro h9 e9
      replace hs := Sat.wra hs (i := 0) .z e9 (by simp [zeros, hl])
      clear e9
      simp only [put] at hs
      refine ⟨_, hs.ld (cl2.put_ne hij (refE r F)).s.s rfl, _, hl, hs.row0 (i := 0) .z, _, rfl, ?_⟩
      have hcfF := program_cfg F (t : Int) (a : Int) rec
      refine rProgram_sp hs (cj2.put (refE r F)).s.s (t : Int) (a : Int) rec hl ?_
      intro h10 hs
      simp only [put_succ, put_put] at hs
      generalize programM F (t : Int) (a : Int) rec = X at *
      by_cases ge : X.2 = 0
      · rw [if_neg (by simpa using ge)] at hT
        rw [if_neg (by simpa using ge), wrap_succ (i := a) (by omega)]
        exact hk (a + 1) _ ⟨X.1, hcfF.trans ecF, by omega, hs.drop, by rw [show m - (x + 1) = m' by omega]; exact hT⟩
      · rw [if_pos (by simpa using ge)] at hT
        rw [if_pos (by simpa using ge)]
        rw [← hT, if_pos ge] at k
        refine k _ ?_
        rw [← pp]
        exact hs.drop.drop
    · rintro a h7 ⟨F, ecF, hat, hs, hT⟩
      apply hJ44
      obtain ⟨w, lc⟩ := ref_cell hs (cj2.put (refE r F)).s
      refine ⟨_, hs.ld (cl2.put_ne hij (refE r F)).s rfl, _, rfl, _, lc 1 _ rfl, ?_⟩
      rw [ecF, leI_eq, if_neg (by simp; omega)]
      rw [Nat.sub_self] at hT
      unfold turnP at hT
      rw [← hT, if_neg (by simp)] at k
      dsimp only at k
      refine ⟨_, hs.ld (i := 0) .z rfl, ?_⟩
      have ih := iok.head
      have hmv := most_val
      rw [hIh, wrap_id (by omega)]
      refine rHead_sp ((infoM C).head + 1) hs ?_
      intro h8 hs
      have hhl := headM_length ((infoM C).head + 1)
      generalize (headM ((infoM C).head + 1)).1 = rec at *
      intro n70 _ hn; replace hs := Sat.new hs hn; clear hn
      refine ⟨Sat.can hs (i := 0) .z (by simp [zeros]), ?_⟩
      intro h9 e9
      replace hs := Sat.wra hs (i := 0) .z e9 (by simp [zeros, hhl])
      clear e9
      simp only [put] at hs
      refine ⟨_, hs.ld (cl2.put_ne hij (refE r F)).s.s rfl, _, hhl, hs.row0 (i := 0) .z, _, rfl, ?_⟩
      refine rProgram_sp hs (cj2.put (refE r F)).s.s (t : Int) 0 rec hhl ?_
      intro h10 hs
      simp only [put_succ, put_put] at hs
      refine k _ ?_
      rw [← pp]
      exact hs.drop.drop
  show if (!(pI C t).blank) = true then _ else _
  by_cases g : (pI C t).blank = true
  · rw [if_pos g] at k
    rw [if_neg (by rw [g]; decide)]
    refine way C _ rfl ?_ k
    rw [cj.put_self]
    exact hs
  · rw [if_neg g] at k
    rw [if_pos (by simpa using g)]
    refine ⟨_, hs.ld cl.s rfl, _, rfl, ?_⟩
    refine rErase_sp hs cj.s (t : Int) ?_
    intro h5 hs
    simp only [put_succ] at hs
    have hcf := erase_cfg C (t : Int)
    generalize eraseM C (t : Int) = X at *
    by_cases ge : X.2 = 0
    · rw [if_neg (by simpa using ge)] at k
      rw [if_neg (by simpa using ge)]
      exact way X.1 _ hcf hs k
    · rw [if_pos (by simpa using ge)] at k
      rw [if_pos (by simpa using ge)]
      exact k _ hs.drop
theorem rLay9_sp {Q : Int → H → Prop} (hs : Sat h0 A h) (cj : At A j (refE r C)) (cl : At A i (logE l r)) (hij : i ≠ j) (slot n : Int)
    (k : ∀ h', Sat h0 (put A j (refE r (layL C slot n).1)) h' → Q (layL C slot n).2 h') : F_portcullisref09_Log_Lay ⟨l, 0, none⟩ slot n Q h := by
  unfold F_portcullisref09_Log_Lay G_portcullisref09_Log_Lay
  try simp only [add_mk, Nat.zero_add, List.append_nil]
  have ok := ref_ok hs cj
  have hslots := ok.may.slots
  have hmv := most_val
  refine rNumber9_sp hs cj cl slot ?_
  intro h1 hs
  have same : put A j (refE r C) = A := cj.put_self
  unfold layL at k
  by_cases ho : C.out = true
  · have e : numberM C slot = (0, 8) := by unfold numberM; rw [if_pos ho]
    rw [if_pos ho] at k
    rw [e, if_pos (by simp)]
    exact k _ (by rw [same]; exact hs)
  rw [if_neg ho] at k
  have ho' : C.out = false := by simpa using ho
  by_cases gs : 0 ≤ slot ∧ slot ≤ C.cfg.slots
  case neg =>
    have e : numberM C slot = (0, 2) := by unfold numberM; rw [if_neg ho, if_pos gs]
    rw [if_pos (fun y => gs ⟨y.1, y.2.1⟩)] at k
    rw [e, if_pos (by simp)]
    exact k _ (by rw [same]; exact hs)
  have e : numberM C slot = ((infoM C).nums.getD slot.toNat 0, 0) := by unfold numberM; rw [if_neg ho, if_neg (fun y => y gs)]
  rw [e, if_neg (by simp)]
  intro J16 hJ16
  by_cases g1 : n < 1
  · rw [if_pos (fun y => by omega)] at k
    rw [ltI_eq, if_pos (by simpa using g1)]
    exact k _ (by rw [same]; exact hs)
  rw [ltI_eq, if_neg (by simpa using g1)]
  intro i47 hi47
  subst hi47
  by_cases g2 : most < n
  · rw [if_pos (fun y => by omega)] at k
    rw [ltI_eq, if_pos (by rw [decide_eq_true_iff]; exact g2)]
    exact k _ (by rw [same]; exact hs)
  rw [ltI_eq, if_neg (by rw [decide_eq_true_iff]; exact g2)]
  rw [if_neg (fun y => y ⟨gs.1, gs.2, by omega, by omega⟩)] at k
  apply hJ16
  clear hJ16 J16
  dsimp only
  by_cases g3 : n ≤ (infoM C).nums.getD slot.toNat 0
  · rw [if_pos g3] at k
    rw [leI_eq, if_pos (by rw [decide_eq_true_iff]; exact g3)]
    exact k _ (by rw [same]; exact hs)
  rw [if_neg g3] at k
  rw [leI_eq, if_neg (by rw [decide_eq_true_iff]; exact g3)]
  refine rFree9_sp hs cj cl ?_
  intro h2 hs
  have hfr : 0 < freeT C ↔ (0 ≤ presM C ∧ (infoM C).next < C.cfg.cells) := by
    unfold freeT
    rw [if_neg ho]
    split
    · constructor <;> intro y <;> omega
    · constructor <;> intro y <;> omega
  by_cases g4 : 0 < freeT C
  · rw [if_pos (hfr.1 g4)] at k
    rw [ltI_eq, if_pos (by simpa using g4)]
    obtain ⟨sl, rfl⟩ := Int.eq_ofNat_of_zero_le gs.1
    refine rValue_sp (sl : Int) n hs ?_
    intro h3 hs
    have hl := valueM_length (sl : Int) n
    generalize (valueM (sl : Int) n).1 = rec at *
    intro n23 _ hn; replace hs := Sat.new hs hn; clear hn
    refine ⟨Sat.can hs (i := 0) .z (by simp [zeros]), ?_⟩
    intro h4 e4
    replace hs := Sat.wra hs (i := 0) .z e4 (by simp [zeros, hl])
    clear e4
    simp only [put] at hs
    refine ⟨_, hs.ld cl.s rfl, _, hl, hs.row0 (i := 0) .z, ?_⟩
    refine rPresent9_sp hs cj.s cl.s ?_
    intro h5 hs
    refine ⟨Sat.whole hs (i := 0) .z, hcs_one (hs.ld cl.s rfl), ?_⟩
    refine rInfo9_sp hs cj.s cl.s ?_
    intro h6 hs
    refine ⟨Sat.whole hs (i := 0) .z, hcs_one (hs.ld cl.s rfl), _, rfl, ?_⟩
    have ep : presT C = presM C := by unfold presT; rw [if_neg ho]
    rw [ep, rinfo_in ho']
    refine rProgram_sp hs cj.s (presM C) (infoM C).next rec hl ?_
    intro h7 hs
    simp only [put_succ] at hs
    exact k _ hs.drop
  · rw [if_neg (fun y => g4 (hfr.2 y))] at k
    rw [ltI_eq, if_neg (by simpa using g4)]
    refine rWorn9_sp hs cj cl ?_
    intro h3 hs
    have ew : wornT C = wornF C := by unfold wornT; rw [if_neg ho]
    rw [ew]
    by_cases gw : wornF C = true
    · rw [if_pos gw] at k ⊢
      exact k _ (by rw [same]; exact hs)
    rw [if_neg gw] at k ⊢
    have hgm : (infoM C).head < most := by
      have : ¬ most ≤ (infoM C).head := fun y => gw (by unfold wornF; rw [decide_eq_true y, Bool.or_true])
      omega
    obtain ⟨sl, rfl⟩ := Int.eq_ofNat_of_zero_le gs.1
    exact rTurn9_sp hs cj cl hij ho' sl n gs.2 (by omega) (by omega) hgm k
end
end Go.Proofs.YteabcbpimjjdpaaGreat
end

/- The document's store. Own work. -/
section
set_option maxRecDepth 100000
set_option linter.unusedVariables false
namespace Go.Proofs.YteabcbpimjjdpaaGreat
open Go Go.Vc

def sActive (C : Cm) : Int × Int := numberM C C.cfg.slots
def sActivate (C : Cm) (n : Int) : Cm × Int :=
  if (sActive C).2 ≠ 0 then (C, (sActive C).2) else if n ≤ (sActive C).1 then (C, 2) else if most < n then (C, 2) else layL C C.cfg.slots n
section
variable {h0 h : H} {A : List Ent} {i j p r b s m : Nat} {C : Cm}
theorem sActive_sp {Q : Int → Int → H → Prop} (hs : Sat h0 A h) (ci : At A i (chipE p C)) (cl : At A j (logE r p)) (st : At A m (storeE s p r)) (k : ∀ h', Sat h0 A h' → Q (sActive C).1 (sActive C).2 h') : F_store_Store_Active ⟨s, 0, none⟩ Q h := by
  unfold F_store_Store_Active G_store_Store_Active
  try simp only [add_mk, Nat.zero_add]
  refine ⟨_, hs.ld st rfl, _, rfl, ?_⟩
  refine Out_sp hs ci ?_
  by_cases ho : C.out = true
  · rw [if_pos ho]
    have e : sActive C = (0, 8) := by unfold sActive numberM; rw [if_pos ho]
    rw [e] at k
    exact k _ hs
  rw [if_neg ho]
  refine ⟨_, hs.ld st rfl, _, hs.ld st rfl, _, rfl, ?_⟩
  refine Config_sp hs ci ?_
  intro h1 hs
  refine ⟨hcs_one (hs.ld st rfl), _, rfl, ?_⟩
  refine Number_sp hs ci cl C.cfg.slots ?_
  intro h2 hs
  exact k _ hs
theorem sActivate_sp {Q : Int → H → Prop} (hs : Sat h0 A h) (ci : At A i (chipE p C)) (cl : At A j (logE r p)) (st : At A m (storeE s p r)) (hij : j ≠ i) (n : Int) (k : ∀ h', Sat h0 (put A i (chipE p (sActivate C n).1)) h' → Q (sActivate C n).2 h') : F_store_Store_Activate ⟨s, 0, none⟩ n Q h := by
  unfold F_store_Store_Activate G_store_Store_Activate
  try simp only [add_mk, Nat.zero_add]
  refine sActive_sp hs ci cl st ?_
  intro h1 hs
  unfold sActivate at k
  by_cases ge : (sActive C).2 = 0
  case neg =>
    rw [if_pos ge] at k
    rw [if_pos (by simpa using ge)]
    exact k _ (by rw [ci.put_self]; exact hs)
  rw [if_neg (fun y => y ge)] at k
  rw [if_neg (by simpa using ge)]
  by_cases g1 : n ≤ (sActive C).1
  · rw [if_pos g1] at k
    rw [leI_eq, if_pos (by simpa using g1)]
    exact k _ (by rw [ci.put_self]; exact hs)
  rw [if_neg g1] at k
  rw [leI_eq, if_neg (by simpa using g1)]
  intro i10 hi
  subst hi
  by_cases g2 : most < n
  · rw [if_pos g2] at k
    rw [ltI_eq, if_pos (by rw [decide_eq_true_iff]; exact g2)]
    exact k _ (by rw [ci.put_self]; exact hs)
  rw [if_neg g2] at k
  rw [ltI_eq, if_neg (by rw [decide_eq_true_iff]; exact g2)]
  refine ⟨_, hs.ld st rfl, _, hs.ld st rfl, _, rfl, ?_⟩
  refine Config_sp hs ci ?_
  intro h2 hs
  refine ⟨hcs_one (hs.ld st rfl), _, rfl, ?_⟩
  exact Lay9_sp hs ci cl hij C.cfg.slots n k
theorem rNumber_sp {Q : Int → Int → H → Prop} (hs : Sat h0 A h) (cj : At A j (refE r C)) (slot : Int) (k : ∀ h', Sat h0 A h' → Q (numberM C slot).1 (numberM C slot).2 h') : F_portcullisref09_Number ⟨r, 0, none⟩ slot Q h := by
  unfold F_portcullisref09_Number G_portcullisref09_Number
  intro n5 _ hn; replace hs := Sat.new hs hn; clear hn
  refine rNumber9_sp hs cj.s (i := 0) .z slot ?_
  intro h1 hs
  exact k _ hs.drop
theorem rLay_sp9 {Q : Int → H → Prop} (hs : Sat h0 A h) (cj : At A j (refE r C)) (slot n : Int) (k : ∀ h', Sat h0 (put A j (refE r (layL C slot n).1)) h' → Q (layL C slot n).2 h') : F_portcullisref09_Lay ⟨r, 0, none⟩ slot n Q h := by
  unfold F_portcullisref09_Lay G_portcullisref09_Lay
  intro n5 _ hn; replace hs := Sat.new hs hn; clear hn
  refine rLay9_sp hs cj.s (i := 0) .z (by omega) slot n ?_
  intro h1 hs
  simp only [put_succ] at hs
  exact k _ hs.drop
theorem rSlot10_sp {Q : Int → H → Prop} (hs : Sat h0 A h) (cj : At A j (refE r C)) (slot : Int) (k : Q (askedM C slot C.cfg.slots) h) : F_portcullisref10_Slot ⟨r, 0, none⟩ slot Q h := by
  unfold F_portcullisref10_Slot G_portcullisref10_Slot
  try simp only [add_mk, Nat.zero_add]
  obtain ⟨w, lc⟩ := ref_cell hs cj
  refine ⟨_, lc 11 _ rfl, ?_⟩
  unfold askedM at k
  by_cases ho : C.out = true
  · rw [if_pos ho] at k ⊢; exact k
  rw [if_neg ho] at k ⊢
  by_cases g1 : slot < 0
  · rw [if_pos g1] at k; rw [ltI_eq, if_pos (by simpa using g1)]; exact k
  rw [if_neg g1] at k; rw [ltI_eq, if_neg (by simpa using g1)]
  refine ⟨_, lc 1 _ rfl, ?_⟩
  by_cases g2 : C.cfg.slots ≤ slot
  · rw [if_pos g2] at k; rw [leI_eq, if_pos (by simpa using g2)]; exact k
  rw [if_neg g2] at k; rw [leI_eq, if_neg (by simpa using g2)]; exact k
theorem rRead10_sp {Q : Int → Int → H → Prop} (hs : Sat h0 A h) (cj : At A j (refE r C)) (slot : Int) (k : ∀ h', Sat h0 A h' → Q (sRead C slot).1 (sRead C slot).2 h') : F_portcullisref10_Read ⟨r, 0, none⟩ slot Q h := by
  unfold F_portcullisref10_Read G_portcullisref10_Read
  try simp only [add_mk, Nat.zero_add]
  have ok := ref_ok hs cj
  refine rSlot10_sp hs cj slot ?_
  unfold sRead at k
  by_cases ha : askedM C slot C.cfg.slots = 0
  case neg =>
    rw [if_pos (by simpa using ha)]
    rw [if_pos ha] at k
    exact k _ hs
  rw [if_neg (fun y => y ha)] at k
  rw [if_neg (by simpa using ha)]
  obtain ⟨ho, g0, g1⟩ := askedM_zero ha
  refine rNumber_sp hs cj slot ?_
  intro h1 hs
  have en : numberM C slot = (numOf C slot.toNat, 0) := by
    unfold numberM
    rw [if_neg (by simp [ho]), if_neg (fun y => y ⟨g0, by omega⟩)]
  rw [en]
  refine rCount_sp hs cj slot ?_
  intro h2 hs
  obtain ⟨w, lc⟩ := ref_cell hs cj
  refine ⟨_, lc 3 _ rfl, ?_⟩
  obtain ⟨v0, v1, _⟩ := valS_in ok slot
  rw [wrap_id (by omega)]
  have e : (if (countM C slot).1 * C.cfg.step > numOf C slot.toNat then (countM C slot).1 * C.cfg.step else numOf C slot.toNat) = valS C slot := by
    unfold valS
    split
    · rw [if_neg (by omega)]
    · split <;> omega
  dsimp only
  rw [e]
  exact k _ hs
theorem rLast10_sp {Q : Int → H → Prop} {c : Cfg} (hm : c.may) (hs : Sat h0 A h) (k : ∀ h', Sat h0 A h' → Q (lastM c) h') : F_portcullisref10_Last c.cells c.slots c.fuses c.step c.keys c.erases c.area Q h := by
  unfold F_portcullisref10_Last G_portcullisref10_Last
  try simp only [add_mk, Nat.zero_add]
  obtain ⟨l0, l1, l2, l3⟩ := lastM_in hm
  have h1 := hm.step
  intro n9 _ hn; replace hs := Sat.new hs hn; clear hn
  refine ⟨_, hs.ld (i := 0) .z rfl, _, hs.ld (i := 0) .z rfl, _, hs.ld (i := 0) .z rfl, ?_⟩
  rw [wrap_id (n := c.step * c.fuses) (by omega), wrap_id (n := c.step * c.fuses + c.step) (by omega), wrap_id (by unfold lastM at l0 l1; omega)]
  exact k _ hs.drop
theorem rBumpTo10_sp {Q : Int → H → Prop} (hs : Sat h0 A h) (cj : At A j (refE r C)) (slot v : Int) (k : ∀ h', Sat h0 (put A j (refE r (sBumpTo C slot v).1)) h' → Q (sBumpTo C slot v).2 h') : F_portcullisref10_BumpTo ⟨r, 0, none⟩ slot v Q h := by
  unfold F_portcullisref10_BumpTo G_portcullisref10_BumpTo
  try simp only [add_mk, Nat.zero_add]
  have ok := ref_ok hs cj
  have hst := ok.may.step
  have hl := lastM_in ok.may
  refine rRead10_sp hs cj slot ?_
  intro h1 hs
  have same : put A j (refE r C) = A := cj.put_self
  unfold sBumpTo at k
  by_cases ge : (sRead C slot).2 = 0
  case neg =>
    rw [if_pos ge] at k
    rw [if_pos (by simpa using ge)]
    exact k _ (by rw [same]; exact hs)
  rw [if_neg (fun y => y ge)] at k
  rw [if_neg (by simpa using ge)]
  by_cases g1 : v < 0
  · rw [if_pos g1] at k
    rw [ltI_eq, if_pos (by simpa using g1)]
    exact k _ (by rw [same]; exact hs)
  rw [if_neg g1] at k
  rw [ltI_eq, if_neg (by simpa using g1)]
  by_cases g2 : v ≤ (sRead C slot).1
  · rw [if_pos g2] at k
    rw [leI_eq, if_pos (by simpa using g2)]
    exact k _ (by rw [same]; exact hs)
  rw [if_neg g2] at k
  rw [leI_eq, if_neg (by simpa using g2)]
  obtain ⟨w, lc⟩ := ref_cell hs cj
  refine ⟨_, lc 0 _ rfl, _, lc 1 _ rfl, _, lc 2 _ rfl, _, lc 3 _ rfl, _, lc 4 _ rfl, _, lc 5 _ rfl, _, lc 6 _ rfl, ?_⟩
  refine rLast10_sp ok.may hs ?_
  intro h2 hs
  by_cases g3 : lastM C.cfg < v
  · rw [if_pos g3] at k
    rw [ltI_eq, if_pos (by simpa using g3)]
    exact k _ (by rw [same]; exact hs)
  rw [if_neg g3] at k
  rw [ltI_eq, if_neg (by simpa using g3)]
  refine rLay_sp9 hs cj slot v ?_
  intro h3 hs
  have ecf := layL_cfg ok slot v
  generalize layL C slot v = X at *
  by_cases gx : X.2 = 0
  case neg =>
    rw [if_pos gx] at k
    rw [if_pos (by simpa using gx)]
    exact k _ hs
  rw [if_neg (fun y => y gx)] at k
  rw [if_neg (by simpa using gx)]
  obtain ⟨w, lc⟩ := ref_cell hs (cj.put (refE r X.1))
  refine ⟨_, lc 3 _ rfl, ?_⟩
  rw [ecf]
  have hd0 : 0 ≤ v.tdiv C.cfg.step := Int.tdiv_nonneg (by omega) (by omega)
  have hd1 : v.tdiv C.cfg.step ≤ v := by
    rw [Int.tdiv_eq_ediv_of_nonneg (by omega)]
    exact Int.ediv_le_self _ (by omega)
  rw [wrap_id (by omega)]
  refine ⟨by omega, ?_⟩
  refine rRaise_sp hs (cj.put (refE r X.1)) slot (v.tdiv C.cfg.step) ?_
  intro h4 hs
  simp only [put_put] at hs
  exact k _ hs
theorem rBump10_sp {Q : Int → Int → H → Prop} (hs : Sat h0 A h) (cj : At A j (refE r C)) (slot : Int) (k : ∀ h', Sat h0 (put A j (refE r (sBump C slot).2)) h' → Q (sBump C slot).1.1 (sBump C slot).1.2 h') : F_portcullisref10_Bump ⟨r, 0, none⟩ slot Q h := by
  unfold F_portcullisref10_Bump G_portcullisref10_Bump
  have ok := ref_ok hs cj
  have hm := most_val
  refine rRead10_sp hs cj slot ?_
  intro h1 hs
  unfold sBump at k
  by_cases ge : (sRead C slot).2 = 0
  case neg =>
    rw [if_pos ge] at k
    rw [if_pos (by simpa using ge)]
    exact k _ (by rw [cj.put_self]; exact hs)
  rw [if_neg (fun y => y ge)] at k
  rw [if_neg (by simpa using ge)]
  have hb := sRead_in ok slot
  rw [show IntKind.i64.wrap ((sRead C slot).1 + 1) = (sRead C slot).1 + 1 by rw [IntKind.wrap_i64]; omega]
  refine rBumpTo10_sp hs cj slot _ ?_
  intro h2 hs
  by_cases gx : (sBumpTo C slot ((sRead C slot).1 + 1)).2 = 0
  · rw [if_neg (fun y => y gx)] at k
    rw [if_neg (by simpa using gx)]
    exact k _ hs
  · rw [if_pos gx] at k
    rw [if_pos (by simpa using gx)]
    exact k _ hs
theorem rActive10_sp {Q : Int → Int → H → Prop} (hs : Sat h0 A h) (cj : At A j (refE r C)) (k : ∀ h', Sat h0 A h' → Q (sActive C).1 (sActive C).2 h') : F_portcullisref10_Active ⟨r, 0, none⟩ Q h := by
  unfold F_portcullisref10_Active G_portcullisref10_Active
  try simp only [add_mk, Nat.zero_add]
  obtain ⟨w, lc⟩ := ref_cell hs cj
  refine ⟨_, lc 1 _ rfl, ?_⟩
  exact rNumber_sp hs cj C.cfg.slots k
theorem rActivate10_sp {Q : Int → H → Prop} (hs : Sat h0 A h) (cj : At A j (refE r C)) (n : Int) (k : ∀ h', Sat h0 (put A j (refE r (sActivate C n).1)) h' → Q (sActivate C n).2 h') : F_portcullisref10_Activate ⟨r, 0, none⟩ n Q h := by
  unfold F_portcullisref10_Activate G_portcullisref10_Activate
  try simp only [add_mk, Nat.zero_add]
  have same : put A j (refE r C) = A := cj.put_self
  refine rActive10_sp hs cj ?_
  intro h1 hs
  unfold sActivate at k
  by_cases ge : (sActive C).2 = 0
  case neg =>
    rw [if_pos ge] at k
    rw [if_pos (by simpa using ge)]
    exact k _ (by rw [same]; exact hs)
  rw [if_neg (fun y => y ge)] at k
  rw [if_neg (by simpa using ge)]
  by_cases g1 : n ≤ (sActive C).1
  · rw [if_pos g1] at k
    rw [leI_eq, if_pos (by simpa using g1)]
    exact k _ (by rw [same]; exact hs)
  rw [if_neg g1] at k
  rw [leI_eq, if_neg (by simpa using g1)]
  intro i10 hi
  subst hi
  by_cases g2 : most < n
  · rw [if_pos g2] at k
    rw [ltI_eq, if_pos (by rw [decide_eq_true_iff]; exact g2)]
    exact k _ (by rw [same]; exact hs)
  rw [if_neg g2] at k
  rw [ltI_eq, if_neg (by rw [decide_eq_true_iff]; exact g2)]
  obtain ⟨w, lc⟩ := ref_cell hs cj
  refine ⟨_, lc 1 _ rfl, ?_⟩
  exact rLay_sp9 hs cj C.cfg.slots n k
end
end Go.Proofs.YteabcbpimjjdpaaGreat
end

/- The state of the program's chip held against the document's, in one step. Own work. -/
section
set_option maxRecDepth 100000
set_option linter.unusedVariables false
namespace Go.Proofs.YteabcbpimjjdpaaGreat
open Go Go.Vc

theorem at_del {A : List Ent} {i j : Nat} {e : Ent} (a : At A i e) (hj : i ≠ j) : ∃ k, At (del A j) k e := by
  induction a generalizing j with
  | z => cases j with
    | zero => exact absurd rfl hj
    | succ j => exact ⟨0, .z⟩
  | s q ih => cases j with
    | zero => exact ⟨_, q⟩
    | succ j =>
      obtain ⟨k, hk⟩ := ih (j := j) (by omega)
      exact ⟨k + 1, .s hk⟩
theorem at_inj {A : List Ent} {i : Nat} {e e' : Ent} (a : At A i e) (b : At A i e') : e = e' := by
  induction a with
  | z => cases b; rfl
  | s _ ih => cases b with | s b => exact ih b
section
variable {h0 h : H} {A : List Ent} {i j p r : Nat} {C C' : Cm}
theorem chip_refE_ne (ci : At A i (chipE p C)) (cj : At A j (refE r C')) : i ≠ j := by
  intro e
  subst e
  have := congrArg Ent.tag (at_inj ci cj)
  have e2 : Tag.of 2 = Tag.of 4 := this
  injection e2 with e2
  cases e2
theorem ref_ld2 (hs : Sat h0 A h) (cj : At A j (refE r C)) : hc h ⟨r, 10, none⟩ = some (.int .i64 C.acts) ∧ hc h ⟨r, 11, none⟩ = some (.bool C.out) := by
  obtain ⟨⟨w, ms⟩, _, hs⟩ := (hs.front cj).open_
  dsimp only [refL, List.cons_append, List.nil_append] at hs
  exact ⟨hs.ld .z rfl, hs.ld .z rfl⟩
end
end Go.Proofs.YteabcbpimjjdpaaGreat
end

/- StoreDoes: the world and its steps. Own work. -/
section
set_option maxRecDepth 100000
set_option linter.unusedVariables false
namespace Go.Proofs.YteabcbpimjjdpaaGreat
open Go Go.Vc

abbrev wld (w px pr : Nat) (x : Value) : Ent := blk w [.pointer (some ⟨px, 0, none⟩), x, .pointer (some ⟨pr, 0, none⟩)]
abbrev wld2 (w px pr s l : Nat) (C : Cm) (B : List Ent) : List Ent := wld w px pr (.pointer (some ⟨s, 0, none⟩)) :: storeE s px l :: logE l px :: chipE px C :: refE pr C :: B
def Wst (h0 : H) (w px pr : Nat) (C : Cm) (B : List Ent) (h : H) : Prop :=
  Sat h0 (wld w px pr (.pointer none) :: chipE px C :: refE pr C :: B) h ∨ ∃ s l, Sat h0 (wld2 w px pr s l C B) h
/-- A call of a script. -/
structure OpE where
  kind : Int
  n : Int
  v : Int
  mask : List Int
structure OpE.ok (s : OpE) : Prop where
  n : s.n < 2 ^ 63
  mb : bytesOk s.mask
  ml : s.mask.length + 4096 ≤ 2 ^ 47
section
variable {h0 h : H} {A B : List Ent} {i j p r b w px pr s m : Nat} {C : Cm}
theorem ref_cfg (hs : Sat h0 A h) (cj : At A j (refE r C)) : hcs h ⟨r, 0, none⟩ [.int .i64 C.cfg.cells, .int .i64 C.cfg.slots, .int .i64 C.cfg.fuses, .int .i64 C.cfg.step, .int .i64 C.cfg.keys, .int .i64 C.cfg.erases, .int .i64 C.cfg.area] := by
  obtain ⟨⟨w, ms⟩, _, hs⟩ := (hs.front cj).open_
  dsimp only [refL, List.cons_append, List.nil_append] at hs
  exact Sat.cs hs (i := 0) .z rfl
theorem wmounted_sp {Q : Bool → H → Prop} {x : Value} (hs : Sat h0 (wld w px pr x :: chipE px C :: refE pr C :: B) h) (k : ∀ h', Wst h0 w px pr C B h' → (C.out = false → ∃ s l, Sat h0 (wld2 w px pr s l C B) h') → Q true h') : F_portcullislaw10_world_mounted ⟨w, 0, none⟩ Q h := by
  unfold F_portcullislaw10_world_mounted G_portcullislaw10_world_mounted
  try simp only [add_mk, Nat.zero_add]
  have ok := chip_ok hs (i := 1) (.s .z)
  refine ⟨_, hs.ld (i := 0) .z rfl, _, rfl, ?_⟩
  refine sMount_sp hs (i := 1) (.s .z) ?_ ?_
  · intro ho
    refine ⟨Sat.can hs (i := 0) .z (by simp), ?_⟩
    intro h1 e
    replace hs := Sat.wr hs (i := 0) .z e
    clear e
    replace hs : Sat h0 (wld w px pr (.pointer none) :: chipE px C :: refE pr C :: B) h1 := hs
    refine ⟨_, hs.ld (i := 0) .z rfl, _, rfl, _, (ref_ld2 hs (j := 2) (.s (.s .z))).2, ?_⟩
    rw [if_pos ho, if_pos (by simp)]
    exact k _ (Or.inl hs) (fun y => absurd (ho.symm.trans y) (by decide))
  · intro ho s l h1 hs
    refine ⟨Sat.can hs (i := 2) (.s (.s .z)) (by simp), ?_⟩
    intro h2 e
    replace hs := Sat.wr hs (i := 2) (.s (.s .z)) e
    clear e
    simp only [put_succ, put_zero] at hs
    replace hs : Sat h0 (storeE s px l :: logE l px :: wld w px pr (.pointer (some ⟨s, 0, none⟩)) :: chipE px C :: refE pr C :: B) h2 := hs
    replace hs : Sat h0 (wld2 w px pr s l C B) h2 := hs.perm (((List.Perm.swap _ _ _).cons _).trans (List.Perm.swap _ _ _))
    refine ⟨_, hs.ld (i := 0) .z rfl, _, rfl, _, (ref_ld2 hs (j := 4) (.s (.s (.s (.s .z))))).2, ?_⟩
    rw [if_neg (by simp [ho]), if_pos (by simp), if_pos (by simp)]
    obtain ⟨ww, lc⟩ := ref_cell hs (j := 4) (.s (.s (.s (.s .z))))
    refine ⟨_, hs.ld (i := 0) .z rfl, _, rfl, _, lc 0 _ rfl, _, lc 1 _ rfl, _, lc 2 _ rfl, _, lc 3 _ rfl, _, lc 4 _ rfl, _, lc 5 _ rfl, _, lc 6 _ rfl, _, rfl, ?_⟩
    refine sLast_sp hs (i := 3) (m := 1) (.s (.s (.s .z))) (.s .z) ?_
    intro h3 hs
    refine ⟨ref_cfg hs (j := 4) (.s (.s (.s (.s .z)))), hcs_one (hs.ld (i := 0) .z rfl), ?_⟩
    refine rLast10_sp ok.may hs ?_
    intro h4 hs
    have := k _ (Or.inr ⟨s, l, hs⟩) (fun _ => ⟨s, l, hs⟩)
    simpa using this
theorem Wst.any (W : Wst h0 w px pr C B h) : ∃ x, Sat h0 (wld w px pr x :: chipE px C :: refE pr C :: B) h := by
  rcases W with hs | ⟨s, l, hs⟩
  · exact ⟨_, hs⟩
  · exact ⟨_, hs.sub (by (repeat (first | exact List.Sublist.refl _ | apply List.Sublist.cons_cons | apply List.Sublist.cons)))⟩
theorem alike_sp {Q : Bool → H → Prop} {x : Value} {R : List Ent} (hs : Sat h0 (wld w px pr x :: R) h) (ci : At R i (chipE px C)) (cj : At R j (refE pr C)) (k : ∀ h', Sat h0 (wld w px pr x :: R) h' → Q true h') : F_portcullislaw10_world_alike ⟨w, 0, none⟩ Q h := by
  unfold F_portcullislaw10_world_alike G_portcullislaw10_world_alike
  try simp only [add_mk, Nat.zero_add]
  obtain ⟨i', ci'⟩ := at_del ci (chip_refE_ne ci cj)
  have ok := chip_ok hs ci.s
  have sm := ok.small
  have smp := sm.pages; have sme := sm.erases; have smb := sm.blown
  have smr : ∀ l, l ∈ C.s.pages → l.length < 2 ^ 62 := fun l hl => by have := sm.rows l hl; omega
  obtain ⟨⟨v, ms⟩, hw, hs⟩ := (hs.front cj.s).open_
  replace hs : Sat h0 (blk pr (C.cells v.a v.b v.c v.m) :: matE 32 v.a C.s.pages :: sE v.b 1 (ints .i64 C.s.erases) :: sE v.c 1 (bools C.s.blown) :: sE v.m 1 (ints .u8 ms) :: wld w px pr x :: del R j) _ := hs
  refine ⟨_, hs.ld (i := 5) (.s (.s (.s (.s (.s .z))))) rfl, _, hs.ld (i := 5) (.s (.s (.s (.s (.s .z))))) rfl, _, rfl, _, _, _, hs.ld .z rfl, _, _, _, hs.ld .z rfl, _, _, _, hs.ld .z rfl, _, rfl, ?_⟩
  refine State_sp hs (i := i' + 6) ci'.s.s.s.s.s.s ?_
  intro a1 b1 d1 h1 hs
  replace hs : Sat h0 (matE 32 a1 C.s.pages :: sE b1 1 (ints .i64 C.s.erases) :: sE d1 1 (bools C.s.blown) :: blk pr (C.cells v.a v.b v.c v.m) :: matE 32 v.a C.s.pages :: sE v.b 1 (ints .i64 C.s.erases) :: sE v.c 1 (bools C.s.blown) :: sE v.m 1 (ints .u8 ms) :: wld w px pr x :: del R j) _ := hs
  refine ⟨Sat.cs hs (i := 3) (by (repeat (first | exact At.z | apply At.s))) rfl, hcs_one (hs.ld (i := 8) (by (repeat (first | exact At.z | apply At.s))) rfl), ?_⟩
  refine SameState_sp (a := a1) (b := b1) (c := d1) (a2 := v.a) (b2 := v.b) (c2 := v.c) (s := C.s) hs
    (fun h' hs' => sat_rdS hs' (i := 0) (j := 1) (k := 2) (by (repeat (first | exact At.z | apply At.s))) (by (repeat (first | exact At.z | apply At.s))) (by (repeat (first | exact At.z | apply At.s)))) (fun h' hs' => sat_rdS hs' (i := 4) (j := 5) (k := 6) (by (repeat (first | exact At.z | apply At.s))) (by (repeat (first | exact At.z | apply At.s))) (by (repeat (first | exact At.z | apply At.s)))) (by omega) (by omega) (by omega) smr ?_
  intro h2 hs
  rw [if_pos (by simp)]
  have tw : At (matE 32 a1 C.s.pages :: sE b1 1 (ints .i64 C.s.erases) :: sE d1 1 (bools C.s.blown) :: blk pr (C.cells v.a v.b v.c v.m) :: matE 32 v.a C.s.pages :: sE v.b 1 (ints .i64 C.s.erases) :: sE v.c 1 (bools C.s.blown) :: sE v.m 1 (ints .u8 ms) :: wld w px pr x :: del R j) 8 (wld w px pr x) := by (repeat (first | exact At.z | apply At.s))
  have tr : At (matE 32 a1 C.s.pages :: sE b1 1 (ints .i64 C.s.erases) :: sE d1 1 (bools C.s.blown) :: blk pr (C.cells v.a v.b v.c v.m) :: matE 32 v.a C.s.pages :: sE v.b 1 (ints .i64 C.s.erases) :: sE v.c 1 (bools C.s.blown) :: sE v.m 1 (ints .u8 ms) :: wld w px pr x :: del R j) 3 (blk pr (C.cells v.a v.b v.c v.m)) := by (repeat (first | exact At.z | apply At.s))
  refine ⟨_, hs.ld tw rfl, _, hs.ld tw rfl, _, rfl, _, hs.ld tr rfl, _, rfl, ?_⟩
  refine Acts_sp hs (i := i' + 9) ci'.s.s.s.s.s.s.s.s.s ?_
  refine ⟨hcs_one (hs.ld tr rfl), hcs_one (hs.ld tw rfl), ?_⟩
  rw [if_pos (by simp)]
  refine ⟨_, hs.ld tw rfl, _, hs.ld tw rfl, _, rfl, _, hs.ld tr rfl, _, rfl, ?_⟩
  refine Out_sp hs (i := i' + 9) ci'.s.s.s.s.s.s.s.s.s ?_
  refine ⟨hcs_one (hs.ld tr rfl), hcs_one (hs.ld tw rfl), ?_⟩
  have hs2 : Sat h0 (refL pr C (v, ms) ++ (wld w px pr x :: del R j)) h2 := hs.drop.drop.drop
  have : Sat h0 (put (wld w px pr x :: R) (j + 1) (refE pr C)) h2 := Sat.back cj.s (Sat.close (n := 4) (φ := RefW C) (F := refL pr C) (v, ms) hw hs2)
  rw [cj.s.put_self] at this
  have := k _ this
  simpa using this
theorem hand9_sp {Q : Bool → H → Prop} {x : Value} (o : OpE) (ok : o.ok) (k9 : o.kind = 9) {mp : Option Addr} {ml mc : Nat} (rd : hsv h0 mp 1 ml (ints .u8 o.mask)) (hs : Sat h0 A h) {a : Nat} (tw : At A a (wld w px pr x)) (ci : At A i (chipE px C)) (cj : At A j (refE pr C)) (hai : a ≠ i) (hij : i ≠ j)
    (k : ∀ h', Sat h0 (put (put A i (chipE px (cutM C o.n o.mask))) j (refE pr (cutM C o.n o.mask))) h' → Q true h') : F_portcullislaw10_world_hand ⟨w, 0, none⟩ o.kind o.n o.v mp ml mc Q h := by
  unfold F_portcullislaw10_world_hand G_portcullislaw10_world_hand
  try simp only [add_mk, Nat.zero_add, List.append_nil]
  have hml : o.mask.length = ml := by have := rd.1; simpa using this
  have hmm := ok.ml
  intro n14 _ hn; replace hs := Sat.new hs hn; clear hn
  refine ⟨_, hs.ld (i := 0) .z rfl, ?_⟩
  rw [if_pos (by simpa using k9)]
  refine ⟨_, hs.ld tw.s rfl, _, hs.ld (i := 0) .z rfl, _, _, _, hs.ld (i := 0) .z rfl, ?_⟩
  intro n23 _ hn; replace hs := Sat.new hs hn; clear hn
  refine ⟨hcs_one (hs.ld (i := 1) (.s .z) rfl), hcs_one (hs.ld (i := 1) (.s .z) rfl), hcs_one (hs.ld tw.s.s rfl), _, hsv_ext hs.ex rd (fun _ _ y => y), ?_⟩
  replace hs := (hs.drop).sl_nil 1 (some ⟨n23, 0, none⟩)
  dsimp only [sE] at hs
  refine Sat.app hs (i := 0) (vs := ints .u8 o.mask) .z (by simp [hml]) rfl (ints_one _ _) (by omega) ?_
  intro p' c' h4 hs
  rw [put_zero] at hs
  simp only [List.nil_append, Nat.zero_add] at hs ⊢
  refine ⟨hcs_one (hs.ld (i := 1) (.s .z) rfl), hcs_one (hs.ld tw.s.s rfl), _, rfl, ?_⟩
  refine Cut_sp hs (i := i + 2) ci.s.s o.n ok.n (hs.sv (i := 0) .z) ok.mb (by omega) ?_
  intro h5 hs
  simp only [put_succ] at hs
  refine ⟨_, hs.ld (tw.put_ne hai _).s.s rfl, _, hs.ld (i := 1) (.s .z) rfl, _, _, _, hs.ld (i := 1) (.s .z) rfl, _, rfl, ?_⟩
  refine rCut_sp hs (i := j + 2) (cj.put_ne (fun y => hij y.symm) _).s.s o.n ok.n (fun C' h' hs' => hsv_ext hs'.ex rd (fun _ _ y => y)) ok.mb (by omega) ?_
  intro h6 hs
  simp only [put_succ] at hs
  exact k _ hs.drop.drop
theorem hand_sp {Q : Bool → H → Prop} (o : OpE) (ok : o.ok) {mp : Option Addr} {ml mc : Nat} (rd : hsv h0 mp 1 ml (ints .u8 o.mask)) (W : Wst h0 w px pr C B h) (k : ∀ D h', Wst h0 w px pr D B h' → Q true h') : F_portcullislaw10_world_hand ⟨w, 0, none⟩ o.kind o.n o.v mp ml mc Q h := by
  by_cases k9 : o.kind = 9
  · rcases W with hs | ⟨s, l, hs⟩
    · exact hand9_sp o ok k9 rd hs (a := 0) (i := 1) (j := 2) .z (.s .z) (.s (.s .z)) (by decide) (by decide) fun h' hs' => k _ _ (Or.inl hs')
    · exact hand9_sp o ok k9 rd hs (a := 0) (i := 3) (j := 4) .z (.s (.s (.s .z))) (.s (.s (.s (.s .z)))) (by decide) (by decide) fun h' hs' => k _ _ (Or.inr ⟨s, l, hs'⟩)
  obtain ⟨x, hs⟩ := W.any
  unfold F_portcullislaw10_world_hand G_portcullislaw10_world_hand
  try simp only [add_mk, Nat.zero_add, List.append_nil]
  intro n14 _ hn; replace hs := Sat.new hs hn; clear hn
  refine ⟨_, hs.ld (i := 0) .z rfl, ?_⟩
  rw [if_neg (by simpa using k9)]
  by_cases k10 : o.kind = 10
  · rw [if_pos (by simpa using k10)]
    refine ⟨_, hs.ld (i := 1) (.s .z) rfl, _, rfl, ?_⟩
    refine Restore_sp hs (i := 2) (.s (.s .z)) ?_
    intro h2 hs
    simp only [put_succ, put_zero] at hs
    refine ⟨_, hs.ld (i := 1) (.s .z) rfl, _, rfl, ?_⟩
    refine rRestore_sp hs (i := 3) (.s (.s (.s .z))) ?_
    intro h3 hs
    simp only [put_succ, put_zero] at hs
    exact wmounted_sp hs.drop fun h' W' _ => k _ _ W'
  · rw [if_neg (by simpa using k10)]
    exact wmounted_sp hs.drop fun h' W' _ => k _ _ W'
theorem wstep_sp {Q : Bool → H → Prop} (o : OpE) (ok : o.ok) {mp : Option Addr} {ml mc : Nat} (rd : hsv h0 mp 1 ml (ints .u8 o.mask)) (W : Wst h0 w px pr C B h) (k : ∀ D h', Wst h0 w px pr D B h' → Q true h') : F_portcullislaw10_world_step ⟨w, 0, none⟩ o.kind o.n o.v mp ml mc Q h := by
  unfold F_portcullislaw10_world_step G_portcullislaw10_world_step
  try simp only [add_mk, Nat.zero_add, List.append_nil]
  obtain ⟨L, hL⟩ : ∃ L : List Ent, L = B := ⟨_, rfl⟩
  have start : ∀ n24 h25, hnew h n24 [.int .i64 o.kind, .int .i64 o.n, .int .i64 o.v, .slice mp ml mc] h25 → Wst h0 w px pr C B h25 ∧
      ((∃ x, Sat h0 (blk n24 [.int .i64 o.kind, .int .i64 o.n, .int .i64 o.v, .slice mp ml mc] :: wld w px pr x :: chipE px C :: refE pr C :: B) h25) ∧
      (Sat h0 (blk n24 [.int .i64 o.kind, .int .i64 o.n, .int .i64 o.v, .slice mp ml mc] :: wld w px pr (.pointer none) :: chipE px C :: refE pr C :: B) h25 ∨ ∃ s l, Sat h0 (blk n24 [.int .i64 o.kind, .int .i64 o.n, .int .i64 o.v, .slice mp ml mc] :: wld2 w px pr s l C B) h25)) := by
    intro n24 h25 hn
    rcases W with hs | ⟨s, l, hs⟩
    · replace hs := Sat.new hs hn
      exact ⟨Or.inl hs.drop, ⟨_, hs⟩, Or.inl hs⟩
    · replace hs := Sat.new hs hn
      exact ⟨Or.inr ⟨s, l, hs.drop⟩, ⟨_, hs.sub (by (repeat (first | exact List.Sublist.refl _ | apply List.Sublist.cons_cons | apply List.Sublist.cons)))⟩, Or.inr ⟨s, l, hs⟩⟩
  intro n24 h25 hn
  obtain ⟨W2, ⟨x, hx⟩, V⟩ := start n24 h25 hn
  intro J27 hJ27
  have way : J27 [] h25 := by
    apply hJ27
    clear hJ27 J27
    rcases V with hs | ⟨s, l, hs⟩
    · refine ⟨_, hs.ld (i := 1) (.s .z) rfl, ?_⟩
      rw [if_pos (by simp)]
      exact k _ _ W2
    refine ⟨_, hs.ld (i := 1) (.s .z) rfl, ?_⟩
    rw [if_neg (by simp)]
    refine ⟨_, hs.ld (i := 0) .z rfl, ?_⟩
    by_cases k1 : o.kind = 1
    · rw [if_pos (by simpa using k1)]
      refine ⟨_, hs.ld (i := 1) (.s .z) rfl, _, hs.ld (i := 0) .z rfl, _, rfl, ?_⟩
      refine sRead_sp hs (i := 4) (j := 3) (m := 2) (.s (.s (.s (.s .z)))) (.s (.s (.s .z))) (.s (.s .z)) o.n ?_
      intro h1 hs
      refine ⟨_, hs.ld (i := 1) (.s .z) rfl, _, hs.ld (i := 0) .z rfl, _, rfl, ?_⟩
      refine rRead10_sp hs (j := 5) (.s (.s (.s (.s (.s .z))))) o.n ?_
      intro h2 hs
      rw [if_pos (by simp)]
      have := k _ _ (Or.inr ⟨s, l, hs.drop⟩)
      simpa using this
    rw [if_neg (by simpa using k1)]
    by_cases k2 : o.kind = 2
    · rw [if_pos (by simpa using k2)]
      refine ⟨_, hs.ld (i := 1) (.s .z) rfl, _, hs.ld (i := 0) .z rfl, _, rfl, ?_⟩
      refine sBump_sp hs (i := 4) (j := 3) (m := 2) (.s (.s (.s (.s .z)))) (.s (.s (.s .z))) (.s (.s .z)) (by decide) (by decide) o.n ?_
      intro h1 hs
      simp only [put_succ, put_zero] at hs
      refine ⟨_, hs.ld (i := 1) (.s .z) rfl, _, hs.ld (i := 0) .z rfl, _, rfl, ?_⟩
      refine rBump10_sp hs (j := 5) (.s (.s (.s (.s (.s .z))))) o.n ?_
      intro h2 hs
      simp only [put_succ, put_zero] at hs
      rw [if_pos (by simp)]
      have := k _ _ (Or.inr ⟨s, l, hs.drop⟩)
      simpa using this
    rw [if_neg (by simpa using k2)]
    by_cases k3 : o.kind = 3
    · rw [if_pos (by simpa using k3)]
      refine ⟨_, hs.ld (i := 1) (.s .z) rfl, _, hs.ld (i := 0) .z rfl, _, hs.ld (i := 0) .z rfl, _, hs.ld (i := 1) (.s .z) rfl, _, hs.ld (i := 0) .z rfl, _, hs.ld (i := 0) .z rfl, _, rfl, ?_⟩
      refine sBumpTo_sp hs (i := 4) (j := 3) (m := 2) (.s (.s (.s (.s .z)))) (.s (.s (.s .z))) (.s (.s .z)) (by decide) (by decide) o.n o.v ?_
      intro h1 hs
      simp only [put_succ, put_zero] at hs
      refine ⟨hcs_one (hs.ld (i := 0) .z rfl), hcs_one (hs.ld (i := 0) .z rfl), hcs_one (hs.ld (i := 1) (.s .z) rfl), _, rfl, ?_⟩
      refine rBumpTo10_sp hs (j := 5) (.s (.s (.s (.s (.s .z))))) o.n o.v ?_
      intro h2 hs
      simp only [put_succ, put_zero] at hs
      have := k _ _ (Or.inr ⟨s, l, hs.drop⟩)
      simpa using this
    rw [if_neg (by simpa using k3)]
    by_cases k4 : o.kind = 4
    · rw [if_pos (by simpa using k4)]
      refine ⟨_, hs.ld (i := 1) (.s .z) rfl, _, hs.ld (i := 0) .z rfl, _, hs.ld (i := 1) (.s .z) rfl, _, hs.ld (i := 0) .z rfl, _, rfl, ?_⟩
      refine sRevoke_sp hs (i := 4) (m := 2) (.s (.s (.s (.s .z)))) (.s (.s .z)) o.n ?_
      intro h1 hs
      simp only [put_succ, put_zero] at hs
      refine ⟨hcs_one (hs.ld (i := 0) .z rfl), hcs_one (hs.ld (i := 1) (.s .z) rfl), _, rfl, ?_⟩
      unfold F_portcullisref10_Revoke G_portcullisref10_Revoke
      refine rRevoke_sp hs (i := 5) (.s (.s (.s (.s (.s .z))))) o.n ?_
      intro h2 hs
      simp only [put_succ, put_zero] at hs
      have := k _ _ (Or.inr ⟨s, l, hs.drop⟩)
      simpa using this
    rw [if_neg (by simpa using k4)]
    by_cases k5 : o.kind = 5
    · rw [if_pos (by simpa using k5)]
      refine ⟨_, hs.ld (i := 1) (.s .z) rfl, _, hs.ld (i := 0) .z rfl, _, rfl, ?_⟩
      refine sRevoked_sp hs (i := 4) (m := 2) (.s (.s (.s (.s .z)))) (.s (.s .z)) o.n ?_
      intro h1 hs
      refine ⟨_, hs.ld (i := 1) (.s .z) rfl, _, hs.ld (i := 0) .z rfl, _, rfl, ?_⟩
      unfold F_portcullisref10_Revoked G_portcullisref10_Revoked
      refine rRevoked_sp hs (i := 5) (.s (.s (.s (.s (.s .z))))) o.n ?_
      intro h2 hs
      dsimp only
      rw [if_pos (by simp)]
      have := k _ _ (Or.inr ⟨s, l, hs.drop⟩)
      simpa using this
    rw [if_neg (by simpa using k5)]
    by_cases k6 : o.kind = 6
    · rw [if_pos (by simpa using k6)]
      refine ⟨_, hs.ld (i := 1) (.s .z) rfl, _, rfl, ?_⟩
      refine sActive_sp hs (i := 4) (j := 3) (m := 2) (.s (.s (.s (.s .z)))) (.s (.s (.s .z))) (.s (.s .z)) ?_
      intro h1 hs
      refine ⟨_, hs.ld (i := 1) (.s .z) rfl, _, rfl, ?_⟩
      refine rActive10_sp hs (j := 5) (.s (.s (.s (.s (.s .z))))) ?_
      intro h2 hs
      rw [if_pos (by simp)]
      have := k _ _ (Or.inr ⟨s, l, hs.drop⟩)
      simpa using this
    rw [if_neg (by simpa using k6)]
    by_cases k7 : o.kind = 7
    · rw [if_pos (by simpa using k7)]
      refine ⟨_, hs.ld (i := 1) (.s .z) rfl, _, hs.ld (i := 0) .z rfl, _, hs.ld (i := 1) (.s .z) rfl, _, hs.ld (i := 0) .z rfl, _, rfl, ?_⟩
      refine sActivate_sp hs (i := 4) (j := 3) (m := 2) (.s (.s (.s (.s .z)))) (.s (.s (.s .z))) (.s (.s .z)) (by decide) o.v ?_
      intro h1 hs
      simp only [put_succ, put_zero] at hs
      refine ⟨hcs_one (hs.ld (i := 0) .z rfl), hcs_one (hs.ld (i := 1) (.s .z) rfl), _, rfl, ?_⟩
      refine rActivate10_sp hs (j := 5) (.s (.s (.s (.s (.s .z))))) o.v ?_
      intro h2 hs
      simp only [put_succ, put_zero] at hs
      have := k _ _ (Or.inr ⟨s, l, hs.drop⟩)
      simpa using this
    rw [if_neg (by simpa using k7)]
    exact k _ _ W2
  refine ⟨_, hx.ld (i := 0) .z rfl, ?_⟩
  split
  · refine ⟨_, hx.ld (i := 0) .z rfl, ?_⟩
    split
    · exact ⟨_, hx.ld (i := 0) .z rfl, _, hx.ld (i := 0) .z rfl, _, hx.ld (i := 0) .z rfl, _, _, _, hx.ld (i := 0) .z rfl, hand_sp o ok rd W2 k⟩
    · exact way
  · exact way
end
end Go.Proofs.YteabcbpimjjdpaaGreat
end

/- StoreDoes: how it begins; scripts. Own work. -/
section
set_option maxRecDepth 100000
set_option linter.unusedVariables false
namespace Go.Proofs.YteabcbpimjjdpaaGreat
open Go Go.Vc

theorem fresh_lays {c : Cfg} (m : c.may) : (freshSt c).lays c := by
  refine ⟨(freshC_ok m).fits, ?_⟩
  intro n hn
  have : n ∈ zeros c.np.toNat := hn
  unfold zeros at this
  rw [List.mem_replicate] at this
  omega
section
variable {h0 h : H} {A : List Ent}
theorem begun_sp {a b c' : Sl} {s : St} {Q : Option Addr → Bool → H → Prop} (c : Cfg) (hs : Sat h0 A h) (rd : ∀ h', Sat h0 A h' → RdS h' a b c' s) (ty : s.typed)
    (k1 : ∀ h', Sat h0 A h' → Q none true h') (k2 : ∀ w px pr C B h', Wst h0 w px pr C B h' → Q (some ⟨w, 0, none⟩) true h') :
    F_portcullislaw10_begun c.cells c.slots c.fuses c.step c.keys c.erases c.area a.1 a.2.1 a.2.2 b.1 b.2.1 b.2.2 c'.1 c'.2.1 c'.2.2 Q h := by
  unfold F_portcullislaw10_begun G_portcullislaw10_begun
  try simp only [add_mk, Nat.zero_add, List.append_nil]
  intro n24 _ hn; replace hs := Sat.new hs hn; clear hn
  intro n27 _ hn; replace hs := Sat.new hs hn; clear hn
  (repeat first | refine ⟨_, Sat.ld hs (by (repeat (first | exact At.z | apply At.s))) (by rfl), ?_⟩ | refine ⟨_, _, _, Sat.ld hs (by (repeat (first | exact At.z | apply At.s))) (by rfl), ?_⟩ | (intro _ _ hn; replace hs := Sat.new hs hn; clear hn) | refine ⟨Sat.cs hs (by (repeat (first | exact At.z | apply At.s))) (by rfl), ?_⟩ | (refine ⟨Sat.can hs (by (repeat (first | exact At.z | apply At.s))) (by simp), ?_⟩; intro _ e; replace hs := Sat.wr hs (by (repeat (first | exact At.z | apply At.s))) e; clear e; simp only [put, splice, List.set] at hs))
  refine rLay_sp (a := a) (b := b) (c' := c') (s := s) c hs (fun h' hs' => rd _ hs'.drop.drop) ty ?_ ?_ ?_
  · intro nm h2 hs J hJ
    rw [if_neg (by simp)]
    apply hJ
    rw [if_pos (by simp)]
    (repeat first | refine ⟨_, Sat.ld hs (by (repeat (first | exact At.z | apply At.s))) (by rfl), ?_⟩ | refine ⟨_, _, _, Sat.ld hs (by (repeat (first | exact At.z | apply At.s))) (by rfl), ?_⟩ | (intro _ _ hn; replace hs := Sat.new hs hn; clear hn) | refine ⟨Sat.cs hs (by (repeat (first | exact At.z | apply At.s))) (by rfl), ?_⟩ | (refine ⟨Sat.can hs (by (repeat (first | exact At.z | apply At.s))) (by simp), ?_⟩; intro _ e; replace hs := Sat.wr hs (by (repeat (first | exact At.z | apply At.s))) e; clear e; simp only [put, splice, List.set] at hs))
    refine New_sp c hs ?_ (fun m => absurd m nm)
    intro _ h3 hs
    rw [if_pos (by simp)]
    have := k1 _ hs.drop.drop
    simpa using this
  · intro m nl h2 hs J hJ
    rw [if_pos (by simp)]
    (repeat first | refine ⟨_, Sat.ld hs (by (repeat (first | exact At.z | apply At.s))) (by rfl), ?_⟩ | refine ⟨_, _, _, Sat.ld hs (by (repeat (first | exact At.z | apply At.s))) (by rfl), ?_⟩ | (intro _ _ hn; replace hs := Sat.new hs hn; clear hn) | refine ⟨Sat.cs hs (by (repeat (first | exact At.z | apply At.s))) (by rfl), ?_⟩ | (refine ⟨Sat.can hs (by (repeat (first | exact At.z | apply At.s))) (by simp), ?_⟩; intro _ e; replace hs := Sat.wr hs (by (repeat (first | exact At.z | apply At.s))) e; clear e; simp only [put, splice, List.set] at hs))
    refine rNew_sp c hs (fun nm => absurd m nm) ?_
    intro _ pr h3 hs
    replace hs := chip_ref hs (i := 0) .z
    rw [put_zero] at hs
    apply hJ
    clear hJ J
    rw [if_neg (by simp)]
    have ok := layC_ok m (fresh_lays m) ((freshC_ok m).typed)
    obtain ⟨⟨w, ms⟩, hw, hs⟩ := (show Sat h0 (refE pr (layC c (freshSt c)) :: _) _ from hs).open_
    dsimp only [refL, List.cons_append, List.nil_append] at hs
    (repeat first | refine ⟨_, Sat.ld hs (by (repeat (first | exact At.z | apply At.s))) (by rfl), ?_⟩ | refine ⟨_, _, _, Sat.ld hs (by (repeat (first | exact At.z | apply At.s))) (by rfl), ?_⟩ | (intro _ _ hn; replace hs := Sat.new hs hn; clear hn) | refine ⟨Sat.cs hs (by (repeat (first | exact At.z | apply At.s))) (by rfl), ?_⟩ | (refine ⟨Sat.can hs (by (repeat (first | exact At.z | apply At.s))) (by simp), ?_⟩; intro _ e; replace hs := Sat.wr hs (by (repeat (first | exact At.z | apply At.s))) e; clear e; simp only [put, splice, List.set] at hs))
    refine ⟨_, rfl, _, _, _, hs.ld (i := 0) .z rfl, _, _, _, hs.ld (i := 0) .z rfl, _, _, _, hs.ld (i := 0) .z rfl, ?_⟩
    refine CopyState_sp (a := w.a) (b := w.b) (c := w.c) (s := freshSt c) hs (fun h' hs' => sat_rdS hs' (i := 1) (j := 2) (k := 3) (.s .z) (.s (.s .z)) (.s (.s (.s .z)))) ok.small ?_
    intro a2 b2 c2 h4 hs
    refine ⟨Sat.cs hs (i := 9) (by (repeat (first | exact At.z | apply At.s))) rfl, ?_⟩
    refine Lay_sp (a := a2) (b := b2) (c' := c2) (s := freshSt c) c hs (fun h' hs' => sat_rdS hs' (i := 0) (j := 1) (k := 2) .z (.s .z) (.s (.s .z))) ((freshC_ok m).typed) (fun nm => absurd m nm) (fun _ nl => absurd (fresh_lays m) nl) ?_
    intro _ _ px h5 hs
    rw [if_neg (by simp), if_neg (by simp)]
    replace hs : Sat h0 (chipE px (layC c (freshSt c)) :: (refL pr (layC c (freshSt c)) (w, ms) ++ (blk n27 [a.v, b.v, c'.v] :: blk n24 [.int .i64 c.cells, .int .i64 c.slots, .int .i64 c.fuses, .int .i64 c.step, .int .i64 c.keys, .int .i64 c.erases, .int .i64 c.area] :: A))) h5 := hs.sub (by
      refine List.Sublist.cons_cons _ ?_
      exact ((List.Sublist.refl _).cons _).cons _ |>.cons _)
    replace hs := Sat.close (n := 4) (φ := RefW (layC c (freshSt c))) (F := refL pr (layC c (freshSt c))) (w, ms) hw (hs.perm List.perm_middle.symm)
    replace hs : Sat h0 (refE pr (layC c (freshSt c)) :: chipE px (layC c (freshSt c)) :: (blk n27 [a.v, b.v, c'.v] :: blk n24 [.int .i64 c.cells, .int .i64 c.slots, .int .i64 c.fuses, .int .i64 c.step, .int .i64 c.keys, .int .i64 c.erases, .int .i64 c.area] :: A)) h5 := hs
    replace hs := hs.perm (List.Perm.swap _ _ _)
    intro n93 _ hn; replace hs := Sat.new hs hn; clear hn
    refine wmounted_sp hs ?_
    intro h6 W _
    exact k2 _ _ _ _ _ _ W
  · intro m lay pr h2 hs J hJ
    rw [if_neg (by simp)]
    apply hJ
    clear hJ J
    rw [if_neg (by simp)]
    have ok := layC_ok m (lay) (ty)
    obtain ⟨⟨w, ms⟩, hw, hs⟩ := (show Sat h0 (refE pr (layC c (s)) :: _) _ from hs).open_
    dsimp only [refL, List.cons_append, List.nil_append] at hs
    (repeat first | refine ⟨_, Sat.ld hs (by (repeat (first | exact At.z | apply At.s))) (by rfl), ?_⟩ | refine ⟨_, _, _, Sat.ld hs (by (repeat (first | exact At.z | apply At.s))) (by rfl), ?_⟩ | (intro _ _ hn; replace hs := Sat.new hs hn; clear hn) | refine ⟨Sat.cs hs (by (repeat (first | exact At.z | apply At.s))) (by rfl), ?_⟩ | (refine ⟨Sat.can hs (by (repeat (first | exact At.z | apply At.s))) (by simp), ?_⟩; intro _ e; replace hs := Sat.wr hs (by (repeat (first | exact At.z | apply At.s))) e; clear e; simp only [put, splice, List.set] at hs))
    refine ⟨_, rfl, _, _, _, hs.ld (i := 0) .z rfl, _, _, _, hs.ld (i := 0) .z rfl, _, _, _, hs.ld (i := 0) .z rfl, ?_⟩
    refine CopyState_sp (a := w.a) (b := w.b) (c := w.c) (s := s) hs (fun h' hs' => sat_rdS hs' (i := 1) (j := 2) (k := 3) (.s .z) (.s (.s .z)) (.s (.s (.s .z)))) ok.small ?_
    intro a2 b2 c2 h4 hs
    refine ⟨Sat.cs hs (i := 9) (by (repeat (first | exact At.z | apply At.s))) rfl, ?_⟩
    refine Lay_sp (a := a2) (b := b2) (c' := c2) (s := s) c hs (fun h' hs' => sat_rdS hs' (i := 0) (j := 1) (k := 2) .z (.s .z) (.s (.s .z))) (ty) (fun nm => absurd m nm) (fun _ nl => absurd (lay) nl) ?_
    intro _ _ px h5 hs
    rw [if_neg (by simp), if_neg (by simp)]
    replace hs : Sat h0 (chipE px (layC c (s)) :: (refL pr (layC c (s)) (w, ms) ++ (blk n27 [a.v, b.v, c'.v] :: blk n24 [.int .i64 c.cells, .int .i64 c.slots, .int .i64 c.fuses, .int .i64 c.step, .int .i64 c.keys, .int .i64 c.erases, .int .i64 c.area] :: A))) h5 := hs.sub (by
      refine List.Sublist.cons_cons _ ?_
      exact ((List.Sublist.refl _).cons _).cons _ |>.cons _)
    replace hs := Sat.close (n := 4) (φ := RefW (layC c (s))) (F := refL pr (layC c (s))) (w, ms) hw (hs.perm List.perm_middle.symm)
    replace hs : Sat h0 (refE pr (layC c (s)) :: chipE px (layC c (s)) :: (blk n27 [a.v, b.v, c'.v] :: blk n24 [.int .i64 c.cells, .int .i64 c.slots, .int .i64 c.fuses, .int .i64 c.step, .int .i64 c.keys, .int .i64 c.erases, .int .i64 c.area] :: A)) h5 := hs
    replace hs := hs.perm (List.Perm.swap _ _ _)
    intro n93 _ hn; replace hs := Sat.new hs hn; clear hn
    refine wmounted_sp hs ?_
    intro h6 W _
    exact k2 _ _ _ _ _ _ W
end
structure ScriptO (h : H) (p : Option Addr) (l : Nat) (sc : List OpE) : Prop where
  len : sc.length = l
  lt : l < 2 ^ 50
  at_ : ∀ i (hi : i < sc.length), ∃ q mp ml mc, p = some q ∧ hc h (q.add (i * 4)) = some (.int .i64 sc[i].kind) ∧ hc h ((q.add (i * 4)).add 1) = some (.int .i64 sc[i].n) ∧ hc h ((q.add (i * 4)).add 2) = some (.int .i64 sc[i].v) ∧
    hc h ((q.add (i * 4)).add 3) = some (.slice mp ml mc) ∧ hsv h mp 1 ml (ints .u8 sc[i].mask) ∧ sc[i].ok
theorem StoreDoes_sp {h0 : H} {a b c' : Sl} {Q : Bool → H → Prop} {mp : Option Addr} {ml mc : Nat} (c : Cfg) (s : St) (rd0 : RdS h0 a b c' s) (ty : s.typed) (sc : List OpE) (rd : ScriptO h0 mp ml sc) (k : ∀ h', Ext none_ h0 h' → Q true h') :
    F_portcullislaw10_StoreDoes c.cells c.slots c.fuses c.step c.keys c.erases c.area a.1 a.2.1 a.2.2 b.1 b.2.1 b.2.2 c'.1 c'.2.1 c'.2.2 mp ml mc Q h0 := by
  unfold F_portcullislaw10_StoreDoes G_portcullislaw10_StoreDoes
  have hs := Sat.init h0
  try simp only [add_mk, Nat.zero_add, List.append_nil]
  intro n25 _ hn; replace hs := Sat.new hs hn; clear hn
  intro n28 _ hn; replace hs := Sat.new hs hn; clear hn
  have hl := rd.len
  have hlt := rd.lt
  refine awake_sp hs ?_
  intro h1 hs
  rw [if_neg (by simp)]
  (repeat first | refine ⟨_, Sat.ld hs (by (repeat (first | exact At.z | apply At.s))) (by rfl), ?_⟩ | refine ⟨_, _, _, Sat.ld hs (by (repeat (first | exact At.z | apply At.s))) (by rfl), ?_⟩ | (intro _ _ hn; replace hs := Sat.new hs hn; clear hn) | refine ⟨Sat.cs hs (by (repeat (first | exact At.z | apply At.s))) (by rfl), ?_⟩ | (refine ⟨Sat.can hs (by (repeat (first | exact At.z | apply At.s))) (by simp), ?_⟩; intro _ e; replace hs := Sat.wr hs (by (repeat (first | exact At.z | apply At.s))) e; clear e; simp only [put, splice, List.set] at hs))
  refine begun_sp (a := a) (b := b) (c' := c') (s := s) c hs (fun h' hs' => rd0.ext hs'.ex) ty ?_ ?_
  · intro h2 hs J hJ
    rw [if_pos (by simp)]
    exact k _ hs.ex
  intro w px pr C0 B h2 W J hJ
  rw [if_neg (by simp), if_neg (by simp)]
  apply hJ
  clear hJ J
  intro J54 hJ54
  refine loop_up ml (fun _ h => ∃ C, Wst h0 w px pr C B h) ?_ ?_ 0 _ (by omega) ⟨C0, W⟩
  · rintro x h5 hx ⟨C, W⟩ hk
    apply hJ54
    rw [ltI_eq, if_pos (by simp; omega)]
    obtain ⟨q, sp, sl, sc2, hq, e0, e1, e2, e3, hrd, hok⟩ := rd.at_ x (by omega)
    obtain ⟨xx, hs⟩ := W.any
    have X := hs.ex
    refine ⟨_, hq, by omega, by omega, ?_⟩
    rw [Int.toNat_natCast]
    refine ⟨_, hc_ext X e0 (fun y => y), _, hc_ext X e1 (fun y => y), _, hc_ext X e2 (fun y => y), _, _, _, hc_ext X e3 (fun y => y), _, rfl, ?_⟩
    refine wstep_sp sc[x] hok hrd W ?_
    intro D h7 W
    rw [if_neg (by simp)]
    refine ⟨_, rfl, ?_⟩
    rcases W with hs | ⟨s1, l1, hs⟩
    · refine alike_sp hs (i := 0) (j := 1) .z (.s .z) ?_
      intro h8 hs
      rw [if_neg (by simp), wrap_succ (by omega)]
      exact hk _ ⟨D, Or.inl hs⟩
    · refine alike_sp hs (i := 2) (j := 3) (.s (.s .z)) (.s (.s (.s .z))) ?_
      intro h8 hs
      rw [if_neg (by simp), wrap_succ (by omega)]
      exact hk _ ⟨D, Or.inr ⟨s1, l1, hs⟩⟩
  · rintro h5 ⟨C, W⟩
    apply hJ54
    rw [ltI_eq, if_neg (by simp)]
    obtain ⟨xx, hs⟩ := W.any
    exact k _ hs.ex
end Go.Proofs.YteabcbpimjjdpaaGreat
end

/- How scripts over stores came in. Own work. -/
section
set_option maxRecDepth 100000
set_option linter.unusedVariables false
namespace Go.Proofs.YteabcbpimjjdpaaGreat
open Go Go.Vc Go.ChangeShapes Go.WideShapes Go.ChangeAt Go.RowKit

theorem xOpE : xsh PP 8 61 = some [.int .i64, .int .i64, .int .i64, .slc 5] := by kernel_rfl
theorem scriptO_of {D : Type} {enc : TypeId × Value → D} {W : World} {p : Option Addr} {l c : Nat} (h : Sli enc PP W 61 p l c) : ∃ sc : List OpE, ScriptO W.heap p l sc := by
  have hb : Tryz.prog.bytesOf 61 = 48 := by kernel_rfl
  have hc : Tryz.prog.cellsOf 61 = 4 := by kernel_rfl
  obtain ⟨ess, h1, h2, _, h4⟩ := h.els xOpE
  have hlc := h.1
  have hr := h.2.1
  rw [hb] at hr
  unfold reachBytes at hr
  have key : ∀ es, es ∈ ess → ∃ (s : OpE) (mp : Option Addr) (ml mc : Nat), s.ok ∧ es = [.int .i64 s.kind, .int .i64 s.n, .int .i64 s.v, .slice mp ml mc] ∧ hsv W.heap mp 1 ml (ints .u8 s.mask) := by
    intro es hes
    obtain ⟨k, _, rfl, _, a, _, rfl, ha, b, _, rfl, hb, mp, ml, mc, _, rfl, hm, hr⟩ := (h2 es hes).2
    simp only [XM] at hr
    subst hr
    obtain ⟨ms, m1, m2, m3⟩ := bytes_of hm
    exact ⟨⟨k, a, b, ms⟩, mp, ml, mc, ⟨(has_i64 ha).2, m2, m3⟩, rfl, m1⟩
  have key2 : ∀ ess : List (List Value), (∀ es, es ∈ ess → ∃ (s : OpE) (mp : Option Addr) (ml mc : Nat), s.ok ∧ es = [.int .i64 s.kind, .int .i64 s.n, .int .i64 s.v, .slice mp ml mc] ∧ hsv W.heap mp 1 ml (ints .u8 s.mask)) →
      ∃ sc : List OpE, sc.length = ess.length ∧ ∀ i (hi : i < sc.length) (hi2 : i < ess.length), ∃ (mp : Option Addr) (ml mc : Nat), sc[i].ok ∧ ess[i] = [.int .i64 sc[i].kind, .int .i64 sc[i].n, .int .i64 sc[i].v, .slice mp ml mc] ∧ hsv W.heap mp 1 ml (ints .u8 sc[i].mask) := by
    intro ess
    induction ess with
    | nil => intro _; exact ⟨[], rfl, fun i hi => by simp at hi⟩
    | cons y r ih =>
      intro h
      obtain ⟨sc, e1, e2⟩ := ih fun es hes => h es (by simp [hes])
      obtain ⟨s, hs⟩ := h y (by simp)
      refine ⟨s :: sc, by simp [e1], ?_⟩
      intro i hi hi2
      cases i with
      | zero => exact hs
      | succ i => exact e2 i (by simpa using hi) (by simpa using hi2)
  obtain ⟨sc, e1, e2⟩ := key2 ess key
  refine ⟨sc, by omega, by omega, ?_⟩
  intro i hi
  obtain ⟨mp, ml, mc, ok, e3, e4⟩ := e2 i hi (by omega)
  obtain ⟨q, hq, hc2⟩ := h4 i (by omega)
  rw [hc, e3] at hc2
  refine ⟨q, mp, ml, mc, hq, ?_, hc2 1 _ rfl, hc2 2 _ rfl, hc2 3 _ rfl, e4, ok⟩
  have := hc2 0 _ rfl; simpa [Addr.add] using this
end Go.Proofs.YteabcbpimjjdpaaGreat
end

/- StoreDoes: every script of calls over whatever a chip holds, with the power going at any act: every answer, all that lies on the chip; for every input. -/
section
set_option maxRecDepth 100000
set_option linter.unusedVariables false
namespace Go.Proofs.YteabcbpimjjdpaaGreat
open Go Go.Vc Go.ChangeShapes Go.WideShapes Go.ChangeAt Go.RowKit

theorem StoreDoes_calls {D : Type} {enc : TypeId × Value → D} {W : World} {base : Nat} (vs : List Value) (h : ArgsOk enc PP W base [23, 28, 55] vs) : CallsTrue PP 4 vs W := by
  obtain ⟨hl, h⟩ := h
  match vs, hl with
  | [v0, v1, v2], _ =>
  obtain ⟨r0, w0⟩ := h 0 _ v0 rfl rfl
  obtain ⟨r1, w1⟩ := h 1 _ v1 rfl rfl
  obtain ⟨r2, w2⟩ := h 2 _ v2 rfl rfl
  obtain ⟨c, rfl⟩ := cfg_of r0 w0
  obtain ⟨a, b, c', s, rfl, rd, ty, sm⟩ := chip_of r1 w1
  obtain ⟨p, l, cc, rfl, hsl⟩ := slice_of (e := 61) (by kernel_rfl) r2 w2
  obtain ⟨sc, hsc⟩ := scriptO_of hsl
  have := R_portcullislaw10_StoreDoes [.agg (c.vals.map .c), .agg [.c a.v, .c b.v, .c c'.v], .one (.slice p l cc)] (fun rs h' => rs = [DV.one (.bool true)] ∧ Ext none_ W.heap h') W.heap (by
    intro x hx
    simp only [List.mem_cons, List.not_mem_nil, or_false] at hx
    rcases hx with rfl | rfl | rfl
    · exact ok_cfg c
    · exact ok_chip a b c'
    · rfl) (by
    show F_portcullislaw10_StoreDoes c.cells c.slots c.fuses c.step c.keys c.erases c.area a.1 a.2.1 a.2.2 b.1 b.2.1 b.2.2 c'.1 c'.2.1 c'.2.2 p l cc (fun b h' => [DV.one (.bool b)] = [DV.one (.bool true)] ∧ Ext none_ W.heap h') W.heap
    exact StoreDoes_sp c s rd ty sc hsc fun h' x => ⟨rfl, x⟩)
  exact this
theorem StoreDoes_lifted (os : Os) (started : os.Started) (D : Type) (enc : TypeId × Value → D) :
    ReturnsInHanded {} Tryz.checked os 4 .any (Rows.storeDoesSpec.pre6 enc Tryz.prog Tryz.f4 Rows.storeDoesRow.domain false) (Rows.storeDoesSpec.post enc Tryz.prog Tryz.f4 false true false false) := by
  refine returnsInHanded_of_change_sized (C := Tryz.checked) Tryz.own started (by kernel_rfl) Tryz.func4
    (ChangeSpec.witness6 (enc := enc) (C := Tryz.checked) false ⟨#[], #[.agg #[.int .i64 0, .int .i64 0, .int .i64 0, .int .i64 0, .int .i64 0, .int .i64 0, .int .i64 0], .agg #[.slice none 0 0, .slice none 0 0, .slice none 0 0], .slice none 0 0], []⟩ 8 (by kernel_rfl) (by kernel_rfl) (by kernel_rfl) (by kernel_rfl)) ?_
  intro W base args ds gs before hval hW hcnd hsz _
  exact law_go (P := Tryz.prog) (fn := Tryz.f4) (s := Rows.storeDoesSpec) [23, 28, 55] (by kernel_rfl) Tryz.laidOut rfl (by kernel_rfl) (by kernel_rfl) Tryz.ubool
    (fun ds hl => match ds, hl with | [d1, d2, d3], _ => rfl) hval hW hsz StoreDoes_calls

theorem StoreDoes_holds : Rows.StoreDoesSaid :=
  OpenClaim.holds_of_wide 4 Tryz.f4 rfl rfl rfl rfl rfl rfl rfl ⟨rfl, rfl, rfl, rfl, rfl⟩ rfl rfl rfl rfl rfl (by kernel_rfl) Tryz.func4 (by kernel_rfl)
    (of_decide_eq_true (by kernel_rfl)) (by unfold Func.isWrapper; first | (rw [if_pos (by decide +kernel)]; kernel_rfl) | (rw [if_neg (by decide +kernel)]; exact ⟨rfl, rfl⟩))
    (fun os started H enc _ => StoreDoes_lifted os started H enc)

end Go.Proofs.YteabcbpimjjdpaaGreat
end
