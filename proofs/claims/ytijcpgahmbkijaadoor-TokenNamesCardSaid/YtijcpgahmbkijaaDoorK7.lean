/- TokenNames: what is proved and its parts, laid together by a program of ours: Tk7 TkW Tk8 RwTokenNames -/
import Derived.Test.YtijcpgahmbkijaaDoorK6
set_option autoImplicit false
set_option linter.all false
/- Tokens: errors, and answers that the document fixes. Own work. -/
section
set_option maxRecDepth 1000000
set_option linter.unusedVariables false
namespace Go.Proofs.YtijcpgahmbkijaaDoor
open Go Go.Vc

theorem nIF (t : TypeId) (v : Value) : ¬ isNilI (.iface t v) = true := Bool.false_ne_true
theorem oM_bytes (s : List Int) : ∀ t, isBytes (oM s t)
  | 0 => by
    intro n hn
    have hn : n ∈ zeros 32 := hn
    unfold zeros at hn
    rw [List.mem_replicate] at hn
    omega
  | t + 1 => by
    intro n hn
    have hn : n ∈ (oM s t).set t (outB s t) := hn
    rcases List.mem_or_eq_of_mem_set hn with h | h
    · exact oM_bytes s t n h
    · rw [h]
      unfold outB
      rw [IntKind.wrap_u8]
      omega
theorem shaM_bytes (ms : List Int) : isBytes (shaM ms) := oM_bytes _ _
theorem macM_bytes (key b : List Int) : isBytes (macM key b) := shaM_bytes _
theorem awake_put (tag : List Int) : putM24 1 [105, 100] [] tag = [80, 67, 84, 75, 1, 1, 2, 0, 105, 100] ++ tag := by
  unfold putM24 headM24 cbsM
  rw [List.append_nil]; rfl
theorem awake_get {tag : List Int} (ht : tag.length = 32) : tgetM (putM24 1 [105, 100] [] tag) = .ok ⟨1, [105, 100], [], tag⟩ := by
  rw [awake_put]
  obtain ⟨B, hB⟩ : ∃ B, B = ([80, 67, 84, 75, 1, 1, 2, 0, 105, 100] : List Int) ++ tag := ⟨_, rfl⟩
  have hl : B.length = 42 := by rw [hB, List.length_append, ht]; rfl
  have st : ∀ t, t < 8 → standsM t (B.getD t 0) = true := by
    intro t h
    have : t = 0 ∨ t = 1 ∨ t = 2 ∨ t = 3 ∨ t = 4 ∨ t = 5 ∨ t = 6 ∨ t = 7 := by omega
    rw [hB]
    rcases this with rfl | rfl | rfl | rfl | rfl | rfl | rfl | rfl <;> rfl
  have gh : ∀ k, k ≤ 8 → gHead B k = none := by
    intro k
    induction k with
    | zero => intro _; rfl
    | succ k ih =>
      intro h
      have := gHead_at B (t := 8 - (k + 1)) (by omega)
      rw [show 8 - (8 - (k + 1)) = k + 1 by omega, if_neg (by omega), if_pos (st _ (by omega)), show 8 - (8 - (k + 1) + 1) = k by omega, ih (by omega)] at this
      exact this
  have b6 : B.getD 6 0 = 2 := by rw [hB]; rfl
  have b7 : B.getD 7 0 = 0 := by rw [hB]; rfl
  have b5 : B.getD 5 0 = 1 := by rw [hB]; rfl
  have e1 : (B.drop 8).take 2 = [105, 100] := by rw [hB]; rfl
  have e2 : (B.drop 10).take 32 = tag := by
    rw [hB]
    show tag.take 32 = tag
    exact List.take_of_length_le (by omega)
  rw [← hB]
  unfold tgetM
  rw [gh 8 (by omega), b6, b7]
  dsimp only
  rw [if_neg (by rw [hl]; decide)]
  show (match gCavs B 0 10 [] with | .error e => Except.error e | .ok (a, cs) => gRest B a cs) = _
  unfold gCavs
  dsimp only
  unfold gRest
  rw [if_neg (by omega), if_neg (by omega), b5, b6, e2]
  show Except.ok (TkM.mk 1 ((B.drop 8).take 2) [] tag) = _
  rw [e1]
section
variable {h0 h : H} {A : List Ent} {i j d : Nat}
theorem told24_sp {Q : Int → Int → Bool → H → Prop} {w : Nat} {e a : Int} (hg : hc h0 ⟨0, 0, none⟩ = some errTypeV) (hs : Sat h0 A h) (m : At A i (blk w [.int .i64 e, .int .i64 a])) (he : e ≠ 0) (k : ∀ h', Sat h0 A h' → Q e a true h') :
    F_portcullislaw24_told (.iface 68 (.pointer (some ⟨w, 0, none⟩))) Q h := by
  unfold F_portcullislaw24_told G_portcullislaw24_told
  simp only [add_mk, Nat.zero_add]
  intro rb _ hn; replace hs := Sat.new hs hn; clear hn
  refine ⟨rfl, ?_⟩
  rw [if_neg (nIF _ _)]
  intro pb _ hn; replace hs := Sat.new hs hn; clear hn
  intro J hJ
  unfold F_errors_As
  refine Or.inr ⟨⟨w, 0, none⟩, pb, 0, .pointer none, rfl, rfl, hc_ext hs.ex hg (fun y => y), hs.ld (i := 0) .z rfl, ?_, ?_⟩
  · have := (Sat.can hs (i := 0) (o := 0) (n := 1) .z (by simp)) 0 (by decide)
    rw [add_zero] at this
    exact this.2
  intro b1 _ hn; replace hs := Sat.new hs hn; clear hn
  intro b2 _ hn; replace hs := Sat.new hs hn; clear hn
  intro b3 _ hn; replace hs := Sat.new hs hn; clear hn
  intro b4 _ hn; replace hs := Sat.new hs hn; clear hn
  intro h5 e5
  replace hs := Sat.wr hs (i := 4) (.s (.s (.s (.s .z)))) e5
  clear e5
  simp only [put_succ, put_zero] at hs
  replace hs := hs.drop.drop.drop.drop
  replace hs : Sat h0 (blk pb [.pointer (some ⟨w, 0, none⟩)] :: blk rb [.int .i64 0, .int .i64 0] :: A) h5 := hs
  rw [if_neg (by decide)]
  refine ⟨_, hs.ld (i := 0) .z rfl, ?_⟩
  rw [if_neg (by simp)]
  refine ⟨_, hs.ld (i := 0) .z rfl, _, rfl, _, hs.ld m.s.s rfl, ?_⟩
  rw [if_neg (by simpa using he)]
  apply hJ
  refine ⟨_, hs.ld (i := 0) .z rfl, _, rfl, _, hs.ld m.s.s rfl, _, hs.ld (i := 0) .z rfl, _, rfl, a, ?_, ?_⟩
  · have := hs.ld m.s.s (o := 1) rfl
    simpa using this
  refine ⟨Sat.can hs (i := 1) (.s .z) (by simp), ?_⟩
  intro h6 e6
  replace hs := Sat.wra hs (i := 1) (.s .z) e6 rfl
  clear e6
  simp only [put_succ, put_zero] at hs
  exact ⟨_, hs.ld (i := 1) (.s .z) rfl, _, hs.ld (i := 1) (.s .z) rfl, k _ hs.drop.drop⟩
end
end Go.Proofs.YtijcpgahmbkijaaDoor
end

/- Tokens: two tags part (reckoned). Own work. -/
section
set_option maxRecDepth 1000000
namespace Go.Proofs.YtijcpgahmbkijaaDoor
open Go Go.Vc
theorem awake_tags : (macM (macM [107] (msgM [105, 100])) (cbM ⟨1, 1, 0, 0, 0⟩) == macM [107] (msgM [105, 100])) = false := by decide +kernel
end Go.Proofs.YtijcpgahmbkijaaDoor
end

/- Tokens: awake; TokenNames. Own work. -/
section
set_option maxRecDepth 1000000
set_option linter.unusedVariables false
namespace Go.Proofs.YtijcpgahmbkijaaDoor
open Go Go.Vc
theorem awake_may : TokMay 1 [105, 100] [] := by decide
theorem get_nil : tgetM [] = .error (6, 0) := rfl
section
variable {h0 h : H} {A : List Ent} {i j d : Nat}
theorem hsv_nil (h : H) (p : Option Addr) (sz : Nat) : hsv h p sz 0 [] := ⟨by simp, by intro v hv; simp at hv, Or.inl rfl⟩
theorem awake24_sp {Q : Bool → H → Prop} (hg : hc h0 ⟨0, 0, none⟩ = some errTypeV) (hs : Sat h0 A h) (k : ∀ h', Sat h0 A h' → Q true h') : F_portcullislaw24_awake Q h := by
  unfold F_portcullislaw24_awake G_portcullislaw24_awake
  simp only [add_mk, Nat.zero_add, List.append_nil]
  intro kb _ hn; replace hs := Sat.new hs hn; clear hn
  refine ⟨_, rfl, ?_⟩
  intro h1 e
  replace hs := hs.mark (i := 0) .z e
  clear e
  intro sb _ hn; replace hs := Sat.new hs hn; clear hn
  refine keys1_sp (key := 1) (bs := [107]) hs (by decide) (by decide) (fun h' hs' => hs'.ld (i := 0) .z rfl) (fun h' hs' => by rw [add_mk]; exact hs'.ld (i := 0) .z rfl) (fun h' hs' => hs'.bv (i := 1) (l := 1) (.s .z) rfl (ints_one .u8 [107])) ?_
  intro r m kp kc h2 hkc hs
  intro J hJ
  rw [if_neg (by decide), if_neg (by simp)]
  apply hJ
  clear hJ J
  intro ib _ hn; replace hs := Sat.new hs hn; clear hn
  refine ⟨_, rfl, ?_⟩
  intro h3 e
  replace hs := hs.mark (i := 0) .z e
  clear e
  refine ⟨_, rfl, ?_⟩
  refine issue_sp (key := 1) (secret := [107]) (id := [105, 100]) hs (i := 2) (j := 3) (.s (.s .z)) (.s (.s (.s .z))) rfl hkc (by decide) (by decide) (fun h' hs' => hs'.sv (i := 1) (.s .z)) (fun h' hs' => hs'.bv (i := 0) (l := 2) .z rfl (ints_one .u8 [105, 100])) ?_
  intro p1 c1 h4 hc1 hs
  obtain ⟨tag, htag⟩ : ∃ tag, tag = macM [107] (msgM [105, 100]) := ⟨_, rfl⟩
  have htl : tag.length = 32 := by rw [htag]; exact macM_len _ _
  have htb : isBytes tag := by rw [htag]; exact macM_bytes _ _
  have hne := awake_tags
  rw [← htag] at hne ⊢
  clear htag
  intro tb _ hn; replace hs := Sat.new hs hn; clear hn
  refine ⟨Sat.can hs (i := 0) .z (by simp [zeros]), ?_⟩
  intro h5 e
  replace hs := Sat.wra (xs := tokL 1 p1 2 c1 none 0 0 tag) hs (i := 0) .z e (by simp [zeros, htl])
  clear e
  simp only [put_zero] at hs
  refine ⟨_, hs.ld (i := 0) .z rfl, _, _, _, hs.ld (i := 0) .z rfl, _, _, _, hs.ld (i := 0) .z rfl, tag, htl, tok_row hs (i := 0) .z, ?_⟩
  refine narrow_sp (⟨1, 1, 0, 0, 0⟩ : CvM) (id := [105, 100]) (cs := []) hs htl (by decide) (by decide) (fun h' hs' => hs'.sv (i := 1) (.s .z)) (fun h' hs' => hsv_nil _ _ _) (fun y => absurd y (by decide)) (fun _ y => absurd (by decide) y) ?_
  intro _ _ p2 c2 p3 c3 h6 hs
  obtain ⟨tag2, htag2⟩ : ∃ tag2, tag2 = macM tag (cbM ⟨1, 1, 0, 0, 0⟩) := ⟨_, rfl⟩
  have htl2 : tag2.length = 32 := by rw [htag2]; exact macM_len _ _
  rw [← htag2] at hne ⊢
  clear htag2
  intro ub _ hn; replace hs := Sat.new hs hn; clear hn
  refine ⟨Sat.can hs (i := 0) .z (by simp [zeros]), ?_⟩
  intro h7 e
  replace hs := Sat.wra (xs := tokL 1 p2 2 c2 p3 1 c3 tag2) hs (i := 0) .z e (by simp [zeros, htl2])
  clear e
  simp only [put_zero] at hs
  refine ⟨_, hs.ld (i := 3) (.s (.s (.s .z))) rfl, _, _, _, hs.ld (i := 3) (.s (.s (.s .z))) rfl, _, _, _, hs.ld (i := 3) (.s (.s (.s .z))) rfl, tag, htl, tok_row hs (i := 3) (.s (.s (.s .z))), ?_⟩
  refine narrow_sp (⟨0, 0, 0, 0, 0⟩ : CvM) (id := [105, 100]) (cs := []) hs htl (by decide) (by decide) (fun h' hs' => hs'.sv (i := 4) (.s (.s (.s (.s .z))))) (fun h' hs' => hsv_nil _ _ _) (fun y => absurd y (by decide)) ?_ (fun _ y => absurd y (by decide))
  intro _ _ h8 hs
  intro nb _ hn; replace hs := Sat.new hs hn; clear hn
  refine ⟨Sat.can hs (i := 0) .z (by simp [zeros]), ?_⟩
  intro h9 e
  replace hs := Sat.wra (xs := tok0) hs (i := 0) .z e (by simp [zeros])
  clear e
  simp only [put_zero] at hs
  refine ⟨_, hs.ld (i := 4) (.s (.s (.s (.s .z)))) rfl, _, _, _, hs.ld (i := 4) (.s (.s (.s (.s .z)))) rfl, _, _, _, hs.ld (i := 4) (.s (.s (.s (.s .z)))) rfl, tag, htl, tok_row hs (i := 4) (.s (.s (.s (.s .z)))), ?_⟩
  refine put_sp (id := [105, 100]) (cs := []) hs htl (by decide) (fun h' hs' => hs'.sv (i := 5) (.s (.s (.s (.s (.s .z)))))) (fun h' hs' => hsv_nil _ _ _) (fun y => absurd awake_may y) ?_
  intro _ p4 c4 h10 hc4 hs
  have hpl : (putM24 1 [105, 100] [] tag).length = 42 := by rw [awake_put, List.length_append, htl]; rfl
  have hpb : isBytes (putM24 1 [105, 100] [] tag) := by
    rw [awake_put]
    intro n hn
    rcases List.mem_append.1 hn with hn | hn
    · simp only [List.mem_cons, List.not_mem_nil, or_false] at hn
      omega
    · exact htb n hn
  have hget := awake_get htl
  generalize putM24 1 [105, 100] [] tag = B at *
  rw [hpl] at hs hc4 ⊢
  refine get_sp (bs := B) hs hpb hc4 (by decide) (fun h' hs' => hs'.sv (i := 0) .z) (fun e a he => by rw [hget] at he; cases he) ?_
  intro t ht p5 c5 p6 l6 c6 h11 hl6 hs htt
  rw [hget] at ht
  injection ht with ht
  subst ht
  dsimp only at hs htt hl6 ⊢
  intro xb _ hn; replace hs := Sat.new hs hn; clear hn
  refine ⟨Sat.can hs (i := 0) .z (by simp [zeros]), ?_⟩
  intro h12 e
  replace hs := Sat.wra (xs := tokL 1 p5 2 c5 p6 l6 c6 tag) hs (i := 0) .z e (by simp [zeros, htl])
  clear e
  simp only [put_zero] at hs
  refine get_sp (bs := []) hs (by intro n hn; simp at hn) (by decide) (by decide) (fun h' hs' => hsv_nil _ _ _) ?_ (fun t ht => by rw [get_nil] at ht; cases ht)
  intro e a hea wb h13 hs
  rw [get_nil] at hea
  injection hea with hea
  injection hea with he ha
  subst he ha
  intro yb _ hn; replace hs := Sat.new hs hn; clear hn
  refine ⟨Sat.can hs (i := 0) .z (by simp [zeros]), ?_⟩
  intro h14 e
  replace hs := Sat.wra (xs := tok0) hs (i := 0) .z e (by simp [zeros])
  clear e
  simp only [put_zero] at hs
  refine told24_sp hg hs (i := 1) (.s .z) (by decide) ?_
  intro h15 hs
  intro zb _ hn; replace hs := Sat.new hs hn; clear hn
  refine ⟨Sat.can hs (i := 0) .z (by simp), ?_⟩
  intro h16 e
  replace hs := Sat.wra hs (i := 0) .z e rfl
  clear e
  simp only [put_zero] at hs
  rw [if_pos (by decide), if_pos (by decide)]
  have tU := At.s (x := blk zb [.int .i64 6, .int .i64 0]) (At.s (x := blk yb tok0) (At.s (x := blk wb [.int .i64 6, .int .i64 0]) (At.s (x := blk xb (tokL 1 p5 2 c5 p6 l6 c6 tag)) (At.s (x := slE p6 l6 c6 5 (cvsV [])) (At.s (x := slE p5 2 c5 1 (ints .u8 [105, 100])) (At.s (x := slE p4 42 c4 1 (ints .u8 B)) (At.s (x := blk nb tok0) (At.z (e := blk ub (tokL 1 p2 2 c2 p3 1 c3 tag2)) (A := slE p3 1 c3 5 (cvsV [⟨1, 1, 0, 0, 0⟩]) :: slE p2 2 c2 1 (ints .u8 [105, 100]) :: blk tb (tokL 1 p1 2 c1 none 0 0 tag) :: slE p1 2 c1 1 (ints .u8 [105, 100]) :: blk ib (ints .u8 [105, 100]) :: slE kp 1 kc 1 (ints .u8 [107]) :: blk r [.map (some m)] :: mapE m [(.int .i64 1, .one (.slice kp 1 kc))] :: blk sb [.int .i64 1, .slice (some ⟨kb, 0, none⟩) 1 1] :: blk kb (ints .u8 [107]) :: A)))))))))
  refine ⟨_, _, _, hs.ld tU rfl, ?_⟩
  rw [if_pos (by decide)]
  have tT : At _ 11 (blk tb (tokL 1 p1 2 c1 none 0 0 tag)) := At.s (x := blk zb [.int .i64 6, .int .i64 0]) (At.s (x := blk yb tok0) (At.s (x := blk wb [.int .i64 6, .int .i64 0]) (At.s (x := blk xb (tokL 1 p5 2 c5 p6 l6 c6 tag)) (At.s (x := slE p6 l6 c6 5 (cvsV [])) (At.s (x := slE p5 2 c5 1 (ints .u8 [105, 100])) (At.s (x := slE p4 42 c4 1 (ints .u8 B)) (At.s (x := blk nb tok0) (At.s (x := blk ub (tokL 1 p2 2 c2 p3 1 c3 tag2)) (At.s (x := slE p3 1 c3 5 (cvsV [⟨1, 1, 0, 0, 0⟩])) (At.s (x := slE p2 2 c2 1 (ints .u8 [105, 100])) (At.z (A := slE p1 2 c1 1 (ints .u8 [105, 100]) :: blk ib (ints .u8 [105, 100]) :: slE kp 1 kc 1 (ints .u8 [107]) :: blk r [.map (some m)] :: mapE m [(.int .i64 1, .one (.slice kp 1 kc))] :: blk sb [.int .i64 1, .slice (some ⟨kb, 0, none⟩) 1 1] :: blk kb (ints .u8 [107]) :: A))))))))))))
  refine ⟨tag2, htl2, tok_row hs tU, tag, htl, tok_row hs tT, ?_⟩
  rw [if_pos (show (!tag2 == tag) = true by rw [hne]; rfl), if_pos (by decide), if_pos (by decide), if_pos (by decide)]
  refine ⟨rfl, ?_⟩
  rw [if_pos (by decide)]
  refine ⟨_, hs.ld (i := 3) (.s (.s (.s .z))) rfl, ?_⟩
  rw [if_pos (by decide)]
  refine ⟨_, _, _, hs.ld (i := 3) (.s (.s (.s .z))) rfl, [105, 100], hs.sv (i := 5) (.s (.s (.s (.s (.s .z))))), ?_⟩
  rw [if_pos (by decide +kernel), if_pos rfl]
  refine ⟨_, hs.ld (i := 0) .z rfl, _, hs.ld (i := 0) .z rfl, ?_⟩
  exact k _ (hs.sub (by (repeat (first | exact List.Sublist.refl _ | apply List.Sublist.cons_cons | apply List.Sublist.cons))))
theorem TokenNames_sp {Q : Bool → H → Prop} (hg : hc h0 ⟨0, 0, none⟩ = some errTypeV) (hs : Sat h0 A h) (k : ∀ h', Sat h0 A h' → Q true h') : F_portcullislaw24_TokenNames Q h := by
  unfold F_portcullislaw24_TokenNames G_portcullislaw24_TokenNames
  first
    | exact awake24_sp hg hs k
    | (refine awake24_sp hg hs ?_; intro h1 hs; exact k _ hs)
end
end Go.Proofs.YtijcpgahmbkijaaDoor
end

/- TokenNames: the kinds and errors by their numbers, and answers that the document fixes. -/
section
set_option maxRecDepth 100000
set_option linter.unusedVariables false
namespace Go.Proofs.YtijcpgahmbkijaaDoor
open Go Go.Vc Go.ChangeShapes Go.WideShapes Go.ChangeAt Go.RowKit

theorem TokenNames_calls {D : Type} {enc : TypeId × Value → D} {W : World} {base : Nat} (hg : hc W.heap ⟨0, 0, none⟩ = some errTypeV) (vs : List Value) (h : ArgsOk enc PP W base [] vs) : CallsTrue PP 3 vs W := by
  obtain ⟨hl, h⟩ := h
  match vs, hl with
  | [], _ =>
  have := R_portcullislaw24_TokenNames [] (fun rs h' => rs = [DV.one (.bool true)] ∧ Ext none_ W.heap h') W.heap (by intro x hx; simp at hx) (by
    show F_portcullislaw24_TokenNames (fun b h' => [DV.one (.bool b)] = [DV.one (.bool true)] ∧ Ext none_ W.heap h') W.heap
    exact TokenNames_sp hg (Sat.init _) fun h' x => ⟨rfl, x.ex⟩)
  exact this
theorem TokenNames_lifted (os : Os) (started : os.Started) (D : Type) (enc : TypeId × Value → D) :
    ReturnsInHanded {} Tryd.checked os 3 .any (fun w args => (Rows.tokenNamesSpec.pre enc Tryd.prog Tryd.f3 [] false w args ∧ laidMetH Tryd.prog laidL w) ∧ sizedMet enc Tryd.prog Tryd.f3 (OpenSpec.ofChange Rows.tokenNamesSpec) false w args)
      (Rows.tokenNamesSpec.post enc Tryd.prog Tryd.f3 false true false false) := by
  refine returnsInHanded_of_change_and (C := Tryd.checked) (X := fun w _ => laidMetH Tryd.prog laidL w) (fun _ _ _ hh h => h.of_heap hh) Tryd.own started (by kernel_rfl) Tryd.func3
    (ChangeSpec.witness_at (enc := enc) (C := Tryd.checked) (os := os) (X := fun w _ => laidMetH Tryd.prog laidL w) false (laidWorld os) #[] 8 rfl (by kernel_rfl) (by kernel_rfl) (by kernel_rfl) (by kernel_rfl) (by kernel_rfl) (laidWorld_met os _)) ?_
  intro W base args ds gs before hval hW hcnd hsz hL _
  exact law_go (P := Tryd.prog) (fn := Tryd.f3) (s := Rows.tokenNamesSpec) [] (by kernel_rfl) Tryd.laidOut rfl (by kernel_rfl) (by kernel_rfl) Tryd.ubool
    (fun ds hl => match ds, hl with | [], _ => rfl) hval hW hsz (TokenNames_calls (handle_of_laid hL))

theorem TokenNames_said : Rows.TokenNamesSaid :=
  OpenClaim.holds_of_wide 3 Tryd.f3 rfl rfl rfl rfl rfl rfl rfl ⟨rfl, rfl, rfl, rfl, rfl⟩ rfl rfl rfl rfl rfl (by kernel_rfl) Tryd.func3 (by kernel_rfl)
    (of_decide_eq_true (by kernel_rfl)) (by unfold Func.isWrapper; first | (rw [if_pos (by decide +kernel)]; kernel_rfl) | (rw [if_neg (by decide +kernel)]; exact ⟨rfl, rfl⟩))
    (fun os started H enc _ => TokenNames_lifted os started H enc)

theorem TokenNames_plain (f : FuncId) (fn : Func) (hf : Tryd.pinned.checked.prog.funcNamed "portcullis/portcullislaw24.TokenNames" = some f) (hfn : Tryd.pinned.checked.prog.funcs[f]? = some fn) :
    true = Tryd.pinned.checked.prog.looks [] ∧ ∀ (j : Nat) t, fn.params[j]? = some t → Tryd.pinned.checked.prog.wantsStandIn t = false := by
  obtain rfl : f = 3 := Option.some.inj ((show Tryd.prog.funcNamed "portcullis/portcullislaw24.TokenNames" = some 3 by kernel_rfl).symm.trans hf) |>.symm
  obtain rfl : fn = Tryd.f3 := (Option.some.inj (Tryd.func3.symm.trans hfn)).symm
  refine ⟨by kernel_rfl, fun j t ht => ?_⟩
  have hp : Tryd.f3.params.toList = [] := by kernel_rfl
  have hm := Array.mem_toList_iff.2 (Array.mem_of_getElem? ht)
  rw [hp] at hm
  cases hm

theorem TokenNames_holds : Rows.TokenNamesCardSaid :=
  Claim7.holds_tied_plain_at .later [] _ _ _ _ TokenNames_said (fun _ h => by cases h) (by kernel_rfl) (fun _ h => by cases h) tokenNames_row_tie rfl ⟨rfl, rfl⟩ (by kernel_rfl) rfl TokenNames_plain (by kernel_rfl)

end Go.Proofs.YtijcpgahmbkijaaDoor
end
