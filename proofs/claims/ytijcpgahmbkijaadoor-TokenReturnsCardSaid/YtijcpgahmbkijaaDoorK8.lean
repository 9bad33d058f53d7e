/- TokenReturns: what is proved and its parts, laid together by a program of ours: At Tr7 RwTokenReturns -/
import Derived.Test.YtijcpgahmbkijaaDoorRows
import Derived.Test.YtijcpgahmbkijaaDoorK7
set_option autoImplicit false
set_option linter.all false
/- What arguments of the statements are: tokens, bytes. Own work. -/
section
set_option maxRecDepth 100000
set_option linter.unusedVariables false
namespace Go.Proofs.YtijcpgahmbkijaaDoor
open Go Go.Vc Go.ChangeShapes Go.WideShapes Go.ChangeAt Go.RowKit

theorem xByte24 : xsh PP 8 5 = some [.int .u8] := by kernel_rfl
theorem xCav24 : xsh PP 8 66 = some [.int .i64, .int .i64, .int .i64, .int .i64, .int .u64] := by kernel_rfl
theorem xTok24 : xsh PP 8 28 = some [.int .i64, .slc 5, .slc 66, .row .u8 32] := by kernel_rfl
section
variable {D : Type} {enc : TypeId × Value → D} {W : World}
theorem bytes24_of {p : Option Addr} {l c : Nat} (h : Sli enc PP W 5 p l c) : ∃ ns : List Int, hsv W.heap p 1 l (ints .u8 ns) ∧ isBytes ns ∧ l ≤ c ∧ l + 4096 ≤ 2 ^ 47 := by
  have hb : Tryd.prog.bytesOf 5 = 1 := by kernel_rfl
  have hc : Tryd.prog.cellsOf 5 = 1 := by kernel_rfl
  obtain ⟨ess, h1, h2, h3, _⟩ := h.els xByte24
  have hlc := h.1
  have hr := h.2.1
  rw [hb] at hr
  rw [hc] at h3
  have key : ∀ ess : List (List Value), (∀ es, es ∈ ess → es.length = Tryd.prog.cellsOf 5 ∧ XM enc PP W [XSh.int .u8] es) → ∃ ns : List Int, ess.flatten = ints .u8 ns ∧ isBytes ns := by
    intro ess
    induction ess with
    | nil => intro _; exact ⟨[], rfl, by intro n hn; simp at hn⟩
    | cons x r ih =>
      intro h
      obtain ⟨ns, e, hn⟩ := ih fun es hes => h es (by simp [hes])
      obtain ⟨n, rest, rfl, hh, hr⟩ := (h x (by simp)).2
      simp only [XM] at hr
      subst hr
      refine ⟨n :: ns, by simp [e], ?_⟩
      intro m hm
      rcases List.mem_cons.1 hm with rfl | hm
      · exact has_u8 hh
      · exact hn m hm
  obtain ⟨ns, e, hn⟩ := key ess h2
  rw [e] at h3
  refine ⟨ns, h3, hn, hlc, ?_⟩
  unfold reachBytes at hr
  omega
theorem cavs_of {p : Option Addr} {l c : Nat} (h : Sli enc PP W 66 p l c) : ∃ cs : List CvM, hsv W.heap p 5 l (cvsV cs) ∧ (∀ c, c ∈ cs → c.typed) ∧ l ≤ c ∧ l * 40 + 4096 ≤ 2 ^ 47 := by
  have hb : Tryd.prog.bytesOf 66 = 40 := by kernel_rfl
  have hc : Tryd.prog.cellsOf 66 = 5 := by kernel_rfl
  obtain ⟨ess, h1, h2, h3, _⟩ := h.els xCav24
  have hlc := h.1
  have hr := h.2.1
  rw [hb] at hr
  rw [hc] at h3
  have key : ∀ ess : List (List Value), (∀ es, es ∈ ess → es.length = Tryd.prog.cellsOf 66 ∧ XM enc PP W [XSh.int .i64, .int .i64, .int .i64, .int .i64, .int .u64] es) → ∃ cs : List CvM, ess.flatten = cvsV cs ∧ ∀ c, c ∈ cs → c.typed := by
    intro ess
    induction ess with
    | nil => intro _; exact ⟨[], rfl, by intro n hn; simp at hn⟩
    | cons x r ih =>
      intro h
      obtain ⟨cs, e, hn⟩ := ih fun es hes => h es (by simp [hes])
      obtain ⟨a, _, rfl, ha, b, _, rfl, hb, c, _, rfl, hc, d, _, rfl, hd, f, _, rfl, hf, hr⟩ := (h x (by simp)).2
      simp only [XM] at hr
      subst hr
      refine ⟨⟨a, b, c, d, f⟩ :: cs, by simp [e, cvsV], ?_⟩
      intro m hm
      rcases List.mem_cons.1 hm with rfl | hm
      · exact ⟨ha, hb, hc, hd, hf⟩
      · exact hn m hm
  obtain ⟨cs, e, hn⟩ := key ess h2
  rw [e] at h3
  refine ⟨cs, h3, hn, hlc, ?_⟩
  unfold reachBytes at hr
  omega
theorem slice24_of {t e : TypeId} {v : Value} {base : Nat} (u : Tryd.prog.underlying t = some (.slice e)) (h : Rdt enc PP W t v.cells.toList) (ho : Value.okWide PP W .any base t v) : ∃ p l c, v = .slice p l c ∧ Sli enc PP W e p l c := by
  obtain ⟨p, l, c, e1, hs⟩ := Rdt.slice u h
  exact ⟨p, l, c, okw_one (by rw [u]) ho e1, hs⟩
/-- A token that came in. -/
structure TokIn (h : H) (key : Int) (id tag : List Int) (cs : List CvM) (ip : Option Addr) (il : Nat) (cp : Option Addr) (cl : Nat) : Prop where
  key : has .i64 key
  ri : hsv h ip 1 il (ints .u8 id)
  rb : isBytes id
  ii : il + 4096 ≤ 2 ^ 47
  rc : hsv h cp 5 cl (cvsV cs)
  ct : ∀ c, c ∈ cs → c.typed
  cc : cl * 40 + 4096 ≤ 2 ^ 47
  tl : tag.length = 32
  tb : isBytes tag
theorem tok24_of {v : Value} {base : Nat} (h : Rdt enc PP W 28 v.cells.toList) (ho : Value.okWide PP W .any base 28 v) :
    ∃ key id tag cs ip il ic cp cl cc, v = .agg (tokL key ip il ic cp cl cc tag).toArray ∧ TokIn W.heap key id tag cs ip il cp cl := by
  have e := okw_agg (by kernel_rfl) ho
  obtain ⟨key, r1, e1, hk, ip, il, ic, r2, rfl, s2, cp, cl, cc, r3, rfl, s3, tag, r4, rfl, tl, th, hr⟩ := Rdt.xm 8 _ _ _ xTok24 h
  simp only [XM] at hr
  subst hr
  obtain ⟨id, i1, i2, _, i4⟩ := bytes24_of s2
  obtain ⟨cs, c1, c2, _, c4⟩ := cavs_of s3
  refine ⟨key, id, tag, cs, ip, il, ic, cp, cl, cc, ?_, hk, i1, i2, i4, c1, c2, c4, tl, fun x hx => has_u8 (th x hx)⟩
  rw [e]
  congr 1
  rw [← Array.toArray_toList (xs := v.cells), e1, List.append_nil]
theorem ok_tok {key : Int} {tag : List Int} {ip cp : Option Addr} {il ic cl cc : Nat} (ht : tag.length = 32) : (DV.agg [.c (.int .i64 key), .c (.slice ip il ic), .c (.slice cp cl cc), .row .u8 32 tag]).ok := by
  intro y hy
  simp only [List.mem_cons, List.not_mem_nil, or_false] at hy
  rcases hy with rfl | rfl | rfl | rfl
  · rfl
  · rfl
  · rfl
  · exact ht
end
end Go.Proofs.YtijcpgahmbkijaaDoor
end

/- TokenReturns: walked. Own work. -/
section
set_option maxRecDepth 100000
set_option linter.unusedVariables false
namespace Go.Proofs.YtijcpgahmbkijaaDoor
open Go Go.Vc
section
variable {h0 h : H} {A : List Ent} {i j d : Nat}
theorem TokenReturns_sp {Q : Bool → H → Prop} (hg : hc h0 ⟨0, 0, none⟩ = some errTypeV) {key : Int} {id tag bs : List Int} {cs : List CvM} {ip cp p : Option Addr} {il ic cl cc l c : Nat} (ht : tag.length = 32) (hi : il + 4096 ≤ 2 ^ 47) (htb : isBytes tag) (hib : isBytes id) (hty : ∀ c ∈ cs, c.typed)
    (ri : hsv h0 ip 1 il (ints .u8 id)) (rc : hsv h0 cp 5 cl (cvsV cs)) (hl : l < 2 ^ 47) (hlc : l ≤ c) (hb : isBytes bs) (rb : hsv h0 p 1 l (ints .u8 bs)) (hs : Sat h0 A h)
    (k : ∀ h', Sat h0 [] h' → Q true h') : F_portcullislaw24_TokenReturns key ip il ic cp cl cc tag p l c Q h := by
  unfold F_portcullislaw24_TokenReturns G_portcullislaw24_TokenReturns
  simp only [add_mk, Nat.zero_add, List.append_nil]
  have hcl : cs.length = cl := by have := rc.1; rw [cvsV_len] at this; omega
  have hil : id.length = il := by have := ri.1; simpa using this
  have hbl : bs.length = l := by have := rb.1; simpa using this
  intro tb _ hn; replace hs := Sat.new hs hn; clear hn
  replace hs : Sat h0 (blk tb (tokL key ip il ic cp cl cc tag) :: A) _ := hs
  refine awake24_sp hg hs ?_
  intro h1 hs
  rw [if_neg (by decide)]
  refine ⟨_, hs.ld (i := 0) .z rfl, _, _, _, hs.ld (i := 0) .z rfl, _, _, _, hs.ld (i := 0) .z rfl, tag, ht, tok_row hs (i := 0) .z, ?_⟩
  refine rfew_sp hs ?_
  intro h2 hs
  by_cases cf : cl ≤ 65536
  case neg =>
    rw [if_pos (by simp [cf])]
    exact k _ hs.nil
  rw [if_neg (by simp [cf])]
  refine ⟨_, hs.ld (i := 0) .z rfl, _, _, _, hs.ld (i := 0) .z rfl, _, _, _, hs.ld (i := 0) .z rfl, tag, ht, tok_row hs (i := 0) .z, ?_⟩
  refine lawof_sp (id := id) (cs := cs) hs ht hi cf (fun h' hs' => hs'.base ri) (fun h' hs' => hs'.base rc) ?_
  intro p1 c1 p2 c2 h3 hc1 hs
  have way : ∀ h', Sat h0 [] h' → F_token_Get p l c (fun i60 o61 n62 n63 o64 n65 n66 l67 v68 h69 => ∀ (n70 : Nat) (h71 : H), hnew h69 n70 tok0 h71 → hcan h71 ⟨n70, 0, none⟩ 35 ∧ ∀ h73 : H, h73 = hwr h71 ⟨n70, 0, none⟩ (.int .i64 i60 :: .slice o61 n62 n63 :: .slice o64 n65 n66 :: ints .u8 l67) → isIfc v68 = true ∧
      if (!isNilI v68) = true then F_portcullislaw24_told v68 (fun i75 i76 b77 h78 => ∀ (n79 : Nat) (h80 : H), hnew h78 n79 [.int .i64 0, .int .i64 0] h80 → hcan h80 ⟨n79, 0, none⟩ 2 ∧ ∀ h82 : H, h82 = hwr h80 ⟨n79, 0, none⟩ [.int .i64 i75, .int .i64 i76] →
          if b77 = true then ∃ i84 : Int, hc h82 ⟨n79, 1, none⟩ = some (.int .i64 i84) ∧ if leI 0 i84 = true then ∃ i85 : Int, hc h82 ⟨n79, 1, none⟩ = some (.int .i64 i85) ∧ if leI i85 (l : Int) = true then
            ∃ i86 : Int, hc h82 ⟨n70, 0, none⟩ = some (.int .i64 i86) ∧ ∃ (o87 : Option Addr) (n88 n89 : Nat), hc h82 ⟨n70, 1, none⟩ = some (.slice o87 n88 n89) ∧ ∃ (o90 : Option Addr) (n91 n92 : Nat), hc h82 ⟨n70, 2, none⟩ = some (.slice o90 n91 n92) ∧ ∃ l93 : List Int, l93.length = 32 ∧ hrow h82 ⟨n70, 3, none⟩ .u8 l93 ∧
              F_portcullislaw24_back i86 o87 n88 n89 o90 n91 n92 l93 (fun i94 o95 n96 n97 o98 n99 n100 l101 h102 => F_portcullisref24_Same i94 o95 n96 n97 o98 n99 n100 l101 0 none 0 0 none 0 0 (zeros 32) (fun b103 h104 => Q b103 h104) h102) h82
            else Q false h82 else Q false h82 else Q false h82) h73
      else ∃ i105 : Int, hc h73 ⟨n70, 0, none⟩ = some (.int .i64 i105) ∧ ∃ (o106 : Option Addr) (n107 n108 : Nat), hc h73 ⟨n70, 1, none⟩ = some (.slice o106 n107 n108) ∧ ∃ (o109 : Option Addr) (n110 n111 : Nat), hc h73 ⟨n70, 2, none⟩ = some (.slice o109 n110 n111) ∧ ∃ l112 : List Int, l112.length = 32 ∧ hrow h73 ⟨n70, 3, none⟩ .u8 l112 ∧
        F_token_Put i105 o106 n107 n108 o109 n110 n111 l112 (fun o113 n114 n115 i116 h117 => if (i116 == 0) = true then ∃ l118 : List Int, hsv h117 o113 1 n114 (ints .u8 l118) ∧ ∃ l119 : List Int, hsv h117 p 1 l (ints .u8 l119) ∧ Q ((bytesOf l118).toList == (bytesOf l119).toList) h117 else Q false h117) h73) h' := by
    intro h' hs
    refine get_sp hs hb hlc hl (fun h' hs' => hs'.base rb) ?_ ?_
    · intro e a hea w h7 hs
      obtain ⟨a0, a1⟩ := tget_at hea
      intro xb _ hn; replace hs := Sat.new hs hn; clear hn
      refine ⟨Sat.can hs (i := 0) .z (by simp [zeros]), ?_⟩
      intro h8 e8
      replace hs := Sat.wra (xs := tok0) hs (i := 0) .z e8 rfl
      clear e8
      simp only [put_zero] at hs
      refine ⟨rfl, ?_⟩
      rw [if_pos (notNil _ _)]
      refine told24_sp hg hs (i := 1) (.s .z) (tget_ne hea) ?_
      intro h12 hs
      intro vb _ hn; replace hs := Sat.new hs hn; clear hn
      refine ⟨Sat.can hs (i := 0) .z (by simp), ?_⟩
      intro h13 e13
      replace hs := Sat.wra (xs := [.int .i64 e, .int .i64 a]) hs (i := 0) .z e13 rfl
      clear e13
      simp only [put_zero] at hs
      rw [if_pos rfl]
      refine ⟨_, hs.ld (i := 0) .z rfl, ?_⟩
      rw [leI_eq, if_pos (by simpa using a0)]
      refine ⟨_, hs.ld (i := 0) .z rfl, ?_⟩
      rw [leI_eq, if_pos (by rw [decide_eq_true_iff]; omega)]
      refine ⟨_, hs.ld (i := 1) (.s .z) rfl, _, _, _, hs.ld (i := 1) (.s .z) rfl, _, _, _, hs.ld (i := 1) (.s .z) rfl, _, zeros_len 32, tok_row hs (i := 1) (.s .z), ?_⟩
      refine back_sp (cs := []) hs (zeros_len 32) (by decide) (fun h' hs' => hsv_nil _ _ _) ?_
      intro p5 c5 h14 hs
      refine rsame_sp (id := []) (cs := []) hs (zeros_len 32) (by decide) (fun h' hs' => hsv_nil _ _ _) (fun h' hs' => hs'.sv (i := 0) .z) (fun h' hs' => hsv_nil _ _ _) (fun h' hs' => hsv_nil _ _ _) ?_
      intro h15 hs
      exact k _ hs.nil
    · intro T hT p5 c5 p6 l6 c6 h7 hl6 hs htt
      obtain ⟨g1, g2, _⟩ := put_get hb hT
      intro xb _ hn; replace hs := Sat.new hs hn; clear hn
      refine ⟨Sat.can hs (i := 0) .z (by simp [zeros]), ?_⟩
      intro h8 e8
      replace hs := Sat.wra (xs := tokL T.key p5 T.id.length c5 p6 l6 c6 T.tag) hs (i := 0) .z (by simpa using e8) (by simp [zeros, htt])
      clear e8
      simp only [put_zero] at hs
      refine ⟨rfl, ?_⟩
      rw [if_neg (by decide)]
      refine ⟨_, hs.ld (i := 0) .z rfl, _, _, _, hs.ld (i := 0) .z rfl, _, _, _, hs.ld (i := 0) .z rfl, _, htt, tok_row hs (i := 0) .z, ?_⟩
      have hb6 : l6 < 2 ^ 40 := by
        have := tget_few hT
        omega
      refine put_sp (id := T.id) (cs := T.cs) hs htt hb6 (fun h' hs' => hs'.sv (i := 2) (.s (.s .z))) (fun h' hs' => hs'.sv (i := 1) (.s .z)) (fun y => absurd g1 y) ?_
      intro _ p9 c9 h9 _ hs
      rw [g2] at hs ⊢
      rw [if_pos (by decide)]
      refine ⟨_, hs.sv (i := 0) .z, _, hs.base rb, ?_⟩
      rw [show ((bytesOf bs).toList == (bytesOf bs).toList) = true by simp]
      exact k _ hs.nil
  refine put_sp (id := id) (cs := cs) hs ht (by omega) (fun h' hs' => ofId hil hc1 (hs'.sv (i := 1) (.s .z))) (fun h' hs' => hs'.sv (i := 0) .z) ?_ ?_
  · intro g h4 hs
    intro J58 hJ58
    rw [if_neg (by decide), if_neg (by decide), ltI_eq, if_neg (by simp)]
    apply hJ58
    exact way _ hs.nil
  · intro g p3 c3 h4 hc3 hs
    intro J58 hJ58
    rw [if_pos (by decide)]
    have gp := get_put (tag := tag) g hty ht
    have hpl : (putM24 key id cs tag).length = 8 + id.length + cs.length * 26 + 32 := by
      unfold putM24
      rw [List.length_append, List.length_append, headM24_len, cbsM_len, ht]
    obtain ⟨⟨k1, k2⟩, ⟨i1, i2⟩, c32, cm⟩ := g
    have hpb : isBytes (putM24 key id cs tag) := by
      unfold putM24 headM24
      refine isB_app (isB_app (isB_app (isB_app ?_ ?_) hib) (cbsM_bytes cs)) htb
      · intro v hv
        simp only [List.mem_cons, List.not_mem_nil, or_false] at hv
        omega
      · intro v hv
        simp only [List.mem_cons, List.not_mem_nil, or_false] at hv
        rcases hv with rfl | rfl | rfl <;> (rw [IntKind.wrap_u8]; omega)
    refine get_sp hs hpb hc3 (by omega) (fun h' hs' => hs'.sv (i := 0) .z) (fun e a he => by rw [gp] at he; cases he) ?_
    intro T hT p5 c5 p6 l6 c6 h7 hl6 hs htt
    rw [gp] at hT
    injection hT with hT
    subst hT
    dsimp only at hs htt hl6 ⊢
    intro xb _ hn; replace hs := Sat.new hs hn; clear hn
    refine ⟨Sat.can hs (i := 0) .z (by simp [zeros]), ?_⟩
    intro h8 e8
    replace hs := Sat.wra (xs := tokL key p5 id.length c5 p6 l6 c6 tag) hs (i := 0) .z (by simpa using e8) (by simp [zeros, ht])
    clear e8
    simp only [put_zero] at hs
    refine ⟨rfl, ?_⟩
    rw [if_neg (by decide)]
    refine ⟨_, hs.ld (i := 0) .z rfl, _, _, _, hs.ld (i := 0) .z rfl, _, _, _, hs.ld (i := 0) .z rfl, _, ht, tok_row hs (i := 0) .z, ?_⟩
    have tx := At.s (x := blk xb (tokL key p5 id.length c5 p6 l6 c6 tag)) (At.s (x := slE p6 l6 c6 5 (cvsV cs)) (At.s (x := slE p5 id.length c5 1 (ints .u8 id)) (At.s (x := slE p3 (putM24 key id cs tag).length c3 1 (ints .u8 (putM24 key id cs tag))) (At.s (x := slE p2 cl c2 5 (cvsV cs)) (At.s (x := slE p1 (il + 3) c1 1 (ints .u8 (id ++ [161, 162, 163]))) (At.z (A := A) (e := blk tb (tokL key ip il ic cp cl cc tag))))))))
    refine ⟨_, hs.ld tx rfl, _, _, _, hs.ld tx rfl, _, _, _, hs.ld tx rfl, _, ht, tok_row hs tx, ?_⟩
    refine back_sp (cs := cs) hs ht (by omega) (fun h' hs' => hs'.sv (i := 1) (.s .z)) ?_
    intro p9 c9 h9 hs
    refine ⟨Sat.cs hs (i := 7) (.s (.s (.s (.s (.s (.s (.s .z))))))) (by rw [List.drop_zero, List.take_of_length_le (Nat.le_refl _)]), ?_⟩
    refine rsame_sp (id := id) (cs := cs) hs ht (by omega) (fun h' hs' => hs'.sv (i := 3) (.s (.s (.s .z)))) (fun h' hs' => hs'.sv (i := 0) .z) (fun h' hs' => hs'.base ri) (fun h' hs' => hs'.base rc) ?_
    intro h10 hs
    rw [if_neg (by decide)]
    apply hJ58
    exact way _ hs.nil
end
end Go.Proofs.YtijcpgahmbkijaaDoor
end

/- TokenReturns: tokens, put and read; bytes, read and put; for every input. -/
section
set_option maxRecDepth 100000
set_option linter.unusedVariables false
namespace Go.Proofs.YtijcpgahmbkijaaDoor
open Go Go.Vc Go.ChangeShapes Go.WideShapes Go.ChangeAt Go.RowKit

theorem TokenReturns_calls {D : Type} {enc : TypeId × Value → D} {W : World} {base : Nat} (hg : hc W.heap ⟨0, 0, none⟩ = some errTypeV) (vs : List Value) (h : ArgsOk enc PP W base [28, 23] vs) : CallsTrue PP 5 vs W := by
  obtain ⟨hl, h⟩ := h
  match vs, hl with
  | [v0, v1], _ =>
  obtain ⟨r0, w0⟩ := h 0 _ v0 rfl rfl
  obtain ⟨r1, w1⟩ := h 1 _ v1 rfl rfl
  obtain ⟨key, id, tag, cs, ip, il, ic, cp, cl, cc, rfl, T⟩ := tok24_of r0 w0
  obtain ⟨p, l, c, rfl, hsl⟩ := slice24_of (e := 5) (by kernel_rfl) r1 w1
  obtain ⟨bs, b1, b2, b3, b4⟩ := bytes24_of hsl
  have := R_portcullislaw24_TokenReturns [.agg [.c (.int .i64 key), .c (.slice ip il ic), .c (.slice cp cl cc), .row .u8 32 tag], .one (.slice p l c)] (fun rs h' => rs = [DV.one (.bool true)] ∧ Ext none_ W.heap h') W.heap (by
    intro x hx
    simp only [List.mem_cons, List.not_mem_nil, or_false] at hx
    rcases hx with rfl | rfl
    · exact ok_tok T.tl
    · rfl) (by
    show F_portcullislaw24_TokenReturns key ip il ic cp cl cc tag p l c (fun b h' => [DV.one (.bool b)] = [DV.one (.bool true)] ∧ Ext none_ W.heap h') W.heap
    exact TokenReturns_sp hg T.tl T.ii T.tb T.rb T.ct T.ri T.rc (by omega) b3 b2 b1 (Sat.init _) fun h' x => ⟨rfl, x.ex⟩)
  have e : [DV.agg [.c (.int .i64 key), .c (.slice ip il ic), .c (.slice cp cl cc), .row .u8 32 tag], .one (.slice p l c)].map DV.flat = [.agg (tokL key ip il ic cp cl cc tag).toArray, .slice p l c] := by
    simp [DV.flat, flats, Ch.flat]
  rw [e] at this
  exact this
theorem TokenReturns_lifted (os : Os) (started : os.Started) (D : Type) (enc : TypeId × Value → D) :
    ReturnsInHanded {} Tryd.checked os 5 .any (fun w args => (Rows.tokenReturnsSpec.pre enc Tryd.prog Tryd.f5 [] false w args ∧ laidMetH Tryd.prog laidL w) ∧ sizedMet enc Tryd.prog Tryd.f5 (OpenSpec.ofChange Rows.tokenReturnsSpec) false w args)
      (Rows.tokenReturnsSpec.post enc Tryd.prog Tryd.f5 false true false false) := by
  refine returnsInHanded_of_change_and (C := Tryd.checked) (X := fun w _ => laidMetH Tryd.prog laidL w) (fun _ _ _ hh h => h.of_heap hh) Tryd.own started (by kernel_rfl) Tryd.func5
    (ChangeSpec.witness_at (enc := enc) (C := Tryd.checked) (os := os) (X := fun w _ => laidMetH Tryd.prog laidL w) false (laidWorld os) #[.agg #[.int .i64 0, .slice none 0 0, .slice none 0 0, .int .u8 0, .int .u8 0, .int .u8 0, .int .u8 0, .int .u8 0, .int .u8 0, .int .u8 0, .int .u8 0, .int .u8 0, .int .u8 0, .int .u8 0, .int .u8 0, .int .u8 0, .int .u8 0, .int .u8 0, .int .u8 0, .int .u8 0, .int .u8 0, .int .u8 0, .int .u8 0, .int .u8 0, .int .u8 0, .int .u8 0, .int .u8 0, .int .u8 0, .int .u8 0, .int .u8 0, .int .u8 0, .int .u8 0, .int .u8 0, .int .u8 0, .int .u8 0], .slice none 0 0] 8 rfl (by kernel_rfl) (by kernel_rfl) (by kernel_rfl) (by kernel_rfl) (by kernel_rfl) (laidWorld_met os _)) ?_
  intro W base args ds gs before hval hW hcnd hsz hL _
  exact law_go (P := Tryd.prog) (fn := Tryd.f5) (s := Rows.tokenReturnsSpec) [28, 23] (by kernel_rfl) Tryd.laidOut rfl (by kernel_rfl) (by kernel_rfl) Tryd.ubool
    (fun ds hl => match ds, hl with | [d1, d2], _ => rfl) hval hW hsz (TokenReturns_calls (handle_of_laid hL))

theorem TokenReturns_said : Rows.TokenReturnsSaid :=
  OpenClaim.holds_of_wide 5 Tryd.f5 rfl rfl rfl rfl rfl rfl rfl ⟨rfl, rfl, rfl, rfl, rfl⟩ rfl rfl rfl rfl rfl (by kernel_rfl) Tryd.func5 (by kernel_rfl)
    (of_decide_eq_true (by kernel_rfl)) (by unfold Func.isWrapper; first | (rw [if_pos (by decide +kernel)]; kernel_rfl) | (rw [if_neg (by decide +kernel)]; exact ⟨rfl, rfl⟩))
    (fun os started H enc _ => TokenReturns_lifted os started H enc)

theorem TokenReturns_plain (f : FuncId) (fn : Func) (hf : Tryd.pinned.checked.prog.funcNamed "portcullis/portcullislaw24.TokenReturns" = some f) (hfn : Tryd.pinned.checked.prog.funcs[f]? = some fn) :
    true = Tryd.pinned.checked.prog.looks [] ∧ ∀ (j : Nat) t, fn.params[j]? = some t → Tryd.pinned.checked.prog.wantsStandIn t = false := by
  obtain rfl : f = 5 := Option.some.inj ((show Tryd.prog.funcNamed "portcullis/portcullislaw24.TokenReturns" = some 5 by kernel_rfl).symm.trans hf) |>.symm
  obtain rfl : fn = Tryd.f5 := (Option.some.inj (Tryd.func5.symm.trans hfn)).symm
  refine ⟨by kernel_rfl, fun j t ht => ?_⟩
  have hm := Array.mem_of_getElem? ht
  have hm2 : t ∈ ([28, 23] : List Nat) := by
    have : Tryd.f5.params.toList = [28, 23] := by kernel_rfl
    rw [← this]; exact Array.mem_toList_iff.2 hm
  simp only [List.mem_cons, List.not_mem_nil, or_false] at hm2
  rcases hm2 with rfl | rfl <;> (first | kernel_rfl | rfl)

theorem TokenReturns_holds : Rows.TokenReturnsCardSaid :=
  Claim7.holds_tied_plain_at .later [] _ _ _ _ TokenReturns_said (fun _ h => by cases h) (by kernel_rfl) (fun _ h => by cases h) tokenReturns_row_tie rfl ⟨rfl, rfl⟩ (by kernel_rfl) rfl TokenReturns_plain (by kernel_rfl)

end Go.Proofs.YtijcpgahmbkijaaDoor
end
