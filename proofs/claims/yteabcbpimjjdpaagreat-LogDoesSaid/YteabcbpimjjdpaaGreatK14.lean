/- LogDoes: what is proved and its parts, laid together by a program of ours: Sr Ly4 Ly5 ScG RwLogDoes -/
import Derived.Test.YteabcbpimjjdpaaGreatK13
set_option autoImplicit false
set_option linter.all false
/- The state of the program's chip held against the document's, in one step. Own work. -/
section
set_option maxRecDepth 100000
set_option linter.unusedVariables false
namespace Go.Proofs.YteabcbpimjjdpaaGreat
open Go Go.Vc

theorem at_del {A : List Ent} {i j : Nat} {e : Ent} (a : At A i e) (hj : i ≠ j) : ∃ k, At (del A j) k e := by
  induction a generalizing j with
  | z => cases j with
    | zero => exact absurd rfl hj
    | succ j => exact ⟨0, .z⟩
  | s q ih => cases j with
    | zero => exact ⟨_, q⟩
    | succ j =>
      obtain ⟨k, hk⟩ := ih (j := j) (by omega)
      exact ⟨k + 1, .s hk⟩
theorem at_inj {A : List Ent} {i : Nat} {e e' : Ent} (a : At A i e) (b : At A i e') : e = e' := by
  induction a with
  | z => cases b; rfl
  | s _ ih => cases b with | s b => exact ih b
section
variable {h0 h : H} {A : List Ent} {i j p r : Nat} {C C' : Cm}
theorem chip_refE_ne (ci : At A i (chipE p C)) (cj : At A j (refE r C')) : i ≠ j := by
  intro e
  subst e
  have := congrArg Ent.tag (at_inj ci cj)
  have e2 : Tag.of 2 = Tag.of 4 := this
  injection e2 with e2
  cases e2
theorem stateSame_sp {K : Bool → H → Prop} (hs : Sat h0 A h) (ci : At A i (chipE p C)) (cj : At A j (refE r C)) (k : ∀ h', Sat h0 A h' → K true h') :
    ∃ (o1 : Option Addr) (n1 c1 : Nat), hc h ⟨r, 7, none⟩ = some (.slice o1 n1 c1) ∧ ∃ (o2 : Option Addr) (n2 c2 : Nat), hc h ⟨r, 8, none⟩ = some (.slice o2 n2 c2) ∧ ∃ (o3 : Option Addr) (n3 c3 : Nat), hc h ⟨r, 9, none⟩ = some (.slice o3 n3 c3) ∧
      F_chip_Chip_State ⟨p, 0, none⟩ (fun a1 a2 a3 b1 b2 b3 d1 d2 d3 h1 => hcs h1 ⟨r, 7, none⟩ [.slice o1 n1 c1, .slice o2 n2 c2, .slice o3 n3 c3] ∧ F_portcullisref04_SameState a1 a2 a3 b1 b2 b3 d1 d2 d3 o1 n1 c1 o2 n2 c2 o3 n3 c3 (fun b h2 => K b h2) h1) h := by
  obtain ⟨i', ci'⟩ := at_del ci (chip_refE_ne ci cj)
  have ok := chip_ok hs ci
  have sm := ok.small
  have smp := sm.pages; have sme := sm.erases; have smb := sm.blown
  have smr : ∀ l, l ∈ C.s.pages → l.length < 2 ^ 62 := fun l hl => by have := sm.rows l hl; omega
  obtain ⟨⟨w, ms⟩, hw, hs⟩ := (hs.front cj).open_
  replace hs : Sat h0 (blk r (C.cells w.a w.b w.c w.m) :: matE 32 w.a C.s.pages :: sE w.b 1 (ints .i64 C.s.erases) :: sE w.c 1 (bools C.s.blown) :: sE w.m 1 (ints .u8 ms) :: del A j) _ := hs
  refine ⟨_, _, _, hs.ld .z rfl, _, _, _, hs.ld .z rfl, _, _, _, hs.ld .z rfl, ?_⟩
  refine State_sp hs (i := i' + 5) ci'.s.s.s.s.s ?_
  intro a1 b1 d1 h1 hs
  replace hs : Sat h0 (matE 32 a1 C.s.pages :: sE b1 1 (ints .i64 C.s.erases) :: sE d1 1 (bools C.s.blown) :: blk r (C.cells w.a w.b w.c w.m) :: matE 32 w.a C.s.pages :: sE w.b 1 (ints .i64 C.s.erases) :: sE w.c 1 (bools C.s.blown) :: sE w.m 1 (ints .u8 ms) :: del A j) _ := hs
  refine ⟨Sat.cs hs (i := 3) (by (repeat (first | exact At.z | apply At.s))) rfl, ?_⟩
  refine SameState_sp (a := a1) (b := b1) (c := d1) (a2 := w.a) (b2 := w.b) (c2 := w.c) (s := C.s) hs
    (fun h' hs' => sat_rdS hs' (i := 0) (j := 1) (k := 2) (by (repeat (first | exact At.z | apply At.s))) (by (repeat (first | exact At.z | apply At.s))) (by (repeat (first | exact At.z | apply At.s)))) (fun h' hs' => sat_rdS hs' (i := 4) (j := 5) (k := 6) (by (repeat (first | exact At.z | apply At.s))) (by (repeat (first | exact At.z | apply At.s))) (by (repeat (first | exact At.z | apply At.s)))) (by omega) (by omega) (by omega) smr ?_
  intro h2 hs
  refine k _ ?_
  have hs2 : Sat h0 (refL r C (w, ms) ++ del A j) h2 := hs.drop.drop.drop
  have : Sat h0 (put A j (refE r C)) h2 := Sat.back cj (Sat.close (n := 4) (φ := RefW C) (F := refL r C) (w, ms) hw hs2)
  rw [cj.put_self] at this
  exact this
theorem ref_ld2 (hs : Sat h0 A h) (cj : At A j (refE r C)) : hc h ⟨r, 10, none⟩ = some (.int .i64 C.acts) ∧ hc h ⟨r, 11, none⟩ = some (.bool C.out) := by
  obtain ⟨⟨w, ms⟩, _, hs⟩ := (hs.front cj).open_
  dsimp only [refL, List.cons_append, List.nil_append] at hs
  exact ⟨hs.ld .z rfl, hs.ld .z rfl⟩
/-- Acts and power held against the document's. -/
theorem actsOut_sp {X Y : H → Prop} (hs : Sat h0 A h) (ci : At A i (chipE p C)) (cj : At A j (refE r C)) (k : Y h) :
    ∃ p136 : Addr, (some (⟨r, 0, none⟩ : Addr)) = some p136 ∧ ∃ i137 : Int, hc h (p136.add 10) = some (.int .i64 i137) ∧ ∃ p138 : Addr, (some (⟨p, 0, none⟩ : Addr)) = some p138 ∧ F_chip_Chip_Acts p138 (fun i139 h140 => hcs h140 (p136.add 10) [.int .i64 i137] ∧
      if (i139 != i137) = true then X h140 else ∃ p141 : Addr, (some (⟨r, 0, none⟩ : Addr)) = some p141 ∧ ∃ b142 : Bool, hc h140 (p141.add 11) = some (.bool b142) ∧ ∃ p143 : Addr, (some (⟨p, 0, none⟩ : Addr)) = some p143 ∧ F_chip_Chip_Out p143 (fun b144 h145 => hcs h145 (p141.add 11) [.bool b142] ∧
        if (!b144 == b142) = true then X h145 else Y h145) h140) h := by
  obtain ⟨l1, l2⟩ := ref_ld2 hs cj
  refine ⟨_, rfl, _, l1, _, rfl, Acts_sp hs ci ⟨hcs_one l1, ?_⟩⟩
  rw [if_neg (by simp)]
  refine ⟨_, rfl, _, l2, _, rfl, Out_sp hs ci ⟨hcs_one l2, ?_⟩⟩
  rw [if_neg (by simp)]
  exact k
end
end Go.Proofs.YteabcbpimjjdpaaGreat
end

/- LogDoes: the pair of logs and its steps. Own work. -/
section
set_option maxRecDepth 100000
set_option linter.unusedVariables false
namespace Go.Proofs.YteabcbpimjjdpaaGreat
open Go Go.Vc

abbrev pr4 (q px l pr m : Nat) : Ent := blk q [.pointer (some ⟨px, 0, none⟩), .pointer (some ⟨l, 0, none⟩), .pointer (some ⟨pr, 0, none⟩), .pointer (some ⟨m, 0, none⟩)]
abbrev lgs (q px l pr m : Nat) (C : Cm) (B : List Ent) : List Ent := pr4 q px l pr m :: logE l px :: logE m pr :: chipE px C :: refE pr C :: B
theorem perm3 (a b c : Ent) (R : List Ent) : List.Perm (a :: b :: c :: R) (c :: b :: a :: R) :=
  (List.Perm.swap b a (c :: R)).trans (((List.Perm.swap c a R).cons b).trans (List.Perm.swap c b (a :: R)))
section
variable {h0 h : H} {A B : List Ent} {i j p r b q px l pr m : Nat} {C : Cm}
theorem Worn9_sp {Q : Bool → H → Prop} (hs : Sat h0 A h) (ci : At A i (chipE p C)) (cl : At A j (logE r p)) (k : ∀ h', Sat h0 A h' → Q (wornT C) h') : F_log_Log_Worn ⟨r, 0, none⟩ Q h := by
  unfold F_log_Log_Worn G_log_Log_Worn
  try simp only [add_mk, Nat.zero_add]
  refine logLook_sp hs ci cl ?_
  intro h1 hs
  obtain ⟨lp, lq⟩ := lookF_len C
  intro n17 _ hn; replace hs := Sat.new hs hn; clear hn
  refine ⟨Sat.can hs (i := 0) .z (by decide), ?_⟩
  intro h2 e
  replace hs := Sat.wra hs (i := 0) .z e (by rw [fnd_len lp lq]; rfl)
  clear e
  replace hs : Sat h0 (blk n17 (fndI (lookF C).1.p (lookF C).1.q (lookF C).1.n) :: A) h2 := hs
  unfold wornT at k
  by_cases ho : C.out = true
  · have e : lookF C = (⟨inf0, inf0, 0⟩, 8) := by unfold lookF; rw [if_pos ho]
    rw [if_pos ho] at k
    rw [e, if_neg (by simp)]
    exact k _ hs.drop
  have e : lookF C = (⟨pI C 0, pI C 1, presM C⟩, 0) := by unfold lookF; rw [if_neg ho]
  rw [if_neg ho] at k
  rw [e] at hs lp lq ⊢
  dsimp only at hs lp lq ⊢
  rw [if_pos (by simp)]
  have L := hs.fnd .z lp lq
  refine ⟨_, L.a0, _, ‹_›, L.a1, _, L.a10, _, L.a11, _, L.a12, _, L.a13, _, ‹_›, L.a14, _, L.a23, _, L.a24, _, L.a25, _, L.a26, ?_⟩
  refine worn9_sp hs ci.s cl.s (by simpa using ho) ?_
  intro h4 hs
  exact k _ hs.drop
theorem rMount9_sp {Q : Option Addr → Int → H → Prop} (hs : Sat h0 A h) (cj : At A j (refE r C)) (k1 : C.out = true → Q none 8 h) (k2 : C.out = false → ∀ l h', Sat h0 (logE l r :: A) h' → Q (some ⟨l, 0, none⟩) 0 h') : F_portcullisref09_Mount ⟨r, 0, none⟩ Q h := by
  unfold F_portcullisref09_Mount G_portcullisref09_Mount
  try simp only [add_mk, Nat.zero_add]
  refine ⟨_, (ref_ld2 hs cj).2, ?_⟩
  by_cases ho : C.out = true
  · rw [if_pos ho]; exact k1 ho
  · rw [if_neg ho]
    intro n4 _ hn; replace hs := Sat.new hs hn; clear hn
    exact k2 (by simpa using ho) n4 _ hs
theorem mountedIn_sp {Q : Bool → H → Prop} {x y : Value} (hs : Sat h0 (blk q [.pointer (some ⟨px, 0, none⟩), x, .pointer (some ⟨pr, 0, none⟩), y] :: chipE px C :: refE pr C :: B) h) (ho : C.out = false)
    (k : ∀ l m h', Sat h0 (lgs q px l pr m C B) h' → Q true h') : F_portcullislaw09_pair_mounted ⟨q, 0, none⟩ Q h := by
  unfold F_portcullislaw09_pair_mounted G_portcullislaw09_pair_mounted
  try simp only [add_mk, Nat.zero_add]
  refine ⟨_, hs.ld (i := 0) .z rfl, _, rfl, ?_⟩
  refine Mount_sp hs (i := 1) (.s .z) (fun y => absurd (ho.symm.trans y) (by decide)) ?_
  intro _ l h1 hs
  refine ⟨_, hs.ld (i := 1) (.s .z) rfl, _, rfl, ?_⟩
  refine rMount9_sp hs (j := 3) (.s (.s (.s .z))) (fun y => absurd (ho.symm.trans y) (by decide)) ?_
  intro _ m h2 hs
  rw [if_neg (by simp), if_neg (by simp), if_pos (by simp)]
  refine ⟨Sat.can hs (i := 2) (.s (.s .z)) (by simp), ?_⟩
  intro h3 e
  replace hs := Sat.wr hs (i := 2) (.s (.s .z)) e
  clear e
  simp only [put_succ, put_zero] at hs
  refine ⟨Sat.can hs (i := 2) (.s (.s .z)) (by simp), ?_⟩
  intro h4 e
  replace hs := Sat.wr hs (i := 2) (.s (.s .z)) e
  clear e
  simp only [put_succ, put_zero] at hs
  refine k l m _ ?_
  refine hs.perm ?_
  exact perm3 _ _ _ _
theorem mounted_sp {Q : Bool → H → Prop} (hs : Sat h0 (lgs q px l pr m C B) h) (k : ∀ l m h', Sat h0 (lgs q px l pr m C B) h' → Q true h') : F_portcullislaw09_pair_mounted ⟨q, 0, none⟩ Q h := by
  by_cases ho : C.out = true
  · unfold F_portcullislaw09_pair_mounted G_portcullislaw09_pair_mounted
    try simp only [add_mk, Nat.zero_add]
    refine ⟨_, hs.ld (i := 0) .z rfl, _, rfl, ?_⟩
    refine Mount_sp hs (i := 3) (.s (.s (.s .z))) ?_ (fun y => absurd (ho.symm.trans y) (by decide))
    intro _
    refine ⟨_, hs.ld (i := 0) .z rfl, _, rfl, ?_⟩
    refine rMount9_sp hs (j := 4) (.s (.s (.s (.s .z)))) ?_ (fun y => absurd (ho.symm.trans y) (by decide))
    intro _
    rw [if_neg (by simp), if_neg (by simp), if_neg (by simp)]
    exact k _ _ _ hs
  · exact mountedIn_sp (hs.sub (by (repeat (first | exact List.Sublist.refl _ | apply List.Sublist.cons_cons | apply List.Sublist.cons)))) (by simpa using ho) k
theorem tells_sp {Q : Bool → H → Prop} (hs : Sat h0 (lgs q px l pr m C B) h) (k : ∀ h', Sat h0 (lgs q px l pr m C B) h' → Q true h') : F_portcullislaw09_pair_tells ⟨q, 0, none⟩ Q h := by
  unfold F_portcullislaw09_pair_tells G_portcullislaw09_pair_tells
  try simp only [add_mk, Nat.zero_add]
  have ok := chip_ok hs (i := 3) (.s (.s (.s .z)))
  have hfr := freeT_range ok
  refine ⟨_, hs.ld (i := 0) .z rfl, _, hs.ld (i := 0) .z rfl, _, rfl, ?_⟩
  refine Present_sp hs (i := 3) (j := 1) (.s (.s (.s .z))) (.s .z) ?_
  intro h1 hs
  refine ⟨hcs_one (hs.ld (i := 0) .z rfl), _, rfl, ?_⟩
  refine rPresent9_sp hs (j := 4) (i := 2) (.s (.s (.s (.s .z)))) (.s (.s .z)) ?_
  intro h2 hs
  refine ⟨_, hs.ld (i := 0) .z rfl, _, hs.ld (i := 0) .z rfl, _, rfl, ?_⟩
  refine Generation_sp hs (i := 3) (j := 1) (.s (.s (.s .z))) (.s .z) ?_
  intro h3 hs
  refine ⟨hcs_one (hs.ld (i := 0) .z rfl), _, rfl, ?_⟩
  refine rGen9_sp hs (j := 4) (i := 2) (.s (.s (.s (.s .z)))) (.s (.s .z)) ?_
  intro h4 hs
  refine ⟨_, hs.ld (i := 0) .z rfl, _, hs.ld (i := 0) .z rfl, _, rfl, ?_⟩
  refine Free_sp hs (i := 3) (j := 1) (.s (.s (.s .z))) (.s .z) ?_
  intro h5 hs
  refine ⟨hcs_one (hs.ld (i := 0) .z rfl), _, rfl, ?_⟩
  refine rFree9_sp hs (j := 4) (i := 2) (.s (.s (.s (.s .z)))) (.s (.s .z)) ?_
  intro h6 hs
  refine ⟨_, hs.ld (i := 0) .z rfl, _, hs.ld (i := 0) .z rfl, _, rfl, ?_⟩
  refine Worn9_sp hs (i := 3) (j := 1) (.s (.s (.s .z))) (.s .z) ?_
  intro h7 hs
  refine ⟨hcs_one (hs.ld (i := 0) .z rfl), _, rfl, ?_⟩
  refine rWorn9_sp hs (j := 4) (i := 2) (.s (.s (.s (.s .z)))) (.s (.s .z)) ?_
  intro h8 hs
  rw [wrap_id (by omega), if_pos (by simp), if_pos (by simp), if_pos (by simp)]
  have := k _ hs
  simpa using this
end

/-- A step of a script over logs. -/
structure StL where
  kind : Int
  slot : Int
  n : Int
  up : Bool
  mask : List Int
  x : List Int
structure StL.ok (s : StL) : Prop where
  slot : s.slot < 2 ^ 63
  x : s.x.length = 32
  mb : bytesOk s.mask
  ml : s.mask.length + 4096 ≤ 2 ^ 47
abbrev stB (n : Nat) (s : StL) (mp : Option Addr) (ml mc : Nat) : Ent := blk n (.int .i64 s.kind :: .int .i64 s.slot :: .int .i64 s.n :: .bool s.up :: .slice mp ml mc :: ints .u8 s.x)
section
variable {h0 h : H} {A B : List Ent} {i j p r b q px l pr m : Nat} {C : Cm}
theorem number_sp {Q : Int → H → Prop} (s : StL) (ok : s.ok) {mp : Option Addr} {ml mc : Nat} (hs : Sat h0 A h) (hp : At A i (pr4 q px l pr m)) (cl : At A b (logE m pr)) (cj : At A j (refE pr C)) (k : ∀ n h', Sat h0 A h' → Q n h') : F_portcullislaw09_pair_number ⟨q, 0, none⟩ s.kind s.slot s.n s.up mp ml mc s.x Q h := by
  unfold F_portcullislaw09_pair_number G_portcullislaw09_pair_number
  try simp only [add_mk, Nat.zero_add, List.append_nil]
  intro n12 _ hn; replace hs := Sat.new hs hn; clear hn
  refine ⟨_, hs.ld hp.s rfl, _, hs.ld (i := 0) .z rfl, _, rfl, ?_⟩
  refine rNumber9_sp hs cj.s cl.s s.slot ?_
  intro h1 hs J hJ
  have way : ∀ bb : Bool, J [.dv (.one (.bool bb))] h1 := by
    intro bb
    apply hJ
    cases bb
    · rw [if_neg (by decide)]
      exact ⟨_, hs.ld (i := 0) .z rfl, k _ _ hs.drop⟩
    · rw [if_pos (by decide)]
      exact ⟨_, hs.ld (i := 0) .z rfl, by decide, k _ _ hs.drop⟩
  refine ⟨_, hs.ld (i := 0) .z rfl, ?_⟩
  split
  · split
    · intro i29 hi
      split
      · exact ⟨_, hs.ld (i := 0) .z rfl, way _⟩
      · exact way _
    · exact way _
  · exact way _
theorem stepL_sp {Q : Bool → H → Prop} (s : StL) (ok : s.ok) {mp : Option Addr} {ml mc : Nat} (rd : hsv h0 mp 1 ml (ints .u8 s.mask)) (hs : Sat h0 (lgs q px l pr m C B) h)
    (k : ∀ (D : Cm) l m h', Sat h0 (lgs q px l pr m D B) h' → Q true h') : F_portcullislaw09_pair_step ⟨q, 0, none⟩ s.kind s.slot s.n s.up mp ml mc s.x Q h := by
  unfold F_portcullislaw09_pair_step G_portcullislaw09_pair_step
  try simp only [add_mk, Nat.zero_add, List.append_nil]
  have hx := ok.x
  have hml : s.mask.length = ml := by have := rd.1; simpa using this
  have hmm := ok.ml
  intro n26 _ hn; replace hs := Sat.new hs hn; clear hn
  replace hs : Sat h0 (stB n26 s mp ml mc :: lgs q px l pr m C B) _ := hs
  have hrow : ∀ (D : Cm) h', Sat h0 (stB n26 s mp ml mc :: lgs q px l pr m D B) h' → hrow h' ⟨n26, 5, none⟩ .u8 s.x := fun D h' hs' => hs'.row (i := 0) (o := 5) .z (fun i hi => by
    rw [show 5 + i = i + 1 + 1 + 1 + 1 + 1 by omega]
    simp only [List.getElem?_cons_succ]
    rw [ints_get])
  refine ⟨_, hs.ld (i := 0) .z rfl, ?_⟩
  by_cases k1 : s.kind = 1
  · rw [if_pos (by simpa using k1)]
    refine ⟨_, hs.ld (i := 0) .z rfl, _, hs.ld (i := 0) .z rfl, _, hs.ld (i := 0) .z rfl, _, hs.ld (i := 0) .z rfl, _, _, _, hs.ld (i := 0) .z rfl, _, hx, hrow _ _ hs, ?_⟩
    refine number_sp s ok hs (i := 1) (b := 3) (j := 5) (.s .z) (.s (.s (.s .z))) (.s (.s (.s (.s (.s .z))))) ?_
    intro n h1 hs
    refine ⟨_, hs.ld (i := 1) (.s .z) rfl, _, hs.ld (i := 0) .z rfl, _, rfl, ?_⟩
    refine Lay9_sp hs (i := 4) (j := 2) (.s (.s (.s (.s .z)))) (.s (.s .z)) (by decide) s.slot n ?_
    intro h2 hs
    simp only [put_succ, put_zero] at hs
    refine ⟨_, hs.ld (i := 1) (.s .z) rfl, _, hs.ld (i := 0) .z rfl, _, rfl, ?_⟩
    refine rLay9_sp hs (j := 5) (i := 3) (.s (.s (.s (.s (.s .z))))) (.s (.s (.s .z))) (by decide) s.slot n ?_
    intro h3 hs
    simp only [put_succ, put_zero] at hs
    have := k _ _ _ _ hs.drop
    simpa using this
  rw [if_neg (by simpa using k1)]
  by_cases k2 : s.kind = 2
  · rw [if_pos (by simpa using k2)]
    refine ⟨_, hs.ld (i := 1) (.s .z) rfl, _, hs.ld (i := 0) .z rfl, _, rfl, ?_⟩
    refine Number_sp hs (i := 4) (j := 2) (.s (.s (.s (.s .z)))) (.s (.s .z)) s.slot ?_
    intro h2 hs
    refine ⟨_, hs.ld (i := 1) (.s .z) rfl, _, hs.ld (i := 0) .z rfl, _, rfl, ?_⟩
    refine rNumber9_sp hs (j := 5) (i := 3) (.s (.s (.s (.s (.s .z))))) (.s (.s (.s .z))) s.slot ?_
    intro h3 hs
    rw [if_pos (by simp)]
    have := k _ _ _ _ hs.drop
    simpa using this
  rw [if_neg (by simpa using k2)]
  by_cases k3 : s.kind = 3
  · rw [if_pos (by simpa using k3)]
    exact tells_sp hs.drop fun h' hs' => k _ _ _ _ hs'
  rw [if_neg (by simpa using k3)]
  by_cases k4 : s.kind = 4
  · rw [if_pos (by simpa using k4)]
    exact mounted_sp hs.drop fun l m h' hs' => k _ _ _ _ hs'
  rw [if_neg (by simpa using k4)]
  by_cases k5 : s.kind = 5
  · rw [if_pos (by simpa using k5)]
    refine ⟨_, hs.ld (i := 1) (.s .z) rfl, _, hs.ld (i := 0) .z rfl, _, _, _, hs.ld (i := 0) .z rfl, _, rfl, ?_⟩
    refine Cut_sp hs (i := 4) (.s (.s (.s (.s .z)))) s.slot ok.slot (hsv_ext hs.ex rd (fun _ _ y => y)) ok.mb (by omega) ?_
    intro h2 hs
    simp only [put_succ, put_zero] at hs
    refine ⟨_, hs.ld (i := 1) (.s .z) rfl, _, hs.ld (i := 0) .z rfl, _, _, _, hs.ld (i := 0) .z rfl, _, rfl, ?_⟩
    refine rCut_sp hs (i := 5) (.s (.s (.s (.s (.s .z))))) s.slot ok.slot (fun C' h' hs' => hsv_ext hs'.ex rd (fun _ _ y => y)) ok.mb (by omega) ?_
    intro h3 hs
    simp only [put_succ, put_zero] at hs
    exact k _ _ _ _ hs.drop
  rw [if_neg (by simpa using k5)]
  by_cases k6 : s.kind = 6
  · rw [if_pos (by simpa using k6)]
    refine ⟨_, hs.ld (i := 1) (.s .z) rfl, _, hs.ld (i := 0) .z rfl, _, rfl, ?_⟩
    refine Erase_sp hs (i := 4) (.s (.s (.s (.s .z)))) s.slot ?_
    intro h2 hs
    simp only [put_succ, put_zero] at hs
    refine ⟨_, hs.ld (i := 1) (.s .z) rfl, _, hs.ld (i := 0) .z rfl, _, rfl, ?_⟩
    refine rErase_sp hs (i := 5) (.s (.s (.s (.s (.s .z))))) s.slot ?_
    intro h3 hs
    simp only [put_succ, put_zero] at hs
    have := k _ _ _ _ hs.drop
    simpa using this
  rw [if_neg (by simpa using k6)]
  by_cases k7 : s.kind = 7
  · rw [if_pos (by simpa using k7)]
    refine ⟨_, hs.ld (i := 1) (.s .z) rfl, _, hs.ld (i := 0) .z rfl, _, hs.ld (i := 0) .z rfl, _, hx, hrow _ _ hs, _, rfl, ?_⟩
    refine Program_sp hs (i := 4) (.s (.s (.s (.s .z)))) s.slot s.n s.x hx ?_
    intro h2 hs
    simp only [put_succ, put_zero] at hs
    have hr2 : Go.Vc.hrow h2 ⟨n26, 5, none⟩ .u8 s.x := hs.row (i := 0) (o := 5) .z (fun i hi => by
      rw [show 5 + i = i + 1 + 1 + 1 + 1 + 1 by omega]
      simp only [List.getElem?_cons_succ]
      rw [ints_get])
    refine ⟨_, hs.ld (i := 1) (.s .z) rfl, _, hs.ld (i := 0) .z rfl, _, hs.ld (i := 0) .z rfl, _, hx, hr2, _, rfl, ?_⟩
    refine rProgram_sp hs (i := 5) (.s (.s (.s (.s (.s .z))))) s.slot s.n s.x hx ?_
    intro h3 hs
    simp only [put_succ, put_zero] at hs
    have := k _ _ _ _ hs.drop
    simpa using this
  rw [if_neg (by simpa using k7)]
  refine ⟨_, hs.ld (i := 1) (.s .z) rfl, _, rfl, ?_⟩
  refine Restore_sp hs (i := 4) (.s (.s (.s (.s .z)))) ?_
  intro h2 hs
  simp only [put_succ, put_zero] at hs
  refine ⟨_, hs.ld (i := 1) (.s .z) rfl, _, rfl, ?_⟩
  refine rRestore_sp hs (i := 5) (.s (.s (.s (.s (.s .z))))) ?_
  intro h3 hs
  simp only [put_succ, put_zero] at hs
  exact k _ _ _ _ hs.drop
end
end Go.Proofs.YteabcbpimjjdpaaGreat
end

/- LogDoes: scripts. Own work. -/
section
set_option maxRecDepth 100000
set_option linter.unusedVariables false
namespace Go.Proofs.YteabcbpimjjdpaaGreat
open Go Go.Vc

structure ScriptG (h : H) (p : Option Addr) (l : Nat) (sc : List StL) : Prop where
  len : sc.length = l
  lt : l < 2 ^ 50
  at_ : ∀ i (hi : i < sc.length), ∃ q mp ml mc, p = some q ∧ hc h (q.add (i * 37)) = some (.int .i64 sc[i].kind) ∧ hc h ((q.add (i * 37)).add 1) = some (.int .i64 sc[i].slot) ∧ hc h ((q.add (i * 37)).add 2) = some (.int .i64 sc[i].n) ∧
    hc h ((q.add (i * 37)).add 3) = some (.bool sc[i].up) ∧ hc h ((q.add (i * 37)).add 4) = some (.slice mp ml mc) ∧ hrow h ((q.add (i * 37)).add 5) .u8 sc[i].x ∧ hsv h mp 1 ml (ints .u8 sc[i].mask) ∧ sc[i].ok
theorem LogDoes_sp {h0 : H} {a b c' : Sl} {Q : Bool → H → Prop} {mp : Option Addr} {ml mc : Nat} (c : Cfg) (s : St) (rd0 : RdS h0 a b c' s) (ty : s.typed) (sc : List StL) (rd : ScriptG h0 mp ml sc) (k : ∀ h', Ext none_ h0 h' → Q true h') :
    F_portcullislaw09_LogDoes c.cells c.slots c.fuses c.step c.keys c.erases c.area a.1 a.2.1 a.2.2 b.1 b.2.1 b.2.2 c'.1 c'.2.1 c'.2.2 mp ml mc Q h0 := by
  unfold F_portcullislaw09_LogDoes G_portcullislaw09_LogDoes
  have hs := Sat.init h0
  try simp only [add_mk, Nat.zero_add, List.append_nil]
  intro n33 _ hn; replace hs := Sat.new hs hn; clear hn
  intro n36 _ hn; replace hs := Sat.new hs hn; clear hn
  have hl := rd.len
  have hlt := rd.lt
  refine fixed9_sp hs ?_
  intro h1 hs
  (repeat first | refine ⟨_, Sat.ld hs (by (repeat (first | exact At.z | apply At.s))) (by rfl), ?_⟩ | refine ⟨_, _, _, Sat.ld hs (by (repeat (first | exact At.z | apply At.s))) (by rfl), ?_⟩ | (intro _ _ hn; replace hs := Sat.new hs hn; clear hn) | refine ⟨Sat.cs hs (by (repeat (first | exact At.z | apply At.s))) (by rfl), ?_⟩ | (refine ⟨Sat.can hs (by (repeat (first | exact At.z | apply At.s))) (by simp), ?_⟩; intro _ e; replace hs := Sat.wr hs (by (repeat (first | exact At.z | apply At.s))) e; clear e; simp only [put, splice, List.set] at hs))
  refine Lay_sp (a := a) (b := b) (c' := c') (s := s) c hs (fun h' hs' => rd0.ext hs'.ex) ty ?_ ?_ ?_
  · intro nm h2 hs
    (repeat first | refine ⟨_, Sat.ld hs (by (repeat (first | exact At.z | apply At.s))) (by rfl), ?_⟩ | refine ⟨_, _, _, Sat.ld hs (by (repeat (first | exact At.z | apply At.s))) (by rfl), ?_⟩ | (intro _ _ hn; replace hs := Sat.new hs hn; clear hn) | refine ⟨Sat.cs hs (by (repeat (first | exact At.z | apply At.s))) (by rfl), ?_⟩ | (refine ⟨Sat.can hs (by (repeat (first | exact At.z | apply At.s))) (by simp), ?_⟩; intro _ e; replace hs := Sat.wr hs (by (repeat (first | exact At.z | apply At.s))) e; clear e; simp only [put, splice, List.set] at hs))
    refine rLay_sp (a := a) (b := b) (c' := c') (s := s) c hs (fun h' hs' => rd0.ext hs'.ex) ty ?_ (fun m => absurd m nm) (fun m => absurd m nm)
    intro _ h3 hs J hJ
    rw [if_neg (by simp), if_neg (by simp), if_neg (by simp)]
    apply hJ
    rw [if_pos (by simp)]
    exact k _ hs.ex
  · intro m nl h2 hs
    (repeat first | refine ⟨_, Sat.ld hs (by (repeat (first | exact At.z | apply At.s))) (by rfl), ?_⟩ | refine ⟨_, _, _, Sat.ld hs (by (repeat (first | exact At.z | apply At.s))) (by rfl), ?_⟩ | (intro _ _ hn; replace hs := Sat.new hs hn; clear hn) | refine ⟨Sat.cs hs (by (repeat (first | exact At.z | apply At.s))) (by rfl), ?_⟩ | (refine ⟨Sat.can hs (by (repeat (first | exact At.z | apply At.s))) (by simp), ?_⟩; intro _ e; replace hs := Sat.wr hs (by (repeat (first | exact At.z | apply At.s))) e; clear e; simp only [put, splice, List.set] at hs))
    refine rLay_sp (a := a) (b := b) (c' := c') (s := s) c hs (fun h' hs' => rd0.ext hs'.ex) ty (fun nm => absurd m nm) ?_ (fun _ l => absurd l nl)
    intro _ _ h3 hs J hJ
    rw [if_neg (by simp), if_neg (by simp), if_neg (by simp)]
    apply hJ
    rw [if_pos (by simp)]
    exact k _ hs.ex
  intro m lay px h2 hs
  (repeat first | refine ⟨_, Sat.ld hs (by (repeat (first | exact At.z | apply At.s))) (by rfl), ?_⟩ | refine ⟨_, _, _, Sat.ld hs (by (repeat (first | exact At.z | apply At.s))) (by rfl), ?_⟩ | (intro _ _ hn; replace hs := Sat.new hs hn; clear hn) | refine ⟨Sat.cs hs (by (repeat (first | exact At.z | apply At.s))) (by rfl), ?_⟩ | (refine ⟨Sat.can hs (by (repeat (first | exact At.z | apply At.s))) (by simp), ?_⟩; intro _ e; replace hs := Sat.wr hs (by (repeat (first | exact At.z | apply At.s))) e; clear e; simp only [put, splice, List.set] at hs))
  refine rLay_sp (a := a) (b := b) (c' := c') (s := s) c hs (fun h' hs' => rd0.ext hs'.ex) ty (fun nm => absurd m nm) (fun _ nl => absurd lay nl) ?_
  intro _ _ pr h3 hs J hJ
  rw [if_neg (by simp), if_neg (by simp), if_neg (by simp)]
  apply hJ
  clear hJ J
  rw [if_neg (by simp)]
  intro n81 _ hn; replace hs := Sat.new hs hn; clear hn
  have co : (layC c s).out = false := rfl
  have hs2 : Sat h0 (blk n81 [.pointer (some ⟨px, 0, none⟩), .pointer none, .pointer (some ⟨pr, 0, none⟩), .pointer none] :: chipE px (layC c s) :: refE pr (layC c s) :: [blk n36 [a.v, b.v, c'.v], blk n33 [.int .i64 c.cells, .int .i64 c.slots, .int .i64 c.fuses, .int .i64 c.step, .int .i64 c.keys, .int .i64 c.erases, .int .i64 c.area]]) _ :=
    hs.perm ((List.Perm.swap _ _ _).cons _)
  refine mountedIn_sp hs2 co ?_
  intro l0 m0 h4 hs
  rw [if_neg (by simp)]
  clear hs2
  generalize layC c s = C0 at hs
  generalize [blk n36 [a.v, b.v, c'.v], blk n33 [.int .i64 c.cells, .int .i64 c.slots, .int .i64 c.fuses, .int .i64 c.step, .int .i64 c.keys, .int .i64 c.erases, .int .i64 c.area]] = B at hs
  intro J86 hJ86
  refine loop_up ml (fun _ h => ∃ (C : Cm) (l m : Nat), Sat h0 (lgs n81 px l pr m C B) h) ?_ ?_ 0 _ (by omega) ⟨C0, l0, m0, hs⟩
  · rintro x h5 hx ⟨C, l, m, hs⟩ hk
    apply hJ86
    rw [ltI_eq, if_pos (by simp; omega)]
    obtain ⟨q, sp, sl, sc2, hq, e0, e1, e2, e3, e4, e5, hrd, hok⟩ := rd.at_ x (by omega)
    have X := hs.ex
    refine ⟨_, hq, by omega, by omega, ?_⟩
    rw [Int.toNat_natCast]
    refine ⟨_, hc_ext X e0 (fun y => y), _, hc_ext X e1 (fun y => y), _, hc_ext X e2 (fun y => y), _, hc_ext X e3 (fun y => y), _, _, _, hc_ext X e4 (fun y => y), _, hok.x, hrow_ext X e5 (fun y => y), ?_⟩
    refine stepL_sp sc[x] hok hrd hs ?_
    intro D l m h7 hs
    obtain ⟨o1, m1, c1, f1, o2, m2, c2, f2, o3, m3, c3, f3, hst⟩ := stateSame_sp (K := fun b134 h135 => if (!true) = true then Q false h135 else if (!b134) = true then Q false h135 else ∃ p136, (some (⟨pr, 0, none⟩ : Addr)) = some p136 ∧ ∃ i137 : Int, hc h135 (p136.add 10) = some (.int .i64 i137) ∧ ∃ p138, (some (⟨px, 0, none⟩ : Addr)) = some p138 ∧ F_chip_Chip_Acts p138 (fun i139 h140 => hcs h140 (p136.add 10) [.int .i64 i137] ∧
      if (i139 != i137) = true then Q false h140 else ∃ p141, (some (⟨pr, 0, none⟩ : Addr)) = some p141 ∧ ∃ b142 : Bool, hc h140 (p141.add 11) = some (.bool b142) ∧ ∃ p143, (some (⟨px, 0, none⟩ : Addr)) = some p143 ∧ F_chip_Chip_Out p143 (fun b144 h145 => hcs h145 (p141.add 11) [.bool b142] ∧
        if (!b144 == b142) = true then Q false h145 else J86 [.dv (.one (.int .i64 (IntKind.i64.wrap ((x : Int) + 1))))] h145) h140) h135) hs (i := 3) (j := 4) (.s (.s (.s .z))) (.s (.s (.s (.s .z)))) (by
      intro h8 hs
      rw [if_neg (by simp), if_neg (by simp)]
      refine actsOut_sp (X := Q false) hs (i := 3) (j := 4) (.s (.s (.s .z))) (.s (.s (.s (.s .z)))) ?_
      rw [wrap_succ (by omega)]
      exact hk _ ⟨D, l, m, hs⟩)
    exact ⟨_, rfl, _, _, _, f1, _, _, _, f2, _, _, _, f3, _, rfl, hst⟩
  · rintro h5 ⟨C, l, m, hs⟩
    apply hJ86
    rw [ltI_eq, if_neg (by simp)]
    refine ⟨_, rfl, ?_⟩
    refine Restore_sp hs (i := 3) (.s (.s (.s .z))) ?_
    intro h6 hs
    simp only [put_succ, put_zero] at hs
    refine ⟨_, rfl, ?_⟩
    refine rRestore_sp hs (i := 4) (.s (.s (.s (.s .z)))) ?_
    intro h7 hs
    simp only [put_succ, put_zero] at hs
    refine tells_sp hs ?_
    intro h8 hs
    exact k _ hs.ex
end Go.Proofs.YteabcbpimjjdpaaGreat
end

/- How scripts over logs came in. Own work. -/
section
set_option maxRecDepth 100000
set_option linter.unusedVariables false
namespace Go.Proofs.YteabcbpimjjdpaaGreat
open Go Go.Vc Go.ChangeShapes Go.WideShapes Go.ChangeAt Go.RowKit

theorem xStepG : xsh PP 8 48 = some [.int .i64, .int .i64, .int .i64, .bool, .slc 5, .row .u8 32] := by kernel_rfl
theorem scriptG_of {D : Type} {enc : TypeId × Value → D} {W : World} {p : Option Addr} {l c : Nat} (h : Sli enc PP W 48 p l c) : ∃ sc : List StL, ScriptG W.heap p l sc := by
  have hb : Tryz.prog.bytesOf 48 = 88 := by kernel_rfl
  have hc : Tryz.prog.cellsOf 48 = 37 := by kernel_rfl
  obtain ⟨ess, h1, h2, _, h4⟩ := h.els xStepG
  have hlc := h.1
  have hr := h.2.1
  rw [hb] at hr
  unfold reachBytes at hr
  have key : ∀ es, es ∈ ess → ∃ (s : StL) (mp : Option Addr) (ml mc : Nat), s.ok ∧ es = .int .i64 s.kind :: .int .i64 s.slot :: .int .i64 s.n :: .bool s.up :: .slice mp ml mc :: ints .u8 s.x ∧ hsv W.heap mp 1 ml (ints .u8 s.mask) := by
    intro es hes
    obtain ⟨k, _, rfl, _, a, _, rfl, ha, b, _, rfl, _, up, _, rfl, mp, ml, mc, _, rfl, hm, x, _, rfl, hx, hxb, hr⟩ := (h2 es hes).2
    simp only [XM] at hr
    subst hr
    obtain ⟨ms, m1, m2, m3⟩ := bytes_of hm
    exact ⟨⟨k, a, b, up, ms, x⟩, mp, ml, mc, ⟨(has_i64 ha).2, hx, m2, m3⟩, by simp, m1⟩
  have key2 : ∀ ess : List (List Value), (∀ es, es ∈ ess → ∃ (s : StL) (mp : Option Addr) (ml mc : Nat), s.ok ∧ es = .int .i64 s.kind :: .int .i64 s.slot :: .int .i64 s.n :: .bool s.up :: .slice mp ml mc :: ints .u8 s.x ∧ hsv W.heap mp 1 ml (ints .u8 s.mask)) →
      ∃ sc : List StL, sc.length = ess.length ∧ ∀ i (hi : i < sc.length) (hi2 : i < ess.length), ∃ (mp : Option Addr) (ml mc : Nat), sc[i].ok ∧ ess[i] = .int .i64 sc[i].kind :: .int .i64 sc[i].slot :: .int .i64 sc[i].n :: .bool sc[i].up :: .slice mp ml mc :: ints .u8 sc[i].x ∧ hsv W.heap mp 1 ml (ints .u8 sc[i].mask) := by
    intro ess
    induction ess with
    | nil => intro _; exact ⟨[], rfl, fun i hi => by simp at hi⟩
    | cons y r ih =>
      intro h
      obtain ⟨sc, e1, e2⟩ := ih fun es hes => h es (by simp [hes])
      obtain ⟨s, hs⟩ := h y (by simp)
      refine ⟨s :: sc, by simp [e1], ?_⟩
      intro i hi hi2
      cases i with
      | zero => exact hs
      | succ i => exact e2 i (by simpa using hi) (by simpa using hi2)
  obtain ⟨sc, e1, e2⟩ := key2 ess key
  refine ⟨sc, by omega, by omega, ?_⟩
  intro i hi
  obtain ⟨mp, ml, mc, ok, e3, e4⟩ := e2 i hi (by omega)
  obtain ⟨q, hq, hc2⟩ := h4 i (by omega)
  rw [hc, e3] at hc2
  have hx := ok.x
  refine ⟨q, mp, ml, mc, hq, ?_, hc2 1 _ rfl, hc2 2 _ rfl, hc2 3 _ rfl, hc2 4 _ rfl, ?_, e4, ok⟩
  · have := hc2 0 _ rfl; simpa [Addr.add] using this
  · intro j v hj
    have : ((q.add (i * 37)).add 5).add j = (q.add (i * 37)).add (5 + j) := by
      cases q with | mk b o sp => unfold Addr.add; by_cases h1 : i * 37 = 0 <;> by_cases h2 : j = 0 <;> simp [h1, h2, Nat.add_assoc]
    rw [this]
    refine hc2 (5 + j) v ?_
    rw [show 5 + j = j + 1 + 1 + 1 + 1 + 1 by omega]
    simp only [List.getElem?_cons_succ]
    exact hj
end Go.Proofs.YteabcbpimjjdpaaGreat
end

/- LogDoes: every script over a chip that holds anything, with cuts, erases and programs by hand: every answer, all that lies on the chip; for every input. -/
section
set_option maxRecDepth 100000
set_option linter.unusedVariables false
namespace Go.Proofs.YteabcbpimjjdpaaGreat
open Go Go.Vc Go.ChangeShapes Go.WideShapes Go.ChangeAt Go.RowKit

theorem LogDoes_calls {D : Type} {enc : TypeId × Value → D} {W : World} {base : Nat} (vs : List Value) (h : ArgsOk enc PP W base [23, 28, 29] vs) : CallsTrue PP 3 vs W := by
  obtain ⟨hl, h⟩ := h
  match vs, hl with
  | [v0, v1, v2], _ =>
  obtain ⟨r0, w0⟩ := h 0 _ v0 rfl rfl
  obtain ⟨r1, w1⟩ := h 1 _ v1 rfl rfl
  obtain ⟨r2, w2⟩ := h 2 _ v2 rfl rfl
  obtain ⟨c, rfl⟩ := cfg_of r0 w0
  obtain ⟨a, b, c', s, rfl, rd, ty, sm⟩ := chip_of r1 w1
  obtain ⟨p, l, cc, rfl, hsl⟩ := slice_of (e := 48) (by kernel_rfl) r2 w2
  obtain ⟨sc, hsc⟩ := scriptG_of hsl
  have := R_portcullislaw09_LogDoes [.agg (c.vals.map .c), .agg [.c a.v, .c b.v, .c c'.v], .one (.slice p l cc)] (fun rs h' => rs = [DV.one (.bool true)] ∧ Ext none_ W.heap h') W.heap (by
    intro x hx
    simp only [List.mem_cons, List.not_mem_nil, or_false] at hx
    rcases hx with rfl | rfl | rfl
    · exact ok_cfg c
    · exact ok_chip a b c'
    · rfl) (by
    show F_portcullislaw09_LogDoes c.cells c.slots c.fuses c.step c.keys c.erases c.area a.1 a.2.1 a.2.2 b.1 b.2.1 b.2.2 c'.1 c'.2.1 c'.2.2 p l cc (fun b h' => [DV.one (.bool b)] = [DV.one (.bool true)] ∧ Ext none_ W.heap h') W.heap
    exact LogDoes_sp c s rd ty sc hsc fun h' x => ⟨rfl, x⟩)
  exact this
theorem LogDoes_lifted (os : Os) (started : os.Started) (D : Type) (enc : TypeId × Value → D) :
    ReturnsInHanded {} Tryz.checked os 3 .any (Rows.logDoesSpec.pre6 enc Tryz.prog Tryz.f3 Rows.logDoesRow.domain false) (Rows.logDoesSpec.post enc Tryz.prog Tryz.f3 false true false false) := by
  refine returnsInHanded_of_change_sized (C := Tryz.checked) Tryz.own started (by kernel_rfl) Tryz.func3
    (ChangeSpec.witness6 (enc := enc) (C := Tryz.checked) false ⟨#[], #[.agg #[.int .i64 0, .int .i64 0, .int .i64 0, .int .i64 0, .int .i64 0, .int .i64 0, .int .i64 0], .agg #[.slice none 0 0, .slice none 0 0, .slice none 0 0], .slice none 0 0], []⟩ 8 (by kernel_rfl) (by kernel_rfl) (by kernel_rfl) (by kernel_rfl)) ?_
  intro W base args ds gs before hval hW hcnd hsz _
  exact law_go (P := Tryz.prog) (fn := Tryz.f3) (s := Rows.logDoesSpec) [23, 28, 29] (by kernel_rfl) Tryz.laidOut rfl (by kernel_rfl) (by kernel_rfl) Tryz.ubool
    (fun ds hl => match ds, hl with | [d1, d2, d3], _ => rfl) hval hW hsz LogDoes_calls

theorem LogDoes_holds : Rows.LogDoesSaid :=
  OpenClaim.holds_of_wide 3 Tryz.f3 rfl rfl rfl rfl rfl rfl rfl ⟨rfl, rfl, rfl, rfl, rfl⟩ rfl rfl rfl rfl rfl (by kernel_rfl) Tryz.func3 (by kernel_rfl)
    (of_decide_eq_true (by kernel_rfl)) (by unfold Func.isWrapper; first | (rw [if_pos (by decide +kernel)]; kernel_rfl) | (rw [if_neg (by decide +kernel)]; exact ⟨rfl, rfl⟩))
    (fun os started H enc _ => LogDoes_lifted os started H enc)

end Go.Proofs.YteabcbpimjjdpaaGreat
end
