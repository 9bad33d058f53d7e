/- TokenNarrows: what is proved and its parts, laid together by a program of ours: Rm1 Tm1 Tm2 Au Tm3 Tm4 To1 Tq1 Ch8 Rf3 Rf8 La2 La5 -/
import Derived.Test.YtaglicdidpgkpaaGreatDoorK11
set_option autoImplicit false
set_option linter.all false
/- HMAC as the document has it. Own work. -/
section
set_option maxRecDepth 100000
set_option linter.unusedVariables false
namespace Go.Proofs.YtaglicdidpgkpaaGreatDoor
open Go Go.Vc

def ovM (x : Int) (bs : List Int) : List Int := bs.map fun b => bits .xor .u8 b x
theorem xor_by (a b : Int) : 0 ≤ bits .xor .u8 a b ∧ bits .xor .u8 a b < 256 := by
 have : bits .xor .u8 a b = IntKind.u8.wrap ((BitVec.ofInt 8 a ^^^ BitVec.ofInt 8 b).toNat : Int) := rfl
 rw [this, IntKind.wrap_u8]; omega
theorem isBy_ov (x : Int) (bs : List Int) : isBy (ovM x bs) := by
 intro v hv
 unfold ovM at hv
 obtain ⟨b, _, rfl⟩ := List.mem_map.1 hv
 exact xor_by _ _
theorem xM_get (kb : List Int) (x : Int) : ∀ t j, t ≤ 64 → j < 64 → (xM kb x t).getD j 0 = if j < t then bits .xor .u8 (kb.getD j 0) x else 0
 | 0, j, _, hj => by
  show (zeros 64).getD j 0 = _
  rw [if_neg (by omega), zerosD]
 | t + 1, j, ht, hj => by
  have ih := xM_get kb x t j (by omega) hj
  show ((xM kb x t).set t _).getD j 0 = _
  rw [setD, xM_len, ih]
  by_cases c : t = j
  ·subst c
   rw [if_pos ⟨rfl, hj⟩, if_pos (by omega)]
  ·rw [if_neg (fun y => c y.1)]
   by_cases c1 : j < t
   ·rw [if_pos c1, if_pos (by omega)]
   ·rw [if_neg c1, if_neg (by omega)]
theorem xM_ov {kb : List Int} (x : Int) (h : kb.length = 64) : xM kb x 64 = ovM x kb := by
 refine ext_getD24 (by rw [xM_len]; simp [ovM, h]) ?_
 intro j hj
 rw [xM_len] at hj
 rw [xM_get kb x 64 j (by decide) hj, if_pos hj]
 unfold ovM
 rw [List.getD_eq_getElem?_getD, List.getD_eq_getElem?_getD, List.getElem?_map, List.getElem?_eq_getElem (by omega)]
 rfl
theorem isBy_sha (ms : List Int) : isBy (shaM ms) := by
 have : ∀ s t, isBy (oM s t) := by
  intro s t
  induction t with
  | zero => exact isBy_zeros 32
  | succ t ih =>
   intro v hv
   have hv : v ∈ (oM s t).set t (outB s t) := hv
   rcases List.mem_or_eq_of_mem_set hv with h | h
   ·exact ih v h
   ·rw [h]; unfold outB; rw [IntKind.wrap_u8]; omega
 exact this _ _
theorem isBy_mac (key b : List Int) : isBy (macM key b) := isBy_sha _
section
variable {h0 h : H} {A : List Ent} {i d : Nat}
theorem fill_sp {Q : Option Addr → Nat → Nat → H → Prop} {ms : List Int} {p : Option Addr} {l c : Nat} (hs : Sat h0 (slE p l c 1 (ints .u8 ms) :: A) h) (hl : l ≤ 64)
  (k : ∀ p' c' h', Sat h0 (slE p' 64 c' 1 (ints .u8 (ms ++ zeros (64 - l))) :: A) h' → Q p' 64 c' h') :
  ∀ (J21 : List SV → H → Prop), (∀ (o22 : Option Addr) (n23 n24 : Nat) (h25 : H), (if ltI (n23 : Int) 64 = true then ∀ (n26 : Nat) (h27 : H), hnew h25 n26 [.int .u8 0] h27 → ∃ l29 : List Value, hsv h27 (some ⟨n26, 0, none⟩) 1 1 l29 ∧ pApp h27 1 [.int .u8 0] 1 o22 n23 n24 1 l29 fun o30 n31 n32 h33 => J21 [.dv (.one (.slice o30 n31 n32))] h33
   else Q o22 n23 n24 h25) → J21 [.dv (.one (.slice o22 n23 n24))] h25) → J21 [.dv (.one (.slice p l c))] h := by
 intro J hJ
 refine loopN (64 - l) (fun t (s : Option Addr × Nat) => [.dv (.one (.slice s.1 (l + t) s.2))]) (fun t s h => Sat h0 (slE s.1 (l + t) s.2 1 (ints .u8 (ms ++ zeros t)) :: A) h) ?_ ?_ 0 (p, c) _ (by omega) (by simpa [zeros] using hs)
 ·rintro t ⟨p3, c3⟩ h3 ht hs hk
  dsimp only at hs hk ⊢
  apply hJ
  rw [ltI_eq, if_pos (by rw [decide_eq_true_iff]; omega)]
  intro b _ hn; replace hs := Sat.new hs hn; clear hn
  refine ⟨_, hs.bv (i := 0) (l := 1) .z rfl (ints_one .u8 [0]), ?_⟩
  refine Sat.app hs (i := 1) (vs := ints .u8 [0]) (.s .z) rfl rfl (ints_one _ _) (by omega) ?_
  intro p4 c4 h4 hs
  simp only [put_succ, put_zero] at hs
  rw [← intsApp] at hs
  refine hk (p4, c4) h4 ?_
  have ez : ms ++ zeros (t + 1) = ms ++ zeros t ++ [0] := by
   unfold zeros
   rw [List.replicate_succ', List.append_assoc]
  dsimp only
  rw [ez]
  exact hs.drop
 ·rintro ⟨p3, c3⟩ h3 hs
  dsimp only at hs ⊢
  apply hJ
  have e64 : l + (64 - l) = 64 := by omega
  rw [e64] at hs ⊢
  rw [ltI_eq, if_neg (by decide)]
  exact k _ _ _ hs
theorem block_sp {Q : Option Addr → Nat → Nat → H → Prop} {key : List Int} {p : Option Addr} {l c : Nat} (hs : Sat h0 A h) (hb : isBy key) (hl : l < 2 ^ 46) (rd : ∀ h', Sat h0 A h' → hsv h' p 1 l (ints .u8 key))
  (k : ∀ p' c' h', Sat h0 (slE p' 64 c' 1 (ints .u8 (kbM key)) :: A) h' → Q p' 64 c' h') : F_portcullisref03_block p l c Q h := by
 unfold F_portcullisref03_block G_portcullisref03_block
 try simp only [add_mk, Nat.zero_add, List.append_nil]
 have hkl : key.length = l := by have := (rd _ hs).1; simpa using this
 intro eb _ hn; replace hs := Sat.new hs hn; clear hn
 rw [ltI_eq]
 by_cases g : 64 < l
 ·rw [if_pos (by rw [decide_eq_true_iff]; omega)]
  have ek : keyM key = shaM key := by unfold keyM; rw [if_pos (by omega)]
  have ekb : kbM key = shaM key ++ zeros (64 - 32) := by unfold kbM; rw [ek, shaM_len]
  refine rof_sp (ms := key) hs hb hl (fun h' hs' => rd _ hs'.drop) ?_
  intro h1 hs
  intro hb' _ hn; replace hs := Sat.new hs hn; clear hn
  refine ⟨Sat.can hs (i := 0) .z (by simp [zeros]), ?_⟩
  intro h2 e
  replace hs := Sat.wra hs (i := 0) .z e (by simp [zeros, shaM_len])
  clear e
  simp only [put_zero] at hs
  have sub0 : subAddr (some ⟨hb', 0, none⟩) 0 32 1 = some ⟨hb', 0, none⟩ := by unfold subAddr; simp
  rw [sub0]
  refine ⟨_, hs.bv (i := 0) (l := 32) .z (by simp [shaM_len]) (ints_one _ _), ?_⟩
  refine Sat.app_new hs (by simp [shaM_len]) rfl (ints_one _ _) (by decide) ?_
  intro p3 c3 h3 hs
  refine fill_sp hs (by decide) ?_
  intro p4 c4 h4 hs
  rw [← ekb] at hs
  exact k _ _ _ (hs.sub (by (repeat (first | exact List.Sublist.refl _ | apply List.Sublist.cons_cons | apply List.Sublist.cons))))
 ·rw [if_neg (by rw [decide_eq_true_iff]; omega)]
  have ek : keyM key = key := by unfold keyM; rw [if_neg (by omega)]
  have ekb : kbM key = key ++ zeros (64 - l) := by unfold kbM; rw [ek, hkl]
  refine ⟨_, rd _ hs.drop, ?_⟩
  refine Sat.app_new hs (by simp [hkl]) rfl (ints_one _ _) (by omega) ?_
  intro p3 c3 h3 hs
  refine fill_sp hs (by omega) ?_
  intro p4 c4 h4 hs
  rw [← ekb] at hs
  exact k _ _ _ (hs.sub (by (repeat (first | exact List.Sublist.refl _ | apply List.Sublist.cons_cons | apply List.Sublist.cons))))
theorem over_sp {Q : Option Addr → Nat → Nat → H → Prop} {bs : List Int} {p : Option Addr} {l c : Nat} (x : Int) (hs : Sat h0 A h) (hl : l < 2 ^ 46) (rd : ∀ h', Sat h0 A h' → hsv h' p 1 l (ints .u8 bs))
  (k : ∀ p' c' h', Sat h0 (slE p' l c' 1 (ints .u8 (ovM x bs)) :: A) h' → Q p' l c' h') : F_portcullisref03_over p l c x Q h := by
 unfold F_portcullisref03_over G_portcullisref03_over
 have hbl : bs.length = l := by have := (rd _ hs).1; simpa using this
 intro eb _ hn; replace hs := Sat.new hs hn; clear hn
 intro J hJ
 refine loopN l (fun t (s : Option Addr × Nat) => [.dv (.one (.slice s.1 t s.2)), si t]) (fun t s h => Sat h0 (slE s.1 t s.2 1 (ints .u8 (ovM x (bs.take t))) :: A) h) ?_ ?_ 0 (some ⟨eb, 0, none⟩, 0) _ (by omega) (by simpa [ovM] using hs.drop.sl_nil 1 _)
 ·rintro t ⟨p3, c3⟩ h3 ht hs hk
  dsimp only at hs hk ⊢
  apply hJ
  rw [ltI_eq, if_pos (by rw [decide_eq_true_iff]; omega)]
  obtain ⟨q, hq, g⟩ := hsvI (rd _ hs.drop) (x := t) ht
  refine ⟨q, hq, by omega, by omega, ?_⟩
  simp only [Int.toNat_natCast, Nat.mul_one]
  refine ⟨_, g, ?_⟩
  intro b _ hn; replace hs := Sat.new hs hn; clear hn
  refine ⟨_, hs.bv (i := 0) (l := 1) .z rfl (ints_one .u8 [bits .xor .u8 (bs.getD t 0) x]), ?_⟩
  refine Sat.app hs (i := 1) (vs := ints .u8 [bits .xor .u8 (bs.getD t 0) x]) (.s .z) rfl rfl (ints_one _ _) (by omega) ?_
  intro p4 c4 h4 hs
  simp only [put_succ, put_zero] at hs
  rw [← intsApp] at hs
  rw [wrap_succ (by omega)]
  refine hk (p4, c4) h4 ?_
  dsimp only
  rw [takeS bs (by omega)]
  have : ovM x (bs.take t ++ [bs.getD t 0]) = ovM x (bs.take t) ++ [bits .xor .u8 (bs.getD t 0) x] := by unfold ovM; rw [List.map_append]; rfl
  rw [this]
  exact hs.drop
 ·rintro ⟨p3, c3⟩ h3 hs
  dsimp only at hs ⊢
  apply hJ
  rw [ltI_eq, if_neg (by simp)]
  rw [List.take_of_length_le (by omega)] at hs
  exact k _ _ _ hs
theorem rmac_sp {Q : List Int → H → Prop} {key b : List Int} {kp bp : Option Addr} {kl kc bl bc : Nat} (hs : Sat h0 A h) (hkb : isBy key) (hbb : isBy b) (hk : kl < 2 ^ 45) (hb : bl < 2 ^ 45) (rk : ∀ h', Sat h0 A h' → hsv h' kp 1 kl (ints .u8 key)) (rb : ∀ h', Sat h0 A h' → hsv h' bp 1 bl (ints .u8 b))
  (k : ∀ h', Sat h0 A h' → Q (macM key b) h') : F_portcullisref03_Of kp kl kc bp bl bc Q h := by
 unfold F_portcullisref03_Of G_portcullisref03_Of
 try simp only [add_mk, Nat.zero_add, List.append_nil]
 have hbl : b.length = bl := by have := (rb _ hs).1; simpa using this
 intro ob _ hn; replace hs := Sat.new hs hn; clear hn
 refine block_sp (key := key) hs hkb (by omega) (fun h' hs' => rk _ hs'.drop) ?_
 intro p1 c1 h1 hs
 have hkl := kbM_len key
 refine over_sp 54 hs (by decide) (fun h' hs' => hs'.sv (i := 0) .z) ?_
 intro p2 c2 h2 hs
 rw [← xM_ov 54 hkl] at hs
 refine ⟨_, rb _ hs.drop.drop.drop, ?_⟩
 refine Sat.app hs (i := 0) (vs := ints .u8 b) .z (by simp [hbl]) rfl (ints_one _ _) (by omega) ?_
 intro p3 c3 h3 hs
 simp only [put_zero] at hs
 rw [← intsApp] at hs
 have bi : isBy (xM (kbM key) 54 64) := by rw [xM_ov 54 hkl]; exact isBy_ov _ _
 have bo : isBy (xM (kbM key) 92 64) := by rw [xM_ov 92 hkl]; exact isBy_ov _ _
 refine rof_sp (ms := innerM key ++ b) hs (isBy_app bi hbb) (by omega) (fun h' hs' => hs'.sv (i := 0) .z) ?_
 intro h4 hs
 obtain ⟨I, hI⟩ : ∃ I, I = shaM (innerM key ++ b) := ⟨_, rfl⟩
 have hIl : I.length = 32 := by rw [hI]; exact shaM_len _
 have hIb : isBy I := by rw [hI]; exact isBy_sha _
 rw [← hI]
 intro hb' _ hn; replace hs := Sat.new hs hn; clear hn
 refine ⟨Sat.can hs (i := 0) .z (by simp [zeros]), ?_⟩
 intro h5 e
 replace hs := Sat.wra hs (i := 0) .z e (by simp [zeros, hIl])
 clear e
 simp only [put_zero] at hs
 refine over_sp 92 hs (by decide) (fun h' hs' => hs'.sv (i := 2) (.s (.s .z))) ?_
 intro p6 c6 h6 hs
 rw [← xM_ov 92 hkl] at hs
 refine ⟨_, hs.bv (i := 1) (l := 32) (.s .z) (by simp [hIl]) (ints_one _ _), ?_⟩
 refine Sat.app hs (i := 0) (vs := ints .u8 I) .z (by simp [hIl]) rfl (ints_one _ _) (by decide) ?_
 intro p7 c7 h7 hs
 simp only [put_zero] at hs
 rw [← intsApp] at hs
 refine rof_sp (ms := outerM key ++ I) hs (isBy_app bo hIb) (by decide) (fun h' hs' => hs'.sv (i := 0) .z) ?_
 intro h8 hs
 have em : shaM (outerM key ++ I) = macM key b := by unfold macM; rw [hI]
 rw [em]
 refine ⟨Sat.can hs (i := 4) (.s (.s (.s (.s .z)))) (by simp [zeros]), ?_⟩
 intro h9 e
 replace hs := Sat.wra hs (i := 4) (.s (.s (.s (.s .z)))) e (by simp [zeros, macM_len])
 clear e
 simp only [put_succ, put_zero] at hs
 exact ⟨_, macM_len _ _, hs.row0 (i := 4) (.s (.s (.s (.s .z)))), k _ hs.drop.drop.drop.drop.drop⟩
end
end Go.Proofs.YtaglicdidpgkpaaGreatDoor
end

/- Tokens: the document's Narrow, and the message of the first tag. Own work. -/
section
set_option maxRecDepth 100000
set_option linter.unusedVariables false
namespace Go.Proofs.YtaglicdidpgkpaaGreatDoor
open Go Go.Vc
theorem isBy_cb (c : CvM) : isBy (cbM c) := by
 have e : ∀ n t, isBy (eightM n t) := by
  intro n t v hv
  unfold eightM at hv
  obtain ⟨i, _, rfl⟩ := List.mem_map.1 hv
  rw [IntKind.wrap_u8]; omega
 unfold cbM
 refine isBy_app (isBy_app (isBy_app ?_ (e _ _)) (e _ _)) (e _ _)
 intro v hv
 simp only [List.mem_cons, List.not_mem_nil, or_false] at hv
 rcases hv with rfl | rfl <;> (rw [IntKind.wrap_u8]; omega)
theorem isBy_msg {id : List Int} (h : isBy id) : isBy (msgM id) := by
 unfold msgM
 refine isBy_app (isBy_app ?_ ?_) h
 ·intro v hv
  unfold beginsL at hv
  simp only [List.mem_cons, List.not_mem_nil, or_false] at hv
  omega
 ·intro v hv
  simp only [List.mem_cons, List.not_mem_nil, or_false] at hv
  subst hv
  rw [IntKind.wrap_u8]; omega
section
variable {h0 h : H} {A : List Ent} {i j d : Nat}
theorem rfirst_sp {Q : Option Addr → Nat → Nat → H → Prop} {p : Option Addr} {l c : Nat} {id : List Int} (hs : Sat h0 A h) (hl : l < 2 ^ 40) (rd : ∀ h', Sat h0 A h' → hsv h' p 1 l (ints .u8 id))
  (k : ∀ p' c' h', Sat h0 (slE p' (18 + l) c' 1 (ints .u8 (msgM id)) :: A) h' → Q p' (18 + l) c' h') : F_portcullisref24_first p l c Q h := by
 unfold F_portcullisref24_first G_portcullisref24_first
 have hil : id.length = l := by have := (rd _ hs).1; simpa using this
 intro eb _ hn; replace hs := Sat.new hs hn; clear hn
 refine Sat.app_new (vs := ints .u8 [112, 111, 114, 116, 99, 117, 108, 108, 105, 115, 32, 116, 111, 107, 101, 110]) hs rfl rfl (ints_one _ _) (by decide) ?_
 intro p1 c1 h1 hs
 intro b _ hn; replace hs := Sat.new hs hn; clear hn
 refine ⟨_, hs.bv (i := 0) (l := 2) .z rfl (ints_one .u8 [0, IntKind.u8.wrap (l : Int)]), ?_⟩
 refine Sat.app hs (i := 1) (vs := ints .u8 [0, IntKind.u8.wrap (l : Int)]) (.s .z) rfl rfl (ints_one _ _) (by decide) ?_
 intro p2 c2 h2 hs
 simp only [put_succ, put_zero] at hs
 refine ⟨_, rd _ hs.drop.drop.drop, ?_⟩
 refine Sat.app hs (i := 1) (vs := ints .u8 id) (.s .z) (by simp [hil]) rfl (ints_one _ _) (by omega) ?_
 intro p3 c3 h3 hs
 simp only [put_succ, put_zero] at hs
 refine k p3 c3 h3 ?_
 have e : ints .u8 (msgM id) = ints .u8 [112, 111, 114, 116, 99, 117, 108, 108, 105, 115, 32, 116, 111, 107, 101, 110] ++ ints .u8 [0, IntKind.u8.wrap (l : Int)] ++ ints .u8 id := by
  unfold msgM beginsL; rw [ints_app, ints_app, hil]; rfl
 rw [e]
 exact hs.sub (by (repeat (first | exact List.Sublist.refl _ | apply List.Sublist.cons_cons | apply List.Sublist.cons)))
end
end Go.Proofs.YtaglicdidpgkpaaGreatDoor
end

/- Rings of keys, the program's and the document's. Own work. -/
section
set_option maxRecDepth 100000
set_option linter.unusedVariables false
namespace Go.Proofs.YtaglicdidpgkpaaGreatDoor
open Go Go.Vc

abbrev Sec := Int × List Int
def badM (seen : List Sec) (s : Sec) : Int :=
 if s.1 < 0 then 2 else if 63 < s.1 then 2 else if s.2.length < 1 then 4 else if 256 < s.2.length then 4 else if (seen.find? (fun x => x.1 == s.1)).isSome = true then 18 else 0
def goM (L : List Sec) : Nat → Option (Int × Int)
 | 0 => none
 | k + 1 => if badM (L.take (L.length - (k + 1))) (L.getD (L.length - (k + 1)) (0, [])) = 0 then goM L k else some (badM (L.take (L.length - (k + 1))) (L.getD (L.length - (k + 1)) (0, [])), ((L.length - (k + 1) : Nat) : Int))
def newM (L : List Sec) : Option (Int × Int) := if 64 < L.length then some (3, 64) else goM L L.length
theorem goM_at (L : List Sec) {t : Nat} (ht : t < L.length) : goM L (L.length - t) = if badM (L.take t) L[t] = 0 then goM L (L.length - (t + 1)) else some (badM (L.take t) L[t], (t : Int)) := by
 obtain ⟨k, hk⟩ : ∃ k, L.length - t = k + 1 := ⟨L.length - t - 1, by omega⟩
 rw [hk]
 show (if badM (L.take (L.length - (k + 1))) (L.getD (L.length - (k + 1)) (0, [])) = 0 then _ else _) = _
 rw [show L.length - (k + 1) = t by omega, show L.length - (t + 1) = k by omega]
 have : L.getD t (0, []) = L[t] := by rw [List.getD_eq_getElem?_getD, List.getElem?_eq_getElem ht]; rfl
 rw [this]
structure SR where
 key : Int
 bytes : List Int
 p : Option Addr
 c : Nat
abbrev SR.kv (x : SR) : Sec := (x.key, x.bytes)
abbrev SR.ent (x : SR) : Value × DV := (.int .i64 x.key, .one (.slice x.p x.bytes.length x.c))
abbrev SR.sl (x : SR) : Ent := slE x.p x.bytes.length x.c 1 (ints .u8 x.bytes)
def secV : List SR → List Value
 | [] => []
 | x :: r => [.int .i64 x.key, .slice x.p x.bytes.length x.c] ++ secV r
theorem secV_app (a b : List SR) : secV (a ++ b) = secV a ++ secV b := by
 induction a with
 | nil => rfl
 | cons x r ih => show [_, _] ++ secV (r ++ b) = [_, _] ++ secV r ++ secV b; rw [ih]; rfl
theorem secV_get (R : List SR) (i : Nat) (hi : i < R.length) : (secV R)[i * 2]? = some (.int .i64 R[i].key) ∧ (secV R)[i * 2 + 1]? = some (.slice R[i].p R[i].bytes.length R[i].c) := by
 induction R generalizing i with
 | nil => simp at hi
 | cons x r ih =>
  cases i with
  | zero => exact ⟨rfl, rfl⟩
  | succ i =>
   have := ih i (by simpa using hi)
   rw [show (i + 1) * 2 = i * 2 + 1 + 1 by omega]
   exact this
def SR.at_ (R : List SR) (key : Int) : Option SR := R.find? (fun x => x.key == key)
theorem at_kv (R : List SR) (key : Int) : (SR.at_ R key).map SR.kv = (R.map SR.kv).find? (fun x => x.1 == key) := by
 unfold SR.at_
 induction R with
 | nil => rfl
 | cons x r ih =>
  rw [List.map_cons, List.find?_cons, List.find?_cons]
  by_cases c : (x.key == key) = true
  ·rw [c]; simp only [c]; rfl
  ·have c' : (x.key == key) = false := by simpa using c
   rw [c']; simp only [c']; exact ih
theorem mlook_at (R : List SR) (key : Int) (z : DV) : mlook (.int .i64 key) z (R.map SR.ent) = match SR.at_ R key with | some x => some (.one (.slice x.p x.bytes.length x.c), true) | none => some (z, false) := by
 unfold SR.at_
 induction R with
 | nil => rfl
 | cons x r ih =>
  rw [List.map_cons, List.find?_cons]
  unfold mlook
  have e : keyEq (.int .i64 key) (SR.ent x).1 = some (key == x.key) := rfl
  rw [e]
  by_cases c : key = x.key
  ·have c1 : (key == x.key) = true := by simpa using c
   have c2 : (x.key == key) = true := by simpa using c.symm
   rw [c1, c2]
  ·have c1 : (key == x.key) = false := by simpa using c
   have c2 : (x.key == key) = false := by simpa using fun y => c y.symm
   rw [c1, c2]
   exact ih
theorem mins_at (R : List SR) (key : Int) (d : DV) (h : SR.at_ R key = none) : mins (.int .i64 key) d (R.map SR.ent) = some (R.map SR.ent ++ [(.int .i64 key, d)]) := by
 unfold SR.at_ at h
 induction R with
 | nil => rfl
 | cons x r ih =>
  rw [List.find?_cons] at h
  rw [List.map_cons]
  unfold mins
  have e : keyEq (.int .i64 key) (SR.ent x).1 = some (key == x.key) := rfl
  rw [e]
  by_cases c : key = x.key
  ·have c2 : (x.key == key) = true := by simpa using c.symm
   rw [c2] at h; cases h
  ·have c1 : (key == x.key) = false := by simpa using c
   have c2 : (x.key == key) = false := by simpa using fun y => c y.symm
   rw [c2] at h
   rw [c1]
   dsimp only
   rw [ih h]
   rfl
def SecsAt (h : H) (p : Option Addr) (l : Nat) (X : List SR) : Prop := l = X.length ∧ ∀ i (hi : i < X.length), ∃ q, p = some q ∧ hc h (q.add (i * 2)) = some (.int .i64 X[i].key) ∧ hc h ((q.add (i * 2)).add 1) = some (.slice X[i].p X[i].bytes.length X[i].c) ∧ hsv h X[i].p 1 X[i].bytes.length (ints .u8 X[i].bytes) ∧ isBy X[i].bytes ∧ X[i].bytes.length < 2 ^ 47
theorem SecsAt.ext {h0 h : H} {A : List Ent} (hs : Sat h0 A h) {p : Option Addr} {l : Nat} {X : List SR} (s : SecsAt h0 p l X) : SecsAt h p l X := by
 refine ⟨s.1, fun i hi => ?_⟩
 obtain ⟨q, h1, h2, h3, h4, h5, h6⟩ := s.2 i hi
 exact ⟨q, h1, hc_ext hs.ex h2 (fun y => y), hc_ext hs.ex h3 (fun y => y), hs.base h4, h5, h6⟩
theorem takeSec {L : List Sec} {t : Nat} (h : t < L.length) : L.take (t + 1) = L.take t ++ [L[t]] := by rw [List.take_succ, List.getElem?_eq_getElem h]; rfl
abbrev ringP (r m : Nat) (R : List SR) : List Ent := blk r [.map (some m)] :: mapE m (R.map SR.ent) :: R.map SR.sl
abbrev ringD (r : Nat) (lp : Option Addr) (lc : Nat) (R : List SR) : List Ent := blk r [.slice lp R.length lc] :: slE lp R.length lc 2 (secV R) :: R.map SR.sl
def SR.good (R : List SR) : Prop := ∀ x, x ∈ R → x.bytes.length ≤ 256 ∧ x.bytes.length ≤ x.c ∧ isBy x.bytes
section
variable {h0 h : H} {A : List Ent} {i j d r m : Nat}
theorem hasN_sp {Q : Bool → H → Prop} (key : Int) {R : List SR} (hs : Sat h0 A h) (cr : At A i (blk r [.map (some m)])) (cm : At A j (mapE m (R.map SR.ent))) (q : Q (SR.at_ R key).isSome h) : F_keys_Ring_Has ⟨r, 0, none⟩ key Q h := by
 cases e : SR.at_ R key with
 | none => exact has_sp key hs cr cm (b := false) (op := none) (ol := 0) (oc := 0) (by rw [mlook_at, e]) (by rw [e] at q; exact q)
 | some x => exact has_sp key hs cr cm (b := true) (op := x.p) (ol := x.bytes.length) (oc := x.c) (by rw [mlook_at, e]) (by rw [e] at q; exact q)
theorem keysN_sp {Q : Option Addr → Int → Int → H → Prop} {X : List SR} {L : List Sec} {p : Option Addr} {l c : Nat} (hs : Sat h0 A h) (eL : X.map SR.kv = L) (rd : ∀ h', Sat h0 A h' → SecsAt h' p l X) (hl : l < 2 ^ 47)
  (kE : ∀ e i h', newM L = some (e, i) → Sat h0 A h' → Q none e i h')
  (kT : newM L = none → ∀ r m R h', R.map SR.kv = L → SR.good R → Sat h0 (ringP r m R ++ A) h' → Q (some ⟨r, 0, none⟩) 0 0 h') : F_keys_New p l c Q h := by
 unfold F_keys_New G_keys_New
 try simp only [add_mk, Nat.zero_add]
 have hL : l = L.length := by rw [← eL, List.length_map]; exact (rd _ hs).1
 rw [ltI_eq]
 by_cases g : 64 < l
 ·rw [if_pos (by rw [decide_eq_true_iff]; omega)]
  exact kE _ _ _ (by unfold newM; rw [if_pos (by omega)]) hs
 rw [if_neg (by rw [decide_eq_true_iff]; omega)]
 have hn : newM L = goM L L.length := by unfold newM; rw [if_neg (by omega)]
 rw [hn] at kT
 replace kE : ∀ e i h', goM L L.length = some (e, i) → Sat h0 A h' → Q none e i h' := fun e i h' x => kE e i h' (hn.trans x)
 intro m _ hn; replace hs := hs.mapNew hn; clear hn
 intro r _ hn; replace hs := Sat.new hs hn; clear hn
 intro J13 hJ13
 refine loopN L.length (fun t (_ : List SR) => [si t]) (fun t R h => goM L L.length = goM L (L.length - t) ∧ R.map SR.kv = L.take t ∧ SR.good R ∧ Sat h0 (ringP r m R ++ A) h) ?_ ?_ 0 [] _ (by omega) ⟨rfl, rfl, (show SR.good [] from fun x hx => by cases hx), hs⟩
 ·rintro t R h1 ht ⟨hg, hR, hgd, hs⟩ hk
  apply hJ13
  rw [ltI_eq, if_pos (by rw [decide_eq_true_iff]; omega)]
  have rd' : ∀ {B : List Ent} {h' : H}, Sat h0 (B ++ (ringP r m R ++ A)) h' → Sat h0 A h' := fun {B h'} hs' => by
   refine hs'.sub ?_
   exact (List.sublist_append_right _ _).trans (List.sublist_append_right _ _)
  have htX : t < X.length := by rw [← eL, List.length_map] at ht; exact ht
  obtain ⟨q, hq, g0, g1, _, hby, hbl⟩ := (rd _ (rd' (B := []) hs)).2 t htX
  have rdb : ∀ {B : List Ent} {h' : H}, Sat h0 (B ++ (ringP r m R ++ A)) h' → hsv h' X[t].p 1 X[t].bytes.length (ints .u8 X[t].bytes) := fun {B h'} hs' => by
   obtain ⟨_, _, _, _, y, _⟩ := (rd _ (rd' (B := B) hs')).2 t htX
   exact y
  rw [goM_at L ht] at hg
  have hkv : L[t] = (X[t].key, X[t].bytes) := by subst eL; simp
  obtain ⟨key, hkey⟩ : ∃ key, key = X[t].key := ⟨_, rfl⟩
  obtain ⟨bs, hbs⟩ : ∃ bs, bs = X[t].bytes := ⟨_, rfl⟩
  obtain ⟨bp, hbp⟩ : ∃ bp, bp = X[t].p := ⟨_, rfl⟩
  obtain ⟨bc, hbc⟩ : ∃ bc, bc = X[t].c := ⟨_, rfl⟩
  rw [← hkey, ← hbs] at hkv
  rw [← hkey] at g0
  rw [← hbp, ← hbs, ← hbc] at g1
  rw [← hbs] at hby hbl
  have rdb' : ∀ {B : List Ent} {h' : H}, Sat h0 (B ++ (ringP r m R ++ A)) h' → hsv h' bp 1 bs.length (ints .u8 bs) := fun {B h'} hs' => by
   rw [hbp, hbs]; exact rdb (B := B) hs'
  obtain ⟨bl, hbsl⟩ : ∃ bl, bs.length = bl := ⟨_, rfl⟩
  rw [hbsl] at g1 hbl
  rw [hkv] at hg
  refine ⟨q, hq, by omega, by omega, ?_⟩
  simp only [Int.toNat_natCast]
  refine ⟨_, g0, _, _, _, g1, ?_⟩
  intro b _ hn; replace hs := Sat.new hs hn; clear hn
  refine ⟨Sat.can hs (i := 0) .z (by simp), ?_⟩
  intro h2 e
  replace hs := Sat.wra hs (i := 0) .z e rfl
  clear e
  simp only [put_zero] at hs
  have bad : ∀ e, e ≠ 0 → badM (L.take t) (key, bs) = e → ∀ h', Sat h0 A h' → Q none e t h' := by
   intro e he hb h' hs'
   rw [hb, if_neg he] at hg
   exact kE e t h' hg hs'
  intro J26 hJ26
  have no : badM (L.take t) (key, bs) = 2 → J26 [.dv (.one (.bool true))] h2 := by
   intro hb
   apply hJ26
   rw [if_pos rfl]
   exact bad 2 (by decide) hb _ (rd' (B := [_]) hs)
  have way : 0 ≤ key → key < 64 → J26 [.dv (.one (.bool false))] h2 := by
   intro k0 k1
   apply hJ26
   clear hJ26 no
   rw [if_neg (by decide)]
   have bm : badM (L.take t) (key, bs) = if bs.length < 1 then 4 else if 256 < bs.length then 4 else if ((L.take t).find? (fun x => x.1 == key)).isSome = true then 18 else 0 := by
    unfold badM
    dsimp only
    rw [if_neg (by omega), if_neg (by omega)]
   rw [bm] at hg bad
   refine ⟨_, _, _, hs.ld (i := 0) .z rfl, ?_⟩
   rw [ltI_eq]
   by_cases b1 : bl < 1
   ·rw [if_pos (by rw [decide_eq_true_iff]; omega)]
    exact bad 4 (by decide) (by rw [if_pos (by omega)]) _ (rd' (B := [_]) hs)
   rw [if_neg (by rw [decide_eq_true_iff]; omega)]
   rw [if_neg (show ¬ bs.length < 1 by omega)] at hg bad
   refine ⟨_, _, _, hs.ld (i := 0) .z rfl, ?_⟩
   rw [ltI_eq]
   by_cases b2 : 256 < bl
   ·rw [if_pos (by rw [decide_eq_true_iff]; omega)]
    exact bad 4 (by decide) (by rw [if_pos (by omega)]) _ (rd' (B := [_]) hs)
   rw [if_neg (by rw [decide_eq_true_iff]; omega)]
   rw [if_neg (show ¬ 256 < bs.length by omega)] at hg bad
   refine ⟨_, hs.ld (i := 0) .z rfl, ?_⟩
   refine hasN_sp key hs (i := 1) (j := 2) (.s .z) (.s (.s .z)) ?_
   have ekv : (SR.at_ R key).isSome = ((L.take t).find? (fun x => x.1 == key)).isSome := by rw [← hR, ← at_kv]; simp
   rw [ekv]
   by_cases b3 : ((L.take t).find? (fun x => x.1 == key)).isSome = true
   ·rw [if_pos b3]
    exact bad 18 (by decide) (by rw [if_pos b3]) _ (rd' (B := [_]) hs)
   rw [if_neg b3]
   rw [if_neg b3, if_pos rfl] at hg
   clear bad
   have hnone : SR.at_ R key = none := by
    rw [← ekv] at b3
    cases e : SR.at_ R key with
    | none => rfl
    | some x => rw [e] at b3; exact absurd rfl b3
   refine ⟨_, hs.ld (i := 1) (.s .z) rfl, _, hs.ld (i := 0) .z rfl, _, _, _, hs.ld (i := 0) .z rfl, ?_⟩
   refine clone1_sp (vs := ints .u8 bs) hs (by omega) (fun h' hs' => ?_) ?_
   ·rw [← hbsl]; exact rdb' (B := [_]) hs'
   intro p' c' h3 _ hs
   refine ⟨hcs_one (hs.ld (i := 1) (.s .z) rfl), hcs_one (hs.ld (i := 2) (.s (.s .z)) rfl), _, _, _, rfl, hs.mapAt (i := 3) (.s (.s (.s .z))), mins_at R key _ hnone, ?_⟩
   intro h4 e
   replace hs := hs.mapSet (i := 3) (.s (.s (.s .z))) e
   clear e
   simp only [put_succ, put_zero] at hs
   rw [wrap_succ (by omega)]
   have hc' := capS hs (i := 0) .z
   refine hk (R ++ [⟨key, bs, p', c'⟩]) h4 ⟨hg, ?_, ?_, ?_⟩
   ·rw [List.map_append, hR, takeSec ht, hkv]; rfl
   ·intro x hx
    rcases List.mem_append.1 hx with hx | hx
    ·exact hgd x hx
    ·simp only [List.mem_cons, List.not_mem_nil, or_false] at hx
     subst hx
     exact ⟨by dsimp only; omega, by dsimp only; omega, hby⟩
   ·rw [← hbsl] at hs
    have e1 : (R ++ [(⟨key, bs, p', c'⟩ : SR)]).map SR.ent = R.map SR.ent ++ [(.int .i64 key, .one (.slice p' bs.length c'))] := by rw [List.map_append]; rfl
    have e2 : (R ++ [(⟨key, bs, p', c'⟩ : SR)]).map SR.sl = R.map SR.sl ++ [slE p' bs.length c' 1 (ints .u8 bs)] := by rw [List.map_append]; rfl
    unfold ringP
    rw [e1, e2]
    refine Sat.perm (hs.sub (B := slE p' bs.length c' 1 (ints .u8 bs) :: blk r [.map (some m)] :: mapE m (R.map SR.ent ++ [(.int .i64 key, .one (.slice p' bs.length c'))]) :: (R.map SR.sl ++ A)) (by (repeat (first | exact List.Sublist.refl _ | apply List.Sublist.cons_cons | apply List.Sublist.cons)))) ?_
    simp only [List.cons_append, List.append_assoc, List.nil_append]
    refine (List.Perm.swap _ _ _).trans (List.Perm.cons _ ?_)
    refine (List.Perm.swap _ _ _).trans (List.Perm.cons _ ?_)
    exact List.perm_middle.symm
  refine ⟨_, hs.ld (i := 0) .z rfl, ?_⟩
  rw [ltI_eq]
  by_cases k0 : key < 0
  ·rw [if_pos (by rw [decide_eq_true_iff]; omega)]
   exact no (by unfold badM; dsimp only; rw [if_pos k0])
  rw [if_neg (by rw [decide_eq_true_iff]; omega)]
  refine ⟨_, hs.ld (i := 0) .z rfl, ?_⟩
  rw [leI_eq]
  by_cases k1 : 63 < key
  ·rw [decide_eq_true (by omega)]
   exact no (by unfold badM; dsimp only; rw [if_neg k0, if_pos k1])
  ·rw [decide_eq_false (by omega)]
   exact way (by omega) (by omega)
 ·rintro R h1 ⟨hg, hR, hgd, hs⟩
  apply hJ13
  rw [ltI_eq, if_neg (by rw [decide_eq_true_iff]; omega)]
  rw [List.take_of_length_le (Nat.le_refl _)] at hR
  rw [Nat.sub_self] at hg
  exact kT hg r m R h1 hR hgd hs
theorem find_sp {Q : Int → H → Prop} (key : Int) {lp : Option Addr} {lc : Nat} {R : List SR} (hs : Sat h0 A h) (cr : At A i (blk r [.slice lp R.length lc])) (cl : At A j (slE lp R.length lc 2 (secV R))) (hR : R.length < 2 ^ 40)
  (k : ∀ n : Int, (SR.at_ R key = none ∧ n = -1) ∨ (∃ t, ∃ ht : t < R.length, n = (t : Int) ∧ SR.at_ R key = some R[t]) → Q n h) : F_portcullisref12_Ring_find ⟨r, 0, none⟩ key Q h := by
 unfold F_portcullisref12_Ring_find G_portcullisref12_Ring_find
 intro J hJ
 refine loop_up R.length (fun t h' => SR.at_ R key = SR.at_ (R.drop t) key ∧ h' = h) ?_ ?_ 0 _ (by omega) ⟨rfl, rfl⟩
 ·rintro t h1 ht ⟨hf, rfl⟩ hk
  apply hJ
  refine ⟨_, _, _, hs.ld cr rfl, ?_⟩
  rw [ltI_eq, if_pos (by rw [decide_eq_true_iff]; omega)]
  obtain ⟨q, hq, g⟩ := hsv_get (hs.sv cl) (secV_get R t ht).1
  refine ⟨_, _, _, hs.ld cr rfl, q, hq, by omega, by omega, ?_⟩
  simp only [Int.toNat_natCast]
  refine ⟨_, g, ?_⟩
  rw [List.drop_eq_getElem_cons ht] at hf
  unfold SR.at_ at hf
  rw [List.find?_cons] at hf
  by_cases c : R[t].key = key
  ·have c2 : (R[t].key == key) = true := by simpa using c
   rw [c2] at hf
   rw [if_pos c2]
   exact k _ (Or.inr ⟨t, ht, rfl, hf⟩)
  ·have c2 : (R[t].key == key) = false := by simpa using c
   rw [c2] at hf
   rw [if_neg (by rw [c2]; decide), wrap_succ (by omega)]
   exact hk _ ⟨hf, rfl⟩
 ·rintro h1 ⟨hf, rfl⟩
  apply hJ
  refine ⟨_, _, _, hs.ld cr rfl, ?_⟩
  rw [ltI_eq, if_neg (by simp)]
  rw [List.drop_of_length_le (Nat.le_refl _)] at hf
  exact k _ (Or.inl ⟨hf, rfl⟩)
theorem rhas_sp {Q : Bool → H → Prop} (key : Int) {lp : Option Addr} {lc : Nat} {R : List SR} (hs : Sat h0 A h) (cr : At A i (blk r [.slice lp R.length lc])) (cl : At A j (slE lp R.length lc 2 (secV R))) (hR : R.length < 2 ^ 40) (q : Q (SR.at_ R key).isSome h) : F_portcullisref12_Ring_Has ⟨r, 0, none⟩ key Q h := by
 unfold F_portcullisref12_Ring_Has G_portcullisref12_Ring_Has
 refine find_sp key hs cr cl hR ?_
 intro n hn
 rw [leI_eq]
 rcases hn with ⟨e, rfl⟩ | ⟨t, ht, rfl, e⟩
 ·rw [e] at q; exact q
 ·rw [e] at q
  rw [decide_eq_true (by omega)]
  exact q
theorem ringsN_sp {Q : Option Addr → Int → Int → H → Prop} {X : List SR} {L : List Sec} {p : Option Addr} {l c : Nat} (hs : Sat h0 A h) (eL : X.map SR.kv = L) (rd : ∀ h', Sat h0 A h' → SecsAt h' p l X) (hl : l < 2 ^ 47)
  (kE : ∀ e i h', newM L = some (e, i) → Sat h0 A h' → Q none e i h')
  (kT : newM L = none → ∀ r lp lc R h', R.map SR.kv = L → SR.good R → Sat h0 (ringD r lp lc R ++ A) h' → Q (some ⟨r, 0, none⟩) 0 0 h') : F_portcullisref12_New p l c Q h := by
 unfold F_portcullisref12_New G_portcullisref12_New
 have hL : l = L.length := by rw [← eL, List.length_map]; exact (rd _ hs).1
 rw [ltI_eq]
 by_cases g : 64 < l
 ·rw [if_pos (by rw [decide_eq_true_iff]; omega)]
  exact kE _ _ _ (by unfold newM; rw [if_pos (by omega)]) hs
 rw [if_neg (by rw [decide_eq_true_iff]; omega)]
 have hn : newM L = goM L L.length := by unfold newM; rw [if_neg (by omega)]
 rw [hn] at kT
 replace kE : ∀ e i h', goM L L.length = some (e, i) → Sat h0 A h' → Q none e i h' := fun e i h' x => kE e i h' (hn.trans x)
 intro r _ hn; replace hs := Sat.new hs hn; clear hn
 intro J9 hJ9
 refine loopN L.length (fun t (_ : List SR × Option Addr × Nat) => [si t]) (fun t s h => goM L L.length = goM L (L.length - t) ∧ s.1.map SR.kv = L.take t ∧ SR.good s.1 ∧ Sat h0 (ringD r s.2.1 s.2.2 s.1 ++ A) h) ?_ ?_ 0 ([], none, 0) _ (by omega) ⟨rfl, rfl, (show SR.good [] from fun x hx => by cases hx), ?_⟩
 ·rintro t ⟨R, lp, lc⟩ h1 ht ⟨hg, hR, hgd, hs⟩ hk
  dsimp only at hg hR hgd hs hk ⊢
  apply hJ9
  rw [ltI_eq, if_pos (by rw [decide_eq_true_iff]; omega)]
  have hRl : R.length = t := by
   have := congrArg List.length hR
   rw [List.length_map, List.length_take] at this; omega
  have rd' : ∀ {B : List Ent} {h' : H}, Sat h0 (B ++ (ringD r lp lc R ++ A)) h' → Sat h0 A h' := fun {B h'} hs' => by
   refine hs'.sub ?_
   exact (List.sublist_append_right _ _).trans (List.sublist_append_right _ _)
  have htX : t < X.length := by rw [← eL, List.length_map] at ht; exact ht
  obtain ⟨q, hq, g0, g1, _, hby, hbl⟩ := (rd _ (rd' (B := []) hs)).2 t htX
  rw [goM_at L ht] at hg
  have hkv : L[t] = (X[t].key, X[t].bytes) := by subst eL; simp
  obtain ⟨Y, hY⟩ : ∃ Y, Y = X[t] := ⟨_, rfl⟩
  have rdY : ∀ {B : List Ent} {h' : H}, Sat h0 (B ++ (ringD r lp lc R ++ A)) h' → hc h' (q.add (t * 2)) = some (.int .i64 Y.key) ∧ hc h' ((q.add (t * 2)).add 1) = some (.slice Y.p Y.bytes.length Y.c) ∧ hsv h' Y.p 1 Y.bytes.length (ints .u8 Y.bytes) := fun {B h'} hs' => by
   obtain ⟨q', hq', y0, y1, y2, _, _⟩ := (rd _ (rd' (B := B) hs')).2 t htX
   rw [hq] at hq'
   injection hq' with hq'
   subst hq'
   rw [hY]
   exact ⟨y0, y1, y2⟩
  rw [← hY] at hkv hby hbl
  clear g0 g1
  obtain ⟨g0, g1, _⟩ := rdY (B := []) hs
  rw [hkv] at hg
  have bad : ∀ e, e ≠ 0 → badM (L.take t) (Y.key, Y.bytes) = e → Q none e t h1 := by
   intro e he hb
   rw [hb, if_neg he] at hg
   exact kE e t h1 hg (rd' (B := []) hs)
  simp only [Int.toNat_natCast]
  intro J12 hJ12
  have way : 0 ≤ Y.key → Y.key < 64 → J12 [] h1 := by
   intro k0 k1
   apply hJ12
   clear hJ12
   have bm : badM (L.take t) (Y.key, Y.bytes) = if Y.bytes.length < 1 then 4 else if 256 < Y.bytes.length then 4 else if ((L.take t).find? (fun x => x.1 == Y.key)).isSome = true then 18 else 0 := by
    unfold badM
    dsimp only
    rw [if_neg (by omega), if_neg (by omega)]
   rw [bm] at hg bad
   intro J14 hJ14
   refine ⟨q, hq, by omega, by omega, _, _, _, g1, ?_⟩
   rw [ltI_eq]
   by_cases b1 : Y.bytes.length < 1
   ·rw [if_pos (by rw [decide_eq_true_iff]; omega)]
    exact bad 4 (by decide) (by rw [if_pos (by omega)])
   rw [if_neg (by rw [decide_eq_true_iff]; omega)]
   rw [if_neg (show ¬ Y.bytes.length < 1 by omega)] at hg bad
   refine ⟨q, hq, by omega, by omega, _, _, _, g1, ?_⟩
   rw [ltI_eq]
   by_cases b2 : 256 < Y.bytes.length
   ·rw [if_pos (by rw [decide_eq_true_iff]; omega)]
    exact bad 4 (by decide) (by rw [if_pos (by omega)])
   rw [if_neg (by rw [decide_eq_true_iff]; omega)]
   rw [if_neg (show ¬ 256 < Y.bytes.length by omega)] at hg bad
   apply hJ14
   clear hJ14
   refine ⟨q, hq, by omega, by omega, _, g0, ?_⟩
   refine rhas_sp Y.key hs (i := 0) (j := 1) .z (.s .z) (by omega) ?_
   have ekv : (SR.at_ R Y.key).isSome = ((L.take t).find? (fun x => x.1 == Y.key)).isSome := by rw [← hR, ← at_kv]; simp
   rw [ekv]
   by_cases b3 : ((L.take t).find? (fun x => x.1 == Y.key)).isSome = true
   ·rw [if_pos b3]
    exact bad 18 (by decide) (by rw [if_pos b3])
   rw [if_neg b3]
   rw [if_neg b3, if_pos rfl] at hg
   clear bad
   intro eb _ hn; replace hs := Sat.new hs hn; clear hn
   obtain ⟨g0, g1, gb⟩ := rdY (B := [_]) hs
   refine ⟨_, _, _, hs.ld (i := 1) (.s .z) rfl, q, hq, by omega, by omega, _, g0, q, hq, by omega, by omega, _, _, _, g1, _, gb, ?_⟩
   refine Sat.app_new hs (by simp) rfl (ints_one _ _) (by omega) ?_
   intro p' c' h3 hs
   have hc' := capS hs (i := 0) .z
   obtain ⟨g0, g1, gb⟩ := rdY (B := [_, _]) hs
   refine ⟨hcs_one g0, hcs_one (hs.ld (i := 2) (.s (.s .z)) rfl), ?_⟩
   intro nb _ hn; replace hs := Sat.new hs hn; clear hn
   have one2 : ∀ v, v ∈ [Value.int .i64 Y.key, .slice p' Y.bytes.length c'] → v.oneCell' = true := by
    intro v hv
    simp only [List.mem_cons, List.not_mem_nil, or_false] at hv
    rcases hv with rfl | rfl <;> rfl
   refine ⟨hcs_one (hs.ld (i := 3) (.s (.s (.s .z))) rfl), _, hs.bv (i := 0) (l := 1) (sz := 2) .z rfl one2, ?_⟩
   refine Sat.app hs (i := 4) (vs := [Value.int .i64 Y.key, .slice p' Y.bytes.length c']) (.s (.s (.s (.s .z)))) rfl rfl one2 (by omega) ?_
   intro lp2 lc2 h4 hs
   simp only [put_succ, put_zero] at hs
   refine ⟨Sat.can hs (i := 3) (.s (.s (.s .z))) (by simp), ?_⟩
   intro h5 e
   replace hs := Sat.wra (xs := [.slice lp2 (R.length + 1) lc2]) hs (i := 3) (.s (.s (.s .z))) e rfl
   clear e
   simp only [put_succ, put_zero] at hs
   rw [wrap_succ (by omega)]
   refine hk (R ++ [⟨Y.key, Y.bytes, p', c'⟩], lp2, lc2) h5 ⟨hg, ?_, ?_, ?_⟩
   ·dsimp only
    rw [List.map_append, hR, takeSec ht, hkv]; rfl
   ·intro x hx
    rcases List.mem_append.1 hx with hx | hx
    ·exact hgd x hx
    ·simp only [List.mem_cons, List.not_mem_nil, or_false] at hx
     subst hx
     exact ⟨by dsimp only; omega, by dsimp only; omega, hby⟩
   ·dsimp only
    have e1 : secV (R ++ [(⟨Y.key, Y.bytes, p', c'⟩ : SR)]) = secV R ++ [.int .i64 Y.key, .slice p' Y.bytes.length c'] := by rw [secV_app]; rfl
    have e2 : (R ++ [(⟨Y.key, Y.bytes, p', c'⟩ : SR)]).map SR.sl = R.map SR.sl ++ [slE p' Y.bytes.length c' 1 (ints .u8 Y.bytes)] := by rw [List.map_append]; rfl
    have e3 : (R ++ [(⟨Y.key, Y.bytes, p', c'⟩ : SR)]).length = R.length + 1 := by simp
    unfold ringD
    rw [e1, e2, e3]
    refine Sat.perm (hs.sub (B := slE p' Y.bytes.length c' 1 (ints .u8 Y.bytes) :: blk r [.slice lp2 (R.length + 1) lc2] :: slE lp2 (R.length + 1) lc2 2 (secV R ++ [.int .i64 Y.key, .slice p' Y.bytes.length c']) :: (R.map SR.sl ++ A)) (by (repeat (first | exact List.Sublist.refl _ | apply List.Sublist.cons_cons | apply List.Sublist.cons)))) ?_
    simp only [List.cons_append, List.append_assoc, List.nil_append]
    refine (List.Perm.swap _ _ _).trans (List.Perm.cons _ ?_)
    refine (List.Perm.swap _ _ _).trans (List.Perm.cons _ ?_)
    exact List.perm_middle.symm
  refine ⟨q, hq, by omega, by omega, _, g0, ?_⟩
  rw [ltI_eq]
  by_cases k0 : Y.key < 0
  ·rw [if_pos (by rw [decide_eq_true_iff]; omega)]
   exact bad 2 (by decide) (by unfold badM; dsimp only; rw [if_pos k0])
  rw [if_neg (by rw [decide_eq_true_iff]; omega)]
  refine ⟨q, hq, by omega, by omega, _, g0, ?_⟩
  rw [ltI_eq]
  by_cases k1 : 63 < Y.key
  ·rw [if_pos (by rw [decide_eq_true_iff]; omega)]
   exact bad 2 (by decide) (by unfold badM; dsimp only; rw [if_neg k0, if_pos k1])
  ·rw [if_neg (by rw [decide_eq_true_iff]; omega)]
   exact way (by omega) (by omega)
 ·rintro ⟨R, lp, lc⟩ h1 ⟨hg, hR, hgd, hs⟩
  dsimp only at hg hR hgd hs ⊢
  apply hJ9
  rw [ltI_eq, if_neg (by rw [decide_eq_true_iff]; omega)]
  rw [List.take_of_length_le (Nat.le_refl _)] at hR
  rw [Nat.sub_self] at hg
  exact kT hg r lp lc R h1 hR hgd hs
 ·dsimp only
  have := hs.sl_nil 2 none
  exact this.perm (List.Perm.swap _ _ _)
end
end Go.Proofs.YtaglicdidpgkpaaGreatDoor
end

/- What arguments of the statements are: secrets. Own work. -/
section
set_option maxRecDepth 100000
set_option linter.unusedVariables false
namespace Go.Proofs.YtaglicdidpgkpaaGreatDoor
open Go Go.Vc Go.ChangeShapes Go.WideShapes Go.ChangeAt Go.RowKit
theorem xSec : xsh PP 8 89 = some [.int .i64, .slc 5] := by kernel_rfl
section
variable {D : Type} {enc : TypeId × Value → D} {W : World}
theorem secs_of {p : Option Addr} {l c : Nat} (h : Sli enc PP W 89 p l c) : ∃ X : List SR, SecsAt W.heap p l X ∧ l < 2 ^ 47 := by
 have hb : Tryz.prog.bytesOf 89 = 32 := by kernel_rfl
 have hc : Tryz.prog.cellsOf 89 = 2 := by kernel_rfl
 obtain ⟨ess, h1, h2, _, h4⟩ := h.els xSec
 have hlc := h.1
 have hr := h.2.1
 rw [hb] at hr
 unfold reachBytes at hr
 have key : ∀ ess : List (List Value), (∀ es, es ∈ ess → es.length = Tryz.prog.cellsOf 89 ∧ XM enc PP W [.int .i64, .slc 5] es) → ∃ X : List SR, X.length = ess.length ∧ ∀ i (hi : i < X.length) (hi2 : i < ess.length), ess[i] = [.int .i64 X[i].key, .slice X[i].p X[i].bytes.length X[i].c] ∧ hsv W.heap X[i].p 1 X[i].bytes.length (ints .u8 X[i].bytes) ∧ isBytes X[i].bytes ∧ X[i].bytes.length < 2 ^ 47 := by
  intro ess
  induction ess with
  | nil => intro _; exact ⟨[], rfl, fun i hi => by simp at hi⟩
  | cons x r ih =>
   intro h
   obtain ⟨X, e1, e2⟩ := ih fun es hes => h es (by simp [hes])
   obtain ⟨k, _, rfl, _, xp, xl, xc, _, rfl, hh, hr⟩ := (h x (by simp)).2
   simp only [XM] at hr
   subst hr
   obtain ⟨bs, b1, b2, b3, b4⟩ := bytes24_of hh
   have hbl : bs.length = xl := by have := b1.1; simpa using this
   refine ⟨⟨k, bs, xp, xc⟩ :: X, by simp [e1], ?_⟩
   intro i hi hi2
   cases i with
   | zero => subst hbl; exact ⟨rfl, b1, b2, by dsimp only [List.getElem_cons_zero]; omega⟩
   | succ i => exact e2 i (by simpa using hi) (by simpa using hi2)
 obtain ⟨X, e1, e2⟩ := key ess h2
 refine ⟨X, ⟨by omega, fun i hi => ?_⟩, by omega⟩
 obtain ⟨e3, e4, e5, e6⟩ := e2 i hi (by omega)
 obtain ⟨q, hq, g⟩ := h4 i (by omega)
 rw [e3, hc] at g
 have g0 := g 0 _ rfl
 rw [add_zero] at g0
 exact ⟨q, hq, g0, g 1 _ rfl, e4, e5, e6⟩
end
end Go.Proofs.YtaglicdidpgkpaaGreatDoor
end

/- Issue, of the program and the document. Own work. -/
section
set_option maxRecDepth 100000
set_option linter.unusedVariables false
namespace Go.Proofs.YtaglicdidpgkpaaGreatDoor
open Go Go.Vc

structure TkE where
 e : Int
 key : Int
 id : List Int
 tag : List Int
section
variable {h0 h : H} {A : List Ent} {i j d r m : Nat}
end
end Go.Proofs.YtaglicdidpgkpaaGreatDoor
end

/- TokenMakes: walked. Own work. -/
section
set_option maxRecDepth 100000
set_option linter.unusedVariables false
namespace Go.Proofs.YtaglicdidpgkpaaGreatDoor
open Go Go.Vc

structure NkE where
 e : Int
 key : Int
 id : List Int
 cs : List CvM
 tag : List Int
def narM (key : Int) (id : List Int) (cs : List CvM) (tag : List Int) (c : CvM) : NkE :=
 if 32 ≤ cs.length then ⟨3, 0, [], [], zeros 32⟩ else if c.may then ⟨0, key, id, cs ++ [c], macM tag (cbM c)⟩ else ⟨1, 0, [], [], zeros 32⟩
theorem narM_tag (key : Int) (id : List Int) (cs : List CvM) (tag : List Int) (c : CvM) : (narM key id cs tag c).tag.length = 32 ∧ isBy (narM key id cs tag c).tag ∧ (narM key id cs tag c).cs.length ≤ 32 ∧ (narM key id cs tag c).id.length ≤ id.length := by
 unfold narM
 by_cases a : 32 ≤ cs.length
 ·simp only [if_pos a]; exact ⟨List.length_replicate, isBy_zeros 32, Nat.zero_le _, Nat.zero_le _⟩
 ·simp only [if_neg a]
  by_cases b : c.may
  ·simp only [if_pos b]; exact ⟨macM_len _ _, isBy_mac _ _, by rw [List.length_append]; simp; omega, Nat.le_refl _⟩
  ·simp only [if_neg b]; exact ⟨List.length_replicate, isBy_zeros 32, Nat.zero_le _, Nat.zero_le _⟩
section
variable {h0 h : H} {A : List Ent} {i j d r m : Nat}
theorem nar_sp {Q : Int → Option Addr → Nat → Nat → Option Addr → Nat → Nat → List Int → Int → H → Prop} {key : Int} {id tag : List Int} {cs : List CvM} {ip cp : Option Addr} {il ic cl cc : Nat} (c : CvM) (hs : Sat h0 A h) (ht : tag.length = 32) (hl : cl < 2 ^ 40) (hi : il < 2 ^ 47)
  (ri : ∀ h', Sat h0 A h' → hsv h' ip 1 il (ints .u8 id)) (rc : ∀ h', Sat h0 A h' → hsv h' cp 5 cl (cvsV cs))
  (k : ∀ O, O = narM key id cs tag c → ∀ p1 c1 p2 c2 h', Sat h0 (slE p2 O.cs.length c2 5 (cvsV O.cs) :: slE p1 O.id.length c1 1 (ints .u8 O.id) :: A) h' → Q O.key p1 O.id.length c1 p2 O.cs.length c2 O.tag O.e h') :
  F_token_Token_Narrow key ip il ic cp cl cc tag c.kind c.slot c.frm c.to c.set Q h := by
 have hcl : cs.length = cl := by have := (rc _ hs).1; rw [cvsV_len] at this; omega
 have hil : id.length = il := by have := (ri _ hs).1; simpa using this
 refine narrow_sp c hs ht hl hi ri rc ?_ ?_ ?_
 ·intro g h' hs
  exact k ⟨3, 0, [], [], zeros 32⟩ (by unfold narM; rw [if_pos g]) none 0 none 0 h' ((hs.sl_nil 1 none).sl_nil 5 none)
 ·intro g b h' hs
  exact k ⟨1, 0, [], [], zeros 32⟩ (by unfold narM; rw [if_neg (by omega), if_neg b]) none 0 none 0 h' ((hs.sl_nil 1 none).sl_nil 5 none)
 ·intro g b p1 c1 p2 c2 h' hs
  have K := k ⟨0, key, id, cs ++ [c], macM tag (cbM c)⟩ (by unfold narM; rw [if_neg (by omega), if_pos b]) p1 c1 p2 c2 h'
  dsimp only at K
  rw [List.length_append, hcl, hil] at K
  exact K hs
theorem keysU_sp {Q : Option Addr → Int → Int → H → Prop} {X : List SR} {L : List Sec} {p : Option Addr} {l c : Nat} (hs : Sat h0 A h) (eL : X.map SR.kv = L) (rd : ∀ h', Sat h0 A h' → SecsAt h' p l X) (hl : l < 2 ^ 47)
  (k : ∀ o e i h' B, Sat h0 (B ++ A) h' → (newM L = some (e, i) ∧ o = none) ∨ (newM L = none ∧ e = 0 ∧ ∃ r m R, o = some ⟨r, 0, none⟩ ∧ R.map SR.kv = L ∧ SR.good R ∧ B = ringP r m R) → Q o e i h') : F_keys_New p l c Q h :=
 keysN_sp hs eL rd hl (fun e i h' he hs => k none e i h' [] hs (Or.inl ⟨he, rfl⟩)) (fun hn r m R h' e1 e2 hs => k _ 0 0 h' _ hs (Or.inr ⟨hn, rfl, r, m, R, rfl, e1, e2, rfl⟩))
theorem ringsU_sp {Q : Option Addr → Int → Int → H → Prop} {X : List SR} {L : List Sec} {p : Option Addr} {l c : Nat} (hs : Sat h0 A h) (eL : X.map SR.kv = L) (rd : ∀ h', Sat h0 A h' → SecsAt h' p l X) (hl : l < 2 ^ 47)
  (k : ∀ o e i h' B, Sat h0 (B ++ A) h' → (newM L = some (e, i) ∧ o = none) ∨ (newM L = none ∧ e = 0 ∧ ∃ r lp lc R, o = some ⟨r, 0, none⟩ ∧ R.map SR.kv = L ∧ SR.good R ∧ B = ringD r lp lc R) → Q o e i h') : F_portcullisref12_New p l c Q h :=
 ringsN_sp hs eL rd hl (fun e i h' he hs => k none e i h' [] hs (Or.inl ⟨he, rfl⟩)) (fun hn r lp lc R h' e1 e2 hs => k _ 0 0 h' _ hs (Or.inr ⟨hn, rfl, r, lp, lc, R, rfl, e1, e2, rfl⟩))
end
end Go.Proofs.YtaglicdidpgkpaaGreatDoor
end

/- Tokens: the document's pairs on the way to a tag. Own work. -/
section
set_option maxRecDepth 100000
set_option linter.unusedVariables false
namespace Go.Proofs.YtaglicdidpgkpaaGreatDoor
open Go Go.Vc
attribute [local irreducible] macM

structure PrM where
 key : List Int
 b : List Int
 tag : List Int
def tagM : List Int → List CvM → List Int
 | t, [] => t
 | t, c :: r => tagM (macM t (cbM c)) r
def rightM (secret id : List Int) (cs : List CvM) : List Int := tagM (macM secret (msgM id)) cs
def chainM : List Int → List CvM → List PrM
 | _, [] => []
 | t, c :: r => ⟨t, cbM c, macM t (cbM c)⟩ :: chainM (macM t (cbM c)) r
def pairsM (secret id : List Int) (cs : List CvM) : List PrM := ⟨secret, msgM id, macM secret (msgM id)⟩ :: chainM (macM secret (msgM id)) cs
theorem tagM_snoc (cs : List CvM) (c : CvM) : ∀ t, tagM t (cs ++ [c]) = macM (tagM t cs) (cbM c) := by
 induction cs with
 | nil => intro t; rfl
 | cons x r ih => intro t; exact ih _
theorem chainM_snoc (cs : List CvM) (c : CvM) : ∀ t, chainM t (cs ++ [c]) = chainM t cs ++ [⟨tagM t cs, cbM c, macM (tagM t cs) (cbM c)⟩] := by
 induction cs with
 | nil => intro t; rfl
 | cons x r ih => intro t; show _ :: chainM _ (r ++ [c]) = _ :: (chainM _ r ++ _); rw [ih]; rfl
theorem rightM_snoc (secret id : List Int) (cs : List CvM) (c : CvM) : rightM secret id (cs ++ [c]) = macM (rightM secret id cs) (cbM c) := tagM_snoc _ _ _
theorem pairsM_snoc (secret id : List Int) (cs : List CvM) (c : CvM) : pairsM secret id (cs ++ [c]) = pairsM secret id cs ++ [⟨rightM secret id cs, cbM c, macM (rightM secret id cs) (cbM c)⟩] := by
 show _ :: chainM _ (cs ++ [c]) = _ :: (chainM _ cs ++ _)
 rw [chainM_snoc]; rfl
theorem chainM_len (cs : List CvM) : ∀ t, (chainM t cs).length = cs.length := by
 induction cs with
 | nil => intro t; rfl
 | cons x r ih => intro t; show (chainM _ r).length + 1 = _; rw [ih]; rfl
theorem pairsM_len (secret id : List Int) (cs : List CvM) : (pairsM secret id cs).length = cs.length + 1 := by show (chainM _ cs).length + 1 = _; rw [chainM_len]
theorem tagM_len (cs : List CvM) : ∀ t, t.length = 32 → (tagM t cs).length = 32 := by
 induction cs with
 | nil => intro t h; exact h
 | cons x r ih => intro t _; exact ih _ (macM_len _ _)
theorem tagM_by (cs : List CvM) : ∀ t, isBy t → isBy (tagM t cs) := by
 induction cs with
 | nil => intro t h; exact h
 | cons x r ih => intro t _; exact ih _ (isBy_mac _ _)
theorem rightM_len (secret id : List Int) (cs : List CvM) : (rightM secret id cs).length = 32 := tagM_len _ _ (macM_len _ _)
theorem rightM_by (secret id : List Int) (cs : List CvM) : isBy (rightM secret id cs) := tagM_by _ _ (isBy_mac _ _)
theorem chainM_tags (cs : List CvM) : ∀ t x, x ∈ chainM t cs → x.tag.length = 32 := by
 induction cs with
 | nil => intro t x hx; cases hx
 | cons c r ih =>
  intro t x hx
  rcases List.mem_cons.1 hx with rfl | hx
  ·exact macM_len _ _
  ·exact ih _ x hx
theorem pairsM_tags (secret id : List Int) (cs : List CvM) : ∀ x, x ∈ pairsM secret id cs → x.tag.length = 32 := by
 intro x hx
 rcases List.mem_cons.1 hx with rfl | hx
 ·exact macM_len _ _
 ·exact chainM_tags _ _ x hx
theorem pairsM_last (secret id : List Int) (cs : List CvM) : ∃ x, (pairsM secret id cs)[cs.length]? = some x ∧ x.tag = rightM secret id cs := by
 rcases List.eq_nil_or_concat cs with rfl | ⟨r, c, rfl⟩
 ·exact ⟨_, rfl, rfl⟩
 ·refine ⟨⟨rightM secret id r, cbM c, macM (rightM secret id r) (cbM c)⟩, ?_, ?_⟩
  ·rw [List.concat_eq_append, pairsM_snoc, List.getElem?_append_right (by rw [pairsM_len]; simp)]
   simp [pairsM_len]
  ·rw [List.concat_eq_append, rightM_snoc]
def prV (x : PrM) : List Value := .string (bytesOf x.key) :: .string (bytesOf x.b) :: ints .u8 x.tag
def prsV : List PrM → List Value
 | [] => []
 | x :: r => prV x ++ prsV r
theorem prV_len {x : PrM} (h : x.tag.length = 32) : (prV x).length = 34 := by simp [prV, h]
theorem prV_one (x : PrM) : ∀ v, v ∈ prV x → v.oneCell' = true := by
 intro v hv
 rcases List.mem_cons.1 hv with rfl | hv
 ·rfl
 rcases List.mem_cons.1 hv with rfl | hv
 ·rfl
 exact ints_one _ _ v hv
theorem prsV_app (a b : List PrM) : prsV (a ++ b) = prsV a ++ prsV b := by
 induction a with
 | nil => rfl
 | cons x r ih => show prV x ++ prsV (r ++ b) = prV x ++ prsV r ++ prsV b; rw [ih, List.append_assoc]
theorem prsV_get {P : List PrM} (h : ∀ x, x ∈ P → x.tag.length = 32) : ∀ (i j : Nat) (hi : i < P.length), j < 34 → (prsV P)[i * 34 + j]? = (prV P[i])[j]? := by
 induction P with
 | nil => intro i j hi; simp at hi
 | cons x r ih =>
  intro i j hi hj
  show (prV x ++ prsV r)[i * 34 + j]? = _
  have hl := prV_len (h x (by simp))
  cases i with
  | zero => rw [List.getElem?_append_left (by omega)]; simp
  | succ i =>
   rw [List.getElem?_append_right (by omega)]
   have := ih (fun y hy => h y (by simp [hy])) i j (by simpa using hi) hj
   rw [show (i + 1) * 34 + j - (prV x).length = i * 34 + j by omega, this]
   rfl
theorem pr_rd {h : H} {p : Option Addr} {n : Nat} {P : List PrM} (hP : ∀ x, x ∈ P → x.tag.length = 32) (rd : hsv h p 34 n (prsV P)) {i : Nat} (hi : i < P.length) : ∃ q, p = some q ∧ hc h (q.add (i * 34)) = some (.string (bytesOf P[i].key)) ∧ hc h ((q.add (i * 34)).add 1) = some (.string (bytesOf P[i].b)) ∧ hrow h ((q.add (i * 34)).add 2) .u8 P[i].tag := by
 obtain ⟨q, hq, g0⟩ := hsv_get rd (i := i * 34 + 0) (by rw [prsV_get hP i 0 hi (by decide)]; rfl)
 obtain ⟨q1, hq1, g1⟩ := hsv_get rd (i := i * 34 + 1) (by rw [prsV_get hP i 1 hi (by decide)]; rfl)
 rw [hq] at hq1
 cases hq1
 refine ⟨q, hq, g0, by rw [addAdd]; exact g1, ?_⟩
 intro x v hv
 have hx : x < 32 := by
  have := (List.getElem?_eq_some_iff.1 hv).1
  rw [ints_length, hP _ (List.getElem_mem hi)] at this
  exact this
 have e : (prV P[i])[2 + x]? = some v := by
  show (Value.string _ :: .string _ :: ints .u8 P[i].tag)[2 + x]? = _
  rw [show 2 + x = x + 1 + 1 by omega, List.getElem?_cons_succ, List.getElem?_cons_succ]
  exact hv
 obtain ⟨q2, hq2, g2⟩ := hsv_get rd (i := i * 34 + (2 + x)) (by rw [prsV_get hP i (2 + x) hi (by omega)]; exact e)
 rw [hq] at hq2
 cases hq2
 rw [addAdd, addAdd]
 first | exact g2 | (rw [Nat.add_assoc]; exact g2)
section
variable {h0 h : H} {A : List Ent} {i j d r m : Nat}
theorem pairsK_sp {Q : Option Addr → Nat → Nat → H → Prop} {eb : Nat} {secret id M : List Int} {cs : List CvM} {cp : Option Addr} {cl : Nat} (hs : Sat h0 (blk eb [] :: A) h) (hM : M = msgM id) (hcl : cl < 2 ^ 30) (hcsl : cs.length = cl)
  (rc : ∀ h', Sat h0 A h' → hsv h' cp 5 cl (cvsV cs))
  (k : ∀ p c h', Sat h0 (slE p (cl + 1) c 34 (prsV (pairsM secret id cs)) :: A) h' → Q p (cl + 1) c h') : K2_portcullisref24_Pairs F_portcullisref03_Of F_portcullisref24_Caveat_Bytes cp cl Q h secret M (macM secret M) eb := by
 unfold K2_portcullisref24_Pairs
 try simp only [add_mk, Nat.zero_add, List.append_nil]
 have e0 : pairsM secret id (cs.take 0) = [⟨secret, M, macM secret M⟩] := by rw [hM]; rfl
 intro pb _ hn; replace hs := Sat.new hs hn; clear hn
 replace hs : Sat h0 (blk pb (prV ⟨secret, M, macM secret M⟩) :: blk eb [] :: A) _ := hs
 refine ⟨_, hs.bv (i := 0) (l := 1) (sz := 34) .z (by rw [prV_len (macM_len _ _)]) (prV_one _), ?_⟩
 refine Sat.app_new (vs := prV ⟨secret, M, macM secret M⟩) hs (by rw [prV_len (macM_len _ _)]) (by simp [zeros]) (prV_one _) (by decide) ?_
 intro p0 c0 h3 hs
 replace hs : Sat h0 (slE p0 (0 + 1) c0 34 (prsV (pairsM secret id (cs.take 0))) :: A) h3 := by rw [e0]; exact (hs.sub (B := slE p0 1 c0 34 (prV ⟨secret, M, macM secret M⟩) :: A) (by (repeat (first | exact List.Sublist.refl _ | apply List.Sublist.cons_cons | apply List.Sublist.cons)))).eqL (by simp [prsV])
 intro J hJ
 refine loopS cl (fun t (s : Option Addr × Nat) => [.dv (.one (.slice s.1 (t + 1) s.2)), si t]) (fun t s h => Sat h0 (slE s.1 (t + 1) s.2 34 (prsV (pairsM secret id (cs.take t))) :: A) h) ?_ ?_ 0 (p0, c0) _ (by omega) hs
 ·clear hs
  rintro t ⟨p2, c2⟩ h4 ht hs hk
  dsimp only at hs hk ⊢
  apply hJ
  clear hJ
  rw [ltI_eq, if_pos (by rw [decide_eq_true_iff]; omega)]
  have htl : (cs.take t).length = t := by rw [List.length_take]; omega
  have hPt := pairsM_tags secret id (cs.take t)
  obtain ⟨L, hL1, hL2⟩ := pairsM_last secret id (cs.take t)
  rw [htl] at hL1
  have hPl : t < (pairsM secret id (cs.take t)).length := by rw [pairsM_len, htl]; omega
  rw [List.getElem?_eq_getElem hPl] at hL1
  injection hL1 with hL1
  obtain ⟨T, hT⟩ : ∃ T, T = rightM secret id (cs.take t) := ⟨_, rfl⟩
  have hTl : T.length = 32 := by rw [hT]; exact rightM_len _ _ _
  have hTb : isBy T := by rw [hT]; exact rightM_by _ _ _
  have ew : IntKind.i64.wrap (((t + 1 : Nat) : Int) - 1) = (t : Int) := by rw [wrap_id (by omega)]; omega
  rw [ew]
  try simp only [Int.toNat_natCast]
  intro kb _ hn; replace hs := Sat.new hs hn; clear hn
  obtain ⟨q, hq, _, _, gr⟩ := pr_rd hPt (hs.sv (i := 1) (.s .z)) hPl
  rw [hL1, hL2, ← hT] at gr
  refine ⟨q, hq, by omega, by omega, T, hTl, gr, ?_⟩
  intro tb _ hn; replace hs := Sat.new hs hn; clear hn
  refine ⟨Sat.can hs (i := 0) .z (by simp [zeros]), ?_⟩
  intro h5 e5
  replace hs := Sat.wra hs (i := 0) .z e5 (by simp [zeros, hTl])
  clear e5
  simp only [put_zero] at hs
  intro J2 hJ2
  refine loopS 32 (fun u (s : Option Addr × Nat) => [.dv (.one (.slice s.1 u s.2)), si u]) (fun u s h => Sat h0 (slE s.1 u s.2 1 (ints .u8 (T.take u)) :: blk tb (ints .u8 T) :: slE p2 (t + 1) c2 34 (prsV (pairsM secret id (cs.take t))) :: A) h) ?_ ?_ 0 (some ⟨kb, 0, none⟩, 0) _ (by omega) ((hs.sub (B := blk tb (ints .u8 T) :: slE p2 (t + 1) c2 34 (prsV (pairsM secret id (cs.take t))) :: A) (by (repeat (first | exact List.Sublist.refl _ | apply List.Sublist.cons_cons | apply List.Sublist.cons)))).sl_nil 1 _)
  ·clear hs
   rintro u ⟨p3, c3⟩ h6 hu hs hk2
   dsimp only at hs hk2 ⊢
   apply hJ2
   rw [ltI_eq, if_pos (by rw [decide_eq_true_iff]; omega)]
   try simp only [Int.toNat_natCast, Nat.mul_one]
   refine ⟨by omega, by omega, _, hs.ld (i := 1) (.s .z) (intsG (by omega)), ?_⟩
   intro b _ hn; replace hs := Sat.new hs hn; clear hn
   refine ⟨_, hs.bv (i := 0) (l := 1) .z rfl (ints_one .u8 [T.getD u 0]), ?_⟩
   refine Sat.app hs (i := 1) (vs := ints .u8 [T.getD u 0]) (.s .z) rfl rfl (ints_one _ _) (by omega) ?_
   intro p4 c4 h7 hs
   simp only [put_succ, put_zero] at hs
   rw [← intsApp, ← takeS _ (by omega)] at hs
   rw [wrap_succ (by omega)]
   exact hk2 (p4, c4) h7 hs.drop
  ·clear hs
   rintro ⟨p3, c3⟩ h6 hs
   dsimp only at hs ⊢
   apply hJ2
   clear hJ2
   rw [ltI_eq, if_neg (by decide)]
   rw [List.take_of_length_le (by omega)] at hs
   obtain ⟨q5, hl5, hq5, g0, g1, g2, g3, g4⟩ := cv_rd (rc _ hs.drop.drop.drop) (i := t) ht
   refine ⟨q5, hq5, by omega, by omega, ?_⟩
   try simp only [Int.toNat_natCast]
   refine ⟨_, g0, _, g1, _, g2, _, g3, _, g4, ?_⟩
   clear g0 g1 g2 g3 g4
   obtain ⟨C, hC⟩ : ∃ C, C = cs[t] := ⟨_, rfl⟩
   rw [← hC]
   refine rcbytes_sp C hs ?_
   intro p6 c6 h8 hs
   have ep : pairsM secret id (cs.take (t + 1)) = pairsM secret id (cs.take t) ++ [⟨T, cbM C, macM T (cbM C)⟩] := by rw [take_snoc _ hl5, ← hC, pairsM_snoc, hT]
   have rT : ∀ h', Sat h0 (slE p6 26 c6 1 (ints .u8 (cbM C)) :: slE p3 32 c3 1 (ints .u8 T) :: blk tb (ints .u8 T) :: slE p2 (t + 1) c2 34 (prsV (pairsM secret id (cs.take t))) :: A) h' → hsv h' p3 1 32 (ints .u8 T) := fun h' hs' => hs'.sv (i := 1) (.s .z)
   have rC : ∀ h', Sat h0 (slE p6 26 c6 1 (ints .u8 (cbM C)) :: slE p3 32 c3 1 (ints .u8 T) :: blk tb (ints .u8 T) :: slE p2 (t + 1) c2 34 (prsV (pairsM secret id (cs.take t))) :: A) h' → hsv h' p6 1 26 (ints .u8 (cbM C)) := fun h' hs' => hs'.sv (i := 0) .z
   have fin : ∀ h', Sat h0 (slE p6 26 c6 1 (ints .u8 (cbM C)) :: slE p3 32 c3 1 (ints .u8 T) :: blk tb (ints .u8 T) :: slE p2 (t + 1) c2 34 (prsV (pairsM secret id (cs.take t))) :: A) h' → K1_portcullisref24_Pairs h' T (cbM C) (macM T (cbM C)) p2 (t + 1) c2 J (t : Int) := by
    clear hs
    intro h9 hs
    unfold K1_portcullisref24_Pairs
    try simp only [add_mk, Nat.zero_add, List.append_nil]
    intro nb _ hn; replace hs := Sat.new hs hn; clear hn
    refine ⟨prV ⟨T, cbM C, macM T (cbM C)⟩, hs.bv (i := 0) (l := 1) (sz := 34) (vs := prV ⟨T, cbM C, macM T (cbM C)⟩) .z (by rw [prV_len (macM_len _ _)]) (prV_one _), ?_⟩
    refine Sat.app hs (i := 4) (vs := prV ⟨T, cbM C, macM T (cbM C)⟩) (.s (.s (.s (.s .z)))) (by rw [prV_len (macM_len _ _)]) (by simp [zeros]) (prV_one _) (by omega) ?_
    intro p7 c7 h10 hs
    simp only [put_succ, put_zero] at hs
    rw [wrap_succ (by omega)]
    refine hk (p7, c7) h10 ?_
    dsimp only
    rw [ep, prsV_app]
    exact (hs.drop.drop.drop.drop).eqL (by simp [prsV])
   have mac : ∀ P : List Int → H → Prop, (∀ h', Sat h0 (slE p6 26 c6 1 (ints .u8 (cbM C)) :: slE p3 32 c3 1 (ints .u8 T) :: blk tb (ints .u8 T) :: slE p2 (t + 1) c2 34 (prsV (pairsM secret id (cs.take t))) :: A) h' → P (macM T (cbM C)) h') → F_portcullisref03_Of p3 32 c3 p6 26 c6 P h8 := fun P kP => rmac_sp (key := T) (b := cbM C) hs hTb (isBy_cb C) (by decide) (by decide) rT rC kP
   exact ⟨⟨T, rT _ hs, ⟨cbM C, rC _ hs, mac _ fin⟩, mac _ fun h' x => ⟨cbM C, rC _ x, fin _ x⟩⟩, ⟨cbM C, rC _ hs, ⟨T, rT _ hs, mac _ fin⟩, mac _ fun h' x => ⟨T, rT _ x, fin _ x⟩⟩, mac _ fun h' x => ⟨⟨T, rT _ x, cbM C, rC _ x, fin _ x⟩, cbM C, rC _ x, T, rT _ x, fin _ x⟩⟩
 ·clear hs
  rintro ⟨p2, c2⟩ h4 hs
  dsimp only at hs ⊢
  apply hJ
  rw [ltI_eq, if_neg (by simp)]
  rw [List.take_of_length_le (by omega)] at hs
  exact k _ _ _ hs
theorem rpairs_sp {Q : Option Addr → Nat → Nat → H → Prop} {secret id : List Int} {cs : List CvM} {sp ip cp : Option Addr} {sl sc il ic cl cc : Nat} (hs : Sat h0 A h) (hsb : isBy secret) (hib : isBy id) (hsl : sl < 2 ^ 45) (hil : il < 2 ^ 40) (hcl : cl < 2 ^ 30)
  (rs : ∀ h', Sat h0 A h' → hsv h' sp 1 sl (ints .u8 secret)) (ri : ∀ h', Sat h0 A h' → hsv h' ip 1 il (ints .u8 id)) (rc : ∀ h', Sat h0 A h' → hsv h' cp 5 cl (cvsV cs))
  (k : ∀ p c h', Sat h0 (slE p (cl + 1) c 34 (prsV (pairsM secret id cs)) :: A) h' → Q p (cl + 1) c h') : F_portcullisref24_Pairs sp sl sc ip il ic cp cl cc Q h := by
 unfold F_portcullisref24_Pairs G_portcullisref24_Pairs
 try simp only [add_mk, Nat.zero_add, List.append_nil]
 have hcsl : cs.length = cl := by have := (rc _ hs).1; rw [cvsV_len] at this; omega
 obtain ⟨M, hM⟩ : ∃ M, M = msgM id := ⟨_, rfl⟩
 have hMb : isBy M := by rw [hM]; exact isBy_msg hib
 refine rfirst_sp (id := id) hs hil ri ?_
 rw [← hM]
 intro mp mc h1 hs
 intro eb h2 hn; replace hs := Sat.new hs hn; clear hn
 have rS : ∀ h', Sat h0 (blk eb [] :: slE mp (18 + il) mc 1 (ints .u8 M) :: A) h' → hsv h' sp 1 sl (ints .u8 secret) := fun h' hs' => rs _ hs'.drop.drop
 have rM : ∀ h', Sat h0 (blk eb [] :: slE mp (18 + il) mc 1 (ints .u8 M) :: A) h' → hsv h' mp 1 (18 + il) (ints .u8 M) := fun h' hs' => hs'.sv (i := 1) (.s .z)
 have K : ∀ h', Sat h0 (blk eb [] :: slE mp (18 + il) mc 1 (ints .u8 M) :: A) h' → K2_portcullisref24_Pairs F_portcullisref03_Of F_portcullisref24_Caveat_Bytes cp cl Q h' secret M (macM secret M) eb := fun h' hs' => pairsK_sp (hs'.sub (by (repeat (first | exact List.Sublist.refl _ | apply List.Sublist.cons_cons | apply List.Sublist.cons)))) hM hcl hcsl rc k
 have mac : ∀ P : List Int → H → Prop, (∀ h', Sat h0 (blk eb [] :: slE mp (18 + il) mc 1 (ints .u8 M) :: A) h' → P (macM secret M) h') → F_portcullisref03_Of sp sl sc mp (18 + il) mc P h2 := fun P kP => rmac_sp (key := secret) (b := M) hs hsb hMb (by omega) (by omega) rS rM kP
 exact ⟨⟨secret, rS _ hs, ⟨M, rM _ hs, mac _ K⟩, mac _ fun h' x => ⟨M, rM _ x, K _ x⟩⟩, ⟨M, rM _ hs, ⟨secret, rS _ hs, mac _ K⟩, mac _ fun h' x => ⟨secret, rS _ x, K _ x⟩⟩, mac _ fun h' x => ⟨⟨secret, rS _ x, M, rM _ x, K _ x⟩, M, rM _ x, secret, rS _ x, K _ x⟩⟩
theorem rright_sp {Q : List Int → H → Prop} {secret id : List Int} {cs : List CvM} {sp ip cp : Option Addr} {sl sc il ic cl cc : Nat} (hs : Sat h0 A h) (hsb : isBy secret) (hib : isBy id) (hsl : sl < 2 ^ 45) (hil : il < 2 ^ 40) (hcl : cl < 2 ^ 30)
  (rs : ∀ h', Sat h0 A h' → hsv h' sp 1 sl (ints .u8 secret)) (ri : ∀ h', Sat h0 A h' → hsv h' ip 1 il (ints .u8 id)) (rc : ∀ h', Sat h0 A h' → hsv h' cp 5 cl (cvsV cs))
  (k : ∀ h', Sat h0 A h' → Q (rightM secret id cs) h') : F_portcullisref24_Right sp sl sc ip il ic cp cl cc Q h := by
 unfold F_portcullisref24_Right G_portcullisref24_Right
 try simp only [add_mk, Nat.zero_add, List.append_nil]
 have hcsl : cs.length = cl := by have := (rc _ hs).1; rw [cvsV_len] at this; omega
 intro ob _ hn; replace hs := Sat.new hs hn; clear hn
 refine rpairs_sp (secret := secret) (id := id) (cs := cs) hs hsb hib hsl hil hcl (fun h' hs' => rs _ hs'.drop) (fun h' hs' => ri _ hs'.drop) (fun h' hs' => rc _ hs'.drop) ?_
 intro p c h1 hs
 have hPt := pairsM_tags secret id cs
 obtain ⟨L, hL1, hL2⟩ := pairsM_last secret id cs
 have hPl : cs.length < (pairsM secret id cs).length := by rw [pairsM_len]; omega
 rw [List.getElem?_eq_getElem hPl] at hL1
 injection hL1 with hL1
 have ew : IntKind.i64.wrap (((cl + 1 : Nat) : Int) - 1) = (cl : Int) := by rw [wrap_id (by omega)]; omega
 rw [ew]
 try simp only [Int.toNat_natCast]
 obtain ⟨q, hq, _, _, gr⟩ := pr_rd hPt (hs.sv (i := 0) .z) hPl
 rw [hL1, hL2, hcsl] at gr
 refine ⟨q, hq, by omega, by omega, _, rightM_len _ _ _, gr, ?_⟩
 refine ⟨Sat.can hs (i := 1) (.s .z) (by simp [zeros]), ?_⟩
 intro h2 e2
 replace hs := Sat.wra hs (i := 1) (.s .z) e2 (by simp [zeros, rightM_len])
 clear e2
 simp only [put_succ, put_zero] at hs
 exact ⟨_, rightM_len _ _ _, hs.row0 (i := 1) (.s .z), k _ hs.drop.drop⟩
end
end Go.Proofs.YtaglicdidpgkpaaGreatDoor
end

/- Tokens: tags held against each other; whether a token has its right tag. Own work. -/
section
set_option maxRecDepth 100000
set_option linter.unusedVariables false
namespace Go.Proofs.YtaglicdidpgkpaaGreatDoor
open Go Go.Vc
attribute [local irreducible] macM

theorem or_xor0 {a x y : Int} (ha : 0 ≤ a ∧ a < 256) (hx : 0 ≤ x ∧ x < 256) (hy : 0 ≤ y ∧ y < 256) : bits .or .u8 a (bits .xor .u8 x y) = 0 ↔ a = 0 ∧ x = y := by
 obtain ⟨a, rfl⟩ := Int.eq_ofNat_of_zero_le ha.1
 obtain ⟨x, rfl⟩ := Int.eq_ofNat_of_zero_le hx.1
 obtain ⟨y, rfl⟩ := Int.eq_ofNat_of_zero_le hy.1
 have e1 : bits .xor .u8 (x : Int) (y : Int) = ((x ^^^ y : Nat) : Int) := by
  have : bits .xor .u8 (x : Int) (y : Int) = IntKind.u8.wrap ((BitVec.ofInt 8 (x : Int) ^^^ BitVec.ofInt 8 (y : Int)).toNat : Int) := rfl
  rw [this, IntKind.wrap_u8]
  simp only [BitVec.toNat_xor, BitVec.toNat_ofInt]
  have ex : ((x : Int) % ((2 ^ 8 : Nat) : Int)).toNat = x := by omega
  have ey : ((y : Int) % ((2 ^ 8 : Nat) : Int)).toNat = y := by omega
  rw [ex, ey]
  have : x ^^^ y < 2 ^ 8 := Nat.xor_lt_two_pow (by omega) (by omega)
  omega
 have hz : x ^^^ y < 2 ^ 8 := Nat.xor_lt_two_pow (by omega) (by omega)
 rw [e1]
 obtain ⟨z, hzz⟩ : ∃ z, z = x ^^^ y := ⟨_, rfl⟩
 rw [← hzz] at hz ⊢
 have e2 : bits .or .u8 (a : Int) (z : Int) = ((a ||| z : Nat) : Int) := by
  have : bits .or .u8 (a : Int) (z : Int) = IntKind.u8.wrap ((BitVec.ofInt 8 (a : Int) ||| BitVec.ofInt 8 (z : Int)).toNat : Int) := rfl
  rw [this, IntKind.wrap_u8]
  simp only [BitVec.toNat_or, BitVec.toNat_ofInt]
  have ex : ((a : Int) % ((2 ^ 8 : Nat) : Int)).toNat = a := by omega
  have ey : ((z : Int) % ((2 ^ 8 : Nat) : Int)).toNat = z := by omega
  rw [ex, ey]
  have : a ||| z < 2 ^ 8 := Nat.or_lt_two_pow (by omega) hz
  omega
 rw [e2]
 have e3 : ((a ||| z : Nat) : Int) = 0 ↔ a = 0 ∧ z = 0 := by
  rw [Int.natCast_eq_zero, Nat.or_eq_zero_iff]
 have e4 : x ^^^ y = 0 ↔ x = y := by
  constructor
  ·intro g
   have : x = (x ^^^ y) ^^^ y := by rw [Nat.xor_assoc, Nat.xor_self, Nat.xor_zero]
   rw [g, Nat.zero_xor] at this
   exact this
  ·rintro rfl; exact Nat.xor_self x
 rw [e3, hzz, e4]
 omega
section
variable {h0 h : H} {A : List Ent} {i j d r m : Nat}
theorem equal_sp {Q : Bool → H → Prop} {px py : Addr} {c c2 : Nat} {x y : List Int} (hx : isBy x) (hy : isBy y) (lx : x.length = 32) (ly : y.length = 32) (rx : hrow h px .u8 x) (ry : hrow h py .u8 y) (k : Q (decide (x = y)) h) : F_mac_Equal (some px) 32 c (some py) 32 c2 Q h := by
 unfold F_mac_Equal G_mac_Equal
 rw [if_neg (by simp)]
 intro J hJ
 refine loopS 32 (fun t (s : Int) => [.dv (.one (.int .u8 s)), si t]) (fun t s h' => h' = h ∧ (0 ≤ s ∧ s < 256) ∧ (s = 0 ↔ x.take t = y.take t)) ?_ ?_ 0 0 _ (by omega) ⟨rfl, by decide, by simp⟩
 ·rintro t s h1 ht ⟨rfl, hs, he⟩ hk
  apply hJ
  rw [ltI_eq, if_pos (by rw [decide_eq_true_iff]; omega)]
  have tx : t < x.length := by omega
  have ty : t < y.length := by omega
  have gx := rx t (.int .u8 x[t]) (by rw [ints_get, List.getElem?_eq_getElem tx]; rfl)
  have gy := ry t (.int .u8 y[t]) (by rw [ints_get, List.getElem?_eq_getElem ty]; rfl)
  refine ⟨px, rfl, by omega, by omega, x[t], by simpa using gx, py, rfl, by omega, by omega, y[t], by simpa using gy, ?_⟩
  have bx := hx x[t] (List.getElem_mem tx)
  have by_ := hy y[t] (List.getElem_mem ty)
  rw [wrap_succ (by omega)]
  refine hk (bits .or .u8 s (bits .xor .u8 x[t] y[t])) _ ⟨rfl, ?_, ?_⟩
  ·have : bits .or .u8 s (bits .xor .u8 x[t] y[t]) = IntKind.u8.wrap ((BitVec.ofInt 8 s ||| BitVec.ofInt 8 (bits .xor .u8 x[t] y[t])).toNat : Int) := rfl
   rw [this, IntKind.wrap_u8]; omega
  ·rw [or_xor0 hs bx by_, he, take_snoc _ tx, take_snoc _ ty]
   constructor
   ·rintro ⟨a, b⟩; rw [a, b]
   ·intro a
    have := List.append_inj a (by simp; omega)
    exact ⟨this.1, by simpa using this.2⟩
 ·rintro s h1 ⟨rfl, hs, he⟩
  apply hJ
  rw [ltI_eq, if_neg (by decide)]
  rw [List.take_of_length_le (by omega), List.take_of_length_le (by omega)] at he
  have : (s == 0) = decide (x = y) := by
   by_cases c : x = y
   ·rw [decide_eq_true c]; simpa using he.2 c
   ·rw [decide_eq_false c]; simpa using fun y => c (he.1 y)
  rw [this]
  exact k
theorem rightK_sp {Q : Bool → H → Prop} {nb tb : Nat} {key : Int} {id tag st : List Int} {cs : List CvM} {ip cp : Option Addr} {il ic cl cc : Nat} (hs : Sat h0 (blk nb (ints .u8 (zeros 32)) :: blk tb (tokL key ip il ic cp cl cc tag) :: A) h) (hst : st.length = 32) (hsb : isBy st) (ht : tag.length = 32) (htb : isBy tag) (hl : cl < 2 ^ 40)
  (rc : ∀ h', Sat h0 A h' → hsv h' cp 5 cl (cvsV cs)) (k : ∀ h', Sat h0 A h' → Q (decide (tagM st cs = tag)) h') : K1_token_Token_right F_token_next F_mac_Equal Q h nb st tb 0 := by
 unfold K1_token_Token_right
 try simp only [add_mk, Nat.zero_add, List.append_nil]
 have hcl : cs.length = cl := by have := (rc _ hs.drop.drop).1; rw [cvsV_len] at this; omega
 intro h2 e
 replace hs := Sat.wra (xs := ints .u8 st) hs (i := 0) .z e (by simp [zeros, hst])
 clear e
 simp only [put_zero] at hs
 refine ⟨_, _, _, hs.ld (i := 1) (.s .z) rfl, ?_⟩
 intro J hJ
 refine loop_up cl (fun t h => Sat h0 (blk nb (ints .u8 (tagM st (cs.take t))) :: blk tb (tokL key ip il ic cp cl cc tag) :: A) h) ?_ ?_ 0 _ (by omega) (by simpa [tagM] using hs)
 ·clear hs
  intro t h3 htl hs hk
  apply hJ
  rw [ltI_eq, if_pos (by rw [decide_eq_true_iff]; omega)]
  obtain ⟨q, hl2, hq, g0, g1, g2, g3, g4⟩ := cv_rd (rc _ hs.drop.drop) (i := t) htl
  refine ⟨q, hq, by omega, by omega, ?_⟩
  simp only [Int.toNat_natCast]
  refine ⟨_, g0, _, g1, _, g2, _, g3, _, g4, ?_⟩
  intro b3 _ hn; replace hs := Sat.new hs hn; clear hn
  refine ⟨Sat.can hs (i := 0) .z (by simp), ?_⟩
  intro h6 e
  replace hs := Sat.wra hs (i := 0) .z e rfl
  clear e
  simp only [put_zero] at hs
  have hl3 := tagM_len (cs.take t) st hst
  refine ⟨_, hl3, hs.row0 (i := 1) (.s .z), ?_⟩
  refine ⟨_, hs.ld (i := 0) .z rfl, _, hs.ld (i := 0) .z rfl, _, hs.ld (i := 0) .z rfl, _, hs.ld (i := 0) .z rfl, _, hs.ld (i := 0) .z rfl, ?_⟩
  refine next_sp24 cs[t] hl3 hs ?_
  intro h7 hs
  refine ⟨Sat.can hs (i := 1) (.s .z) (by simp [hl3]), ?_⟩
  intro h8 e
  replace hs := Sat.wra (xs := ints .u8 (macM (tagM st (cs.take t)) (cbM cs[t]))) hs (i := 1) (.s .z) e (by simp [hl3, macM_len])
  clear e
  simp only [put_succ, put_zero] at hs
  rw [wrap_succ (by omega)]
  refine hk _ ?_
  rw [take_snoc _ hl2, tagM_snoc]
  exact hs.drop
 ·clear hs
  intro h3 hs
  apply hJ
  rw [ltI_eq, if_neg (by rw [decide_eq_true_iff]; omega), if_pos (by decide)]
  rw [List.take_of_length_le (by omega)] at hs
  refine equal_sp (tagM_by cs st hsb) htb (tagM_len cs st hst) ht (hs.row0 (i := 0) .z) (tok_row hs (i := 1) (.s .z)) ?_
  exact k _ hs.drop.drop
theorem right_sp {Q : Bool → H → Prop} {key : Int} {id tag : List Int} {cs : List CvM} {ip cp : Option Addr} {il ic cl cc : Nat} {R : List SR} {x : SR} (hs : Sat h0 A h) (cr : At A i (blk r [.map (some m)])) (cm : At A j (mapE m (R.map SR.ent))) (gd : SR.good R)
  (rR : ∀ x, x ∈ R → ∀ h', Sat h0 A h' → hsv h' x.p 1 x.bytes.length (ints .u8 x.bytes)) (hx : SR.at_ R key = some x) (ht : tag.length = 32) (htb : isBy tag) (hi : il < 2 ^ 39) (hl : cl < 2 ^ 40)
  (ri : ∀ h', Sat h0 A h' → hsv h' ip 1 il (ints .u8 id)) (rc : ∀ h', Sat h0 A h' → hsv h' cp 5 cl (cvsV cs)) (k : ∀ h', Sat h0 A h' → Q (decide (rightM x.bytes id cs = tag)) h') : F_token_Token_right key ip il ic cp cl cc tag ⟨r, 0, none⟩ Q h := by
 unfold F_token_Token_right G_token_Token_right
 try simp only [add_mk, Nat.zero_add, List.append_nil]
 have hx2 : x ∈ R := List.mem_of_find?_eq_some hx
 have hg := gd x hx2
 have ml : mlook (.int .i64 key) (.one (.slice none 0 0)) (R.map SR.ent) = some (.one (.slice x.p x.bytes.length x.c), true) := by rw [mlook_at, hx]
 intro tb _ hn; replace hs := Sat.new hs hn; clear hn
 replace hs : Sat h0 (blk tb (tokL key ip il ic cp cl cc tag) :: A) _ := hs
 refine ⟨_, hs.ld (i := 0) .z rfl, _, _, _, hs.ld (i := 0) .z rfl, ?_, ?_⟩
 ·refine message_sp hs (by omega) (fun h' hs' => ri _ hs'.drop) ?_
  intro p' c' h2 hc hs
  refine ⟨Sat.cs hs (i := 1) (.s .z) rfl, ?_, ?_⟩
  ·refine sign_sp hs cr.s.s cm.s.s ml hg.2.1 (by omega) hc (by omega) (fun h' hs' => rR x hx2 _ hs'.drop.drop) (fun h' hs' => hs'.sv (i := 0) .z) ?_
   intro h3 hs
   intro nb _ hn; replace hs := Sat.new hs hn; clear hn
   refine ⟨Sat.can hs (i := 0) .z (by simp [zeros]), ?_⟩
   exact rightK_sp (id := id) (hs.sub (by (repeat (first | exact List.Sublist.refl _ | apply List.Sublist.cons_cons | apply List.Sublist.cons)))) (macM_len _ _) (isBy_mac _ _) ht htb hl rc k
  ·intro nb _ hn; replace hs := Sat.new hs hn; clear hn
   refine ⟨Sat.cs hs (i := 2) (.s (.s .z)) rfl, ?_⟩
   refine sign_sp hs cr.s.s.s cm.s.s.s ml hg.2.1 (by omega) hc (by omega) (fun h' hs' => rR x hx2 _ hs'.drop.drop.drop) (fun h' hs' => hs'.sv (i := 1) (.s .z)) ?_
   intro h3 hs
   refine ⟨Sat.can hs (i := 0) .z (by simp [zeros]), ?_⟩
   exact rightK_sp (id := id) (hs.sub (by (repeat (first | exact List.Sublist.refl _ | apply List.Sublist.cons_cons | apply List.Sublist.cons)))) (macM_len _ _) (isBy_mac _ _) ht htb hl rc k
 ·intro nb _ hn; replace hs := Sat.new hs hn; clear hn
  refine ⟨Sat.cs hs (i := 1) (.s .z) rfl, Sat.cs hs (i := 1) (.s .z) rfl, ?_⟩
  refine message_sp hs (by omega) (fun h' hs' => ri _ hs'.drop.drop) ?_
  intro p' c' h2 hc hs
  refine ⟨Sat.cs hs (i := 2) (.s (.s .z)) rfl, ?_⟩
  refine sign_sp hs cr.s.s.s cm.s.s.s ml hg.2.1 (by omega) hc (by omega) (fun h' hs' => rR x hx2 _ hs'.drop.drop.drop) (fun h' hs' => hs'.sv (i := 0) .z) ?_
  intro h3 hs
  refine ⟨Sat.can hs (i := 1) (.s .z) (by simp [zeros]), ?_⟩
  exact rightK_sp (id := id) (hs.sub (by (repeat (first | exact List.Sublist.refl _ | apply List.Sublist.cons_cons | apply List.Sublist.cons)))) (macM_len _ _) (isBy_mac _ _) ht htb hl rc k
end
end Go.Proofs.YtaglicdidpgkpaaGreatDoor
end

/- Contract of chip.Lay. Own work. -/
section
set_option linter.unusedVariables false
namespace Go.Proofs.YtaglicdidpgkpaaGreatDoor
open Go Go.Vc

structure St.lays (c : Cfg) (s : St) : Prop where
 fits : s.fits c
 pos : ∀ n, n ∈ s.erases → 0 ≤ n
def layC (c : Cfg) (s : St) : Cm := ⟨c, s, 0, false, -1, []⟩
theorem layC_ok {c : Cfg} {s : St} (m : c.may) (f : s.lays c) (t : s.typed) : (layC c s).ok :=
 ⟨m, f.fits, t, by simp [layC], by simp [layC], by intro n hn; simp [layC] at hn, by simp [layC], by simp [layC]⟩

section
variable {h0 h : H} {A : List Ent} {i p : Nat} {C : Cm}
theorem contains_neg {p : Option Addr} {l c : Nat} {ns : List Int} {Q : Bool → H → Prop} (hs : Sat h0 A h) (rd : hsv h p 1 l (ints .i64 ns)) (hl : l < 2 ^ 62) (k : Q (ns.any fun n => decide (n < 0)) h) :
  F_slices_ContainsFunc_int_int p l c (.func (.func id_chip_Lay_2) #[] #[]) Q h := by
 unfold F_slices_ContainsFunc_int_int G_slices_ContainsFunc_int_int F_slices_IndexFunc_int_int G_slices_IndexFunc_int_int
 intro J hJ
 have hlen : ns.length = l := by have := rd.1; simpa using this
 refine loop_up l (fun i h' => h' = h ∧ ∀ j (hj : j < ns.length), j < i → 0 ≤ ns[j]) ?_ ?_ 0 _ (by omega) ⟨rfl, fun j _ hj => by omega⟩
 ·rintro i h' hi ⟨rfl, hb⟩ hk
  apply hJ
  rw [ltI_eq, if_pos (by simp; omega)]
  have hin : i < ns.length := by omega
  obtain ⟨q, hq, g⟩ := hsv_get rd (i := i) (v := .int .i64 ns[i]) (by rw [ints_get, List.getElem?_eq_getElem hin]; rfl)
  refine ⟨q, hq, by omega, by omega, _, by simpa using g, ?_⟩
  refine callFn_of R_chip_Lay_2 (by simp) (by simp) (by simp [DV.ok]) ?_
  show F_chip_Lay_2 ns[i] _ h'
  unfold F_chip_Lay_2 G_chip_Lay_2
  refine ⟨_, _, rfl, _, rfl, rfl, ?_⟩
  rw [ltI_eq]
  by_cases hn : ns[i] < 0
  ·rw [if_pos (by simpa using hn)]
   have : (ns.any fun n => decide (n < 0)) = true := by rw [List.any_eq_true]; exact ⟨_, List.getElem_mem hin, by simpa using hn⟩
   rw [this] at k
   simpa using k
  ·rw [if_neg (by simpa using hn), wrap_succ (by omega)]
   refine hk _ ⟨rfl, fun j hj hji => ?_⟩
   by_cases e : j = i
   ·subst e; omega
   ·exact hb j hj (by omega)
 ·rintro h' ⟨rfl, hb⟩
  apply hJ
  rw [ltI_eq, if_neg (by simp)]
  have : (ns.any fun n => decide (n < 0)) = false := by
   rw [List.any_eq_false]
   intro n hn
   obtain ⟨j, hj, rfl⟩ := List.mem_iff_getElem.1 hn
   have := hb j hj (by omega)
   simp; omega
  rw [this] at k
  simpa using k
theorem contains_len {a : Sl} {rows : List (List Int)} {Q : Bool → H → Prop} {b : Nat} {c : Cfg} (hs : Sat h0 A h) (m : At A i (blk b [.int .i64 c.cells, .int .i64 c.slots, .int .i64 c.fuses, .int .i64 c.step, .int .i64 c.keys, .int .i64 c.erases, .int .i64 c.area])) (rd : RdM h 32 a rows) (hl : a.2.1 < 2 ^ 62)
  (k : Q (rows.any fun r => decide ((r.length : Int) ≠ 32 * c.cells)) h) :
  F_slices_ContainsFunc_api_Cell_api_Cell a.1 a.2.1 a.2.2 (.func (.func id_chip_Lay_1) #[] #[.pointer (some ⟨b, 0, none⟩)]) Q h := by
 unfold F_slices_ContainsFunc_api_Cell_api_Cell G_slices_ContainsFunc_api_Cell_api_Cell F_slices_IndexFunc_api_Cell_api_Cell G_slices_IndexFunc_api_Cell_api_Cell
 intro J hJ
 have hlen := rd.len
 refine loop_up a.2.1 (fun i h' => h' = h ∧ ∀ j (hj : j < rows.length), j < i → (rows[j].length : Int) = 32 * c.cells) ?_ ?_ 0 _ (by omega) ⟨rfl, fun j _ hj => by omega⟩
 ·rintro i h' hi ⟨rfl, hb⟩ hk
  apply hJ
  rw [ltI_eq, if_pos (by simp; omega)]
  have hin : i < rows.length := by omega
  obtain ⟨q, x, hq, g, e⟩ := rd.at hin
  have hx : rows[i].length = x.2.1 * 32 := by have := e.1; simpa using this
  refine ⟨q, hq, by omega, by omega, _, _, _, by simpa using g, ?_⟩
  refine callFn_of R_chip_Lay_1 (by simp) (by simp) (by simp [DV.ok]) ?_
  show F_chip_Lay_1 x.1 x.2.1 x.2.2 ⟨b, 0, none⟩ _ h'
  unfold F_chip_Lay_1 G_chip_Lay_1
  refine ⟨_, hs.ld m rfl, ?_⟩
  refine ⟨_, _, rfl, _, rfl, rfl, ?_⟩
  by_cases hn : (rows[i].length : Int) = 32 * c.cells
  ·rw [if_neg (by simp; omega), wrap_succ (by omega)]
   refine hk _ ⟨rfl, fun j hj hji => ?_⟩
   by_cases e : j = i
   ·subst e; omega
   ·exact hb j hj (by omega)
  ·rw [if_pos (by simp; omega)]
   have : (rows.any fun r => decide ((r.length : Int) ≠ 32 * c.cells)) = true := by rw [List.any_eq_true]; exact ⟨_, List.getElem_mem hin, by simpa using hn⟩
   rw [this] at k
   simpa using k
 ·rintro h' ⟨rfl, hb⟩
  apply hJ
  rw [ltI_eq, if_neg (by simp)]
  have : (rows.any fun r => decide ((r.length : Int) ≠ 32 * c.cells)) = false := by
   rw [List.any_eq_false]
   intro n hn
   obtain ⟨j, hj, rfl⟩ := List.mem_iff_getElem.1 hn
   have := hb j hj (by omega)
   simp; omega
  rw [this] at k
  simpa using k
theorem Lay_sp {a b c' : Sl} {s : St} (c : Cfg) {Q : Option Addr → Int → H → Prop} (hs : Sat h0 A h) (rd : ∀ h', Sat h0 A h' → RdS h' a b c' s) (ty : s.typed)
  (k1 : ¬ c.may → ∀ h', Sat h0 A h' → Q none 1 h') (k2 : c.may → ¬ s.lays c → ∀ h', Sat h0 A h' → Q none 5 h')
  (k3 : c.may → s.lays c → ∀ p h', Sat h0 (chipE p (layC c s) :: A) h' → Q (some ⟨p, 0, none⟩) 0 h') :
  F_chip_Lay c.cells c.slots c.fuses c.step c.keys c.erases c.area a.1 a.2.1 a.2.2 b.1 b.2.1 b.2.2 c'.1 c'.2.1 c'.2.2 Q h := by
 unfold F_chip_Lay G_chip_Lay
 try simp only [add_mk, Nat.zero_add]
 intro n1 _ hn; replace hs := Sat.new hs hn; clear hn
 intro n2 _ hn; replace hs := Sat.new hs hn; clear hn
 (repeat first | refine ⟨_, Sat.ld hs (by (repeat (first | exact At.z | apply At.s))) (by rfl), ?_⟩ | refine ⟨_, _, _, Sat.ld hs (by (repeat (first | exact At.z | apply At.s))) (by rfl), ?_⟩ | (intro _ _ hn; replace hs := Sat.new hs hn; clear hn) | refine ⟨Sat.cs hs (by (repeat (first | exact At.z | apply At.s))) (by rfl), ?_⟩ | (refine ⟨Sat.can hs (by (repeat (first | exact At.z | apply At.s))) (by simp), ?_⟩; intro _ e; replace hs := Sat.wr hs (by (repeat (first | exact At.z | apply At.s))) e; clear e; simp only [put, splice, List.set] at hs))
 refine May_sp c hs ?_
 intro h1 hs
 unfold Cfg.may?
 by_cases hm : c.may
 case neg =>
  rw [if_neg hm, if_pos (by decide)]
  exact k1 hm _ hs.drop.drop
 rw [if_pos hm, if_neg (by decide)]
 have hnp := hm.np
 have hnf := hm.nf
 intro J hJ
 have rd0 := rd _ hs.drop.drop
 have l1 := rd0.pg.len
 have l2 : s.erases.length = b.2.1 := by have := rd0.er.1; simpa using this
 have l3 : s.blown.length = c'.2.1 := by have := rd0.bl.1; simpa using this
 have bad : ¬ s.lays c → ∀ h', Sat h0 (blk n2 [a.v, b.v, c'.v] :: blk n1 [.int .i64 c.cells, .int .i64 c.slots, .int .i64 c.fuses, .int .i64 c.step, .int .i64 c.keys, .int .i64 c.erases, .int .i64 c.area] :: A) h' → J [SV.dv (DV.one (.bool true))] h' := by
  intro nf h' hs
  apply hJ
  rw [if_pos rfl]
  exact k2 hm nf _ hs.drop.drop
 (repeat first | refine ⟨_, Sat.ld hs (by (repeat (first | exact At.z | apply At.s))) (by rfl), ?_⟩ | refine ⟨_, _, _, Sat.ld hs (by (repeat (first | exact At.z | apply At.s))) (by rfl), ?_⟩ | (intro _ _ hn; replace hs := Sat.new hs hn; clear hn) | refine ⟨Sat.cs hs (by (repeat (first | exact At.z | apply At.s))) (by rfl), ?_⟩ | (refine ⟨Sat.can hs (by (repeat (first | exact At.z | apply At.s))) (by simp), ?_⟩; intro _ e; replace hs := Sat.wr hs (by (repeat (first | exact At.z | apply At.s))) e; clear e; simp only [put, splice, List.set] at hs))
 refine pages_sp c hm hs ?_
 intro h2 hs
 refine ⟨Sat.cs hs (by (repeat (first | exact At.z | apply At.s))) (by rfl), ?_⟩
 by_cases e1 : (s.pages.length : Int) = c.np
 case neg =>
  rw [if_pos (by simp; omega)]
  exact bad (fun f => e1 f.fits.pages) _ hs
 rw [if_neg (by simp; omega)]
 (repeat first | refine ⟨_, Sat.ld hs (by (repeat (first | exact At.z | apply At.s))) (by rfl), ?_⟩ | refine ⟨_, _, _, Sat.ld hs (by (repeat (first | exact At.z | apply At.s))) (by rfl), ?_⟩ | (intro _ _ hn; replace hs := Sat.new hs hn; clear hn) | refine ⟨Sat.cs hs (by (repeat (first | exact At.z | apply At.s))) (by rfl), ?_⟩ | (refine ⟨Sat.can hs (by (repeat (first | exact At.z | apply At.s))) (by simp), ?_⟩; intro _ e; replace hs := Sat.wr hs (by (repeat (first | exact At.z | apply At.s))) e; clear e; simp only [put, splice, List.set] at hs))
 refine pages_sp c hm hs ?_
 intro h3 hs
 refine ⟨Sat.cs hs (by (repeat (first | exact At.z | apply At.s))) (by rfl), ?_⟩
 by_cases e2 : (s.erases.length : Int) = c.np
 case neg =>
  rw [if_pos (by simp; omega)]
  exact bad (fun f => e2 f.fits.erases) _ hs
 rw [if_neg (by simp; omega)]
 (repeat first | refine ⟨_, Sat.ld hs (by (repeat (first | exact At.z | apply At.s))) (by rfl), ?_⟩ | refine ⟨_, _, _, Sat.ld hs (by (repeat (first | exact At.z | apply At.s))) (by rfl), ?_⟩ | (intro _ _ hn; replace hs := Sat.new hs hn; clear hn) | refine ⟨Sat.cs hs (by (repeat (first | exact At.z | apply At.s))) (by rfl), ?_⟩ | (refine ⟨Sat.can hs (by (repeat (first | exact At.z | apply At.s))) (by simp), ?_⟩; intro _ e; replace hs := Sat.wr hs (by (repeat (first | exact At.z | apply At.s))) e; clear e; simp only [put, splice, List.set] at hs))
 refine fuses_sp c hm hs ?_
 intro h4 hs
 refine ⟨Sat.cs hs (by (repeat (first | exact At.z | apply At.s))) (by rfl), ?_⟩
 by_cases e3 : (s.blown.length : Int) = c.nf
 case neg =>
  rw [if_pos (by simp; omega)]
  exact bad (fun f => e3 f.fits.blown) _ hs
 rw [if_neg (by simp; omega)]
 refine ⟨_, _, _, Sat.ld hs (by (repeat (first | exact At.z | apply At.s))) (by rfl), ?_⟩
 refine contains_len (i := 1) (c := c) hs (.s .z) (rd _ hs.drop.drop).pg (by omega) ?_
 by_cases e4 : ∀ l, l ∈ s.pages → (l.length : Int) = 32 * c.cells
 case neg =>
  rw [if_pos (by
   rw [List.any_eq_true]
   have ⟨l, h5⟩ := Classical.not_forall.1 e4
   have ⟨h6, h7⟩ := Classical.not_imp.1 h5
   exact ⟨l, h6, by simpa using h7⟩)]
  exact bad (fun f => e4 f.fits.cells) _ hs
 rw [if_neg (by
  intro h5
  obtain ⟨l, h6, h7⟩ := List.any_eq_true.1 h5
  have := e4 l h6
  simp at h7; omega)]
 refine ⟨_, _, _, Sat.ld hs (by (repeat (first | exact At.z | apply At.s))) (by rfl), ?_⟩
 refine contains_neg hs (rd _ hs.drop.drop).er (by omega) ?_
 by_cases e5 : ∀ n, n ∈ s.erases → 0 ≤ n
 case neg =>
  have : (s.erases.any fun n => decide (n < 0)) = true := by
   rw [List.any_eq_true]
   have ⟨l, h5⟩ := Classical.not_forall.1 e5
   have ⟨h6, h7⟩ := Classical.not_imp.1 h5
   exact ⟨l, h6, by simp; omega⟩
  rw [this]
  exact bad (fun f => e5 f.pos) _ hs
 have : (s.erases.any fun n => decide (n < 0)) = false := by
  rw [List.any_eq_false]
  intro n hn
  have := e5 n hn
  simp; omega
 rw [this]
 have ly : s.lays c := ⟨⟨e1, e4, e2, e3⟩, e5⟩
 have ok := layC_ok hm ly ty
 apply hJ
 rw [if_neg (by simp)]
 (repeat first | refine ⟨_, Sat.ld hs (by (repeat (first | exact At.z | apply At.s))) (by rfl), ?_⟩ | refine ⟨_, _, _, Sat.ld hs (by (repeat (first | exact At.z | apply At.s))) (by rfl), ?_⟩ | (intro _ _ hn; replace hs := Sat.new hs hn; clear hn) | refine ⟨Sat.cs hs (by (repeat (first | exact At.z | apply At.s))) (by rfl), ?_⟩ | (refine ⟨Sat.can hs (by (repeat (first | exact At.z | apply At.s))) (by simp), ?_⟩; intro _ e; replace hs := Sat.wr hs (by (repeat (first | exact At.z | apply At.s))) e; clear e; simp only [put, splice, List.set] at hs))
 refine copied_sp (a := a) (b := b) (c := c') (s := s) hs (fun h' hs' => rd _ hs'.drop.drop) ok.small ?_
 intro a2 b2 c2 h5 hs
 replace hs : Sat h0 (matE 32 a2 s.pages :: sE b2 1 (ints .i64 s.erases) :: sE c2 1 (bools s.blown) :: blk n2 [a.v, b.v, c'.v] :: blk n1 [.int .i64 c.cells, .int .i64 c.slots, .int .i64 c.fuses, .int .i64 c.step, .int .i64 c.keys, .int .i64 c.erases, .int .i64 c.area] :: A) h5 := hs
 (repeat first | refine ⟨_, Sat.ld hs (by (repeat (first | exact At.z | apply At.s))) (by rfl), ?_⟩ | refine ⟨_, _, _, Sat.ld hs (by (repeat (first | exact At.z | apply At.s))) (by rfl), ?_⟩ | (intro _ _ hn; replace hs := Sat.new hs hn; clear hn) | refine ⟨Sat.cs hs (by (repeat (first | exact At.z | apply At.s))) (by rfl), ?_⟩ | (refine ⟨Sat.can hs (by (repeat (first | exact At.z | apply At.s))) (by simp), ?_⟩; intro _ e; replace hs := Sat.wr hs (by (repeat (first | exact At.z | apply At.s))) e; clear e; simp only [put, splice, List.set] at hs))
 refine k3 hm ly _ _ ?_
 replace hs := hs.sl_nil 1 none
 replace hs := Sat.front hs (e := slE _ _ _ 1 (bools _)) (by (repeat (first | exact At.z | apply At.s)))
 replace hs := Sat.front hs (e := slE _ _ _ 1 (ints .i64 _)) (by (repeat (first | exact At.z | apply At.s)))
 replace hs := Sat.front hs (e := matE 32 _ _) (by (repeat (first | exact At.z | apply At.s)))
 replace hs := Sat.front hs (e := blk _ [_, _, _, _, _, _, _, _, _, _, _, _, _, _]) (by (repeat (first | exact At.z | apply At.s)))
 simp only [del] at hs
 exact (chip_make (C := layC c s) (a := a2) (b := b2) (c := c2) (m := (none, 0, 0)) ok hs).sub (by (repeat (first | exact List.Sublist.refl _ | apply List.Sublist.cons_cons | apply List.Sublist.cons)))
end
end Go.Proofs.YtaglicdidpgkpaaGreatDoor
end

/- Contracts of the document's chip: configs, copies, new ones. Own work. -/
section
set_option linter.unusedVariables false
namespace Go.Proofs.YtaglicdidpgkpaaGreatDoor
open Go Go.Vc

section
variable {h0 h : H} {A : List Ent} {i p : Nat} {C : Cm}
theorem rwithin_iff (n a b : Int) (Q : Bool → H → Prop) (h : H) : F_portcullisref04_within n a b Q h = Q (decide (a ≤ n) && decide (n ≤ b)) h := by
 unfold F_portcullisref04_within G_portcullisref04_within
 by_cases h1 : a ≤ n <;> simp [h1]
theorem rMay_sp (c : Cfg) {Q : Int → H → Prop} (hs : Sat h0 A h) (k : ∀ h', Sat h0 A h' → Q c.may? h') :
  F_portcullisref04_May c.cells c.slots c.fuses c.step c.keys c.erases c.area Q h := by
 unfold F_portcullisref04_May G_portcullisref04_May
 try simp only [add_mk, Nat.zero_add]
 intro n1 h' hn; replace hs := Sat.new hs hn; clear hn
 replace k := k h' hs.drop
 have kb := hs.blkOf .z
 have hc0 := kb.hc
 intro J hJ
 have w3 : 1 ≤ c.slots ∧ c.slots ≤ 8 → IntKind.i64.wrap (c.slots + 3) = c.slots + 3 := by
  intro h1; rw [IntKind.wrap_i64]; omega
 have fin : ∀ r : Bool, (r = true ↔ (1 ≤ c.slots ∧ c.slots ≤ 8) ∧ (c.slots + 3 ≤ c.cells ∧ c.cells ≤ 256) ∧ (1 ≤ c.fuses ∧ c.fuses ≤ 64) ∧ (1 ≤ c.step ∧ c.step ≤ 65536)) → J [SV.dv (DV.one (Value.bool r))] h' := by
  intro r hr
  apply hJ
  simp only [hc0, rwithin_iff, List.getElem?_cons_succ, List.getElem?_cons_zero, Option.some.injEq, Value.int.injEq, true_and, exists_eq_left', Bool.and_eq_true, decide_eq_true_eq]
  have bad : ¬ c.may → Q 1 h' := fun hm => by unfold Cfg.may? at k; rwa [if_neg hm] at k
  have good : c.may → Q 0 h' := fun hm => by unfold Cfg.may? at k; rwa [if_pos hm] at k
  by_cases h4 : 1 ≤ c.keys ∧ c.keys ≤ 64
  case neg => rw [if_neg h4]; split <;> exact bad fun m => h4 m.keys
  rw [if_pos h4]
  by_cases h5 : 0 ≤ c.erases ∧ c.erases ≤ 65536
  case neg => rw [if_neg h5]; split <;> exact bad fun m => h5 m.erases
  rw [if_pos h5]
  cases r with
  | false =>
   have := mt hr.2 (by simp)
   simp only [Bool.not_false, if_true]
   exact bad fun m => this ⟨m.slots, m.cells, m.fuses, m.step⟩
  | true =>
   obtain ⟨a1, a2, a3, a4⟩ := hr.1 rfl
   rw [if_neg (by simp)]
   by_cases h6 : 0 ≤ c.area ∧ c.area ≤ 64
   ·rw [if_neg (by simp; omega)]; exact good ⟨a1, a2, a3, a4, h4, h5, h6⟩
   ·rw [if_pos (by simp; omega)]; exact bad fun m => h6 m.area
 simp only [hc0, rwithin_iff, List.getElem?_cons_succ, List.getElem?_cons_zero, Option.some.injEq, Value.int.injEq, true_and, exists_eq_left', Bool.and_eq_true, decide_eq_true_eq]
 split
 case isFalse h1 => exact fin false (by simp; intro a b; exact absurd ⟨a, b⟩ h1)
 rename_i h1
 rw [w3 h1]
 split
 case isFalse h2 => exact fin false (by simp; intro _ _ a b; exact absurd ⟨a, b⟩ h2)
 rename_i h2
 split
 case isFalse h3 => exact fin false (by simp; intro _ _ _ _ a b; exact absurd ⟨a, b⟩ h3)
 rename_i h3
 refine fin _ ?_
 simp only [Bool.and_eq_true, decide_eq_true_eq]
 exact ⟨fun h4 => ⟨h1, h2, h3, h4⟩, fun m => m.2.2.2⟩

theorem CopyState_sp {a b c : Sl} {s : St} {Q : Option Addr → Nat → Nat → Option Addr → Nat → Nat → Option Addr → Nat → Nat → H → Prop} (hs : Sat h0 A h) (rd : ∀ h', Sat h0 A h' → RdS h' a b c s) (sm : s.small)
  (k : ∀ (a' b' c' : Sl) h', Sat h0 (stL a' b' c' s ++ A) h' → Q a'.1 a'.2.1 a'.2.2 b'.1 b'.2.1 b'.2.2 c'.1 c'.2.1 c'.2.2 h') :
  F_portcullisref04_CopyState a.1 a.2.1 a.2.2 b.1 b.2.1 b.2.2 c.1 c.2.1 c.2.2 Q h := by
 unfold F_portcullisref04_CopyState G_portcullisref04_CopyState
 try simp only [add_mk, Nat.zero_add]
 intro n1 _ hn; replace hs := Sat.new hs hn; clear hn
 intro n2 _ hn; replace hs := Sat.new hs hn; clear hn
 intro J hJ
 have rd0 := rd _ hs.drop.drop
 have l2 : s.erases.length = b.2.1 := by have := rd0.er.1; simpa using this
 have l3 : s.blown.length = c.2.1 := by have := rd0.bl.1; simpa using this
 have s2 := sm.erases
 have s3 := sm.blown
 have fin : ∀ q b2 b3 c2 c3 h', Sat h0 (blk q [.slice none 0 0, .slice b2 b.2.1 b3, .slice c2 c.2.1 c3] :: sE (b2, b.2.1, b3) 1 (ints .i64 s.erases) :: sE (c2, c.2.1, c3) 1 (bools s.blown) ::
   blk n1 [a.v, b.v, c.v] :: blk n2 [.slice none 0 0, .slice none 0 0, .slice none 0 0] :: A) h' → J [SV.dv (DV.addr ⟨q, 0, none⟩)] h' := by
  intro q b2 b3 c2 c3 h' hs
  apply hJ
  intro J2 hJ2
  have hlen := (rd _ hs.drop.drop.drop.drop.drop).pg.len
  replace hs := hs.mat_nil 32 none
  refine loop_up a.2.1 (fun i h => ∃ hd : Sl, hd.2.1 = i ∧ Sat h0 (matE 32 hd (s.pages.take i) :: blk q [hd.v, .slice b2 b.2.1 b3, .slice c2 c.2.1 c3] :: sE (b2, b.2.1, b3) 1 (ints .i64 s.erases) :: sE (c2, c.2.1, c3) 1 (bools s.blown) ::
   blk n1 [a.v, b.v, c.v] :: blk n2 [.slice none 0 0, .slice none 0 0, .slice none 0 0] :: A) h) ?_ ?_ 0 _ (by omega) ⟨_, rfl, hs⟩
  ·rintro i h1 hi ⟨⟨hp, hl, hc⟩, e, hs⟩ hk
   simp only at e; subst e
   apply hJ2
   refine ⟨_, _, _, Sat.ld hs (by (repeat (first | exact At.z | apply At.s))) (by rfl), ?_⟩
   rw [ltI_eq, if_pos (by simp; omega)]
   have hlt : hl < s.pages.length := by omega
   obtain ⟨q', x, e1, e2, e3⟩ := (rd _ hs.drop.drop.drop.drop.drop.drop).pg.at hlt
   refine ⟨_, _, _, Sat.ld hs (by (repeat (first | exact At.z | apply At.s))) (by rfl), ?_⟩
   refine ⟨_, _, _, Sat.ld hs (by (repeat (first | exact At.z | apply At.s))) (by rfl), ?_⟩
   obtain ⟨ap, al, ac⟩ := a
   dsimp only at e1
   subst e1
   refine ⟨_, rfl, by omega, by omega, ?_⟩
   refine ⟨_, _, _, e2, ?_⟩
   intro n36 h37 hn
   have e2' := hcs_one (hc_ext hn.ext e2 (fun x => x))
   have e3' := hsv_ext hn.ext e3 (fun _ _ x => x)
   replace hs := Sat.new hs hn; clear hn
   refine ⟨e2', ?_⟩
   refine ⟨Sat.cs hs (by (repeat (first | exact At.z | apply At.s))) (by rfl), ?_⟩
   refine ⟨Sat.cs hs (by (repeat (first | exact At.z | apply At.s))) (by rfl), ?_⟩
   have hr := sm.rows _ (List.getElem_mem hlt)
   have hx := e3.1
   simp only [ints_length] at hx
   refine ⟨_, e3', Sat.app_new hs e3'.1 (by simp) (ints_one _ _) (by omega) ?_⟩
   intro p' c' h2 hs
   refine ⟨Sat.cs hs (by (repeat (first | exact At.z | apply At.s))) (by rfl), ?_⟩
   (intro _ _ hn; replace hs := Sat.new hs hn; clear hn)
   refine ⟨Sat.cs hs (by (repeat (first | exact At.z | apply At.s))) (by rfl), ?_⟩
   refine ⟨_, Sat.bv hs (.z) (by simp) (by simp), ?_⟩
   replace hs := Sat.front (e := sE (p', x.2.1, c') 32 _) hs (.s .z)
   have hpl := sm.pages
   refine Sat.app_row hs (i := 2) (.s (.s .z)) (by dsimp only; omega) ?_
   intro p2 c2' h4 hs
   simp only [put, del] at hs
   (refine ⟨Sat.can hs (by (repeat (first | exact At.z | apply At.s))) (by simp), ?_⟩; intro _ e; replace hs := Sat.wr hs (by (repeat (first | exact At.z | apply At.s))) e; clear e; simp only [put, splice, List.set] at hs)
   rw [wrap_succ (by omega)]
   refine hk _ ⟨(p2, hl + 1, c2'), rfl, ?_⟩
   rw [List.take_succ_eq_append_getElem hlt]
   exact hs.sub (by (repeat (first | exact List.Sublist.refl _ | apply List.Sublist.cons_cons | apply List.Sublist.cons)))
  ·rintro h1 ⟨⟨hp, hl, hc⟩, e, hs⟩
   simp only at e; subst e
   apply hJ2
   refine ⟨_, _, _, Sat.ld hs (by (repeat (first | exact At.z | apply At.s))) (by rfl), ?_⟩
   rw [ltI_eq, if_neg (by simp)]
   (repeat first | refine ⟨_, Sat.ld hs (by (repeat (first | exact At.z | apply At.s))) (by rfl), ?_⟩ | refine ⟨_, _, _, Sat.ld hs (by (repeat (first | exact At.z | apply At.s))) (by rfl), ?_⟩ | (intro _ _ hn; replace hs := Sat.new hs hn; clear hn) | refine ⟨Sat.cs hs (by (repeat (first | exact At.z | apply At.s))) (by rfl), ?_⟩ | (refine ⟨Sat.can hs (by (repeat (first | exact At.z | apply At.s))) (by simp), ?_⟩; intro _ e; replace hs := Sat.wr hs (by (repeat (first | exact At.z | apply At.s))) e; clear e; simp only [put, splice, List.set] at hs))
   refine k (hp, _, hc) (b2, _, b3) (c2, _, c3) _ ?_
   rw [← hlen, List.take_length] at hs
   replace hs := Sat.front hs (e := blk n2 _) (by (repeat (first | exact At.z | apply At.s)))
   replace hs := Sat.front hs (e := blk n1 _) (by (repeat (first | exact At.z | apply At.s)))
   replace hs := Sat.front hs (e := blk q _) (by (repeat (first | exact At.z | apply At.s)))
   simp only [del] at hs
   have := hs.drop.drop.drop
   rw [hlen] at this
   exact this
 repeat' (first
  | refine ⟨_, Sat.ld hs (by (repeat (first | exact At.z | apply At.s))) (by rfl), ?_⟩
  | refine ⟨_, _, _, Sat.ld hs (by (repeat (first | exact At.z | apply At.s))) (by rfl), ?_⟩
  | (intro _ _ hn; replace hs := Sat.new hs hn; clear hn)
  | refine ⟨Sat.cs hs (by (repeat (first | exact At.z | apply At.s))) (by rfl), ?_⟩
  | (refine ⟨Sat.can hs (by (repeat (first | exact At.z | apply At.s))) (by simp), ?_⟩; intro _ e; replace hs := Sat.wr hs (by (repeat (first | exact At.z | apply At.s))) e; clear e; simp only [put, splice, List.set] at hs)
  | (refine ⟨_, (rd _ (hs.sub (by (repeat (first | exact List.Sublist.refl _ | apply List.Sublist.cons_cons | apply List.Sublist.cons))))).er, Sat.app_new hs (by simp; omega) rfl (ints_one _ _) (by omega) ?_⟩; intro _ _ _ hs)
  | (refine ⟨_, (rd _ (hs.sub (by (repeat (first | exact List.Sublist.refl _ | apply List.Sublist.cons_cons | apply List.Sublist.cons))))).bl, Sat.app_new hs (by simp; omega) rfl (bools_one _) (by omega) ?_⟩; intro _ _ _ hs)
  | refine And.intro ?_ ?_)
 all_goals
  replace hs := Sat.front hs (e := blk n2 _) (by (repeat (first | exact At.z | apply At.s)))
  replace hs := Sat.front hs (e := blk n1 _) (by (repeat (first | exact At.z | apply At.s)))
  replace hs := Sat.front hs (e := slE _ _ _ 1 (bools _)) (by (repeat (first | exact At.z | apply At.s)))
  replace hs := Sat.front hs (e := slE _ _ _ 1 (ints .i64 _)) (by (repeat (first | exact At.z | apply At.s)))
  replace hs := Sat.front hs (e := blk _ [.slice none 0 0, .slice _ b.2.1 _, .slice _ c.2.1 _]) (by (repeat (first | exact At.z | apply At.s)))
  simp only [del] at hs
  exact fin _ _ _ _ _ _ (hs.sub (by (repeat (first | exact List.Sublist.refl _ | apply List.Sublist.cons_cons | apply List.Sublist.cons))))
end
end Go.Proofs.YtaglicdidpgkpaaGreatDoor

/- Contracts of the document's chip: new ones, laid ones, copies. Own work. -/
set_option linter.unusedVariables false
namespace Go.Proofs.YtaglicdidpgkpaaGreatDoor
open Go Go.Vc

section
variable {h0 h : H} {A : List Ent} {i p : Nat} {C : Cm}
theorem wnp {c : Cfg} (m : c.may) : IntKind.i64.wrap (2 + IntKind.i64.wrap (2 * c.area)) = c.np := by
 have := m.area; unfold Cfg.np; simp only [IntKind.wrap_i64]; omega
theorem wnf {c : Cfg} (m : c.may) : IntKind.i64.wrap (IntKind.i64.wrap (c.slots * c.fuses) + c.keys) = c.nf := by
 have h1 := m.slots; have h2 := m.fuses; have h3 := m.keys
 have e1 : 0 ≤ c.slots * c.fuses := Int.mul_nonneg (by omega) (by omega)
 have e2 : c.slots * c.fuses ≤ 8 * 64 := Int.mul_le_mul (by omega) (by omega) (by omega) (by omega)
 unfold Cfg.nf; simp only [IntKind.wrap_i64]; omega
end
end Go.Proofs.YtaglicdidpgkpaaGreatDoor

/- Contracts of the document's chip: its methods. Own work. -/
set_option linter.unusedVariables false
namespace Go.Proofs.YtaglicdidpgkpaaGreatDoor
open Go Go.Vc

structure RefW (C : Cm) (w : Pl × List Int) : Prop where
 ok : C.ok
 b : bytesOk w.2
 l : w.2.length ≤ 2 ^ 47
 m : 0 ≤ C.left → w.2 = C.mask
abbrev refL (p : Nat) (C : Cm) (w : Pl × List Int) : List Ent := [blk p (C.cells w.1.a w.1.b w.1.c w.1.m), matE 32 w.1.a C.s.pages, sE w.1.b 1 (ints .i64 C.s.erases), sE w.1.c 1 (bools C.s.blown), sE w.1.m 1 (ints .u8 w.2)]
def refE (p : Nat) (C : Cm) : Ent := exE 4 (RefW C) (refL p C)

section
variable {h0 h : H} {A : List Ent} {i p : Nat} {C : Cm}
theorem ref_make {a b c m : Sl} {ms : List Int} (ok : C.ok) (mb : bytesOk ms) (ml : ms.length ≤ 2 ^ 47) (me : 0 ≤ C.left → ms = C.mask)
  (hs : Sat h0 (blk p (C.cells a b c m) :: matE 32 a C.s.pages :: sE b 1 (ints .i64 C.s.erases) :: sE c 1 (bools C.s.blown) :: sE m 1 (ints .u8 ms) :: A) h) : Sat h0 (refE p C :: A) h :=
 Sat.close (⟨a, b, c, m⟩, ms) ⟨ok, mb, ml, me⟩ hs
end
end Go.Proofs.YtaglicdidpgkpaaGreatDoor
end

/- Contracts: equal states are told so. Own work. -/
section
set_option linter.unusedVariables false
namespace Go.Proofs.YtaglicdidpgkpaaGreatDoor
open Go Go.Vc

section
variable {h0 h : H} {A : List Ent} {i p : Nat} {C : Cm}
theorem rdm_row {h : H} {a : Sl} {rows : List (List Int)} (r : RdM h 32 a rows) {j : Nat} (hj : j < rows.length) :
  ∃ q x, a.1 = some q ∧ hc h (q.add (j * 1)) = some (Sl.v x) ∧ rows[j].length = x.2.1 * 32 := by
 obtain ⟨q, x, h1, h2, h3⟩ := r.at hj
 exact ⟨q, x, h1, h2, by have := h3.1; simpa using this⟩
end
end Go.Proofs.YtaglicdidpgkpaaGreatDoor

/- Contracts of the document's chip: Copy, Lay. Own work. -/
set_option linter.unusedVariables false
namespace Go.Proofs.YtaglicdidpgkpaaGreatDoor
open Go Go.Vc

section
variable {h0 h : H} {A : List Ent} {i p : Nat} {C : Cm}
theorem Fits_sp {a b c' : Sl} {s : St} (c : Cfg) (hm : c.may) {Q : Bool → H → Prop} (hs : Sat h0 A h) (rd : ∀ h', Sat h0 A h' → RdS h' a b c' s)
  (k1 : ¬ s.lays c → ∀ h', Sat h0 A h' → Q false h') (k2 : s.lays c → ∀ h', Sat h0 A h' → Q true h') :
  F_portcullisref04_Fits c.cells c.slots c.fuses c.step c.keys c.erases c.area a.1 a.2.1 a.2.2 b.1 b.2.1 b.2.2 c'.1 c'.2.1 c'.2.2 Q h := by
 unfold F_portcullisref04_Fits G_portcullisref04_Fits
 try simp only [add_mk, Nat.zero_add]
 intro n1 _ hn; replace hs := Sat.new hs hn; clear hn
 intro n2 h2 hn; replace hs := Sat.new hs hn; clear hn
 refine ⟨_, Sat.ld hs (by (repeat (first | exact At.z | apply At.s))) (by rfl), ?_⟩
 simp only [wnp hm, wnf hm]
 have hnp := hm.np
 have hnf := hm.nf
 have hcl := hm.cells
 intro J25 hJ25
 have r1 := rd _ hs.drop.drop
 have l1 := r1.pg.len
 have l2 : s.erases.length = b.2.1 := by have := r1.er.1; simpa using this
 have l3 : s.blown.length = c'.2.1 := by have := r1.bl.1; simpa using this
 have bad : ¬ s.lays c → Q false h2 := fun nf => k1 nf _ hs.drop.drop
 refine ⟨_, _, _, Sat.ld hs (by (repeat (first | exact At.z | apply At.s))) (by rfl), ?_⟩
 by_cases e1 : (s.pages.length : Int) = c.np
 case neg => rw [if_pos (by simp; omega)]; exact bad (fun f => e1 f.fits.pages)
 rw [if_neg (by simp; omega)]
 refine ⟨_, _, _, Sat.ld hs (by (repeat (first | exact At.z | apply At.s))) (by rfl), ?_⟩
 by_cases e2 : (s.erases.length : Int) = c.np
 case neg => rw [if_pos (by simp; omega)]; exact bad (fun f => e2 f.fits.erases)
 rw [if_neg (by simp; omega)]
 refine ⟨_, _, _, Sat.ld hs (by (repeat (first | exact At.z | apply At.s))) (by rfl), ?_⟩
 refine ⟨_, Sat.ld hs (by (repeat (first | exact At.z | apply At.s))) (by rfl), ?_⟩
 refine ⟨_, Sat.ld hs (by (repeat (first | exact At.z | apply At.s))) (by rfl), ?_⟩
 refine ⟨_, Sat.ld hs (by (repeat (first | exact At.z | apply At.s))) (by rfl), ?_⟩
 by_cases e3 : (s.blown.length : Int) = c.nf
 case neg => rw [wnf hm, if_pos (by simp; omega)]; exact bad (fun f => e3 f.fits.blown)
 rw [wnf hm, if_neg (by simp; omega)]
 apply hJ25
 intro J27 hJ27
 refine loop_up c.np.toNat (fun i h' => h' = h2 ∧ ∀ j (hj : j < s.pages.length) (hj2 : j < s.erases.length), j < i → (s.pages[j].length : Int) = 32 * c.cells ∧ 0 ≤ s.erases[j]) ?_ ?_ 0 _ (by omega) ⟨rfl, fun j _ _ hj => by omega⟩
 ·rintro j h' hj ⟨rfl, hinv⟩ hk
  apply hJ27
  rw [ltI_eq, if_pos (by simp; omega)]
  have hj1 : j < s.pages.length := by omega
  have hj2 : j < s.erases.length := by omega
  obtain ⟨q1, x1, f1, f2, f3⟩ := rdm_row r1.pg hj1
  obtain ⟨q2, g1, g2⟩ := hsv_get r1.er (i := j) (v := .int .i64 s.erases[j]) (by rw [ints_get, List.getElem?_eq_getElem hj2]; rfl)
  refine ⟨_, _, _, Sat.ld hs (by (repeat (first | exact At.z | apply At.s))) (by rfl), ?_⟩
  refine ⟨_, f1, by omega, by omega, _, _, _, f2, ?_⟩
  refine ⟨_, Sat.ld hs (by (repeat (first | exact At.z | apply At.s))) (by rfl), ?_⟩
  by_cases e4 : (s.pages[j].length : Int) = 32 * c.cells
  case neg => rw [if_pos (by simp; omega)]; exact bad (fun f => e4 (f.fits.cells _ (List.getElem_mem hj1)))
  rw [if_neg (by simp; omega)]
  refine ⟨_, _, _, Sat.ld hs (by (repeat (first | exact At.z | apply At.s))) (by rfl), ?_⟩
  refine ⟨_, g1, by omega, by omega, _, by simpa using g2, ?_⟩
  rw [ltI_eq]
  by_cases e5 : s.erases[j] < 0
  ·rw [if_pos (by simpa using e5)]; exact bad (fun f => by have := f.pos _ (List.getElem_mem hj2); omega)
  ·rw [if_neg (by simpa using e5), wrap_succ (by omega)]
   refine hk _ ⟨rfl, fun m hm1 hm2 hmj => ?_⟩
   by_cases e : m = j
   ·subst e; exact ⟨e4, by omega⟩
   ·exact hinv m hm1 hm2 (by omega)
 ·rintro h' ⟨rfl, hinv⟩
  apply hJ27
  rw [ltI_eq, if_neg (by simp; omega)]
  refine k2 ⟨⟨e1, ?_, e2, e3⟩, ?_⟩ _ hs.drop.drop
  ·intro l hl
   obtain ⟨j, hj, rfl⟩ := List.mem_iff_getElem.1 hl
   exact (hinv j hj (by omega) (by omega)).1
  ·intro n hn
   obtain ⟨j, hj, rfl⟩ := List.mem_iff_getElem.1 hn
   exact (hinv j (by omega) hj (by omega)).2
theorem rLay_sp {a b c' : Sl} {s : St} (c : Cfg) {Q : Option Addr → Int → H → Prop} (hs : Sat h0 A h) (rd : ∀ h', Sat h0 A h' → RdS h' a b c' s) (ty : s.typed)
  (k1 : ¬ c.may → ∀ h', Sat h0 A h' → Q none 1 h') (k2 : c.may → ¬ s.lays c → ∀ h', Sat h0 A h' → Q none 5 h')
  (k3 : c.may → s.lays c → ∀ p h', Sat h0 (refE p (layC c s) :: A) h' → Q (some ⟨p, 0, none⟩) 0 h') :
  F_portcullisref04_Lay c.cells c.slots c.fuses c.step c.keys c.erases c.area a.1 a.2.1 a.2.2 b.1 b.2.1 b.2.2 c'.1 c'.2.1 c'.2.2 Q h := by
 unfold F_portcullisref04_Lay G_portcullisref04_Lay
 try simp only [add_mk, Nat.zero_add]
 intro n1 _ hn; replace hs := Sat.new hs hn; clear hn
 intro n2 _ hn; replace hs := Sat.new hs hn; clear hn
 (repeat first | refine ⟨_, Sat.ld hs (by (repeat (first | exact At.z | apply At.s))) (by rfl), ?_⟩ | refine ⟨_, _, _, Sat.ld hs (by (repeat (first | exact At.z | apply At.s))) (by rfl), ?_⟩ | (intro _ _ hn; replace hs := Sat.new hs hn; clear hn) | refine ⟨Sat.cs hs (by (repeat (first | exact At.z | apply At.s))) (by rfl), ?_⟩ | (refine ⟨Sat.can hs (by (repeat (first | exact At.z | apply At.s))) (by simp), ?_⟩; intro _ e; replace hs := Sat.wr hs (by (repeat (first | exact At.z | apply At.s))) e; clear e; simp only [put, splice, List.set] at hs))
 refine rMay_sp c hs ?_
 intro h1 hs
 unfold Cfg.may?
 by_cases hm : c.may
 case neg =>
  rw [if_neg hm, if_pos (by decide)]
  exact k1 hm _ hs.drop.drop
 rw [if_pos hm, if_neg (by decide)]
 (repeat first | refine ⟨_, Sat.ld hs (by (repeat (first | exact At.z | apply At.s))) (by rfl), ?_⟩ | refine ⟨_, _, _, Sat.ld hs (by (repeat (first | exact At.z | apply At.s))) (by rfl), ?_⟩ | (intro _ _ hn; replace hs := Sat.new hs hn; clear hn) | refine ⟨Sat.cs hs (by (repeat (first | exact At.z | apply At.s))) (by rfl), ?_⟩ | (refine ⟨Sat.can hs (by (repeat (first | exact At.z | apply At.s))) (by simp), ?_⟩; intro _ e; replace hs := Sat.wr hs (by (repeat (first | exact At.z | apply At.s))) e; clear e; simp only [put, splice, List.set] at hs))
 refine Fits_sp (a := a) (b := b) (c' := c') c hm hs (fun h' hs' => rd _ hs'.drop.drop) ?_ ?_
 ·intro nf h2 hs
  rw [if_pos (by decide)]
  exact k2 hm nf _ hs.drop.drop
 intro ly h2 hs
 rw [if_neg (by decide)]
 have ok := layC_ok hm ly ty
 (repeat first | refine ⟨_, Sat.ld hs (by (repeat (first | exact At.z | apply At.s))) (by rfl), ?_⟩ | refine ⟨_, _, _, Sat.ld hs (by (repeat (first | exact At.z | apply At.s))) (by rfl), ?_⟩ | (intro _ _ hn; replace hs := Sat.new hs hn; clear hn) | refine ⟨Sat.cs hs (by (repeat (first | exact At.z | apply At.s))) (by rfl), ?_⟩ | (refine ⟨Sat.can hs (by (repeat (first | exact At.z | apply At.s))) (by simp), ?_⟩; intro _ e; replace hs := Sat.wr hs (by (repeat (first | exact At.z | apply At.s))) e; clear e; simp only [put, splice, List.set] at hs))
 refine CopyState_sp (a := a) (b := b) (c := c') (s := s) hs (fun h' hs' => rd _ hs'.drop.drop) ok.small ?_
 intro a2 b2 c2 h5 hs
 replace hs : Sat h0 (matE 32 a2 s.pages :: sE b2 1 (ints .i64 s.erases) :: sE c2 1 (bools s.blown) :: blk n2 [a.v, b.v, c'.v] :: blk n1 [.int .i64 c.cells, .int .i64 c.slots, .int .i64 c.fuses, .int .i64 c.step, .int .i64 c.keys, .int .i64 c.erases, .int .i64 c.area] :: A) h5 := hs
 (repeat first | refine ⟨_, Sat.ld hs (by (repeat (first | exact At.z | apply At.s))) (by rfl), ?_⟩ | refine ⟨_, _, _, Sat.ld hs (by (repeat (first | exact At.z | apply At.s))) (by rfl), ?_⟩ | (intro _ _ hn; replace hs := Sat.new hs hn; clear hn) | refine ⟨Sat.cs hs (by (repeat (first | exact At.z | apply At.s))) (by rfl), ?_⟩ | (refine ⟨Sat.can hs (by (repeat (first | exact At.z | apply At.s))) (by simp), ?_⟩; intro _ e; replace hs := Sat.wr hs (by (repeat (first | exact At.z | apply At.s))) e; clear e; simp only [put, splice, List.set] at hs))
 refine k3 hm ly _ _ ?_
 replace hs := hs.sl_nil 1 none
 replace hs := Sat.front hs (e := slE _ _ _ 1 (bools _)) (by (repeat (first | exact At.z | apply At.s)))
 replace hs := Sat.front hs (e := slE _ _ _ 1 (ints .i64 _)) (by (repeat (first | exact At.z | apply At.s)))
 replace hs := Sat.front hs (e := matE 32 _ _) (by (repeat (first | exact At.z | apply At.s)))
 replace hs := Sat.front hs (e := blk _ [_, _, _, _, _, _, _, _, _, _, _, _, _, _]) (by (repeat (first | exact At.z | apply At.s)))
 simp only [del] at hs
 exact (ref_make (C := layC c s) (a := a2) (b := b2) (c := c2) (m := (none, 0, 0)) (ms := []) ok (by intro n hn; simp at hn) (by simp) (fun _ => rfl) hs).sub (by (repeat (first | exact List.Sublist.refl _ | apply List.Sublist.cons_cons | apply List.Sublist.cons)))
end
end Go.Proofs.YtaglicdidpgkpaaGreatDoor
end

/- Contracts of the chip's statements: a state is written over. Own work. -/
section
set_option linter.unusedVariables false
namespace Go.Proofs.YtaglicdidpgkpaaGreatDoor
open Go Go.Vc

section
variable {h0 h : H} {A : List Ent} {i p : Nat} {C : Cm}
end
end Go.Proofs.YtaglicdidpgkpaaGreatDoor

/- Contracts of the chip's statements: pairs of chips. Own work. -/
set_option maxRecDepth 100000
set_option linter.unusedVariables false
namespace Go.Proofs.YtaglicdidpgkpaaGreatDoor
open Go Go.Vc

section
variable {h0 h : H} {A : List Ent} {i j p r : Nat} {C : Cm}
theorem chip_ok (hs : Sat h0 A h) (ci : At A i (chipE p C)) : C.ok := by
 obtain ⟨w, ok, _⟩ := (hs.front ci).open_
 exact ok
end
end Go.Proofs.YtaglicdidpgkpaaGreatDoor
end

/- Contracts of the chip's statements: a step. Own work. -/
section
set_option maxRecDepth 100000
set_option linter.unusedVariables false
namespace Go.Proofs.YtaglicdidpgkpaaGreatDoor
open Go Go.Vc

structure Stp where
 kind : Int
 a : Int
 b : Int
 x : List Int
 mask : List Int
structure Stp.ok (s : Stp) : Prop where
 a : -(2 ^ 63) ≤ s.a ∧ s.a < 2 ^ 63
 x : s.x.length = 32
 mb : bytesOk s.mask
 ml : s.mask.length + 4096 ≤ 2 ^ 47
section
variable {h0 h : H} {A : List Ent} {i j p r : Nat} {C : Cm}
end
end Go.Proofs.YtaglicdidpgkpaaGreatDoor

/- Contracts of the chip's statements: games; calls whose answers are fixed. Own work. -/
set_option maxRecDepth 100000
set_option linter.unusedVariables false
namespace Go.Proofs.YtaglicdidpgkpaaGreatDoor
open Go Go.Vc

section
variable {h0 h : H} {A : List Ent} {i j p r : Nat} {C : Cm}
structure ScriptRd (h : H) (p : Option Addr) (l : Nat) (sc : List Stp) : Prop where
 len : sc.length = l
 small : l < 2 ^ 62
 el : ∀ i (hi : i < sc.length), ∃ (q : Addr) (mp : Option Addr) (ml mc : Nat), p = some q ∧ hc h (q.add (i * 36)) = some (.int .i64 sc[i].kind) ∧ hc h ((q.add (i * 36)).add 1) = some (.int .i64 sc[i].a) ∧
  hc h ((q.add (i * 36)).add 2) = some (.int .i64 sc[i].b) ∧ hrow h ((q.add (i * 36)).add 3) .u8 sc[i].x ∧ hc h ((q.add (i * 36)).add 35) = some (.slice mp ml mc) ∧ hsv h mp 1 ml (ints .u8 sc[i].mask) ∧ sc[i].ok
end
end Go.Proofs.YtaglicdidpgkpaaGreatDoor

/- Contracts of the chip's statements: ChipLays. Own work. -/
set_option maxRecDepth 100000
set_option linter.unusedVariables false
namespace Go.Proofs.YtaglicdidpgkpaaGreatDoor
open Go Go.Vc

section
variable {h0 h : H} {A : List Ent} {i j p r : Nat} {C : Cm}
end
end Go.Proofs.YtaglicdidpgkpaaGreatDoor
end
