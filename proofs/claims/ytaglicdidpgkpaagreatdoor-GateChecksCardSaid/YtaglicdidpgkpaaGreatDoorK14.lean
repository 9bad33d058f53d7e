/- GateChecks: what is proved and its parts, laid together by a program of ours: Gt1 Im3 Gt2 Gt3 GtW Gt4 Tq5 Gt5 RwGateChecks -/
import Derived.Test.YtaglicdidpgkpaaGreatDoorK13
set_option autoImplicit false
set_option linter.all false
/- The gate: whether an image may be started; the program. Own work. -/
section
set_option maxRecDepth 100000
set_option linter.unusedVariables false
namespace Go.Proofs.YtaglicdidpgkpaaGreatDoor
open Go Go.Vc
attribute [local irreducible] macM

def gateM (C : Cm) (L : List Sec) (bs : List Int) : Int :=
 if C.out = true then 8 else if (parseW bs).1 ≠ 0 then (parseW bs).1
 else if C.cfg.slots ≤ bs.getD 5 0 then 5
 else match L.find? (fun x => x.1 == bs.getD 6 0) with
  | none => 13
  | some s => if C.cfg.keys ≤ bs.getD 6 0 then 13 else if (revokedM C (bs.getD 6 0)).1 = true then 14
   else if macM s.2 (bs.take (bs.length - 32)) ≠ (bs.drop (bs.length - 32)).take 32 then 15
   else if num4 bs 8 < (sRead C (bs.getD 5 0)).1 then 16 else if lastM C.cfg < num4 bs 8 then 16 else 0
theorem head_all {bs : List Int} : ∀ (m x : Nat), headW bs m x = none → ∀ y, x ≤ y → y < x + m → mayB y (bs.getD y 0) = true
 | 0, x, _, y, h1, h2 => by omega
 | m + 1, x, h, y, h1, h2 => by
  unfold headW at h
  by_cases c : x = bs.length
  ·rw [if_pos c] at h; cases h
  rw [if_neg c] at h
  by_cases g : mayB x (bs.getD x 0) = true
  ·rw [if_pos g] at h
   by_cases e : y = x
   ·rw [e]; exact g
   ·exact head_all m (x + 1) h y (by omega) (by omega)
  ·rw [if_neg g] at h; cases h
theorem parse_ok {bs : List Int} (hb : bytesOk bs) {n : Nat} (h : parseW bs = (0, 0)) (hn : num4 bs 12 = n) : bs.length = 48 + n ∧ (0 ≤ bs.getD 5 0 ∧ bs.getD 5 0 < 8) ∧ (0 ≤ bs.getD 6 0 ∧ bs.getD 6 0 < 64) ∧ n ≤ 524240 := by
 unfold parseW at h
 by_cases c1 : 524288 < bs.length
 ·rw [if_pos c1] at h; injection h with h; cases h
 rw [if_neg c1] at h
 have hh : headW bs 16 0 = none := by
  cases e : headW bs 16 0 with
  | none => rfl
  | some w =>
   rw [e] at h
   dsimp only at h
   exfalso
   have key : ∀ m x, headW bs m x = some w → w.1 ≠ 0 := by
    intro m
    induction m with
    | zero => intro x y; cases y
    | succ m ih =>
     intro x y
     unfold headW at y
     by_cases c : x = bs.length
     ·rw [if_pos c] at y; injection y with y; rw [← y]; exact (by decide : (6 : Int) ≠ 0)
     rw [if_neg c] at y
     by_cases g : mayB x (bs.getD x 0) = true
     ·rw [if_pos g] at y; exact ih _ y
     ·rw [if_neg g] at y; injection y with y; rw [← y]; exact (by decide : (5 : Int) ≠ 0)
   have := key 16 0 e
   rw [h] at this
   exact this rfl
 rw [hh] at h
 dsimp only at h
 have m5 := head_all 16 0 hh 5 (by decide) (by decide)
 have m6 := head_all 16 0 hh 6 (by decide) (by decide)
 have e5 : bs.getD 5 0 < 8 := by
  have : mayB 5 (bs.getD 5 0) = decide (bs.getD 5 0 < 8) := rfl
  rw [this] at m5; exact of_decide_eq_true m5
 have e6 : bs.getD 6 0 < 64 := by
  have : mayB 6 (bs.getD 6 0) = decide (bs.getD 6 0 < 64) := rfl
  rw [this] at m6; exact of_decide_eq_true m6
 have b5 := byte_getD hb 5
 have b6 := byte_getD hb 6
 unfold isByte at b5 b6
 rw [hn] at h
 by_cases c2 : (524240 : Int) < (n : Int)
 ·rw [if_pos c2] at h; injection h with h; cases h
 rw [if_neg c2] at h
 by_cases c3 : (bs.length : Int) < 48 + (n : Int)
 ·rw [if_pos c3] at h; injection h with h; cases h
 rw [if_neg c3] at h
 by_cases c4 : 48 + (n : Int) < bs.length
 ·rw [if_pos c4] at h; injection h with h; cases h
 exact ⟨by omega, ⟨b5.1, e5⟩, ⟨b6.1, e6⟩, by omega⟩
theorem sread_err {C : Cm} (ho : ¬ C.out = true) {slot : Int} (hs : 0 ≤ slot) : (sRead C slot).2 = if C.cfg.slots ≤ slot then 2 else 0 := by
 have a : askedM C slot C.cfg.slots = if C.cfg.slots ≤ slot then 2 else 0 := by unfold askedM; rw [if_neg ho, if_neg (by omega)]
 unfold sRead
 rw [a]
 by_cases g : C.cfg.slots ≤ slot
 ·rw [if_pos g, if_pos (by decide)]
 ·rw [if_neg g, if_neg (by decide)]
theorem callFn_of {f : FuncId} {run : Run} {c : Array Value} {ds : List DV} {Q : List DV → H → Prop} {h : H} (hr : RunOk PP f run) (hd : ∀ x, x ∈ ds → x.ok) (hc : c.toList = ds.map DV.flat) (hrun : run ds Q h) : callFn PP (.func (.func f) (Array.mk []) c) [] Q h := by
 refine ⟨f, Array.mk [], c, rfl, ?_⟩
 have := hr ds Q h hd hrun
 rw [← hc] at this
 simpa using this
theorem addrs_ok (l : List Addr) : ∀ x, x ∈ l.map DV.addr → x.ok := by
 intro x hx
 obtain ⟨a, _, rfl⟩ := List.mem_map.1 hx
 trivial
section
variable {h0 h : H} {A : List Ent} {i j p r b s m : Nat} {C : Cm}
theorem kcheck_sp {Q : Bool → Int → H → Prop} {key : Int} {bb tag : List Int} {bp : Option Addr} {bl bc : Nat} {R : List SR} {x : SR} (hs : Sat h0 A h) (cr : At A i (blk r [.map (some m)])) (cm : At A j (mapE m (R.map SR.ent))) (gd : SR.good R)
  (rR : ∀ x, x ∈ R → ∀ h', Sat h0 A h' → hsv h' x.p 1 x.bytes.length (ints .u8 x.bytes)) (hx : SR.at_ R key = some x) (ht : tag.length = 32) (htb : isBy tag) (hbc : bl ≤ bc) (hbl : bl < 2 ^ 40)
  (rb : ∀ h', Sat h0 A h' → hsv h' bp 1 bl (ints .u8 bb)) (k : ∀ h', Sat h0 A h' → Q (decide (macM x.bytes bb = tag)) 0 h') : F_keys_Ring_Check ⟨r, 0, none⟩ key bp bl bc tag Q h := by
 unfold F_keys_Ring_Check G_keys_Ring_Check
 try simp only [add_mk, Nat.zero_add, List.append_nil]
 have hx2 : x ∈ R := List.mem_of_find?_eq_some hx
 have hg := gd x hx2
 have ml : mlook (.int .i64 key) (.one (.slice none 0 0)) (R.map SR.ent) = some (.one (.slice x.p x.bytes.length x.c), true) := by rw [mlook_at, hx]
 intro tb _ hn; replace hs := Sat.new hs hn; clear hn
 refine sign_sp hs cr.s cm.s ml hg.2.1 (by omega) hbc hbl (fun h' hs' => rR x hx2 _ hs'.drop) (fun h' hs' => rb _ hs'.drop) ?_
 intro h3 hs
 intro nb _ hn; replace hs := Sat.new hs hn; clear hn
 refine ⟨Sat.can hs (i := 0) .z (by simp [zeros]), ?_⟩
 intro h4 e
 replace hs := Sat.wra (xs := ints .u8 (macM x.bytes bb)) hs (i := 0) .z e (by simp [zeros, macM_len])
 clear e
 simp only [put_zero] at hs
 rw [if_neg (by decide)]
 refine equal_sp (isBy_mac _ _) htb (macM_len _ _) ht (hs.row0 (i := 0) .z) (hs.row0 (i := 1) (.s .z)) ?_
 exact k _ hs.drop.drop
theorem ibody_sp {Q : Option Addr → Nat → Nat → H → Prop} {bs : List Int} {q : Option Addr} {l c : Nat} (hs : Sat h0 A h) (rd : hsv h q 1 l (ints .u8 bs)) (hl : 32 ≤ l) (hlc : l ≤ c) (hl2 : l < 2 ^ 40)
  (k : ∀ p' c' h', l - 32 ≤ c' → Sat h0 (slE p' (l - 32) c' 1 (ints .u8 (bs.take (l - 32))) :: A) h' → Q p' (l - 32) c' h') : F_image_Body q l c Q h := by
 unfold F_image_Body G_image_Body
 have hbl : bs.length = l := by have := rd.1; simpa using this
 rw [ltI_eq, if_neg (by rw [decide_eq_true_iff]; omega)]
 have e : IntKind.i64.wrap ((l : Int) - 32) = ((l - 32 : Nat) : Int) := by rw [wrap_id (by omega)]; omega
 rw [e]
 refine ⟨by omega, by omega, ?_⟩
 simp only [Int.toNat_natCast, Nat.sub_zero]
 have R := subRd (o := 0) (n := l - 32) (m := c) rd (by omega) (by omega)
 rw [List.drop_zero] at R
 refine ⟨_, R, ?_⟩
 replace hs := hs.sl_nil 1 none
 refine Sat.app hs (i := 0) (vs := ints .u8 (bs.take (l - 32))) .z (by simp; omega) rfl (ints_one _ _) (by dsimp only; omega) ?_
 intro p' c' h' hs
 simp only [put_zero, List.nil_append, Nat.zero_add] at hs ⊢
 exact k p' c' h' (capS hs (i := 0) .z) hs
theorem ret0 {Q : Int → Int → Int → Option Addr → Nat → Nat → List Int → Int → H → Prop} {nb : Nat} {a1 a2 a3 : Int} {x : Sl} {t : List Int} (e : Int) (ht : t.length = 32) (hs : Sat h0 A h) (a : At A i (blk nb (imgL a1 a2 a3 x t))) (k : ∀ h', Sat h0 (put A i (blk nb (imgL 0 0 0 (none, 0, 0) (zeros 32)))) h' → Q 0 0 0 none 0 0 (zeros 32) e h') :
  hcan h ⟨nb, 0, none⟩ 36 ∧ ∀ h1, h1 = hwr h ⟨nb, 0, none⟩ (.int .i64 0 :: .int .i64 0 :: .int .i64 0 :: .slice none 0 0 :: ints .u8 (zeros 32)) → ∃ i1 : Int, hc h1 ⟨nb, 0, none⟩ = some (.int .i64 i1) ∧ ∃ i2 : Int, hc h1 ⟨nb, 1, none⟩ = some (.int .i64 i2) ∧ ∃ i3 : Int, hc h1 ⟨nb, 2, none⟩ = some (.int .i64 i3) ∧
   ∃ (o : Option Addr) (n m : Nat), hc h1 ⟨nb, 3, none⟩ = some (.slice o n m) ∧ ∃ l : List Int, l.length = 32 ∧ hrow h1 ⟨nb, 4, none⟩ .u8 l ∧ Q i1 i2 i3 o n m l e h1 := by
 refine ⟨Sat.can hs a (by simp [ht]), ?_⟩
 intro h1 e1
 replace hs := Sat.wra (xs := imgL 0 0 0 (none, 0, 0) (zeros 32)) hs a e1 (by simp [ht, zeros])
 exact ⟨_, hs.ld (a.put _) rfl, _, hs.ld (a.put _) rfl, _, hs.ld (a.put _) rfl, _, _, _, hs.ld (a.put _) rfl, _, zeros_len 32, img_row hs (a.put _) (zeros_len 32), k _ hs⟩
theorem gate_sp {Q : Int → Int → Int → Option Addr → Nat → Nat → List Int → Int → H → Prop} {mm rr jm jr : Nat} {bs : List Int} {q : Option Addr} {l c : Nat} {R : List SR} (hg : hc h0 ⟨0, 0, none⟩ = some errTypeV) (hs : Sat h0 A h) (ci : At A i (chipE p C)) (cl' : At A j (logE r p)) (st : At A m (storeE s p r))
  (cr : At A jr (blk rr [.map (some mm)])) (cm : At A jm (mapE mm (R.map SR.ent))) (gd : SR.good R) (rR : ∀ x, x ∈ R → ∀ h', Sat h0 A h' → hsv h' x.p 1 x.bytes.length (ints .u8 x.bytes))
  (rd : ∀ h', Sat h0 A h' → hsv h' q 1 l (ints .u8 bs)) (hb : bytesOk bs) (hlc : l ≤ c) (hl : l < 2 ^ 50)
  (k1 : ∀ e, e = gateM C (R.map SR.kv) bs → e ≠ 0 → ∀ h', Sat h0 A h' → Q 0 0 0 none 0 0 (zeros 32) e h')
  (k2 : ∀ (own : Sl) (n : Nat), gateM C (R.map SR.kv) bs = 0 → parseW bs = (0, 0) → num4 bs 12 = n → bs.length = 48 + n → ∀ h', Sat h0 (sE own 1 (ints .u8 bs) :: A) h' → Q (bs.getD 5 0) (bs.getD 6 0) (num4 bs 8) (subAddr own.1 16 (16 + n) 1) n n ((bs.drop (16 + n)).take 32) 0 h') :
  F_gate_Check ⟨s, 0, none⟩ ⟨rr, 0, none⟩ q l c Q h := by
 unfold F_gate_Check G_gate_Check
 try simp only [add_mk, Nat.zero_add, List.append_nil]
 have hbl : bs.length = l := by have := (rd _ hs).1; simpa using this
 have ok := chip_ok hs ci
 have w1 : IntKind.i64.wrap (0 + 1) = 1 := by decide
 have w2 : IntKind.i64.wrap (1 + 1) = 2 := by decide
 have w3 : IntKind.i64.wrap (2 + 1) = 3 := by decide
 have w4 : IntKind.i64.wrap (3 + 1) = 4 := by decide
 have w5 : IntKind.i64.wrap (4 + 1) = 5 := by decide
 have w6 : IntKind.i64.wrap (5 + 1) = 6 := by decide
 obtain ⟨G, hG⟩ : ∃ G, G = gateM C (R.map SR.kv) bs := ⟨_, rfl⟩
 have hG0 := hG
 rw [← hG] at k1 k2
 unfold gateM at hG
 intro n13 _ hn; replace hs := Sat.new hs hn; clear hn
 intro n16 _ hn; replace hs := Sat.new hs hn; clear hn
 intro n19 _ hn; replace hs := Sat.new hs hn; clear hn
 intro n22 _ hn; replace hs := Sat.new hs hn; clear hn
 intro n25 _ hn; replace hs := Sat.new hs hn; clear hn
 intro n28 _ hn; replace hs := Sat.new hs hn; clear hn
 obtain ⟨FS, hFS⟩ : ∃ FS : List Value, FS = [.func (.func id_gate_Check_1) (Array.mk []) (Array.mk [.pointer (some ⟨n13, 0, none⟩)]), .func (.func id_gate_Check_2) (Array.mk []) (Array.mk [.pointer (some ⟨n19, 0, none⟩), .pointer (some ⟨n25, 0, none⟩)]), .func (.func id_gate_Check_3) (Array.mk []) (Array.mk [.pointer (some ⟨n13, 0, none⟩), .pointer (some ⟨n25, 0, none⟩)]), .func (.func id_gate_Check_4) (Array.mk []) (Array.mk [.pointer (some ⟨n13, 0, none⟩), .pointer (some ⟨n25, 0, none⟩), .pointer (some ⟨n16, 0, none⟩)]), .func (.func id_gate_Check_5) (Array.mk []) (Array.mk [.pointer (some ⟨n16, 0, none⟩), .pointer (some ⟨n25, 0, none⟩), .pointer (some ⟨n19, 0, none⟩)]), .func (.func id_gate_Check_6) (Array.mk []) (Array.mk [.pointer (some ⟨n13, 0, none⟩), .pointer (some ⟨n25, 0, none⟩)])] := ⟨_, rfl⟩
 rw [← hFS] at hs
 replace hs : Sat h0 (blk n28 FS :: blk n25 (imgL 0 0 0 (none, 0, 0) (zeros 32)) :: blk n22 (imgL 0 0 0 (none, 0, 0) (zeros 32)) :: blk n19 [.slice q l c] :: blk n16 [.pointer (some ⟨rr, 0, none⟩)] :: blk n13 [.pointer (some ⟨s, 0, none⟩)] :: A) _ := hs
 intro J31 hJ31
 apply hJ31
 rw [ltI_eq, if_pos (by decide)]
 refine ⟨_, rfl, by decide, by decide, _, hs.ld (o := 0) (i := 0) .z (by rw [hFS]; rfl), rfl, ?_⟩
 refine callFn_of (ds := [⟨n13, 0, none⟩].map DV.addr) R_gate_Check_1 (addrs_ok _) rfl ?_
 show F_gate_Check_1 ⟨n13, 0, none⟩ _ _
 unfold F_gate_Check_1 G_gate_Check_1
 refine ⟨_, hs.ld (i := 5) (.s (.s (.s (.s (.s .z))))) rfl, _, rfl, ?_⟩
 refine sActive_sp hs ci.s.s.s.s.s.s cl'.s.s.s.s.s.s st.s.s.s.s.s.s ?_
 intro h1 hs
 refine ⟨_, _, rfl, _, rfl, rfl, ?_⟩
 rw [sActive_out ok]
 by_cases ho : C.out = true
 ·rw [if_pos ho] at hG ⊢
  rw [if_pos (by decide)]
  refine ret0 8 (zeros_len 32) hs (i := 2) (.s (.s .z)) ?_
  intro h2 hs
  exact k1 8 hG.symm (by decide) _ hs.drop.drop.drop.drop.drop.drop
 rw [if_neg ho] at hG ⊢
 rw [if_neg (by decide), w1]
 -- the image
 apply hJ31
 rw [ltI_eq, if_pos (by decide)]
 refine ⟨_, rfl, by decide, by decide, _, hs.ld (o := 1) (i := 0) .z (by rw [hFS]; rfl), rfl, ?_⟩
 refine callFn_of (ds := [⟨n19, 0, none⟩, ⟨n25, 0, none⟩].map DV.addr) R_gate_Check_2 (addrs_ok _) rfl ?_
 show F_gate_Check_2 ⟨n19, 0, none⟩ ⟨n25, 0, none⟩ _ _
 unfold F_gate_Check_2 G_gate_Check_2
 try simp only [add_mk, Nat.zero_add, List.append_nil]
 refine ⟨_, _, _, hs.ld (i := 3) (.s (.s (.s .z))) rfl, ?_⟩
 refine Parse_sp hs (fun h' hs' => rd _ hs'.drop.drop.drop.drop.drop.drop) hb hlc hl ?_ ?_
 ·intro e at_ w h2 hp he hs
  refine ⟨Sat.can hs (i := 2) (.s (.s .z)) (by simp [zeros]), ?_⟩
  intro h3 e3
  replace hs := Sat.wra (xs := imgL 0 0 0 (none, 0, 0) (zeros 32)) hs (i := 2) (.s (.s .z)) e3 rfl
  clear e3
  simp only [put_succ, put_zero] at hs
  refine ⟨rfl, ?_⟩
  rw [if_neg (nIF _ _)]
  intro n20 _ hn; replace hs := Sat.new hs hn; clear hn
  refine ⟨Sat.can hs (i := 0) .z (by simp), ?_⟩
  intro h4 e4
  replace hs := Sat.wra hs (i := 0) .z e4 rfl
  clear e4
  simp only [put_zero] at hs
  unfold F_errors_As
  refine Or.inl (Or.inr ⟨⟨w, 0, none⟩, n20, 0, e, rfl, rfl, hc_ext hs.ex hg (fun y => y), hs.ld (i := 0) .z rfl, ?_, hs.ld (i := 1) (.s .z) rfl, ?_⟩)
  ·have := (Sat.can hs (i := 0) (o := 0) (n := 1) .z (by simp)) 0 (by decide)
   rw [add_zero] at this
   exact this.2
  intro b1 _ hn; replace hs := Sat.new hs hn; clear hn
  intro b2 _ hn; replace hs := Sat.new hs hn; clear hn
  intro b3 _ hn; replace hs := Sat.new hs hn; clear hn
  intro b4 _ hn; replace hs := Sat.new hs hn; clear hn
  intro h5 e5
  replace hs := Sat.wr hs (i := 4) (.s (.s (.s (.s .z)))) e5
  clear e5
  simp only [put_succ, put_zero] at hs
  replace hs := hs.drop.drop.drop.drop
  replace hs : Sat h0 (blk n20 [.int .i64 e] :: _) h5 := hs
  refine ⟨_, hs.ld (i := 0) .z rfl, ?_⟩
  refine ⟨_, _, rfl, _, rfl, rfl, ?_⟩
  rw [if_pos (by simpa using he)]
  replace hs := hs.drop.drop
  refine ret0 e (zeros_len 32) hs (i := 2) (.s (.s .z)) ?_
  intro h6 hs
  refine k1 e ?_ he _ hs.drop.drop.drop.drop.drop.drop
  rw [hp, if_pos he] at hG
  exact hG.symm
 intro own n h2 hp hnn hs
 obtain ⟨pl, p5, p6, pn⟩ := parse_ok hb hp hnn
 have htl : ((bs.drop (16 + n)).take 32).length = 32 := by rw [List.length_take, List.length_drop]; omega
 have htb : isBy ((bs.drop (16 + n)).take 32) := drop_bytes hb _ _
 refine ⟨Sat.can hs (i := 2) (.s (.s .z)) (by simp [zeros]), ?_⟩
 intro h3 e3
 replace hs := Sat.wra (xs := imgL (bs.getD 5 0) (bs.getD 6 0) (num4 bs 8) (subAddr own.1 16 (16 + n) 1, n, n) ((bs.drop (16 + n)).take 32)) hs (i := 2) (.s (.s .z)) e3 (by rw [img_len htl]; rfl)
 clear e3
 simp only [put_succ, put_zero] at hs
 refine ⟨rfl, ?_⟩
 rw [if_pos (by rfl)]
 refine ⟨_, _, rfl, _, rfl, rfl, ?_⟩
 rw [if_neg (by decide), w2]
 rw [hp, if_neg (by decide)] at hG
 -- the slot
 apply hJ31
 rw [ltI_eq, if_pos (by decide)]
 refine ⟨_, rfl, by decide, by decide, _, hs.ld (o := 2) (i := 1) (.s .z) (by rw [hFS]; rfl), rfl, ?_⟩
 refine callFn_of (ds := [⟨n13, 0, none⟩, ⟨n25, 0, none⟩].map DV.addr) R_gate_Check_3 (addrs_ok _) rfl ?_
 show F_gate_Check_3 ⟨n13, 0, none⟩ ⟨n25, 0, none⟩ _ _
 unfold F_gate_Check_3 G_gate_Check_3
 refine ⟨_, hs.ld (i := 6) (.s (.s (.s (.s (.s (.s .z)))))) rfl, _, hs.ld (i := 2) (.s (.s .z)) rfl, _, rfl, ?_⟩
 refine sRead_sp hs ci.s.s.s.s.s.s.s cl'.s.s.s.s.s.s.s st.s.s.s.s.s.s.s _ ?_
 intro h4 hs
 have er := sread_err ho p5.1
 by_cases gs : C.cfg.slots ≤ bs.getD 5 0
 ·rw [if_pos gs] at er hG
  rw [er, if_pos (by decide)]
  refine ⟨_, _, rfl, _, rfl, rfl, ?_⟩
  rw [if_pos (by decide)]
  refine ret0 5 (zeros_len 32) hs (i := 3) (.s (.s (.s .z))) ?_
  intro h6 hs
  exact k1 5 hG.symm (by decide) _ hs.drop.drop.drop.drop.drop.drop.drop
 rw [if_neg gs] at er hG
 rw [er, if_neg (by decide)]
 refine ⟨_, _, rfl, _, rfl, rfl, ?_⟩
 rw [if_neg (by decide), w3]
 -- the key
 apply hJ31
 rw [ltI_eq, if_pos (by decide)]
 refine ⟨_, rfl, by decide, by decide, _, hs.ld (o := 3) (i := 1) (.s .z) (by rw [hFS]; rfl), rfl, ?_⟩
 refine callFn_of (ds := [⟨n13, 0, none⟩, ⟨n25, 0, none⟩, ⟨n16, 0, none⟩].map DV.addr) R_gate_Check_4 (addrs_ok _) rfl ?_
 show F_gate_Check_4 ⟨n13, 0, none⟩ ⟨n25, 0, none⟩ ⟨n16, 0, none⟩ _ _
 unfold F_gate_Check_4 G_gate_Check_4
 try simp only [add_mk, Nat.zero_add]
 refine ⟨_, hs.ld (i := 6) (.s (.s (.s (.s (.s (.s .z)))))) rfl, _, hs.ld (i := 2) (.s (.s .z)) rfl, _, rfl, ?_⟩
 refine sRevoked_sp hs ci.s.s.s.s.s.s.s st.s.s.s.s.s.s.s _ ?_
 intro h5 hs
 refine ⟨_, hs.ld (i := 5) (.s (.s (.s (.s (.s .z))))) rfl, _, hs.ld (i := 2) (.s (.s .z)) rfl, _, rfl, ?_⟩
 refine hasN_sp _ hs cr.s.s.s.s.s.s.s cm.s.s.s.s.s.s.s ?_
 have ekv := at_kv R (bs.getD 6 0)
 cases ex : SR.at_ R (bs.getD 6 0) with
 | none =>
  rw [← ekv, ex] at hG
  rw [if_pos (by simp)]
  refine ⟨_, _, rfl, _, rfl, rfl, ?_⟩
  rw [if_pos (by decide)]
  refine ret0 13 (zeros_len 32) hs (i := 3) (.s (.s (.s .z))) ?_
  intro h6 hs
  exact k1 13 hG.symm (by decide) _ hs.drop.drop.drop.drop.drop.drop.drop
 | some x =>
 rw [← ekv, ex] at hG
 dsimp only [Option.map_some] at hG
 rw [if_neg (by simp)]
 have rv := revoked_err ho p6.1
 by_cases gk : C.cfg.keys ≤ bs.getD 6 0
 ·rw [if_pos gk] at rv hG
  rw [rv, if_pos (by decide)]
  refine ⟨_, _, rfl, _, rfl, rfl, ?_⟩
  rw [if_pos (by decide)]
  refine ret0 13 (zeros_len 32) hs (i := 3) (.s (.s (.s .z))) ?_
  intro h6 hs
  exact k1 13 hG.symm (by decide) _ hs.drop.drop.drop.drop.drop.drop.drop
 rw [if_neg gk] at rv hG
 rw [rv, if_neg (by decide)]
 by_cases gr : (revokedM C (bs.getD 6 0)).1 = true
 ·rw [if_pos gr] at hG ⊢
  refine ⟨_, _, rfl, _, rfl, rfl, ?_⟩
  rw [if_pos (by decide)]
  refine ret0 14 (zeros_len 32) hs (i := 3) (.s (.s (.s .z))) ?_
  intro h6 hs
  exact k1 14 hG.symm (by decide) _ hs.drop.drop.drop.drop.drop.drop.drop
 rw [if_neg gr] at hG ⊢
 refine ⟨_, _, rfl, _, rfl, rfl, ?_⟩
 rw [if_neg (by decide), w4]
 -- the tag
 apply hJ31
 rw [ltI_eq, if_pos (by decide)]
 refine ⟨_, rfl, by decide, by decide, _, hs.ld (o := 4) (i := 1) (.s .z) (by rw [hFS]; rfl), rfl, ?_⟩
 refine callFn_of (ds := [⟨n16, 0, none⟩, ⟨n25, 0, none⟩, ⟨n19, 0, none⟩].map DV.addr) R_gate_Check_5 (addrs_ok _) rfl ?_
 show F_gate_Check_5 ⟨n16, 0, none⟩ ⟨n25, 0, none⟩ ⟨n19, 0, none⟩ _ _
 unfold F_gate_Check_5 G_gate_Check_5
 try simp only [add_mk, Nat.zero_add, List.append_nil]
 refine ⟨_, hs.ld (i := 5) (.s (.s (.s (.s (.s .z))))) rfl, _, hs.ld (i := 2) (.s (.s .z)) rfl, _, _, _, hs.ld (i := 4) (.s (.s (.s (.s .z)))) rfl, _, htl, img_row hs (.s (.s .z)) htl, ?_⟩
 refine ibody_sp hs (rd _ hs.drop.drop.drop.drop.drop.drop.drop) (by omega) hlc (by omega) ?_
 intro p' c' h6 hc' hs
 refine ⟨Sat.cs hs (i := 3) (.s (.s (.s .z))) (by show (List.drop 4 (imgL _ _ _ _ _)).take _ = _; rw [List.take_of_length_le (by simp [htl])]; rfl), Sat.cs hs (i := 3) (.s (.s (.s .z))) rfl, Sat.cs hs (i := 6) (.s (.s (.s (.s (.s (.s .z)))))) rfl, _, rfl, ?_⟩
 refine kcheck_sp (bb := bs.take (l - 32)) hs cr.s.s.s.s.s.s.s.s cm.s.s.s.s.s.s.s.s gd (fun y hy h' hs' => rR y hy _ hs'.drop.drop.drop.drop.drop.drop.drop.drop) ex htl htb hc' (by omega) (fun h' hs' => hs'.sv (i := 0) .z) ?_
 intro h7 hs
 replace hs := hs.drop
 have et : (bs.drop (bs.length - 32)).take 32 = (bs.drop (16 + n)).take 32 := by rw [show bs.length - 32 = 16 + n by omega]
 rw [hbl] at hG et
 rw [et] at hG
 by_cases gt : macM x.bytes (bs.take (l - 32)) = (bs.drop (16 + n)).take 32
 case neg =>
  rw [if_pos gt] at hG
  rw [if_pos (by simp [gt])]
  refine ⟨_, _, rfl, _, rfl, rfl, ?_⟩
  rw [if_pos (by decide)]
  refine ret0 15 (zeros_len 32) hs (i := 3) (.s (.s (.s .z))) ?_
  intro h6 hs
  exact k1 15 hG.symm (by decide) _ hs.drop.drop.drop.drop.drop.drop.drop
 rw [if_neg (by simpa using gt)] at hG
 rw [if_neg (by simp [gt]), if_neg (by decide)]
 refine ⟨_, _, rfl, _, rfl, rfl, ?_⟩
 rw [if_neg (by decide), w5]
 -- the version
 apply hJ31
 rw [ltI_eq, if_pos (by decide)]
 refine ⟨_, rfl, by decide, by decide, _, hs.ld (o := 5) (i := 1) (.s .z) (by rw [hFS]; rfl), rfl, ?_⟩
 refine callFn_of (ds := [⟨n13, 0, none⟩, ⟨n25, 0, none⟩].map DV.addr) R_gate_Check_6 (addrs_ok _) rfl ?_
 show F_gate_Check_6 ⟨n13, 0, none⟩ ⟨n25, 0, none⟩ _ _
 unfold F_gate_Check_6 G_gate_Check_6
 try simp only [add_mk, Nat.zero_add]
 refine ⟨_, hs.ld (i := 6) (.s (.s (.s (.s (.s (.s .z)))))) rfl, _, hs.ld (i := 2) (.s (.s .z)) rfl, _, rfl, ?_⟩
 refine sRead_sp hs ci.s.s.s.s.s.s.s cl'.s.s.s.s.s.s.s st.s.s.s.s.s.s.s _ ?_
 intro h8 hs
 rw [er, if_neg (by decide)]
 refine ⟨_, hs.ld (i := 2) (.s (.s .z)) rfl, ?_⟩
 rw [ltI_eq]
 by_cases gv : num4 bs 8 < (sRead C (bs.getD 5 0)).1
 ·rw [if_pos gv] at hG
  rw [if_pos (by simpa using gv)]
  refine ⟨_, _, rfl, _, rfl, rfl, ?_⟩
  rw [if_pos (by decide)]
  refine ret0 16 (zeros_len 32) hs (i := 3) (.s (.s (.s .z))) ?_
  intro h6 hs
  exact k1 16 hG.symm (by decide) _ hs.drop.drop.drop.drop.drop.drop.drop
 rw [if_neg gv] at hG
 rw [if_neg (by simpa using gv)]
 refine ⟨_, hs.ld (i := 2) (.s (.s .z)) rfl, _, hs.ld (i := 6) (.s (.s (.s (.s (.s (.s .z)))))) rfl, _, rfl, ?_⟩
 refine sLast_sp hs ci.s.s.s.s.s.s.s st.s.s.s.s.s.s.s ?_
 intro h9 hs
 refine ⟨Sat.cs hs (i := 2) (.s (.s .z)) rfl, ?_⟩
 rw [ltI_eq]
 by_cases gl : lastM C.cfg < num4 bs 8
 ·rw [if_pos gl] at hG
  rw [if_pos (by simpa using gl)]
  refine ⟨_, _, rfl, _, rfl, rfl, ?_⟩
  rw [if_pos (by decide)]
  refine ret0 16 (zeros_len 32) hs (i := 3) (.s (.s (.s .z))) ?_
  intro h6 hs
  exact k1 16 hG.symm (by decide) _ hs.drop.drop.drop.drop.drop.drop.drop
 rw [if_neg gl] at hG
 rw [if_neg (by simpa using gl)]
 refine ⟨_, _, rfl, _, rfl, rfl, ?_⟩
 rw [if_neg (by decide), w6]
 apply hJ31
 rw [ltI_eq, if_neg (by decide)]
 refine ⟨_, hs.ld (i := 2) (.s (.s .z)) rfl, _, hs.ld (i := 2) (.s (.s .z)) rfl, _, hs.ld (i := 2) (.s (.s .z)) rfl, _, _, _, hs.ld (i := 2) (.s (.s .z)) rfl, _, htl, img_row hs (.s (.s .z)) htl, ?_⟩
 refine ⟨Sat.can hs (i := 3) (.s (.s (.s .z))) (by simp [zeros]), ?_⟩
 intro h10 e10
 replace hs := Sat.wra (xs := imgL (bs.getD 5 0) (bs.getD 6 0) (num4 bs 8) (subAddr own.1 16 (16 + n) 1, n, n) ((bs.drop (16 + n)).take 32)) hs (i := 3) (.s (.s (.s .z))) e10 (by rw [img_len htl]; rfl)
 clear e10
 simp only [put_succ, put_zero] at hs
 refine ⟨_, hs.ld (i := 3) (.s (.s (.s .z))) rfl, _, hs.ld (i := 3) (.s (.s (.s .z))) rfl, _, hs.ld (i := 3) (.s (.s (.s .z))) rfl, _, _, _, hs.ld (i := 3) (.s (.s (.s .z))) rfl, _, htl, img_row hs (.s (.s (.s .z))) htl, ?_⟩
 exact k2 own n hG hp hnn pl _ (hs.sub (by
  refine List.Sublist.cons_cons _ ?_
  exact (((((List.sublist_cons_self _ _).trans (List.sublist_cons_self _ _)).trans (List.sublist_cons_self _ _)).trans (List.sublist_cons_self _ _)).trans (List.sublist_cons_self _ _)).trans (List.sublist_cons_self _ _)))
end
end Go.Proofs.YtaglicdidpgkpaaGreatDoor
end

/- Images: taken apart by the document. Own work. -/
section
set_option maxRecDepth 100000
set_option linter.unusedVariables false
namespace Go.Proofs.YtaglicdidpgkpaaGreatDoor
open Go Go.Vc

def tagTo (t : List Int) (n : Nat) : List Int := tab 32 fun x => if x < n then t.getD x 0 else 0
theorem tagTo_len (t : List Int) (n : Nat) : (tagTo t n).length = 32 := by simp [tagTo]
theorem tagTo_zero (t : List Int) : tagTo t 0 = zeros 32 := by
 unfold tagTo
 simp only [Nat.not_lt_zero, if_false]; rfl
theorem tagTo_all {t : List Int} (ht : t.length = 32) : tagTo t 32 = t := by
 refine ext_getD ((tagTo_len t 32).trans ht.symm) fun x hx => ?_
 rw [tagTo_len] at hx
 unfold tagTo
 rw [tab_getD _ hx, if_pos hx]
theorem tagTo_set (t : List Int) {n : Nat} (hn : n < 32) : (tagTo t n).set n (t.getD n 0) = tagTo t (n + 1) := by
 refine ext_getD (by simp [tagTo_len]) fun x hx => ?_
 rw [List.length_set, tagTo_len] at hx
 rw [set_getD]
 unfold tagTo
 rw [tab_getD _ hx, tab_getD _ hx]
 by_cases c : n = x
 ·subst c; rw [if_pos ⟨rfl, by simp; omega⟩, if_pos (by omega)]
 ·rw [if_neg (fun y => c y.1)]
  by_cases d : x < n
  ·rw [if_pos d, if_pos (by omega)]
  ·rw [if_neg d, if_neg (by omega)]
section
variable {h0 h : H} {A : List Ent} {i j p r b : Nat}
theorem img_s1 {a b' v w : Int} {x : Sl} {t : List Int} {n : Nat} (hn : n < t.length) : splice (imgL a b' v x t) (4 + n) [.int .u8 w] = imgL a b' v x (t.set n w) := by
 show (imgL a b' v x t).set (4 + n) (.int .u8 w) = _
 rw [show 4 + n = n + 1 + 1 + 1 + 1 by omega]
 simp only [imgL, List.set_cons_succ, ints_set]
theorem rParse_sp {Q : Int → Int → Int → Option Addr → Nat → Nat → List Int → Int → Int → H → Prop} {q : Option Addr} {l c : Nat} {bs : List Int} (hs : Sat h0 A h) (rd : ∀ h', Sat h0 A h' → hsv h' q 1 l (ints .u8 bs)) (hb : bytesOk bs) (hlc : l ≤ c) (hl : l < 2 ^ 50)
  (k1 : ∀ e at_ h', parseW bs = (e, at_) → e ≠ 0 → Sat h0 A h' → Q 0 0 0 none 0 0 (zeros 32) e at_ h')
  (k2 : ∀ (own : Sl) (n : Nat) h', parseW bs = (0, 0) → num4 bs 12 = n → own.2.1 = n → Sat h0 (sE own 1 (ints .u8 ((bs.drop 16).take n)) :: A) h' → Q (bs.getD 5 0) (bs.getD 6 0) (num4 bs 8) own.1 own.2.1 own.2.2 ((bs.drop (16 + n)).take 32) 0 0 h') :
  F_portcullisref11_Parse q l c Q h := by
 unfold F_portcullisref11_Parse G_portcullisref11_Parse
 try simp only [add_mk, Nat.zero_add, List.append_nil]
 have hbl : bs.length = l := by have := (rd _ hs).1; simpa using this
 intro n7 _ hn; replace hs := Sat.new hs hn; clear hn
 intro n10 _ hn; replace hs := Sat.new hs hn; clear hn
 replace hs : Sat h0 (blk n10 [.int .i64 0, .int .i64 0] :: blk n7 (imgL 0 0 0 (none, 0, 0) (zeros 32)) :: A) _ := hs
 have bad : ∀ e at_ h', parseW bs = (e, at_) → e ≠ 0 → Sat h0 (blk n10 [.int .i64 0, .int .i64 0] :: blk n7 (imgL 0 0 0 (none, 0, 0) (zeros 32)) :: A) h' → hcan h' ⟨n7, 0, none⟩ 36 ∧ ∀ h13, h13 = hwr h' ⟨n7, 0, none⟩ (imgL 0 0 0 (none, 0, 0) (zeros 32)) → hcan h13 ⟨n10, 0, none⟩ 2 ∧ ∀ h15, h15 = hwr h13 ⟨n10, 0, none⟩ [.int .i64 e, .int .i64 at_] →
   ∃ i15 : Int, hc h15 ⟨n7, 0, none⟩ = some (.int .i64 i15) ∧ ∃ i16 : Int, hc h15 ⟨n7, 1, none⟩ = some (.int .i64 i16) ∧ ∃ i17 : Int, hc h15 ⟨n7, 2, none⟩ = some (.int .i64 i17) ∧ ∃ (o18 : Option Addr) (n19 n20 : Nat), hc h15 ⟨n7, 3, none⟩ = some (.slice o18 n19 n20) ∧
    ∃ l21 : List Int, l21.length = 32 ∧ hrow h15 ⟨n7, 4, none⟩ .u8 l21 ∧ ∃ i24 : Int, hc h15 ⟨n10, 0, none⟩ = some (.int .i64 i24) ∧ ∃ i25 : Int, hc h15 ⟨n10, 1, none⟩ = some (.int .i64 i25) ∧ Q i15 i16 i17 o18 n19 n20 l21 i24 i25 h15 := by
  intro e at_ h' hw he hs
  refine ⟨Sat.can hs (i := 1) (.s .z) (by decide), ?_⟩
  intro h13 e13
  replace hs := Sat.wra hs (i := 1) (.s .z) e13 rfl
  simp only [put] at hs
  refine ⟨Sat.can hs (i := 0) .z (by decide), ?_⟩
  intro h15 e15
  replace hs := Sat.wra hs (i := 0) .z e15 rfl
  simp only [put] at hs
  refine ⟨_, Sat.ld hs (i := 1) (.s .z) rfl, _, Sat.ld hs (i := 1) (.s .z) rfl, _, Sat.ld hs (i := 1) (.s .z) rfl, _, _, _, Sat.ld hs (i := 1) (.s .z) rfl, _, rfl, img_row hs (.s .z) rfl, _, Sat.ld hs (i := 0) .z rfl, _, Sat.ld hs (i := 0) .z rfl, ?_⟩
  exact k1 e at_ _ hw he hs.drop.drop
 by_cases g1 : 524288 < l
 ·rw [ltI_eq, if_pos (by simp; omega)]
  exact bad _ _ _ (by unfold parseW; rw [if_pos (by omega)]) (by decide) hs
 rw [ltI_eq, if_neg (by simp; omega)]
 have hP : parseW bs = match headW bs 16 0 with
  | some w => w
  | none => if 524240 < num4 bs 12 then (5, 12) else if (bs.length : Int) < 48 + num4 bs 12 then (6, bs.length) else if 48 + num4 bs 12 < bs.length then (7, 48 + num4 bs 12) else (0, 0) := by
  unfold parseW; rw [if_neg (by omega)]; try rfl
 clear k1
 generalize hW : headW bs 16 0 = W at hP
 intro J hJ
 refine loop_up 16 (fun x h => Sat h0 (blk n10 [.int .i64 0, .int .i64 0] :: blk n7 (imgL 0 0 0 (none, 0, 0) (zeros 32)) :: A) h ∧ W = headW bs (16 - x) x ∧ x ≤ l) ?_ ?_ 0 _ (by omega) ⟨hs, hW.symm, by omega⟩
 ·rintro x h1 hx ⟨hs, hh, hxl⟩ hk
  apply hJ
  rw [ltI_eq, if_pos (by simp; omega)]
  obtain ⟨m, hm⟩ : ∃ m, 16 - x = m + 1 := ⟨16 - x - 1, by omega⟩
  rw [hm] at hh
  unfold headW at hh
  by_cases g2 : x = l
  ·rw [if_pos (show x = bs.length by omega)] at hh
   rw [if_pos (by simp; omega)]
   exact bad 6 x _ (by rw [hP, hh]) (by decide) hs
  rw [if_neg (show ¬ x = bs.length by omega)] at hh
  rw [if_neg (by simp; omega)]
  obtain ⟨q', hq, g⟩ := hsv_int (rd _ hs.drop.drop) (x := x) (by omega)
  refine ⟨_, hq, by omega, by omega, _, by rw [Int.toNat_natCast, Nat.mul_one]; exact g, ?_⟩
  refine rmust_sp x _ ?_
  by_cases g3 : mayB x (bs.getD x 0) = true
  ·rw [if_pos g3] at hh
   rw [if_neg (by rw [g3]; decide), wrap_succ (by omega)]
   exact hk _ ⟨hs, by rw [hh, show 16 - (x + 1) = m by omega], by omega⟩
  ·rw [if_neg g3] at hh
   rw [if_pos (by rw [Bool.not_eq_true] at g3; rw [g3]; rfl)]
   exact bad 5 x _ (by rw [hP, hh]) (by decide) hs
 rintro h1 ⟨hs, hh, hxl⟩
 apply hJ
 rw [ltI_eq, if_neg (by simp)]
 clear hJ J
 have hh : W = none := hh
 rw [hh] at hP
 dsimp only at hP
 refine ⟨by omega, by omega, ?_⟩
 have rd12 := sub_rd (o := 12) (n := l - 12) (m := c) (rd _ hs.drop.drop) (by omega) (by omega)
 refine rnumber_sp rd12 (drop_bytes hb _ _) (by omega) ?_
 rw [num4_drop _ _ _ (by omega)]
 obtain ⟨r1, r2⟩ := num4_range hb 12
 obtain ⟨n, hnn⟩ := Int.eq_ofNat_of_zero_le r1
 rw [hnn] at hP r2 ⊢
 by_cases g2 : 524240 < n
 ·rw [if_pos (by omega)] at hP
  rw [ltI_eq, if_pos (by simp; omega)]
  exact bad 5 12 _ hP (by decide) hs
 rw [if_neg (by omega)] at hP
 rw [ltI_eq, if_neg (by simp; omega)]
 have ew : IntKind.i64.wrap ((n : Int) + 16) = ((16 + n : Nat) : Int) := by rw [wrap_id (by omega)]; omega
 have ew2 : IntKind.i64.wrap (((16 + n : Nat) : Int) + 32) = ((48 + n : Nat) : Int) := by rw [wrap_id (by omega)]; omega
 have ew3 : IntKind.i64.wrap (((48 + n : Nat) : Int) - 32) = ((16 + n : Nat) : Int) := by rw [wrap_id (by omega)]; omega
 rw [ew, ew2, ew3]
 by_cases g3 : l < 48 + n
 ·rw [if_pos (by omega), hbl] at hP
  rw [ltI_eq, if_pos (by simp; omega)]
  exact bad 6 l _ hP (by decide) hs
 rw [if_neg (by omega)] at hP
 rw [ltI_eq, if_neg (by simp; omega)]
 by_cases g4 : 48 + n < l
 ·rw [if_pos (by omega)] at hP
  rw [ltI_eq, if_pos (by simp; omega)]
  exact bad 7 _ _ (by rw [hP]; congr 1) (by decide) hs
 rw [if_neg (by omega)] at hP
 rw [ltI_eq, if_neg (by simp; omega)]
 have hw := hP
 clear bad hP
 have hl48 : l = 48 + n := by omega
 intro J100 hJ100
 have ht32 : ((bs.drop (16 + n)).take 32).length = 32 := by rw [List.length_take, List.length_drop]; omega
 have way : ∀ (nb : Nat) h', Sat h0 (blk nb (imgL (bs.getD 5 0) (bs.getD 6 0) (num4 bs 8) (none, 0, 0) (zeros 32)) :: blk n10 [.int .i64 0, .int .i64 0] :: blk n7 (imgL 0 0 0 (none, 0, 0) (zeros 32)) :: A) h' → J100 [.dv (.addr ⟨nb, 0, none⟩)] h' := by
  intro nb h2 hs
  apply hJ100
  clear hJ100 J100
  try simp only [add_mk, Nat.zero_add]
  intro n103 _ hn; replace hs := Sat.new hs hn; clear hn
  rw [Int.toNat_natCast, Nat.add_sub_cancel_left]
  refine ⟨by omega, by omega, by omega, _, sub_rd (o := 16) (n := n) (rd _ hs.drop.drop.drop.drop) (by omega) (by omega), ?_⟩
  refine Sat.app_new hs (by simp; omega) rfl (ints_one _ _) (by omega) ?_
  intro o c2 h3 hs
  obtain ⟨own, hown⟩ : ∃ own : Sl, own = (o, n, c2) := ⟨_, rfl⟩
  replace hs : Sat h0 (sE own 1 (ints .u8 ((bs.drop 16).take n)) :: blk n103 [] :: blk nb (imgL (bs.getD 5 0) (bs.getD 6 0) (num4 bs 8) (none, 0, 0) (zeros 32)) :: blk n10 [.int .i64 0, .int .i64 0] :: blk n7 (imgL 0 0 0 (none, 0, 0) (zeros 32)) :: A) h3 := by rw [hown]; exact hs
  have eo1 : o = own.1 := by rw [hown]
  have eo2 : n = own.2.1 := by rw [hown]
  have eo3 : c2 = own.2.2 := by rw [hown]
  refine ⟨Sat.can hs (i := 2) (.s (.s .z)) (by rw [img_len rfl]; decide), ?_⟩
  intro h4 e4
  replace hs := Sat.wr hs (i := 2) (.s (.s .z)) (o := 3) e4
  clear e4
  simp only [put] at hs
  have e5 : splice (imgL (bs.getD 5 0) (bs.getD 6 0) (num4 bs 8) (none, 0, 0) (zeros 32)) 3 [.slice o n c2] = imgL (bs.getD 5 0) (bs.getD 6 0) (num4 bs 8) own (tagTo ((bs.drop (16 + n)).take 32) 0) := by rw [tagTo_zero, hown]; rfl
  rw [e5] at hs
  clear e5
  intro J113 hJ113
  refine loop_up 32 (fun x h => Sat h0 (sE own 1 (ints .u8 ((bs.drop 16).take n)) :: blk n103 [] :: blk nb (imgL (bs.getD 5 0) (bs.getD 6 0) (num4 bs 8) own (tagTo ((bs.drop (16 + n)).take 32) x)) :: blk n10 [.int .i64 0, .int .i64 0] :: blk n7 (imgL 0 0 0 (none, 0, 0) (zeros 32)) :: A) h) ?_ ?_ 0 _ (by omega) hs
  ·intro x h5 hx hs hk
   apply hJ113
   rw [ltI_eq, if_pos (by simp; omega)]
   have e6 : IntKind.i64.wrap (((16 + n : Nat) : Int) + (x : Int)) = ((16 + n + x : Nat) : Int) := by rw [wrap_id (by omega)]; omega
   rw [e6]
   obtain ⟨q', hq, g⟩ := hsv_int (rd _ hs.drop.drop.drop.drop.drop) (x := 16 + n + x) (by omega)
   refine ⟨_, hq, by omega, by omega, _, by rw [Int.toNat_natCast, Nat.mul_one]; exact g, by omega, by omega, ?_⟩
   rw [Int.toNat_natCast, Nat.mul_one]
   refine ⟨Sat.can hs (i := 2) (.s (.s .z)) (by rw [img_len (tagTo_len _ _)]; simp; omega), ?_⟩
   intro h6 e6
   replace hs := Sat.wr hs (i := 2) (.s (.s .z)) (o := 4 + x) e6
   clear e6
   rw [img_s1 (by rw [tagTo_len]; exact hx)] at hs
   have e7 : bs.getD (16 + n + x) 0 = ((bs.drop (16 + n)).take 32).getD x 0 := (drop_getD bs (16 + n) 32 x hx).symm
   rw [e7, tagTo_set _ hx] at hs
   rw [wrap_succ (by omega)]
   exact hk _ hs
  ·intro h5 hs
   rw [tagTo_all ht32] at hs
   apply hJ113
   rw [ltI_eq, if_neg (by simp)]
   refine ⟨_, Sat.ld hs (i := 2) (.s (.s .z)) rfl, _, Sat.ld hs (i := 2) (.s (.s .z)) rfl, _, Sat.ld hs (i := 2) (.s (.s .z)) rfl, _, _, _, Sat.ld hs (i := 2) (.s (.s .z)) rfl, _, ht32, img_row hs (.s (.s .z)) ht32, Sat.can hs (i := 4) (.s (.s (.s (.s .z)))) (by decide), ?_⟩
   intro h6 e6
   replace hs := Sat.wra hs (i := 4) (.s (.s (.s (.s .z)))) e6 (by rw [img_len ht32]; rfl)
   clear e6
   simp only [put] at hs
   refine ⟨Sat.can hs (i := 3) (.s (.s (.s .z))) (by decide), ?_⟩
   intro h7 e7
   replace hs := Sat.wra hs (i := 3) (.s (.s (.s .z))) e7 (by rfl)
   clear e7
   simp only [put] at hs
   replace hs : Sat h0 (sE own 1 (ints .u8 ((bs.drop 16).take n)) :: blk n103 [] :: blk nb (imgL (bs.getD 5 0) (bs.getD 6 0) (num4 bs 8) own ((bs.drop (16 + n)).take 32)) :: blk n10 [.int .i64 0, .int .i64 0] :: blk n7 (imgL (bs.getD 5 0) (bs.getD 6 0) (num4 bs 8) own ((bs.drop (16 + n)).take 32)) :: A) h7 := hs
   refine ⟨_, Sat.ld hs (i := 4) (.s (.s (.s (.s .z)))) rfl, _, Sat.ld hs (i := 4) (.s (.s (.s (.s .z)))) rfl, _, Sat.ld hs (i := 4) (.s (.s (.s (.s .z)))) rfl, _, _, _, Sat.ld hs (i := 4) (.s (.s (.s (.s .z)))) rfl, _, ht32, img_row hs (.s (.s (.s (.s .z)))) ht32, _, Sat.ld hs (i := 3) (.s (.s (.s .z))) rfl, _, Sat.ld hs (i := 3) (.s (.s (.s .z))) rfl, ?_⟩
   exact k2 own n _ hw hnn eo2.symm (hs.sub (by (repeat (first | exact List.Sublist.refl _ | apply List.Sublist.cons_cons | apply List.Sublist.cons))))
 obtain ⟨q', hq, g5⟩ := hsv_int (rd _ hs.drop.drop) (x := 5) (by omega)
 obtain ⟨q2, hq2, g6⟩ := hsv_int (rd _ hs.drop.drop) (x := 6) (by omega)
 rw [hq] at hq2
 injection hq2 with hq2
 subst hq2
 have c5 : ∀ h', Sat h0 A h' → hcs h' (q'.add 5) [.int .u8 (bs.getD 5 0)] := fun h' hs' => by
  obtain ⟨q2, hq2, g⟩ := hsv_int (rd _ hs') (x := 5) (by omega)
  rw [hq] at hq2; injection hq2 with hq2; subst hq2; exact hcs_one g
 have c6 : ∀ h', Sat h0 A h' → hcs h' (q'.add 6) [.int .u8 (bs.getD 6 0)] := fun h' hs' => by
  obtain ⟨q2, hq2, g⟩ := hsv_int (rd _ hs') (x := 6) (by omega)
  rw [hq] at hq2; injection hq2 with hq2; subst hq2; exact hcs_one g
 have b5 := byte_getD hb 5
 have b6 := byte_getD hb 6
 unfold isByte at b5 b6
 have w5 : IntKind.i64.wrap (bs.getD 5 0) = bs.getD 5 0 := by rw [IntKind.wrap_i64]; omega
 have w6 : IntKind.i64.wrap (bs.getD 6 0) = bs.getD 6 0 := by rw [IntKind.wrap_i64]; omega
 have rd8 : ∀ h', Sat h0 A h' → hsv h' (subAddr q 8 c 1) 1 (l - 8) (ints .u8 ((bs.drop 8).take (l - 8))) := fun h' hs' => sub_rd (o := 8) (n := l - 8) (m := c) (rd _ hs') (by omega) (by omega)
 refine ⟨_, hq, by omega, by omega, _, g5, _, hq, by omega, by omega, _, g6, by omega, by omega, ?_⟩
 rw [w5, w6]
 constructor
 ·refine rnumber_sp (rd8 _ hs.drop.drop) (drop_bytes hb _ _) (by omega) ?_
  rw [num4_drop _ _ _ (by omega)]
  refine ⟨c6 _ hs.drop.drop, c5 _ hs.drop.drop, ?_⟩
  intro nb _ hn; replace hs := Sat.new hs hn; clear hn
  refine ⟨c6 _ hs.drop.drop.drop, c5 _ hs.drop.drop.drop, ?_⟩
  refine ⟨Sat.can hs (i := 0) .z (by decide), ?_⟩
  intro h4 e4
  replace hs := Sat.wra hs (i := 0) .z e4 (by rfl)
  exact way nb _ hs
 ·intro nb _ hn; replace hs := Sat.new hs hn; clear hn
  refine ⟨c6 _ hs.drop.drop.drop, c5 _ hs.drop.drop.drop, ?_⟩
  refine rnumber_sp (rd8 _ hs.drop.drop.drop) (drop_bytes hb _ _) (by omega) ?_
  rw [num4_drop _ _ _ (by omega)]
  refine ⟨c6 _ hs.drop.drop.drop, c5 _ hs.drop.drop.drop, ?_⟩
  refine ⟨Sat.can hs (i := 0) .z (by decide), ?_⟩
  intro h4 e4
  replace hs := Sat.wra hs (i := 0) .z e4 (by rfl)
  exact way nb _ hs
end
end Go.Proofs.YtaglicdidpgkpaaGreatDoor
end

/- The gate, the document: whether an image may be started. Own work. -/
section
set_option maxRecDepth 100000
set_option linter.unusedVariables false
namespace Go.Proofs.YtaglicdidpgkpaaGreatDoor
open Go Go.Vc
attribute [local irreducible] macM

section
variable {h0 h : H} {A : List Ent} {i j p r b s m : Nat} {C : Cm}
theorem rsignN_sp {Q : List Int → Int → H → Prop} {key : Int} {bb : List Int} {bp lp : Option Addr} {bl bc lc : Nat} {R : List SR} {x : SR} (hs : Sat h0 A h) (cr : At A i (blk r [.slice lp R.length lc])) (cl : At A j (slE lp R.length lc 2 (secV R))) (hR : R.length < 2 ^ 40) (gd : SR.good R)
  (rR : ∀ x, x ∈ R → ∀ h', Sat h0 A h' → hsv h' x.p 1 x.bytes.length (ints .u8 x.bytes)) (hx : SR.at_ R key = some x) (hbb : isBy bb) (hbl : bl < 2 ^ 40)
  (rb : ∀ h', Sat h0 A h' → hsv h' bp 1 bl (ints .u8 bb)) (k : ∀ h', Sat h0 A h' → Q (macM x.bytes bb) 0 h') : F_portcullisref12_Ring_Sign ⟨r, 0, none⟩ key bp bl bc Q h := by
 unfold F_portcullisref12_Ring_Sign G_portcullisref12_Ring_Sign
 try simp only [add_mk, Nat.zero_add, List.append_nil]
 have hx2 : x ∈ R := List.mem_of_find?_eq_some hx
 have hg := gd x hx2
 intro nb _ hn; replace hs := Sat.new hs hn; clear hn
 refine find_sp key hs cr.s cl.s hR ?_
 rintro n (⟨e, _⟩ | ⟨t, ht, rfl, e⟩)
 ·rw [hx] at e; cases e
 rw [hx] at e
 injection e with e
 rw [ltI_eq, if_neg (by rw [decide_eq_true_iff]; omega)]
 obtain ⟨q2, hq2, g2⟩ := hsv_get (hs.sv cl.s) (secV_get R t ht).2
 refine ⟨_, _, _, hs.ld cr.s rfl, q2, hq2, by omega, by omega, ?_⟩
 simp only [Int.toNat_natCast]
 refine ⟨_, _, _, by rw [addAdd]; exact g2, ?_⟩
 rw [← e]
 refine rmac_sp (key := x.bytes) (b := bb) hs hg.2.2 hbb (by omega) (by omega) (fun h' hs' => rR x hx2 _ hs'.drop) (fun h' hs' => rb _ hs'.drop) ?_
 intro h2 hs
 refine ⟨Sat.can hs (i := 0) .z (by simp [zeros]), ?_⟩
 intro h3 e3
 replace hs := Sat.wra (xs := ints .u8 (macM x.bytes bb)) hs (i := 0) .z e3 (by simp [zeros, macM_len])
 clear e3
 simp only [put_zero] at hs
 exact ⟨_, macM_len _ _, hs.row0 (i := 0) .z, k _ hs.drop⟩
theorem rbody_sp {Q : Option Addr → Nat → Nat → H → Prop} {bs : List Int} {q : Option Addr} {l c : Nat} (hs : Sat h0 A h) (rd : ∀ h', Sat h0 A h' → hsv h' q 1 l (ints .u8 bs)) (hl : 32 ≤ l) (hlc : l ≤ c) (hl2 : l < 2 ^ 40)
  (k : ∀ p' c' h', l - 32 ≤ c' → Sat h0 (slE p' (l - 32) c' 1 (ints .u8 (bs.take (l - 32))) :: A) h' → Q p' (l - 32) c' h') : F_portcullisref11_Body q l c Q h := by
 unfold F_portcullisref11_Body G_portcullisref11_Body
 have hbl : bs.length = l := by have := (rd _ hs).1; simpa using this
 rw [ltI_eq, if_neg (by rw [decide_eq_true_iff]; omega)]
 intro eb _ hn; replace hs := Sat.new hs hn; clear hn
 have e : IntKind.i64.wrap ((l : Int) - 32) = ((l - 32 : Nat) : Int) := by rw [wrap_id (by omega)]; omega
 rw [e]
 refine ⟨by omega, by omega, ?_⟩
 simp only [Int.toNat_natCast, Nat.sub_zero]
 have R := subRd (o := 0) (n := l - 32) (m := c) (rd _ hs.drop) (by omega) (by omega)
 rw [List.drop_zero] at R
 refine ⟨_, R, ?_⟩
 replace hs := hs.drop.sl_nil 1 (some ⟨eb, 0, none⟩)
 refine Sat.app hs (i := 0) (vs := ints .u8 (bs.take (l - 32))) .z (by simp; omega) rfl (ints_one _ _) (by dsimp only; omega) ?_
 intro p' c' h' hs
 simp only [put_zero, List.nil_append, Nat.zero_add] at hs ⊢
 exact k p' c' h' (capS hs (i := 0) .z) hs
theorem rgateK_sp {Q : Int → Int → Int → Option Addr → Nat → Nat → List Int → Int → H → Prop} {nb n37 n14 : Nat} {bs T tag : List Int} {own : Sl} {E : List Ent} (hs : Sat h0 (blk nb (ints .u8 (zeros 32)) :: blk n37 (imgL (bs.getD 5 0) (bs.getD 6 0) (num4 bs 8) own tag) :: blk n14 (imgL 0 0 0 (none, 0, 0) (zeros 32)) :: E) h) (cj : At E j (refE r C)) (ho : ¬ C.out = true)
  (hT : T.length = 32) (ht : tag.length = 32) (er : (sRead C (bs.getD 5 0)).2 = 0)
  (k1 : ∀ e, e = (if T ≠ tag then 15 else if num4 bs 8 < (sRead C (bs.getD 5 0)).1 then 16 else if lastM C.cfg < num4 bs 8 then 16 else 0) → e ≠ 0 → ∀ h', Sat h0 E h' → Q 0 0 0 none 0 0 (zeros 32) e h')
  (k2 : (if T ≠ tag then 15 else if num4 bs 8 < (sRead C (bs.getD 5 0)).1 then 16 else if lastM C.cfg < num4 bs 8 then 16 else (0 : Int)) = 0 → ∀ h', Sat h0 E h' → Q (bs.getD 5 0) (bs.getD 6 0) (num4 bs 8) own.1 own.2.1 own.2.2 tag 0 h') :
  K1_portcullisref13_Check F_portcullisref10_Read F_portcullisref10_Last ⟨r, 0, none⟩ Q h nb T n37 n14 := by
 unfold K1_portcullisref13_Check
 try simp only [add_mk, Nat.zero_add, List.append_nil]
 intro h2 e
 replace hs := Sat.wra (xs := ints .u8 T) hs (i := 0) .z e (by simp [zeros, hT])
 clear e
 simp only [put_zero] at hs
 refine ⟨T, hT, hs.row0 (i := 0) .z, tag, ht, img_row hs (.s .z) ht, ?_⟩
 by_cases gt : T = tag
 case neg =>
  rw [if_pos gt] at k1
  rw [if_pos (by simpa using gt)]
  refine ret0 15 (zeros_len 32) hs (i := 2) (.s (.s .z)) ?_
  intro h6 hs
  exact k1 15 rfl (by decide) _ hs.drop.drop.drop
 rw [if_neg (by simpa using gt)] at k1 k2
 rw [if_neg (by simpa using gt)]
 refine ⟨_, hs.ld (i := 1) (.s .z) rfl, ?_⟩
 refine rRead10_sp hs cj.s.s.s _ ?_
 intro h3 hs
 rw [er, if_neg (by decide)]
 refine ⟨_, hs.ld (i := 1) (.s .z) rfl, ?_⟩
 rw [ltI_eq]
 by_cases gv : num4 bs 8 < (sRead C (bs.getD 5 0)).1
 ·rw [if_pos gv] at k1
  rw [if_pos (by simpa using gv)]
  refine ret0 16 (zeros_len 32) hs (i := 2) (.s (.s .z)) ?_
  intro h6 hs
  exact k1 16 rfl (by decide) _ hs.drop.drop.drop
 rw [if_neg gv] at k1 k2
 rw [if_neg (by simpa using gv)]
 have ok := ref_ok hs cj.s.s.s
 obtain ⟨_, lc1⟩ := ref_cell hs cj.s.s.s
 refine ⟨_, hs.ld (i := 1) (.s .z) rfl, _, lc1 0 _ rfl, _, lc1 1 _ rfl, _, lc1 2 _ rfl, _, lc1 3 _ rfl, _, lc1 4 _ rfl, _, lc1 5 _ rfl, _, lc1 6 _ rfl, ?_⟩
 refine rLast10_sp ok.may hs ?_
 intro h4 hs
 refine ⟨Sat.cs hs (i := 1) (.s .z) rfl, ?_⟩
 rw [ltI_eq]
 by_cases gl : lastM C.cfg < num4 bs 8
 ·rw [if_pos gl] at k1
  rw [if_pos (by simpa using gl)]
  refine ret0 16 (zeros_len 32) hs (i := 2) (.s (.s .z)) ?_
  intro h6 hs
  exact k1 16 rfl (by decide) _ hs.drop.drop.drop
 rw [if_neg gl] at k2
 rw [if_neg (by simpa using gl)]
 refine ⟨_, hs.ld (i := 1) (.s .z) rfl, _, hs.ld (i := 1) (.s .z) rfl, _, hs.ld (i := 1) (.s .z) rfl, _, _, _, hs.ld (i := 1) (.s .z) rfl, _, ht, img_row hs (.s .z) ht, ?_⟩
 refine ⟨Sat.can hs (i := 2) (.s (.s .z)) (by simp [zeros]), ?_⟩
 intro h10 e10
 replace hs := Sat.wra (xs := imgL (bs.getD 5 0) (bs.getD 6 0) (num4 bs 8) own tag) hs (i := 2) (.s (.s .z)) e10 (by rw [img_len ht]; rfl)
 clear e10
 simp only [put_succ, put_zero] at hs
 refine ⟨_, hs.ld (i := 2) (.s (.s .z)) rfl, _, hs.ld (i := 2) (.s (.s .z)) rfl, _, hs.ld (i := 2) (.s (.s .z)) rfl, _, _, _, hs.ld (i := 2) (.s (.s .z)) rfl, _, ht, img_row hs (.s (.s .z)) ht, ?_⟩
 exact k2 rfl _ hs.drop.drop.drop
theorem rgate_sp {Q : Int → Int → Int → Option Addr → Nat → Nat → List Int → Int → H → Prop} {rr jl jr lc : Nat} {lp : Option Addr} {bs : List Int} {q : Option Addr} {l c : Nat} {R : List SR} (hs : Sat h0 A h) (cj : At A j (refE r C))
  (cr : At A jr (blk rr [.slice lp R.length lc])) (cm : At A jl (slE lp R.length lc 2 (secV R))) (hR : R.length < 2 ^ 40) (gd : SR.good R) (rR : ∀ x, x ∈ R → ∀ h', Sat h0 A h' → hsv h' x.p 1 x.bytes.length (ints .u8 x.bytes))
  (rd : ∀ h', Sat h0 A h' → hsv h' q 1 l (ints .u8 bs)) (hb : bytesOk bs) (hlc : l ≤ c) (hl : l < 2 ^ 50)
  (k1 : ∀ e, e = gateM C (R.map SR.kv) bs → e ≠ 0 → ∀ h', Sat h0 A h' → Q 0 0 0 none 0 0 (zeros 32) e h')
  (k2 : ∀ (own : Sl) (n : Nat), gateM C (R.map SR.kv) bs = 0 → parseW bs = (0, 0) → num4 bs 12 = n → own.2.1 = n → ∀ h', Sat h0 (sE own 1 (ints .u8 ((bs.drop 16).take n)) :: A) h' → Q (bs.getD 5 0) (bs.getD 6 0) (num4 bs 8) own.1 own.2.1 own.2.2 ((bs.drop (16 + n)).take 32) 0 h') :
  F_portcullisref13_Check ⟨r, 0, none⟩ ⟨rr, 0, none⟩ q l c Q h := by
 unfold F_portcullisref13_Check G_portcullisref13_Check
 try simp only [add_mk, Nat.zero_add, List.append_nil]
 have hbl : bs.length = l := by have := (rd _ hs).1; simpa using this
 obtain ⟨G, hG⟩ : ∃ G, G = gateM C (R.map SR.kv) bs := ⟨_, rfl⟩
 rw [← hG] at k1 k2
 unfold gateM at hG
 intro n14 _ hn; replace hs := Sat.new hs hn; clear hn
 replace hs : Sat h0 (blk n14 (imgL 0 0 0 (none, 0, 0) (zeros 32)) :: A) _ := hs
 obtain ⟨_, lc0⟩ := ref_cell hs cj.s
 refine ⟨_, lc0 11 _ rfl, ?_⟩
 by_cases ho : C.out = true
 ·rw [if_pos ho] at hG ⊢
  refine ret0 8 (zeros_len 32) hs (i := 0) .z ?_
  intro h2 hs
  exact k1 8 hG.symm (by decide) _ hs.drop
 rw [if_neg ho] at hG ⊢
 refine rParse_sp hs (fun h' hs' => rd _ hs'.drop) hb hlc hl ?_ ?_
 ·intro e at_ h2 hp he hs
  intro n37 _ hn; replace hs := Sat.new hs hn; clear hn
  intro n40 _ hn; replace hs := Sat.new hs hn; clear hn
  refine ⟨Sat.can hs (i := 1) (.s .z) (by simp [zeros]), ?_⟩
  intro h3 e3
  replace hs := Sat.wra (xs := imgL 0 0 0 (none, 0, 0) (zeros 32)) hs (i := 1) (.s .z) e3 rfl
  clear e3
  simp only [put_succ, put_zero] at hs
  refine ⟨Sat.can hs (i := 0) .z (by simp), ?_⟩
  intro h4 e4
  replace hs := Sat.wra hs (i := 0) .z e4 rfl
  clear e4
  simp only [put_zero] at hs
  refine ⟨_, hs.ld (i := 0) .z rfl, ?_⟩
  rw [if_pos (by simpa using he)]
  refine ⟨_, hs.ld (i := 0) .z rfl, Sat.can hs (i := 2) (.s (.s .z)) (by simp [zeros]), ?_⟩
  intro h5 e5
  replace hs := Sat.wra (xs := imgL 0 0 0 (none, 0, 0) (zeros 32)) hs (i := 2) (.s (.s .z)) e5 rfl
  clear e5
  simp only [put_succ, put_zero] at hs
  refine ⟨Sat.cs hs (i := 0) .z rfl, _, hs.ld (i := 2) (.s (.s .z)) rfl, _, hs.ld (i := 2) (.s (.s .z)) rfl, _, hs.ld (i := 2) (.s (.s .z)) rfl, _, _, _, hs.ld (i := 2) (.s (.s .z)) rfl, _, zeros_len 32, img_row hs (.s (.s .z)) (zeros_len 32), ?_⟩
  refine k1 e ?_ he _ hs.drop.drop.drop
  rw [hp, if_pos he] at hG
  exact hG.symm
 intro own n h2 hp hnn hon hs
 obtain ⟨pl, p5, p6, pn⟩ := parse_ok hb hp hnn
 have htl : ((bs.drop (16 + n)).take 32).length = 32 := by rw [List.length_take, List.length_drop]; omega
 rw [hp, if_neg (by decide)] at hG
 intro n37 _ hn; replace hs := Sat.new hs hn; clear hn
 intro n40 _ hn; replace hs := Sat.new hs hn; clear hn
 refine ⟨Sat.can hs (i := 1) (.s .z) (by simp [zeros]), ?_⟩
 intro h3 e3
 replace hs := Sat.wra (xs := imgL (bs.getD 5 0) (bs.getD 6 0) (num4 bs 8) own ((bs.drop (16 + n)).take 32)) hs (i := 1) (.s .z) e3 (by rw [img_len htl]; rfl)
 clear e3
 simp only [put_succ, put_zero] at hs
 refine ⟨Sat.can hs (i := 0) .z (by simp), ?_⟩
 intro h4 e4
 replace hs := Sat.wra hs (i := 0) .z e4 rfl
 clear e4
 simp only [put_zero] at hs
 refine ⟨_, hs.ld (i := 0) .z rfl, ?_⟩
 rw [if_neg (by decide)]
 replace hs := hs.drop
 replace hs : Sat h0 (blk n37 (imgL (bs.getD 5 0) (bs.getD 6 0) (num4 bs 8) own ((bs.drop (16 + n)).take 32)) :: sE own 1 (ints .u8 ((bs.drop 16).take n)) :: blk n14 (imgL 0 0 0 (none, 0, 0) (zeros 32)) :: A) _ := hs
 obtain ⟨_, lc1⟩ := ref_cell hs cj.s.s.s
 refine ⟨_, hs.ld (i := 0) .z rfl, _, lc1 1 _ rfl, ?_⟩
 rw [leI_eq]
 by_cases gs : C.cfg.slots ≤ bs.getD 5 0
 ·rw [if_pos gs] at hG
  rw [if_pos (by simpa using gs)]
  refine ret0 5 (zeros_len 32) hs (i := 2) (.s (.s .z)) ?_
  intro h6 hs
  exact k1 5 hG.symm (by decide) _ hs.drop.drop.drop
 rw [if_neg gs] at hG
 rw [if_neg (by simpa using gs)]
 have er : (sRead C (bs.getD 5 0)).2 = 0 := by rw [sread_err ho p5.1, if_neg gs]
 intro J69 hJ69
 refine ⟨_, hs.ld (i := 0) .z rfl, ?_⟩
 refine rhas_sp _ hs cr.s.s.s cm.s.s.s hR ?_
 have ekv := at_kv R (bs.getD 6 0)
 cases ex : SR.at_ R (bs.getD 6 0) with
 | none =>
  rw [← ekv, ex] at hG
  rw [if_pos (by simp)]
  refine ret0 13 (zeros_len 32) hs (i := 2) (.s (.s .z)) ?_
  intro h6 hs
  exact k1 13 hG.symm (by decide) _ hs.drop.drop.drop
 | some x =>
 rw [← ekv, ex] at hG
 dsimp only [Option.map_some] at hG
 rw [if_neg (by simp)]
 have rv := revoked_err ho p6.1
 refine ⟨_, hs.ld (i := 0) .z rfl, _, lc1 4 _ rfl, ?_⟩
 rw [leI_eq]
 by_cases gk : C.cfg.keys ≤ bs.getD 6 0
 ·rw [if_pos gk] at hG
  rw [if_pos (by simpa using gk)]
  refine ret0 13 (zeros_len 32) hs (i := 2) (.s (.s .z)) ?_
  intro h6 hs
  exact k1 13 hG.symm (by decide) _ hs.drop.drop.drop
 rw [if_neg gk] at rv hG
 rw [if_neg (by simpa using gk)]
 apply hJ69
 clear hJ69
 refine ⟨_, hs.ld (i := 0) .z rfl, ?_⟩
 unfold F_portcullisref10_Revoked G_portcullisref10_Revoked
 refine rRevoked_sp hs cj.s.s.s _ ?_
 intro h5 hs
 dsimp only
 rw [rv, if_neg (by decide)]
 by_cases gr : (revokedM C (bs.getD 6 0)).1 = true
 ·rw [if_pos gr] at hG ⊢
  refine ret0 14 (zeros_len 32) hs (i := 2) (.s (.s .z)) ?_
  intro h6 hs
  exact k1 14 hG.symm (by decide) _ hs.drop.drop.drop
 rw [if_neg gr] at hG ⊢
 have et : (bs.drop (bs.length - 32)).take 32 = (bs.drop (16 + n)).take 32 := by rw [show bs.length - 32 = 16 + n by omega]
 rw [hbl] at hG et
 rw [et] at hG
 have hbb : isBy (bs.take (l - 32)) := fun v hv => hb v (List.mem_of_mem_take hv)
 have leaf : ∀ nb h', Sat h0 (blk nb (ints .u8 (zeros 32)) :: blk n37 (imgL (bs.getD 5 0) (bs.getD 6 0) (num4 bs 8) own ((bs.drop (16 + n)).take 32)) :: sE own 1 (ints .u8 ((bs.drop 16).take n)) :: blk n14 (imgL 0 0 0 (none, 0, 0) (zeros 32)) :: A) h' → K1_portcullisref13_Check F_portcullisref10_Read F_portcullisref10_Last ⟨r, 0, none⟩ Q h' nb (macM x.bytes (bs.take (l - 32))) n37 n14 := by
  intro nb h' hs'
  replace hs' := hs'.front (e := sE own 1 (ints .u8 ((bs.drop 16).take n))) (i := 2) (.s (.s .z))
  simp only [del] at hs'
  refine rgateK_sp (own := own) (E := sE own 1 (ints .u8 ((bs.drop 16).take n)) :: A) (hs'.perm ?_) cj.s ho (macM_len _ _) htl er ?_ ?_
  ·exact ((List.Perm.swap _ _ _).trans (List.Perm.cons _ ((List.Perm.swap _ _ _).trans (List.Perm.cons _ (List.Perm.swap _ _ _)))))
  ·intro e he hne h6 hs6
   exact k1 e (by rw [he]; exact hG.symm) hne _ hs6.drop
  ·intro he h6 hs6
   exact k2 own n (by rw [hG]; exact he) hp hnn hon _ hs6
 refine ⟨_, hs.ld (i := 0) .z rfl, ?_, ?_⟩
 ·refine rbody_sp hs (fun h' hs' => rd _ hs'.drop.drop.drop) (by omega) hlc (by omega) ?_
  intro p' c' h6 hc' hs
  refine ⟨Sat.cs hs (i := 1) (.s .z) rfl, ?_, ?_⟩
  ·refine rsignN_sp (bb := bs.take (l - 32)) hs cr.s.s.s.s cm.s.s.s.s hR gd (fun y hy h' hs' => rR y hy _ hs'.drop.drop.drop.drop) ex hbb (by omega) (fun h' hs' => hs'.sv (i := 0) .z) ?_
   intro h7 hs
   intro nb _ hn; replace hs := Sat.new hs hn; clear hn
   exact ⟨Sat.can hs (i := 0) .z (by simp [zeros]), leaf _ _ (hs.sub (by (repeat (first | exact List.Sublist.refl _ | apply List.Sublist.cons_cons | apply List.Sublist.cons))))⟩
  ·intro nb _ hn; replace hs := Sat.new hs hn; clear hn
   refine ⟨Sat.cs hs (i := 2) (.s (.s .z)) rfl, ?_⟩
   refine rsignN_sp (bb := bs.take (l - 32)) hs cr.s.s.s.s.s cm.s.s.s.s.s hR gd (fun y hy h' hs' => rR y hy _ hs'.drop.drop.drop.drop.drop) ex hbb (by omega) (fun h' hs' => hs'.sv (i := 1) (.s .z)) ?_
   intro h7 hs
   exact ⟨Sat.can hs (i := 0) .z (by simp [zeros]), leaf _ _ (hs.sub (by (repeat (first | exact List.Sublist.refl _ | apply List.Sublist.cons_cons | apply List.Sublist.cons))))⟩
 ·intro nb _ hn; replace hs := Sat.new hs hn; clear hn
  refine ⟨Sat.cs hs (i := 1) (.s .z) rfl, ?_⟩
  refine rbody_sp hs (fun h' hs' => rd _ hs'.drop.drop.drop.drop) (by omega) hlc (by omega) ?_
  intro p' c' h6 hc' hs
  refine ⟨Sat.cs hs (i := 2) (.s (.s .z)) rfl, ?_⟩
  refine rsignN_sp (bb := bs.take (l - 32)) hs cr.s.s.s.s.s cm.s.s.s.s.s hR gd (fun y hy h' hs' => rR y hy _ hs'.drop.drop.drop.drop.drop) ex hbb (by omega) (fun h' hs' => hs'.sv (i := 0) .z) ?_
  intro h7 hs
  exact ⟨Sat.can hs (i := 1) (.s .z) (by simp [zeros]), leaf _ _ (hs.sub (by (repeat (first | exact List.Sublist.refl _ | apply List.Sublist.cons_cons | apply List.Sublist.cons))))⟩
end
end Go.Proofs.YtaglicdidpgkpaaGreatDoor
end

/- Images, the document: what their tag covers, bytes; whether they may be. Own work. -/
section
set_option maxRecDepth 100000
set_option linter.unusedVariables false
namespace Go.Proofs.YtaglicdidpgkpaaGreatDoor
open Go Go.Vc
attribute [local irreducible] macM

def fourL (v : Int) (t : Nat) : List Int := (List.range t).map fun j => IntKind.u8.wrap (v.fdiv (2 ^ (8 * j)))
theorem fourL_succ (v : Int) (t : Nat) : fourL v (t + 1) = fourL v t ++ [IntKind.u8.wrap (v.fdiv (2 ^ (8 * t)))] := by
 unfold fourL; rw [List.range_succ, List.map_append]; rfl
def coverM (slot key ver : Int) (pay : List Int) : List Int := [80, 67, 85, 76, 1, IntKind.u8.wrap slot, IntKind.u8.wrap key, 0] ++ fourL ver 4 ++ fourL (pay.length : Int) 4 ++ pay
def may11 (slot key ver : Int) (n : Nat) : Int :=
 if slot < 0 ∨ 7 < slot ∨ key < 0 ∨ 63 < key ∨ ver < 0 ∨ 4294967295 < ver then 2 else if 524240 < n then 4 else 0
section
variable {h0 h : H} {A : List Ent} {i j p r b s m : Nat} {C : Cm}
theorem rfour_sp {Q : Option Addr → Nat → Nat → H → Prop} {q : Option Addr} {l c : Nat} {xs : List Int} (v : Int) (hs : Sat h0 (slE q l c 1 (ints .u8 xs) :: A) h) (hl : l < 2 ^ 45)
  (k : ∀ p' c' h', Sat h0 (slE p' (l + 4) c' 1 (ints .u8 (xs ++ fourL v 4)) :: A) h' → Q p' (l + 4) c' h') : F_portcullisref11_four q l c v Q h := by
 unfold F_portcullisref11_four G_portcullisref11_four
 intro J hJ
 refine loopS 4 (fun t (s : Option Addr × Nat) => [.dv (.one (.slice s.1 (l + t) s.2)), si t]) (fun t s h => Sat h0 (slE s.1 (l + t) s.2 1 (ints .u8 (xs ++ fourL v t)) :: A) h) ?_ ?_ 0 (q, c) _ (by omega) (by simpa [fourL] using hs)
 ·clear hs
  rintro t ⟨p2, c2⟩ h2 ht hs hk
  dsimp only at hs hk ⊢
  apply hJ
  rw [ltI_eq, if_pos (by rw [decide_eq_true_iff]; omega)]
  have e : IntKind.i64.wrap (8 * (t : Int)) = ((8 * t : Nat) : Int) := by rw [wrap_id (by omega)]; push_cast; rfl
  rw [e]
  refine ⟨by omega, ?_⟩
  rw [Int.toNat_natCast, show min (8 * t) 64 = 8 * t by omega]
  intro nb _ hn; replace hs := Sat.new hs hn; clear hn
  refine ⟨_, hs.bv (i := 0) (l := 1) .z rfl (ints_one .u8 [_]), ?_⟩
  refine Sat.app hs (i := 1) (vs := ints .u8 [_]) (.s .z) rfl rfl (ints_one .u8 [_]) (by omega) ?_
  intro p3 c3 h3 hs
  simp only [put_succ, put_zero] at hs
  rw [wrap_succ (by omega)]
  refine hk (p3, c3) h3 ?_
  dsimp only
  rw [fourL_succ, ← List.append_assoc, ints_app .u8 _ [_]]
  exact hs.drop
 ·clear hs
  rintro ⟨p2, c2⟩ h2 hs
  dsimp only at hs ⊢
  apply hJ
  rw [ltI_eq, if_neg (by decide)]
  exact k _ _ _ hs
theorem rcover_sp {Q : Option Addr → Nat → Nat → H → Prop} {slot key ver : Int} {pay tag : List Int} {pp : Option Addr} {pl pc : Nat} (hs : Sat h0 A h) (hp : pl < 2 ^ 44) (rd : ∀ h', Sat h0 A h' → hsv h' pp 1 pl (ints .u8 pay))
  (k : ∀ p' c' h', Sat h0 (slE p' (16 + pl) c' 1 (ints .u8 (coverM slot key ver pay)) :: A) h' → Q p' (16 + pl) c' h') : F_portcullisref11_Cover slot key ver pp pl pc tag Q h := by
 unfold F_portcullisref11_Cover G_portcullisref11_Cover
 try simp only [add_mk, Nat.zero_add, List.append_nil]
 have hpl : pay.length = pl := by have := (rd _ hs).1; simpa using this
 intro n10 _ hn; replace hs := Sat.new hs hn; clear hn
 replace hs : Sat h0 (blk n10 (imgL slot key ver (pp, pl, pc) tag) :: A) _ := hs
 refine ⟨_, hs.ld (i := 0) .z rfl, _, hs.ld (i := 0) .z rfl, ?_⟩
 intro n15 _ hn; replace hs := Sat.new hs hn; clear hn
 refine ⟨_, hs.ld (i := 1) (.s .z) rfl, ?_⟩
 replace hs := hs.as_sl (i := 0) (l := 8) (sz := 1) .z rfl (ints_one .u8 [80, 67, 85, 76, 1, IntKind.u8.wrap slot, IntKind.u8.wrap key, 0])
 simp only [put_zero] at hs
 refine rfour_sp (xs := [80, 67, 85, 76, 1, IntKind.u8.wrap slot, IntKind.u8.wrap key, 0]) ver hs (by decide) ?_
 intro p2 c2 h2 hs
 refine ⟨_, _, _, hs.ld (i := 1) (.s .z) rfl, ?_⟩
 refine rfour_sp (pl : Int) hs (by decide) ?_
 intro p3 c3 h3 hs
 refine ⟨_, _, _, hs.ld (i := 1) (.s .z) rfl, _, rd _ hs.drop.drop, ?_⟩
 refine Sat.app hs (i := 0) (vs := ints .u8 pay) .z (by simp [hpl]) rfl (ints_one _ _) (by dsimp only; omega) ?_
 intro p4 c4 h4 hs
 simp only [put_zero] at hs
 have e : ints .u8 ([80, 67, 85, 76, 1, IntKind.u8.wrap slot, IntKind.u8.wrap key, 0] ++ fourL ver 4 ++ fourL (pl : Int) 4) ++ ints .u8 pay = ints .u8 (coverM slot key ver pay) := by
  unfold coverM; rw [hpl, ← ints_app]
 rw [e] at hs
 have K := k p4 c4 h4
 rw [show 16 + pl = 8 + 4 + 4 + pl by omega] at K
 exact K (hs.sub (by (repeat (first | exact List.Sublist.refl _ | apply List.Sublist.cons_cons | apply List.Sublist.cons))))
theorem rtagged_sp {Q : Option Addr → Nat → Nat → H → Prop} {slot key ver : Int} {pay tag : List Int} {pp : Option Addr} {pl pc : Nat} (hs : Sat h0 A h) (ht : tag.length = 32) (hp : pl < 2 ^ 44) (rd : ∀ h', Sat h0 A h' → hsv h' pp 1 pl (ints .u8 pay))
  (k : ∀ p' c' h', Sat h0 (slE p' (48 + pl) c' 1 (ints .u8 (coverM slot key ver pay ++ tag)) :: A) h' → 48 + pl ≤ c' → Q p' (48 + pl) c' h') : F_portcullisref11_Tagged slot key ver pp pl pc tag Q h := by
 unfold F_portcullisref11_Tagged G_portcullisref11_Tagged
 try simp only [add_mk, Nat.zero_add, List.append_nil]
 intro n10 _ hn; replace hs := Sat.new hs hn; clear hn
 replace hs : Sat h0 (blk n10 (imgL slot key ver (pp, pl, pc) tag) :: A) _ := hs
 refine ⟨_, hs.ld (i := 0) .z rfl, _, hs.ld (i := 0) .z rfl, _, hs.ld (i := 0) .z rfl, _, _, _, hs.ld (i := 0) .z rfl, tag, ht, img_row hs .z ht, ?_⟩
 refine rcover_sp (pay := pay) hs hp (fun h' hs' => rd _ hs'.drop) ?_
 intro p2 c2 h2 hs
 intro J hJ
 refine loopS 32 (fun t (s : Option Addr × Nat) => [.dv (.one (.slice s.1 (16 + pl + t) s.2)), si t]) (fun t s h => Sat h0 (slE s.1 (16 + pl + t) s.2 1 (ints .u8 (coverM slot key ver pay ++ tag.take t)) :: blk n10 (imgL slot key ver (pp, pl, pc) tag) :: A) h) ?_ ?_ 0 (p2, c2) _ (by omega) (by simpa using hs)
 ·clear hs
  rintro t ⟨p6, c6⟩ h6 ht2 hs hk
  dsimp only at hs hk ⊢
  apply hJ
  rw [ltI_eq, if_pos (by rw [decide_eq_true_iff]; omega)]
  have ht3 : t < tag.length := by omega
  refine ⟨by omega, by omega, tag[t], ?_, ?_⟩
  ·simp only [Int.toNat_natCast, Nat.mul_one]
   have := img_row hs (.s .z) ht t (.int .u8 tag[t]) (by rw [ints_get, List.getElem?_eq_getElem ht3]; rfl)
   first | exact this | (rw [add_mk] at this; exact this)
  intro b3 _ hn; replace hs := Sat.new hs hn; clear hn
  refine ⟨_, hs.bv (i := 0) (l := 1) .z rfl (ints_one .u8 [tag[t]]), ?_⟩
  refine Sat.app hs (i := 1) (vs := ints .u8 [tag[t]]) (.s .z) rfl rfl (ints_one _ _) (by omega) ?_
  intro p7 c7 h7 hs
  simp only [put_succ, put_zero] at hs
  rw [wrap_succ (by omega)]
  refine hk (p7, c7) h7 ?_
  dsimp only
  rw [take_snoc _ ht3, ← List.append_assoc, ints_app .u8 _ [tag[t]]]
  exact hs.drop
 ·clear hs
  rintro ⟨p6, c6⟩ h6 hs
  dsimp only at hs ⊢
  apply hJ
  rw [ltI_eq, if_neg (by decide)]
  rw [List.take_of_length_le (by omega)] at hs
  have hc := capS hs (i := 0) .z
  have K := k p6 c6 h6
  rw [show 48 + pl = 16 + pl + 32 by omega] at K
  exact K (hs.sub (by (repeat (first | exact List.Sublist.refl _ | apply List.Sublist.cons_cons | apply List.Sublist.cons)))) hc
theorem rmay11_sp {Q : Int → H → Prop} {slot key ver : Int} {tag : List Int} {pp : Option Addr} {pl pc : Nat} (hs : Sat h0 A h) (k : ∀ h', Sat h0 A h' → Q (may11 slot key ver pl) h') : F_portcullisref11_May slot key ver pp pl pc tag Q h := by
 unfold F_portcullisref11_May G_portcullisref11_May
 try simp only [add_mk, Nat.zero_add, List.append_nil]
 intro n9 _ hn; replace hs := Sat.new hs hn; clear hn
 replace hs : Sat h0 (blk n9 (imgL slot key ver (pp, pl, pc) tag) :: A) _ := hs
 have K := k _ hs.drop
 clear k
 unfold may11 at K
 intro J hJ
 refine ⟨_, hs.ld (i := 0) .z rfl, ?_⟩
 rw [ltI_eq]
 by_cases g1 : slot < 0
 ·rw [if_pos (by simpa using g1)]
  rw [if_pos (Or.inl g1)] at K; exact K
 rw [if_neg (by simpa using g1)]
 refine ⟨_, hs.ld (i := 0) .z rfl, ?_⟩
 rw [ltI_eq]
 by_cases g2 : 7 < slot
 ·rw [if_pos (by simpa using g2)]
  rw [if_pos (Or.inr (Or.inl g2))] at K; exact K
 rw [if_neg (by simpa using g2)]
 refine ⟨_, hs.ld (i := 0) .z rfl, ?_⟩
 rw [ltI_eq]
 by_cases g3 : key < 0
 ·rw [if_pos (by simpa using g3)]
  rw [if_pos (by omega)] at K; exact K
 rw [if_neg (by simpa using g3)]
 refine ⟨_, hs.ld (i := 0) .z rfl, ?_⟩
 rw [ltI_eq]
 by_cases g4 : 63 < key
 ·rw [if_pos (by simpa using g4)]
  rw [if_pos (by omega)] at K; exact K
 rw [if_neg (by simpa using g4)]
 refine ⟨_, hs.ld (i := 0) .z rfl, ?_⟩
 rw [ltI_eq]
 by_cases g5 : ver < 0
 ·rw [if_pos (by simpa using g5)]
  rw [if_pos (by omega)] at K; exact K
 rw [if_neg (by simpa using g5)]
 refine ⟨_, hs.ld (i := 0) .z rfl, ?_⟩
 intro v25 hv
 subst hv
 rw [ltI_eq]
 by_cases g6 : 4294967295 < ver
 ·rw [if_pos (by simpa using g6)]
  rw [if_pos (by omega)] at K; exact K
 rw [if_neg (by simpa using g6)]
 rw [if_neg (by omega)] at K
 apply hJ
 refine ⟨_, _, _, hs.ld (i := 0) .z rfl, ?_⟩
 dsimp only
 rw [ltI_eq]
 by_cases g7 : 524240 < pl
 ·rw [if_pos (by rw [decide_eq_true_iff]; omega)]
  rw [if_pos g7] at K; exact K
 ·rw [if_neg (by rw [decide_eq_true_iff]; omega)]
  rw [if_neg g7] at K; exact K
theorem rmake_sp {Q : Option Addr → Nat → Nat → Int → H → Prop} {slot key ver : Int} {sec pay tag : List Int} {sp pp : Option Addr} {sl sc pl pc : Nat} (hs : Sat h0 A h) (ht : tag.length = 32) (hm : may11 slot key ver pl = 0) (hsb : isBy sec) (hsl : sl < 2 ^ 40) (hpb : isBy pay)
  (rs : ∀ h', Sat h0 A h' → hsv h' sp 1 sl (ints .u8 sec)) (rd : ∀ h', Sat h0 A h' → hsv h' pp 1 pl (ints .u8 pay))
  (k : ∀ p' c' h', Sat h0 (slE p' (48 + pl) c' 1 (ints .u8 (coverM slot key ver pay ++ macM sec (coverM slot key ver pay))) :: A) h' → 48 + pl ≤ c' → Q p' (48 + pl) c' 0 h') : F_portcullisref11_Make sp sl sc slot key ver pp pl pc tag Q h := by
 unfold F_portcullisref11_Make G_portcullisref11_Make
 try simp only [add_mk, Nat.zero_add, List.append_nil]
 have hpl : pay.length = pl := by have := (rd _ hs).1; simpa using this
 have hp : pl ≤ 524240 := by
  unfold may11 at hm
  by_cases g : slot < 0 ∨ 7 < slot ∨ key < 0 ∨ 63 < key ∨ ver < 0 ∨ 4294967295 < ver
  ·rw [if_pos g] at hm; cases hm
  ·rw [if_neg g] at hm
   by_cases g2 : 524240 < pl
   ·rw [if_pos g2] at hm; cases hm
   ·omega
 have hcb : isBy (coverM slot key ver pay) := by
  intro v hv
  unfold coverM at hv
  have w8 : ∀ n, 0 ≤ IntKind.u8.wrap n ∧ IntKind.u8.wrap n < 256 := fun n => by rw [IntKind.wrap_u8]; omega
  have f8 : ∀ v t x, x ∈ fourL v t → 0 ≤ x ∧ x < 256 := by
   intro v t x hx
   unfold fourL at hx
   obtain ⟨j, _, rfl⟩ := List.mem_map.1 hx
   exact w8 _
  rcases List.mem_append.1 hv with hv | hv
  ·rcases List.mem_append.1 hv with hv | hv
   ·rcases List.mem_append.1 hv with hv | hv
    ·simp only [List.mem_cons, List.not_mem_nil, or_false] at hv
     rcases hv with rfl | rfl | rfl | rfl | rfl | rfl | rfl | rfl
     ·decide
     ·decide
     ·decide
     ·decide
     ·decide
     ·exact w8 _
     ·exact w8 _
     ·decide
    ·exact f8 _ _ _ hv
   ·exact f8 _ _ _ hv
  ·exact hpb v hv
 intro n16 _ hn; replace hs := Sat.new hs hn; clear hn
 replace hs : Sat h0 (blk n16 (imgL slot key ver (pp, pl, pc) tag) :: A) _ := hs
 refine ⟨_, hs.ld (i := 0) .z rfl, _, hs.ld (i := 0) .z rfl, _, hs.ld (i := 0) .z rfl, _, _, _, hs.ld (i := 0) .z rfl, tag, ht, img_row hs .z ht, ?_⟩
 refine rmay11_sp hs ?_
 intro h2 hs
 rw [hm, if_neg (by decide)]
 refine ⟨_, hs.ld (i := 0) .z rfl, _, hs.ld (i := 0) .z rfl, _, hs.ld (i := 0) .z rfl, _, _, _, hs.ld (i := 0) .z rfl, tag, ht, img_row hs .z ht, ?_⟩
 refine rcover_sp (pay := pay) hs (by dsimp only; omega) (fun h' hs' => rd _ hs'.drop) ?_
 intro p2 c2 h3 hs
 refine rmac_sp (key := sec) (b := coverM slot key ver pay) hs hsb hcb (by omega) (by dsimp only; omega) (fun h' hs' => rs _ hs'.drop.drop) (fun h' hs' => hs'.sv (i := 0) .z) ?_
 intro h4 hs
 replace hs := hs.drop
 refine ⟨Sat.can hs (i := 0) .z (by simp [ht]), ?_⟩
 intro h5 e5
 replace hs := Sat.wr hs (i := 0) (o := 4) .z e5
 clear e5
 simp only [put_zero] at hs
 have es : splice (imgL slot key ver (pp, pl, pc) tag) 4 (ints .u8 (macM sec (coverM slot key ver pay))) = imgL slot key ver (pp, pl, pc) (macM sec (coverM slot key ver pay)) := by
  have := splice_append [Value.int .i64 slot, .int .i64 key, .int .i64 ver, .slice pp pl pc] (ints .u8 tag) [] (ints .u8 (macM sec (coverM slot key ver pay))) (by simp [ht, macM_len])
  simpa using this
 rw [es] at hs
 refine ⟨_, hs.ld (i := 0) .z rfl, _, hs.ld (i := 0) .z rfl, _, hs.ld (i := 0) .z rfl, _, _, _, hs.ld (i := 0) .z rfl, _, macM_len _ _, img_row hs .z (macM_len _ _), ?_⟩
 refine rtagged_sp (pay := pay) hs (macM_len _ _) (by dsimp only; omega) (fun h' hs' => rd _ hs'.drop) ?_
 intro p6 c6 h6 hs hc
 exact k _ _ _ (hs.sub (by (repeat (first | exact List.Sublist.refl _ | apply List.Sublist.cons_cons | apply List.Sublist.cons)))) hc
theorem same11_sp {Q : Bool → H → Prop} {a b v : Int} {pay tag : List Int} {p1 p2 : Option Addr} {l1 c1 l2 c2 : Nat} (hs : Sat h0 A h) (ht : tag.length = 32) (r1 : ∀ h', Sat h0 A h' → hsv h' p1 1 l1 (ints .u8 pay)) (r2 : ∀ h', Sat h0 A h' → hsv h' p2 1 l2 (ints .u8 pay))
  (k : ∀ h', Sat h0 A h' → Q true h') : F_portcullisref11_Same a b v p1 l1 c1 tag a b v p2 l2 c2 tag Q h := by
 unfold F_portcullisref11_Same G_portcullisref11_Same
 try simp only [add_mk, Nat.zero_add, List.append_nil]
 intro n16 _ hn; replace hs := Sat.new hs hn; clear hn
 intro n19 _ hn; replace hs := Sat.new hs hn; clear hn
 replace hs : Sat h0 (blk n19 (imgL a b v (p2, l2, c2) tag) :: blk n16 (imgL a b v (p1, l1, c1) tag) :: A) _ := hs
 refine ⟨_, hs.ld (i := 1) (.s .z) rfl, _, hs.ld (i := 0) .z rfl, ?_⟩
 rw [if_pos (by simp)]
 refine ⟨_, hs.ld (i := 1) (.s .z) rfl, _, hs.ld (i := 0) .z rfl, ?_⟩
 rw [if_pos (by simp)]
 refine ⟨_, hs.ld (i := 1) (.s .z) rfl, _, hs.ld (i := 0) .z rfl, ?_⟩
 rw [if_pos (by simp)]
 refine ⟨_, _, _, hs.ld (i := 1) (.s .z) rfl, _, r1 _ hs.drop.drop, _, _, _, hs.ld (i := 0) .z rfl, _, r2 _ hs.drop.drop, ?_⟩
 rw [if_pos (by simp)]
 refine ⟨tag, ht, img_row hs (.s .z) ht, tag, ht, img_row hs .z ht, ?_⟩
 have : (tag == tag) = true := by simp
 rw [this]
 exact k _ hs.drop.drop
end
end Go.Proofs.YtaglicdidpgkpaaGreatDoor
end

/- The gate: answers that the document fixes (reckoned). Own work. -/
section
set_option maxRecDepth 1000000
namespace Go.Proofs.YtaglicdidpgkpaaGreatDoor
open Go Go.Vc
def cfg13 : Cfg := ⟨8, 2, 3, 10, 4, 5, 0⟩
theorem cfg13_may : cfg13.may := by decide
theorem g13 : (gateM (freshC cfg13) [(1, [7])] (coverM 1 1 5 [] ++ zeros 32) == 15 && gateM (freshC cfg13) [(1, [7])] (coverM 1 1 5 [] ++ macM [7] (coverM 1 1 5 [])) == 0 && gateM (freshC cfg13) [(1, [7])] [] == 6 && num4 (coverM 1 1 5 [] ++ macM [7] (coverM 1 1 5 [])) 8 == 5) = true := by decide +kernel
theorem g13a : gateM (freshC cfg13) [(1, [7])] (coverM 1 1 5 [] ++ zeros 32) = 15 := by have := g13; simp only [Bool.and_eq_true, beq_iff_eq] at this; exact this.1.1.1
theorem g13b : gateM (freshC cfg13) [(1, [7])] (coverM 1 1 5 [] ++ macM [7] (coverM 1 1 5 [])) = 0 := by have := g13; simp only [Bool.and_eq_true, beq_iff_eq] at this; exact this.1.1.2
theorem g13c : gateM (freshC cfg13) [(1, [7])] [] = 6 := by have := g13; simp only [Bool.and_eq_true, beq_iff_eq] at this; exact this.1.2
theorem g13d : num4 (coverM 1 1 5 [] ++ macM [7] (coverM 1 1 5 [])) 8 = 5 := by have := g13; simp only [Bool.and_eq_true, beq_iff_eq] at this; exact this.2
theorem n13 : newM [(1, [7])] = none := by decide
end Go.Proofs.YtaglicdidpgkpaaGreatDoor
end

/- Law 13: what stands at the head of its statements. Own work. -/
section
set_option maxRecDepth 100000
set_option linter.unusedVariables false
namespace Go.Proofs.YtaglicdidpgkpaaGreatDoor
open Go Go.Vc
attribute [local irreducible] macM gateM

section
variable {h0 h : H} {A : List Ent} {i j p r b s m : Nat} {C : Cm}
theorem beyond_sp {Q : Bool → H → Prop} {p : Option Addr} {l c : Nat} (hs : Sat h0 A h) (rt : ∀ t, t < l → BytesAt h0 p t) (hl : l < 2 ^ 60) (k : ∀ b, Q b h) : F_portcullisref01_Beyond p l c Q h := by
 unfold F_portcullisref01_Beyond G_portcullisref01_Beyond
 intro J hJ
 refine loopS l (fun t (s : Int) => [.dv (.one (.int .i64 s)), si t]) (fun t s h' => h' = h) ?_ ?_ 0 2147483647 _ (by omega) rfl
 ·rintro t s h1 ht rfl hk
  apply hJ
  rw [ltI_eq, if_pos (by rw [decide_eq_true_iff]; omega)]
  by_cases g : leI 0 s = true
  ·rw [if_pos g]
   obtain ⟨q, xp, xl, xc, bs, hq, g0, _⟩ := rt t ht
   refine ⟨q, hq, by omega, by omega, ?_⟩
   simp only [Int.toNat_natCast, Nat.mul_one]
   refine ⟨_, _, _, hc_ext hs.ex g0 (fun y => y), ?_⟩
   rw [wrap_succ (by omega)]
   exact hk _ _ rfl
  ·rw [if_neg g]
   exact k _
 ·rintro s h1 rfl
  apply hJ
  rw [ltI_eq, if_neg (by rw [decide_eq_true_iff]; omega)]
  exact k _
theorem awake13_sp {Q : Bool → H → Prop} (hg : hc h0 ⟨0, 0, none⟩ = some errTypeV) (hs : Sat h0 A h) (k : ∀ h', Sat h0 A h' → Q true h') : F_portcullislaw13_awake Q h := by
 unfold F_portcullislaw13_awake G_portcullislaw13_awake
 try simp only [add_mk, Nat.zero_add, List.append_nil]
 refine New_sp cfg13 hs (fun nm => absurd cfg13_may nm) ?_
 intro _ pc h1 hs
 intro n11 _ hn; replace hs := Sat.new hs hn; clear hn
 intro n14 _ hn; replace hs := Sat.new hs hn; clear hn
 have rdX : ∀ h', Sat h0 (blk n14 [.int .i64 1, .slice (some ⟨n11, 0, none⟩) 1 1] :: blk n11 [.int .u8 7] :: chipE pc (freshC cfg13) :: A) h' → SecsAt h' (some ⟨n14, 0, none⟩) 1 [⟨1, [7], some ⟨n11, 0, none⟩, 1⟩] := by
  intro h' hs'
  refine ⟨rfl, ?_⟩
  intro x hx
  have : x = 0 := by simp at hx; exact hx
  subst this
  refine ⟨_, rfl, ?_, ?_, hs'.bv (i := 1) (l := 1) (.s .z) rfl (ints_one .u8 [7]), ?_, by show 1 < 2 ^ 47; decide⟩
  ·exact hs'.ld (i := 0) .z rfl
  ·exact hs'.ld (i := 0) .z rfl
  ·intro n hn
   simp only [List.getElem_cons_zero, List.mem_cons, List.not_mem_nil, or_false] at hn
   subst hn; decide
 refine keysU_sp (L := [(1, [7])]) hs rfl rdX (by decide) ?_
 intro o e x h2 B hs hB
 intro J21 hJ21
 rcases hB with ⟨a, _⟩ | ⟨_, e0, rp, mp, R, ho, eR, gR, b1⟩
 ·rw [n13] at a; cases a
 subst e0 ho b1
 rw [if_neg (by decide), if_neg (by decide), if_neg (by simp), if_neg (by simp)]
 apply hJ21
 clear hJ21
 obtain ⟨RR, hRR⟩ : ∃ RR, RR = ringP rp mp R ++ (blk n14 [.int .i64 1, .slice (some ⟨n11, 0, none⟩) 1 1] :: blk n11 [.int .u8 7] :: chipE pc (freshC cfg13) :: A) := ⟨_, rfl⟩
 rw [← hRR] at hs
 obtain ⟨y0, a0⟩ : ∃ x, At RR x (chipE pc (freshC cfg13)) := At.mem (by rw [hRR]; simp)
 obtain ⟨y3, a3⟩ : ∃ x, At RR x (blk rp [.map (some mp)]) := At.mem (by rw [hRR]; simp)
 obtain ⟨y4, a4⟩ : ∃ x, At RR x (mapE mp (R.map SR.ent)) := At.mem (by rw [hRR]; simp)
 have r1 : ∀ x, x ∈ R → ∃ y, At RR y x.sl := fun x hx => At.mem (by rw [hRR]; exact List.mem_append_left _ (List.mem_cons_of_mem _ (List.mem_cons_of_mem _ (List.mem_map_of_mem hx))))
 have sub : A.Sublist RR := by
  rw [hRR]
  exact (((List.sublist_cons_self _ _).trans (List.sublist_cons_self _ _)).trans (List.sublist_cons_self _ _)).trans (List.sublist_append_right _ _)
 clear hRR
 refine ⟨_, rfl, ?_⟩
 refine sMount_sp hs a0 (fun y => by cases y) ?_
 intro _ st lg h3 hs
 intro J27 hJ27
 rw [if_neg (by decide), if_neg (by simp)]
 apply hJ27
 clear hJ27
 refine rtagged_sp (slot := 1) (key := 1) (ver := 5) (pay := []) (tag := zeros 32) (pl := 0) hs (zeros_len 32) (by decide) (fun _ _ => hsv_nil _ _ _) ?_
 intro p1 c1 h4 hs hc1
 refine ⟨_, rfl, _, rfl, ?_⟩
 refine gate_sp (bs := coverM 1 1 5 [] ++ zeros 32) hg hs a0.s.s.s (.s (.s .z)) (.s .z) a3.s.s.s a4.s.s.s gR (fun x hx h' hs' => hs'.sv (r1 x hx).choose_spec.s.s.s) (fun h' hs' => hs'.sv (i := 0) .z) (by unfold bytesOk isByte; decide) (by omega) (by decide) ?_ ?_
 case refine_2 =>
  intro own n he _ _ _ h5 hs
  rw [eR] at he
  have := g13a
  omega
 intro e he _ h5 hs
 rw [eR, g13a] at he
 subst he
 intro n44 _ hn; replace hs := Sat.new hs hn; clear hn
 refine ⟨Sat.can hs (i := 0) .z (by simp [zeros]), ?_⟩
 intro h6 e6
 replace hs := Sat.wra (xs := imgL 0 0 0 (none, 0, 0) (zeros 32)) hs (i := 0) .z e6 rfl
 clear e6
 simp only [put_zero] at hs
 intro n49 _ hn; replace hs := Sat.new hs hn; clear hn
 refine rmake_sp (sec := [7]) (pay := []) (slot := 1) (key := 1) (ver := 5) (pl := 0) hs (zeros_len 32) (by decide) (by intro n hn; simp at hn; subst hn; decide) (by decide) (by intro n hn; cases hn) (fun h' hs' => hs'.bv (i := 0) (l := 1) .z rfl (ints_one .u8 [7])) (fun _ _ => hsv_nil _ _ _) ?_
 intro p2 c2 h7 hs hc2
 refine ⟨_, rfl, _, rfl, ?_⟩
 have hb2 : bytesOk (coverM 1 1 5 [] ++ macM [7] (coverM 1 1 5 [])) := by
  intro v hv
  rcases List.mem_append.1 hv with hv | hv
  ·exact (by unfold bytesOk isByte; decide : bytesOk (coverM 1 1 5 [])) v hv
  ·exact isBy_mac _ _ v hv
 refine gate_sp (bs := coverM 1 1 5 [] ++ macM [7] (coverM 1 1 5 [])) hg hs a0.s.s.s.s.s.s (.s (.s (.s (.s (.s .z))))) (.s (.s (.s (.s .z)))) a3.s.s.s.s.s.s a4.s.s.s.s.s.s gR (fun x hx h' hs' => hs'.sv (r1 x hx).choose_spec.s.s.s.s.s.s) (fun h' hs' => hs'.sv (i := 0) .z) hb2 (by omega) (by decide) ?_ ?_
 ·intro e he hne h8 hs
  rw [eR, g13b] at he
  exact absurd he hne
 intro own n he hp hnn hln h8 hs
 have htl : (((coverM 1 1 5 [] ++ macM [7] (coverM 1 1 5 [])).drop (16 + n)).take 32).length = 32 := by rw [List.length_take, List.length_drop]; omega
 intro n68 _ hn; replace hs := Sat.new hs hn; clear hn
 refine ⟨Sat.can hs (i := 0) .z (by simp [zeros]), ?_⟩
 intro h9 e9
 replace hs := Sat.wra (xs := imgL ((coverM 1 1 5 [] ++ macM [7] (coverM 1 1 5 [])).getD 5 0) ((coverM 1 1 5 [] ++ macM [7] (coverM 1 1 5 [])).getD 6 0) (num4 (coverM 1 1 5 [] ++ macM [7] (coverM 1 1 5 [])) 8) (subAddr own.1 16 (16 + n) 1, n, n) (((coverM 1 1 5 [] ++ macM [7] (coverM 1 1 5 [])).drop (16 + n)).take 32)) hs (i := 0) .z e9 (by rw [img_len htl]; rfl)
 clear e9
 simp only [put_zero] at hs
 rw [g13d] at hs
 refine ⟨_, rfl, _, rfl, ?_⟩
 refine gate_sp (bs := []) hg hs a0.s.s.s.s.s.s.s.s (.s (.s (.s (.s (.s (.s (.s .z))))))) (.s (.s (.s (.s (.s (.s .z)))))) a3.s.s.s.s.s.s.s.s a4.s.s.s.s.s.s.s.s gR (fun x hx h' hs' => hs'.sv (r1 x hx).choose_spec.s.s.s.s.s.s.s.s) (fun _ _ => hsv_nil _ _ _) (by intro n hn; cases hn) (by decide) (by decide) ?_ ?_
 case refine_2 =>
  intro own n he _ _ _ h5 hs
  rw [eR] at he
  have := g13c
  omega
 intro e he _ h10 hs
 rw [eR, g13c] at he
 subst he
 intro n84 _ hn; replace hs := Sat.new hs hn; clear hn
 refine ⟨Sat.can hs (i := 0) .z (by simp [zeros]), ?_⟩
 intro h11 e11
 replace hs := Sat.wra (xs := imgL 0 0 0 (none, 0, 0) (zeros 32)) hs (i := 0) .z e11 rfl
 clear e11
 simp only [put_zero] at hs
 rw [if_pos (by decide), if_pos (by decide)]
 refine ⟨_, hs.ld (i := 1) (.s .z) rfl, ?_⟩
 rw [if_pos (by decide)]
 exact k _ (hs.sub (by
  refine sub.trans ?_
  exact ((((((((List.sublist_cons_self _ _).trans (List.sublist_cons_self _ _)).trans (List.sublist_cons_self _ _)).trans (List.sublist_cons_self _ _)).trans (List.sublist_cons_self _ _)).trans (List.sublist_cons_self _ _)).trans (List.sublist_cons_self _ _)).trans (List.sublist_cons_self _ _)).trans (List.sublist_cons_self _ _)))
def okS (c : Cfg) (s : St) (L : List Sec) : Prop := c.may ∧ s.lays c ∧ newM L = none
theorem scene13_sp {a_ b_ c' : Sl} {s : St} {X : List SR} {lp : Option Addr} {ll lc : Nat} {Q : Option Addr → Option Addr → Option Addr → Bool → H → Prop} (c : Cfg) (hs : Sat h0 A h) (rd : ∀ h', Sat h0 A h' → RdS h' a_ b_ c' s) (ty : s.typed) (rl : SecsAt h0 lp ll X) (hll : ll < 2 ^ 47)
  (k1 : ¬ okS c s (X.map SR.kv) → ∀ h', Sat h0 A h' → Q none none none false h')
  (k2 : okS c s (X.map SR.kv) → ∀ pc st lg rp mp R h', R.map SR.kv = X.map SR.kv → SR.good R → Sat h0 (chipE pc (layC c s) :: storeE st pc lg :: logE lg pc :: (ringP rp mp R ++ A)) h' → Q (some ⟨pc, 0, none⟩) (some ⟨st, 0, none⟩) (some ⟨rp, 0, none⟩) true h') :
  F_portcullislaw13_scene c.cells c.slots c.fuses c.step c.keys c.erases c.area a_.1 a_.2.1 a_.2.2 b_.1 b_.2.1 b_.2.2 c'.1 c'.2.1 c'.2.2 lp ll lc Q h := by
 unfold F_portcullislaw13_scene G_portcullislaw13_scene
 try simp only [add_mk, Nat.zero_add, List.append_nil]
 have lR : X.length = ll := rl.1.symm
 obtain ⟨L, hL⟩ : ∃ L, X.map SR.kv = L := ⟨_, rfl⟩
 rw [hL] at k1 k2
 intro n26 _ hn; replace hs := Sat.new hs hn; clear hn
 replace hs : Sat h0 (blk n26 (scnV c a_ b_ c' lp ll lc) :: A) _ := hs
 (repeat first | refine ⟨_, Sat.ld hs (by (repeat (first | exact At.z | apply At.s))) (by rfl), ?_⟩ | refine ⟨_, _, _, Sat.ld hs (by (repeat (first | exact At.z | apply At.s))) (by rfl), ?_⟩ | (intro _ _ hn; replace hs := Sat.new hs hn; clear hn) | refine ⟨Sat.cs hs (by (repeat (first | exact At.z | apply At.s))) (by rfl), ?_⟩ | (refine ⟨Sat.can hs (by (repeat (first | exact At.z | apply At.s))) (by simp), ?_⟩; intro _ e; replace hs := Sat.wr hs (by (repeat (first | exact At.z | apply At.s))) e; clear e; simp only [put, splice, List.set] at hs))
 refine Lay_sp (a := a_) (b := b_) (c' := c') (s := s) c hs (fun h' hs' => rd _ hs'.drop) ty ?_ ?_ ?_
 ·intro nm h1 hs
  refine ⟨_, _, _, Sat.ld hs (by (repeat (first | exact At.z | apply At.s))) (by rfl), ?_⟩
  refine keysU_sp hs hL (fun h' hs' => rl.ext hs') hll ?_
  intro o1 e1 i1 h3 B hs hB J53 hJ53
  rw [if_pos (by decide)]
  exact k1 (fun y => nm y.1) _ (hs.sub ((List.sublist_cons_self _ _).trans (List.sublist_append_right _ _)))
 ·intro m nl h1 hs
  refine ⟨_, _, _, Sat.ld hs (by (repeat (first | exact At.z | apply At.s))) (by rfl), ?_⟩
  refine keysU_sp hs hL (fun h' hs' => rl.ext hs') hll ?_
  intro o1 e1 i1 h3 B hs hB J53 hJ53
  rw [if_pos (by decide)]
  exact k1 (fun y => nl y.2.1) _ (hs.sub ((List.sublist_cons_self _ _).trans (List.sublist_append_right _ _)))
 ·intro m l pc h1 hs
  refine ⟨_, _, _, Sat.ld hs (by (repeat (first | exact At.z | apply At.s))) (by rfl), ?_⟩
  refine keysU_sp hs hL (fun h' hs' => rl.ext hs') hll ?_
  intro o1 e1 i1 h3 B hs hB J53 hJ53
  rw [if_neg (by decide)]
  rcases hB with ⟨a, b⟩ | ⟨a, b0, rp, mp, R, b, eR, gR, b1⟩
  ·rw [if_pos (by simpa using newM_ne a)]
   exact k1 (fun y => by rw [y.2.2] at a; cases a) _ (hs.sub (((List.sublist_cons_self _ _).trans (List.sublist_cons_self _ _)).trans (List.sublist_append_right _ _)))
  subst b0 b b1
  rw [if_neg (by decide), if_neg (by simp), if_neg (by simp)]
  apply hJ53
  refine ⟨_, rfl, ?_⟩
  obtain ⟨z, az⟩ : ∃ z, At (ringP rp mp R ++ (chipE pc (layC c s) :: blk n26 (scnV c a_ b_ c' lp ll lc) :: A)) z (chipE pc (layC c s)) := At.mem (by simp)
  refine sMount_sp hs az (fun y => by cases y) ?_
  intro _ st lg h5 hs
  rw [if_pos (by decide)]
  refine k2 ⟨m, l, a⟩ pc st lg rp mp R h5 eR gR ?_
  have p1 : (storeE st pc lg :: logE lg pc :: (ringP rp mp R ++ (chipE pc (layC c s) :: blk n26 (scnV c a_ b_ c' lp ll lc) :: A))).Perm (chipE pc (layC c s) :: storeE st pc lg :: logE lg pc :: (ringP rp mp R ++ (blk n26 (scnV c a_ b_ c' lp ll lc) :: A))) := by
   have q1 : (ringP rp mp R ++ (chipE pc (layC c s) :: (blk n26 (scnV c a_ b_ c' lp ll lc) :: A))).Perm (chipE pc (layC c s) :: (ringP rp mp R ++ (blk n26 (scnV c a_ b_ c' lp ll lc) :: A))) := List.perm_middle
   exact ((q1.cons _).cons _).trans ((List.Perm.swap _ _ _).cons _ |>.trans (List.Perm.swap _ _ _))
  refine (hs.perm p1).sub ?_
  refine List.Sublist.cons_cons _ (List.Sublist.cons_cons _ (List.Sublist.cons_cons _ ?_))
  exact (List.Sublist.refl _).append (List.sublist_cons_self _ _)
theorem may13_sp {a_ b_ c' : Sl} {s : St} {X : List SR} {lp : Option Addr} {ll lc : Nat} {Q : Option Addr → Option Addr → Bool → H → Prop} (c : Cfg) (hs : Sat h0 A h) (rd : ∀ h', Sat h0 A h' → RdS h' a_ b_ c' s) (ty : s.typed) (rl : SecsAt h0 lp ll X) (hll : ll < 2 ^ 47)
  (k1 : ¬ okS c s (X.map SR.kv) → ∀ o o' h', Sat h0 A h' → Q o o' false h')
  (k2 : okS c s (X.map SR.kv) → ∀ pr rr lp' lc' R2 h', R2.map SR.kv = X.map SR.kv → SR.good R2 → R2.length < 2 ^ 40 → Sat h0 (refE pr (layC c s) :: (ringD rr lp' lc' R2 ++ A)) h' → Q (some ⟨pr, 0, none⟩) (some ⟨rr, 0, none⟩) true h') :
  F_portcullislaw13_may c.cells c.slots c.fuses c.step c.keys c.erases c.area a_.1 a_.2.1 a_.2.2 b_.1 b_.2.1 b_.2.2 c'.1 c'.2.1 c'.2.2 lp ll lc Q h := by
 unfold F_portcullislaw13_may G_portcullislaw13_may
 try simp only [add_mk, Nat.zero_add, List.append_nil]
 have lR : X.length = ll := rl.1.symm
 obtain ⟨L, hL⟩ : ∃ L, X.map SR.kv = L := ⟨_, rfl⟩
 rw [hL] at k1 k2
 intro n26 _ hn; replace hs := Sat.new hs hn; clear hn
 replace hs : Sat h0 (blk n26 (scnV c a_ b_ c' lp ll lc) :: A) _ := hs
 (repeat first | refine ⟨_, Sat.ld hs (by (repeat (first | exact At.z | apply At.s))) (by rfl), ?_⟩ | refine ⟨_, _, _, Sat.ld hs (by (repeat (first | exact At.z | apply At.s))) (by rfl), ?_⟩ | (intro _ _ hn; replace hs := Sat.new hs hn; clear hn) | refine ⟨Sat.cs hs (by (repeat (first | exact At.z | apply At.s))) (by rfl), ?_⟩ | (refine ⟨Sat.can hs (by (repeat (first | exact At.z | apply At.s))) (by simp), ?_⟩; intro _ e; replace hs := Sat.wr hs (by (repeat (first | exact At.z | apply At.s))) e; clear e; simp only [put, splice, List.set] at hs))
 refine rLay_sp (a := a_) (b := b_) (c' := c') (s := s) c hs (fun h' hs' => rd _ hs'.drop) ty ?_ ?_ ?_
 ·intro nm h1 hs
  refine ⟨_, _, _, Sat.ld hs (by (repeat (first | exact At.z | apply At.s))) (by rfl), ?_⟩
  refine ringsU_sp hs hL (fun h' hs' => rl.ext hs') hll ?_
  intro o1 e1 i1 h3 B hs hB
  rw [if_neg (by decide)]
  exact k1 (fun y => nm y.1) _ _ _ (hs.sub ((List.sublist_cons_self _ _).trans (List.sublist_append_right _ _)))
 ·intro m nl h1 hs
  refine ⟨_, _, _, Sat.ld hs (by (repeat (first | exact At.z | apply At.s))) (by rfl), ?_⟩
  refine ringsU_sp hs hL (fun h' hs' => rl.ext hs') hll ?_
  intro o1 e1 i1 h3 B hs hB
  rw [if_neg (by decide)]
  exact k1 (fun y => nl y.2.1) _ _ _ (hs.sub ((List.sublist_cons_self _ _).trans (List.sublist_append_right _ _)))
 ·intro m l pr h1 hs
  refine ⟨_, _, _, Sat.ld hs (by (repeat (first | exact At.z | apply At.s))) (by rfl), ?_⟩
  refine ringsU_sp hs hL (fun h' hs' => rl.ext hs') hll ?_
  intro o1 e1 i1 h3 B hs hB
  rw [if_pos (by decide)]
  rcases hB with ⟨a, b⟩ | ⟨a, b0, rr, lp2, lc2, R2, b, eR2, gR2, b1⟩
  ·have : (e1 == 0) = false := by simpa using newM_ne a
   rw [this]
   exact k1 (fun y => by rw [y.2.2] at a; cases a) _ _ _ (hs.sub (((List.sublist_cons_self _ _).trans (List.sublist_cons_self _ _)).trans (List.sublist_append_right _ _)))
  subst b0 b b1
  have lR2 : R2.length < 2 ^ 40 := by
   have := congrArg List.length eR2
   rw [List.length_map] at this
   have h64 : ¬ 64 < L.length := fun y => by unfold newM at a; rw [if_pos y] at a; cases a
   omega
  refine k2 ⟨m, l, a⟩ pr rr lp2 lc2 R2 h3 eR2 gR2 lR2 ?_
  have q1 : (ringD rr lp2 lc2 R2 ++ (refE pr (layC c s) :: (blk n26 (scnV c a_ b_ c' lp ll lc) :: A))).Perm (refE pr (layC c s) :: (ringD rr lp2 lc2 R2 ++ (blk n26 (scnV c a_ b_ c' lp ll lc) :: A))) := List.perm_middle
  refine (hs.perm q1).sub ?_
  refine List.Sublist.cons_cons _ ?_
  exact (List.Sublist.refl _).append (List.sublist_cons_self _ _)
end
end Go.Proofs.YtaglicdidpgkpaaGreatDoor
end

/- TokenChecks: over any chip, keys, tokens, wishes; no act; without power, too. Own work. -/
section
set_option maxRecDepth 100000
set_option linter.unusedVariables false
namespace Go.Proofs.YtaglicdidpgkpaaGreatDoor
open Go Go.Vc
attribute [local irreducible] macM

structure TkIn (h : H) (key : Int) (id tag : List Int) (cs : List CvM) (ip : Option Addr) (il : Nat) (cp : Option Addr) (cl : Nat) : Prop where
 ri : hsv h ip 1 il (ints .u8 id)
 rb : isBy id
 ii : il + 4096 ≤ 2 ^ 47
 rc : hsv h cp 5 cl (cvsV cs)
 tl : tag.length = 32
 tb : isBy tag
theorem cut_acts (c : Cfg) (s : St) (m : c.may) (l : s.lays c) : (blowM (cutM (layC c s) 0 []) 0).1.acts = 1 := by
 have hb : (s.blown.length : Int) = c.nf := l.fits.blown
 have hf := m.fuses
 have hsl := m.slots
 have hk := m.keys
 have h1 : 1 ≤ c.nf := by
  unfold Cfg.nf
  have : 0 ≤ c.slots * c.fuses := Int.mul_nonneg (by omega) (by omega)
  omega
 have ha : askedM (cutM (layC c s) 0 []) 0 s.blown.length = 0 := askedM_in rfl (by decide) (by omega)
 unfold blowM
 rw [if_neg (show ¬ askedM (cutM (layC c s) 0 []) 0 (cutM (layC c s) 0 []).s.blown.length ≠ 0 from fun y => y ha)]
 have e : (cutM (layC c s) 0 []).act.acts = 1 := by
  unfold Cm.act
  rw [if_neg (by show ¬ ((if (0 : Int) > -1 then (0 : Int) else -1) ≠ 0); decide)]
  show w64 (0 + 1) = 1
  decide
 dsimp only
 by_cases g : bits .and .u8 (maskAt (cutM (layC c s) 0 []) 0) 1 = 1
 ·rw [if_pos g]; exact e
 ·rw [if_neg g]; exact e
section
variable {h0 h : H} {A : List Ent} {i j p r b s m : Nat} {C : Cm}
end
end Go.Proofs.YtaglicdidpgkpaaGreatDoor
end

/- GateNames, GateChecks. Own work. -/
section
set_option maxRecDepth 100000
set_option linter.unusedVariables false
namespace Go.Proofs.YtaglicdidpgkpaaGreatDoor
open Go Go.Vc
attribute [local irreducible] macM gateM

section
variable {h0 h : H} {A : List Ent} {i j p r b s m : Nat} {C : Cm}
theorem perm3m {α : Type} (a b c : α) (P C : List α) : (P ++ a :: b :: c :: C).Perm (a :: b :: c :: (P ++ C)) := by
 have := (List.perm_append_comm (l₁ := P) (l₂ := [a, b, c])).append_right C
 simpa using this
theorem payRd {h : H} {own : Sl} {bs : List Int} {n : Nat} (rd : hsv h own.1 1 own.2.1 (ints .u8 bs)) (hl : bs.length = 48 + n) : hsv h (subAddr own.1 16 (16 + n) 1) 1 n (ints .u8 ((bs.drop 16).take n)) := by
 have hlen : own.2.1 = 48 + n := by have := rd.1; simp at this; omega
 exact subRd (o := 16) (n := n) (m := 16 + n) rd (by omega) (by omega)
theorem GateChecks_sp {Q : Bool → H → Prop} (hg : hc h0 ⟨0, 0, none⟩ = some errTypeV) {a_ b_ c' : Sl} {s : St} {X : List SR} {lp tp : Option Addr} {ll lc tl tc : Nat} (c : Cfg) (rd0 : RdS h0 a_ b_ c' s) (ty : s.typed) (rl : SecsAt h0 lp ll X) (hll : ll < 2 ^ 47)
  (rt : ∀ t, t < tl → BytesAt h0 tp t) (htl : tl < 2 ^ 60) (k : ∀ h', Sat h0 [] h' → Q true h') :
  F_portcullislaw13_GateChecks c.cells c.slots c.fuses c.step c.keys c.erases c.area a_.1 a_.2.1 a_.2.2 b_.1 b_.2.1 b_.2.2 c'.1 c'.2.1 c'.2.2 lp ll lc tp tl tc Q h0 := by
 unfold F_portcullislaw13_GateChecks G_portcullislaw13_GateChecks
 try simp only [add_mk, Nat.zero_add, List.append_nil]
 have hs := Sat.init h0
 intro n41 _ hn; replace hs := Sat.new hs hn; clear hn
 replace hs : Sat h0 [blk n41 (scnV c a_ b_ c' lp ll lc)] _ := hs
 refine awake13_sp hg hs ?_
 intro h1 hs
 rw [if_neg (by decide)]
 refine beyond_sp hs rt htl ?_
 intro bb
 by_cases hbb : bb = true
 ·rw [if_pos hbb]
  exact k _ hs.nil
 rw [if_neg hbb]
 (repeat first | refine ⟨_, Sat.ld hs (by (repeat (first | exact At.z | apply At.s))) (by rfl), ?_⟩ | refine ⟨_, _, _, Sat.ld hs (by (repeat (first | exact At.z | apply At.s))) (by rfl), ?_⟩ | (intro _ _ hn; replace hs := Sat.new hs hn; clear hn) | refine ⟨Sat.cs hs (by (repeat (first | exact At.z | apply At.s))) (by rfl), ?_⟩ | (refine ⟨Sat.can hs (by (repeat (first | exact At.z | apply At.s))) (by simp), ?_⟩; intro _ e; replace hs := Sat.wr hs (by (repeat (first | exact At.z | apply At.s))) e; clear e; simp only [put, splice, List.set] at hs))
 refine scene13_sp (a_ := a_) (b_ := b_) (c' := c') (s := s) (X := X) c hs (fun h' hs' => rd0.ext hs'.ex) ty rl hll ?_ ?_
 ·intro nok h2 hs
  (repeat first | refine ⟨_, Sat.ld hs (by (repeat (first | exact At.z | apply At.s))) (by rfl), ?_⟩ | refine ⟨_, _, _, Sat.ld hs (by (repeat (first | exact At.z | apply At.s))) (by rfl), ?_⟩ | (intro _ _ hn; replace hs := Sat.new hs hn; clear hn) | refine ⟨Sat.cs hs (by (repeat (first | exact At.z | apply At.s))) (by rfl), ?_⟩ | (refine ⟨Sat.can hs (by (repeat (first | exact At.z | apply At.s))) (by simp), ?_⟩; intro _ e; replace hs := Sat.wr hs (by (repeat (first | exact At.z | apply At.s))) e; clear e; simp only [put, splice, List.set] at hs))
  refine may13_sp (a_ := a_) (b_ := b_) (c' := c') (s := s) (X := X) c hs (fun h' hs' => rd0.ext hs'.ex) ty rl hll ?_ (fun y => absurd y nok)
  intro _ o o' h3 hs
  rw [if_neg (by decide), if_pos (by decide)]
  exact k _ hs.nil
 intro ok pc st lg rp mp R h2 eR gR hs
 obtain ⟨y5, b5⟩ : ∃ x, At (chipE pc (layC c s) :: storeE st pc lg :: logE lg pc :: (ringP rp mp R ++ [blk n41 (scnV c a_ b_ c' lp ll lc)])) x (blk n41 (scnV c a_ b_ c' lp ll lc)) := At.mem (by simp)
 refine ⟨_, hs.ld b5 rfl, _, hs.ld b5 rfl, _, hs.ld b5 rfl, _, hs.ld b5 rfl, _, hs.ld b5 rfl, _, hs.ld b5 rfl, _, hs.ld b5 rfl, _, _, _, hs.ld b5 rfl, _, _, _, hs.ld b5 rfl, _, _, _, hs.ld b5 rfl, _, _, _, hs.ld b5 rfl, ?_⟩
 refine may13_sp (a_ := a_) (b_ := b_) (c' := c') (s := s) (X := X) c hs (fun h' hs' => rd0.ext hs'.ex) ty rl hll (fun nok => absurd ok nok) ?_
 intro _ pr rr lp' lc' R2 h3 eR2 gR2 lR2 hs
 rw [if_neg (by decide), if_neg (by decide)]
 obtain ⟨m, l, _⟩ := ok
 replace hs := hs.perm (((perm3m (chipE pc (layC c s)) (storeE st pc lg) (logE lg pc) (ringD rr lp' lc' R2) (ringP rp mp R ++ [blk n41 (scnV c a_ b_ c' lp ll lc)])).cons (refE pr (layC c s))).trans (List.Perm.swap _ _ _))
 obtain ⟨RR, hRR⟩ : ∃ RR, RR = ringD rr lp' lc' R2 ++ (ringP rp mp R ++ [blk n41 (scnV c a_ b_ c' lp ll lc)]) := ⟨_, rfl⟩
 rw [← hRR] at hs
 obtain ⟨x1, a1⟩ : ∃ x, At RR x (blk rr [.slice lp' R2.length lc']) := At.mem (by rw [hRR]; simp)
 obtain ⟨x2, a2⟩ : ∃ x, At RR x (slE lp' R2.length lc' 2 (secV R2)) := At.mem (by rw [hRR]; simp)
 obtain ⟨x3, a3⟩ : ∃ x, At RR x (blk rp [.map (some mp)]) := At.mem (by rw [hRR]; simp)
 obtain ⟨x4, a4⟩ : ∃ x, At RR x (mapE mp (R.map SR.ent)) := At.mem (by rw [hRR]; simp)
 obtain ⟨x5, a5⟩ : ∃ x, At RR x (blk n41 (scnV c a_ b_ c' lp ll lc)) := At.mem (by rw [hRR]; simp)
 have r1 : ∀ x, x ∈ R → ∃ y, At RR y x.sl := fun x hx => At.mem (by rw [hRR]; exact List.mem_append_right _ (List.mem_append_left _ (List.mem_cons_of_mem _ (List.mem_cons_of_mem _ (List.mem_map_of_mem hx)))))
 have r2 : ∀ x, x ∈ R2 → ∃ y, At RR y x.sl := fun x hx => At.mem (by rw [hRR]; exact List.mem_append_left _ (List.mem_cons_of_mem _ (List.mem_cons_of_mem _ (List.mem_map_of_mem hx))))
 clear hRR
 intro J74 hJ74
 refine loop_up 2 (fun t h => ∃ C, Sat h0 (chipE pc C :: refE pr C :: storeE st pc lg :: logE lg pc :: RR) h ∧ (t < 2 → C.acts = (t : Int)) ∧ (t = 0 → C = layC c s)) ?_ ?_ 0 _ (by omega) ⟨_, hs, fun _ => rfl, fun _ => rfl⟩
 ·clear hs
  rintro t h3 ht ⟨C, hs, hac, hC⟩ hk
  apply hJ74
  rw [ltI_eq, if_pos (by rw [decide_eq_true_iff]; omega)]
  intro J77 hJ77
  refine loop_up tl (fun u h => Sat h0 (chipE pc C :: refE pr C :: storeE st pc lg :: logE lg pc :: RR) h) ?_ ?_ 0 _ (by omega) hs
  ·clear hs
   intro u h4 hu hs hk2
   apply hJ77
   rw [ltI_eq, if_pos (by rw [decide_eq_true_iff]; omega)]
   obtain ⟨q, xp, xl, xc, bs, hq, g0, rb, hby, hle, hlt⟩ := rt u hu
   refine ⟨q, hq, by omega, by omega, ?_⟩
   simp only [Int.toNat_natCast, Nat.mul_one]
   refine ⟨_, _, _, hc_ext hs.ex g0 (fun y => y), _, rfl, _, rfl, ?_⟩
   refine gate_sp (bs := bs) hg hs (i := 0) .z (j := 3) (.s (.s (.s .z))) (m := 2) (.s (.s .z)) a3.s.s.s.s a4.s.s.s.s gR (fun x hx h' hs' => hs'.sv (r1 x hx).choose_spec.s.s.s.s) (fun h' hs' => hs'.base rb) hby hle (by omega) ?_ ?_
   ·intro e he hne h5 hs
    rw [eR] at he
    intro n113 _ hn; replace hs := Sat.new hs hn; clear hn
    refine ⟨Sat.can hs (i := 0) .z (by simp [zeros]), ?_⟩
    intro h6 e6
    replace hs := Sat.wra (xs := imgL 0 0 0 (none, 0, 0) (zeros 32)) hs (i := 0) .z e6 rfl
    clear e6
    simp only [put_zero] at hs
    refine ⟨_, rfl, _, rfl, ?_⟩
    refine rgate_sp (bs := bs) hs (j := 2) (.s (.s .z)) a1.s.s.s.s.s a2.s.s.s.s.s lR2 gR2 (fun x hx h' hs' => hs'.sv (r2 x hx).choose_spec.s.s.s.s.s) (fun h' hs' => hs'.base rb) hby hle (by omega) ?_ ?_
    case refine_2 =>
     intro own n hz
     rw [eR2, ← he] at hz
     exact absurd hz hne
    intro e2 he2 _ h7 hs
    rw [eR2, ← he] at he2
    subst he2
    intro n129 _ hn; replace hs := Sat.new hs hn; clear hn
    refine ⟨Sat.can hs (i := 0) .z (by simp [zeros]), ?_⟩
    intro h8 e8
    replace hs := Sat.wra (xs := imgL 0 0 0 (none, 0, 0) (zeros 32)) hs (i := 0) .z e8 rfl
    clear e8
    simp only [put_zero] at hs
    rw [if_neg (by simp)]
    refine ⟨_, hs.ld (i := 1) (.s .z) rfl, _, hs.ld (i := 1) (.s .z) rfl, _, hs.ld (i := 1) (.s .z) rfl, _, _, _, hs.ld (i := 1) (.s .z) rfl, _, zeros_len 32, img_row hs (.s .z) (zeros_len 32), _, hs.ld (i := 0) .z rfl, _, hs.ld (i := 0) .z rfl, _, hs.ld (i := 0) .z rfl, _, _, _, hs.ld (i := 0) .z rfl, _, zeros_len 32, img_row hs .z (zeros_len 32), ?_⟩
    refine same11_sp (pay := []) hs (zeros_len 32) (fun _ _ => hsv_nil _ _ _) (fun _ _ => hsv_nil _ _ _) ?_
    intro h9 hs
    rw [if_neg (by decide)]
    refine ⟨_, rfl, ?_⟩
    refine Acts_sp hs (i := 2) (.s (.s .z)) ?_
    rw [if_neg (by simp [hac ht]), wrap_succ (by omega)]
    exact hk2 _ hs.drop.drop
   ·intro own n hz hp hnn hln h5 hs
    rw [eR] at hz
    have tl32 : ((bs.drop (16 + n)).take 32).length = 32 := by rw [List.length_take, List.length_drop]; omega
    intro n113 _ hn; replace hs := Sat.new hs hn; clear hn
    refine ⟨Sat.can hs (i := 0) .z (by simp [zeros]), ?_⟩
    intro h6 e6
    replace hs := Sat.wra (xs := imgL (bs.getD 5 0) (bs.getD 6 0) (num4 bs 8) (subAddr own.1 16 (16 + n) 1, n, n) ((bs.drop (16 + n)).take 32)) hs (i := 0) .z e6 (by rw [img_len tl32]; rfl)
    clear e6
    simp only [put_zero] at hs
    refine ⟨_, rfl, _, rfl, ?_⟩
    refine rgate_sp (bs := bs) hs (j := 3) (.s (.s (.s .z))) a1.s.s.s.s.s.s a2.s.s.s.s.s.s lR2 gR2 (fun x hx h' hs' => hs'.sv (r2 x hx).choose_spec.s.s.s.s.s.s) (fun h' hs' => hs'.base rb) hby hle (by omega) ?_ ?_
    ·intro e2 he2 hne2
     rw [eR2, hz] at he2
     exact absurd he2 hne2
    intro own2 n2 _ _ hnn2 hon h7 hs
    have en : n2 = n := by omega
    subst en
    intro n129 _ hn; replace hs := Sat.new hs hn; clear hn
    refine ⟨Sat.can hs (i := 0) .z (by simp [zeros]), ?_⟩
    intro h8 e8
    replace hs := Sat.wra (xs := imgL (bs.getD 5 0) (bs.getD 6 0) (num4 bs 8) own2 ((bs.drop (16 + n2)).take 32)) hs (i := 0) .z e8 (by rw [img_len tl32]; rfl)
    clear e8
    simp only [put_zero] at hs
    rw [if_neg (by simp)]
    refine ⟨_, hs.ld (i := 2) (.s (.s .z)) rfl, _, hs.ld (i := 2) (.s (.s .z)) rfl, _, hs.ld (i := 2) (.s (.s .z)) rfl, _, _, _, hs.ld (i := 2) (.s (.s .z)) rfl, _, tl32, img_row hs (.s (.s .z)) tl32, _, hs.ld (i := 0) .z rfl, _, hs.ld (i := 0) .z rfl, _, hs.ld (i := 0) .z rfl, _, _, _, hs.ld (i := 0) .z rfl, _, tl32, img_row hs .z tl32, ?_⟩
    refine same11_sp (pay := (bs.drop 16).take n2) hs tl32 (fun h' hs' => payRd (hs'.sv (i := 3) (.s (.s (.s .z)))) hln) (fun h' hs' => hs'.sv (i := 1) (.s .z)) ?_
    intro h9 hs
    rw [if_neg (by decide)]
    refine ⟨_, rfl, ?_⟩
    refine Acts_sp hs (i := 4) (.s (.s (.s (.s .z)))) ?_
    rw [if_neg (by simp [hac ht]), wrap_succ (by omega)]
    exact hk2 _ hs.drop.drop.drop.drop
  ·clear hs
   intro h4 hs
   apply hJ77
   clear hJ77
   rw [ltI_eq, if_neg (by rw [decide_eq_true_iff]; omega)]
   by_cases t0 : t = 0
   ·have e := hC t0
    subst t0
    subst e
    have ok := chip_ok hs (i := 0) .z
    have sm := ok.small
    rw [if_pos (by decide)]
    refine ⟨_, _, _, hs.ld a5.s.s.s.s rfl, _, _, _, hs.ld a5.s.s.s.s rfl, _, _, _, hs.ld a5.s.s.s.s rfl, _, rfl, ?_⟩
    refine State_sp hs (i := 0) .z ?_
    intro a1' b1' c1' h5 hs
    replace hs : Sat h0 (matE 32 a1' (layC c s).s.pages :: sE b1' 1 (ints .i64 (layC c s).s.erases) :: sE c1' 1 (bools (layC c s).s.blown) :: chipE pc (layC c s) :: refE pr (layC c s) :: storeE st pc lg :: logE lg pc :: RR) _ := hs
    refine ⟨Sat.cs hs a5.s.s.s.s.s.s.s rfl, ?_⟩
    refine same21_sp (a := a1') (b := b1') (c := c1') (a2 := a_) (b2 := b_) (c2 := c') (s := s) hs
     (fun h' hs' => sat_rdS hs' (i := 0) (j := 1) (k := 2) .z (.s .z) (.s (.s .z))) (fun h' hs' => rd0.ext hs'.ex) (small_lt sm).1 (small_lt sm).2.1 (small_lt sm).2.2.1 (small_lt sm).2.2.2 ?_
    intro h6 hs
    rw [if_neg (by decide), if_pos (by decide)]
    replace hs := hs.drop.drop.drop
    refine ⟨_, rfl, ?_⟩
    refine Cut_sp (bs := []) hs (i := 0) .z 0 (by decide) (hsv_nil _ _ _) (by intro n hn; cases hn) (by decide) ?_
    intro h7 hs
    simp only [put_zero] at hs
    refine ⟨_, rfl, ?_⟩
    refine rCut_sp (bs := []) hs (i := 1) (.s .z) 0 (by decide) (fun _ _ _ => hsv_nil _ _ _) (by intro n hn; cases hn) (by decide) ?_
    intro h8 hs
    simp only [put_succ, put_zero] at hs
    refine ⟨_, rfl, ?_⟩
    refine Blow_sp hs (i := 0) .z 0 ?_
    intro h9 hs
    simp only [put_zero] at hs
    refine ⟨_, rfl, ?_⟩
    refine rBlow_sp hs (i := 1) (.s .z) 0 ?_
    intro h10 hs
    simp only [put_succ, put_zero] at hs
    rw [wrap_succ (by omega)]
    exact hk _ ⟨_, hs, fun _ => cut_acts c s m l, fun y => by omega⟩
   ·have t1 : t = 1 := by omega
    subst t1
    rw [if_neg (by decide), if_neg (by decide), wrap_succ (by omega)]
    exact hk _ ⟨C, hs, fun y => by omega, fun y => by omega⟩
 ·clear hs
  rintro h3 ⟨C, hs, _, _⟩
  apply hJ74
  rw [ltI_eq, if_neg (by rw [decide_eq_true_iff]; omega)]
  exact k _ hs.nil
end
end Go.Proofs.YtaglicdidpgkpaaGreatDoor
end

/- GateChecks: over any chip, any keys, any bytes: the image, or the first error; no act; without power, too; for every input. -/
section
set_option maxRecDepth 100000
set_option linter.unusedVariables false
namespace Go.Proofs.YtaglicdidpgkpaaGreatDoor
open Go Go.Vc Go.ChangeShapes Go.WideShapes Go.ChangeAt Go.RowKit

theorem GateChecks_calls {D : Type} {enc : TypeId × Value → D} {W : World} {base : Nat} (hg : hc W.heap ⟨0, 0, none⟩ = some errTypeV) (vs : List Value) (h : ArgsOk enc PP W base [31, 84] vs) : CallsTrue PP 8 vs W := by
 obtain ⟨hl, h⟩ := h
 match vs, hl with
 | [v0, v1], _ =>
 obtain ⟨r0, w0⟩ := h 0 _ v0 rfl rfl
 obtain ⟨r1, w1⟩ := h 1 _ v1 rfl rfl
 obtain ⟨c, a, b, c', s, X, lp, ll, lc, rfl, rd, ty, _, rl, hll⟩ := scene_of r0 w0
 obtain ⟨tp, tl, tc, rfl, hs1⟩ := slice24_of (e := 32) (by kernel_rfl) r1 w1
 obtain ⟨htl, rt⟩ := bb_of hs1
 have := R_portcullislaw13_GateChecks [.agg [.c (.int .i64 c.cells), .c (.int .i64 c.slots), .c (.int .i64 c.fuses), .c (.int .i64 c.step), .c (.int .i64 c.keys), .c (.int .i64 c.erases), .c (.int .i64 c.area), .c a.v, .c b.v, .c c'.v, .c (.slice lp ll lc)], .one (.slice tp tl tc)] (fun rs h' => rs = [DV.one (.bool true)] ∧ Ext none_ W.heap h') W.heap (by
  intro x hx
  simp only [List.mem_cons, List.not_mem_nil, or_false] at hx
  rcases hx with rfl | rfl
  ·exact ok_scn c a b c' lp ll lc
  ·rfl) (by
  show F_portcullislaw13_GateChecks c.cells c.slots c.fuses c.step c.keys c.erases c.area a.1 a.2.1 a.2.2 b.1 b.2.1 b.2.2 c'.1 c'.2.1 c'.2.2 lp ll lc tp tl tc (fun b h' => [DV.one (.bool b)] = [DV.one (.bool true)] ∧ Ext none_ W.heap h') W.heap
  exact GateChecks_sp hg c rd ty rl hll rt (by omega) fun h' x => ⟨rfl, x.ex⟩)
 exact this
theorem GateChecks_lifted (os : Os) (started : os.Started) (D : Type) (enc : TypeId × Value → D) :
  ReturnsInHanded {} Tryz.checked os 8 .any (fun w args => (Rows.gateChecksSpec.pre enc Tryz.prog Tryz.f8 [] false w args ∧ laidMetH Tryz.prog laidL w) ∧ sizedMet enc Tryz.prog Tryz.f8 (OpenSpec.ofChange Rows.gateChecksSpec) false w args)
   (Rows.gateChecksSpec.post enc Tryz.prog Tryz.f8 false true false false) := by
 refine returnsInHanded_of_change_and (C := Tryz.checked) (X := fun w _ => laidMetH Tryz.prog laidL w) (fun _ _ _ hh h => h.of_heap hh) Tryz.own started (by kernel_rfl) Tryz.func8
  (ChangeSpec.witness_at (enc := enc) (C := Tryz.checked) (os := os) (X := fun w _ => laidMetH Tryz.prog laidL w) false (laidWorld os) #[.agg #[.int .i64 0, .int .i64 0, .int .i64 0, .int .i64 0, .int .i64 0, .int .i64 0, .int .i64 0, .slice none 0 0, .slice none 0 0, .slice none 0 0, .slice none 0 0], .slice none 0 0] 8 rfl (by kernel_rfl) (by kernel_rfl) (by kernel_rfl) (by kernel_rfl) (by kernel_rfl) (laidWorld_met os _)) ?_
 intro W base args ds gs before hval hW hcnd hsz hL _
 exact law_go (P := Tryz.prog) (fn := Tryz.f8) (s := Rows.gateChecksSpec) [31, 84] (by kernel_rfl) Tryz.laidOut rfl (by kernel_rfl) (by kernel_rfl) Tryz.ubool
  (fun ds hl => match ds, hl with | [d1, d2], _ => rfl) hval hW hsz (GateChecks_calls (handle_of_laid hL))

theorem GateChecks_k1 : (Rows.gateChecksRow.wf (OpenSpec.ofChange Rows.gateChecksSpec) && laidOutB Tryz.prog && mapsRowed Tryz.prog && Tryz.f8.params.all (Tryz.prog.readableRec ·) && namedTie Tryz.prog Rows.gateChecksRow.named Rows.gateChecksSpec.vars && (Rows.gateChecksRow.stops == []) && (Tryz.prog.stops == []) && (Rows.gateChecksRow.knobs == []) && (Tryz.prog.stopKnobs == [])) = true := by kernel_rfl
theorem GateChecks_k2 : (Rows.gateChecksRow.inPlace == Tryz.prog.inPlace 8) = true := by kernel_rfl
theorem GateChecks_k3 : (Rows.gateChecksRow.unfollowed == Tryz.prog.unfollowed 8) = true := by kernel_rfl
theorem GateChecks_k4 : (Rows.gateChecksRow.recurses == Tryz.prog.recurses 8) = true := by kernel_rfl
theorem GateChecks_k5 : (Rows.gateChecksRow.named == Tryz.prog.varsNamed 8) = true := by kernel_rfl
theorem GateChecks_k6 : Tryz.prog.stopsHeard = true := by kernel_rfl
theorem GateChecks_k7 : Tryz.prog.mayEnter = true := by kernel_rfl
theorem GateChecks_k8 : (Rows.gateChecksRow.lifted == Tryz.prog.liftsFinal) = true := by kernel_rfl
theorem GateChecks_k9 : (Tryz.prog.make == some Rows.gateChecksRow.make) = true := by kernel_rfl
theorem GateChecks_facts : joinedFacts Tryz.pinned.checked.prog 8 Tryz.f8 Rows.gateChecksSpec Rows.gateChecksRow = true := by
 unfold joinedFacts
 exact bool_and (bool_and (bool_and (bool_and (bool_and (bool_and (bool_and (bool_and (bool_and (bool_and (bool_and (bool_and (bool_and (bool_and (bool_and (bool_and (bool_and (bool_and (bool_and (bool_and (bool_and (bool_and (bool_and (GateChecks_k1) GateChecks_k2) GateChecks_k3) GateChecks_k4) GateChecks_k5) (by kernel_rfl)) (by kernel_rfl)) (by kernel_rfl)) (by kernel_rfl)) (by kernel_rfl)) (by kernel_rfl)) (by kernel_rfl)) (by kernel_rfl)) (by kernel_rfl)) (by kernel_rfl)) (by kernel_rfl)) GateChecks_k6) GateChecks_k7) GateChecks_k8) GateChecks_k9) (by kernel_rfl)) (by kernel_rfl)) (by kernel_rfl)) (by kernel_rfl)
theorem GateChecks_said : Rows.GateChecksSaid :=
 OpenClaim.holds_of_wide 8 Tryz.f8 rfl rfl rfl rfl rfl rfl rfl ⟨rfl, rfl, rfl, rfl, rfl⟩ rfl rfl rfl rfl rfl (by kernel_rfl) Tryz.func8 GateChecks_facts
  (of_decide_eq_true (by kernel_rfl)) (by unfold Func.isWrapper; first | (rw [if_pos (by decide +kernel)]; kernel_rfl) | (rw [if_neg (by decide +kernel)]; exact ⟨rfl, rfl⟩))
  (fun os started H enc _ => GateChecks_lifted os started H enc)

theorem GateChecks_plain (f : FuncId) (fn : Func) (hf : Tryz.pinned.checked.prog.funcNamed "portcullis/portcullislaw13.GateChecks" = some f) (hfn : Tryz.pinned.checked.prog.funcs[f]? = some fn) :
  true = Tryz.pinned.checked.prog.looks [] ∧ ∀ (j : Nat) t, fn.params[j]? = some t → Tryz.pinned.checked.prog.wantsStandIn t = false := by
 obtain rfl : f = 8 := Option.some.inj ((show Tryz.prog.funcNamed "portcullis/portcullislaw13.GateChecks" = some 8 by kernel_rfl).symm.trans hf) |>.symm
 obtain rfl : fn = Tryz.f8 := (Option.some.inj (Tryz.func8.symm.trans hfn)).symm
 refine ⟨by kernel_rfl, fun j t ht => ?_⟩
 have hm := Array.mem_of_getElem? ht
 have hm2 : t ∈ ([31, 84] : List Nat) := by
  have : Tryz.f8.params.toList = [31, 84] := by kernel_rfl
  rw [← this]; exact Array.mem_toList_iff.2 hm
 simp only [List.mem_cons, List.not_mem_nil, or_false] at hm2
 rcases hm2 with rfl | rfl <;> (first | kernel_rfl | rfl)

theorem GateChecks_holds : Rows.GateChecksCardSaid :=
 Claim7.holds_tied_plain_at .later [] _ _ _ _ GateChecks_said (fun _ h => by cases h) (by kernel_rfl) (fun _ h => by cases h) gateChecks_row_tie rfl ⟨rfl, rfl⟩ (by kernel_rfl) rfl GateChecks_plain (by kernel_rfl)

end Go.Proofs.YtaglicdidpgkpaaGreatDoor
end
