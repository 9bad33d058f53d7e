/- GateKeeps: what is proved and its parts, laid together by a program of ours: Gt1 Im3 Gt2 Gt3 GtW Gt4 Tq5 Gt5 St7 St8 Gt6 -/
import Derived.Test.YtaglicdidpgkpaaGreatDoorK13
set_option autoImplicit false
set_option linter.all false
/- The gate: whether an image may be started; the program. Own work. -/
section
set_option maxRecDepth 100000
set_option linter.unusedVariables false
namespace Go.Proofs.YtaglicdidpgkpaaGreatDoor
open Go Go.Vc
attribute [local irreducible] macM

def gateM (C : Cm) (L : List Sec) (bs : List Int) : Int :=
 if C.out = true then 8 else if (parseW bs).1 ≠ 0 then (parseW bs).1
 else if C.cfg.slots ≤ bs.getD 5 0 then 5
 else match L.find? (fun x => x.1 == bs.getD 6 0) with
  | none => 13
  | some s => if C.cfg.keys ≤ bs.getD 6 0 then 13 else if (revokedM C (bs.getD 6 0)).1 = true then 14
   else if macM s.2 (bs.take (bs.length - 32)) ≠ (bs.drop (bs.length - 32)).take 32 then 15
   else if num4 bs 8 < (sRead C (bs.getD 5 0)).1 then 16 else if lastM C.cfg < num4 bs 8 then 16 else 0
theorem head_all {bs : List Int} : ∀ (m x : Nat), headW bs m x = none → ∀ y, x ≤ y → y < x + m → mayB y (bs.getD y 0) = true
 | 0, x, _, y, h1, h2 => by omega
 | m + 1, x, h, y, h1, h2 => by
  unfold headW at h
  by_cases c : x = bs.length
  ·rw [if_pos c] at h; cases h
  rw [if_neg c] at h
  by_cases g : mayB x (bs.getD x 0) = true
  ·rw [if_pos g] at h
   by_cases e : y = x
   ·rw [e]; exact g
   ·exact head_all m (x + 1) h y (by omega) (by omega)
  ·rw [if_neg g] at h; cases h
theorem parse_ok {bs : List Int} (hb : bytesOk bs) {n : Nat} (h : parseW bs = (0, 0)) (hn : num4 bs 12 = n) : bs.length = 48 + n ∧ (0 ≤ bs.getD 5 0 ∧ bs.getD 5 0 < 8) ∧ (0 ≤ bs.getD 6 0 ∧ bs.getD 6 0 < 64) ∧ n ≤ 524240 := by
 unfold parseW at h
 by_cases c1 : 524288 < bs.length
 ·rw [if_pos c1] at h; injection h with h; cases h
 rw [if_neg c1] at h
 have hh : headW bs 16 0 = none := by
  cases e : headW bs 16 0 with
  | none => rfl
  | some w =>
   rw [e] at h
   dsimp only at h
   exfalso
   have key : ∀ m x, headW bs m x = some w → w.1 ≠ 0 := by
    intro m
    induction m with
    | zero => intro x y; cases y
    | succ m ih =>
     intro x y
     unfold headW at y
     by_cases c : x = bs.length
     ·rw [if_pos c] at y; injection y with y; rw [← y]; exact (by decide : (6 : Int) ≠ 0)
     rw [if_neg c] at y
     by_cases g : mayB x (bs.getD x 0) = true
     ·rw [if_pos g] at y; exact ih _ y
     ·rw [if_neg g] at y; injection y with y; rw [← y]; exact (by decide : (5 : Int) ≠ 0)
   have := key 16 0 e
   rw [h] at this
   exact this rfl
 rw [hh] at h
 dsimp only at h
 have m5 := head_all 16 0 hh 5 (by decide) (by decide)
 have m6 := head_all 16 0 hh 6 (by decide) (by decide)
 have e5 : bs.getD 5 0 < 8 := by
  have : mayB 5 (bs.getD 5 0) = decide (bs.getD 5 0 < 8) := rfl
  rw [this] at m5; exact of_decide_eq_true m5
 have e6 : bs.getD 6 0 < 64 := by
  have : mayB 6 (bs.getD 6 0) = decide (bs.getD 6 0 < 64) := rfl
  rw [this] at m6; exact of_decide_eq_true m6
 have b5 := byte_getD hb 5
 have b6 := byte_getD hb 6
 unfold isByte at b5 b6
 rw [hn] at h
 by_cases c2 : (524240 : Int) < (n : Int)
 ·rw [if_pos c2] at h; injection h with h; cases h
 rw [if_neg c2] at h
 by_cases c3 : (bs.length : Int) < 48 + (n : Int)
 ·rw [if_pos c3] at h; injection h with h; cases h
 rw [if_neg c3] at h
 by_cases c4 : 48 + (n : Int) < bs.length
 ·rw [if_pos c4] at h; injection h with h; cases h
 exact ⟨by omega, ⟨b5.1, e5⟩, ⟨b6.1, e6⟩, by omega⟩
theorem sread_err {C : Cm} (ho : ¬ C.out = true) {slot : Int} (hs : 0 ≤ slot) : (sRead C slot).2 = if C.cfg.slots ≤ slot then 2 else 0 := by
 have a : askedM C slot C.cfg.slots = if C.cfg.slots ≤ slot then 2 else 0 := by unfold askedM; rw [if_neg ho, if_neg (by omega)]
 unfold sRead
 rw [a]
 by_cases g : C.cfg.slots ≤ slot
 ·rw [if_pos g, if_pos (by decide)]
 ·rw [if_neg g, if_neg (by decide)]
theorem callFn_of {f : FuncId} {run : Run} {c : Array Value} {ds : List DV} {Q : List DV → H → Prop} {h : H} (hr : RunOk PP f run) (hd : ∀ x, x ∈ ds → x.ok) (hc : c.toList = ds.map DV.flat) (hrun : run ds Q h) : callFn PP (.func (.func f) (Array.mk []) c) [] Q h := by
 refine ⟨f, Array.mk [], c, rfl, ?_⟩
 have := hr ds Q h hd hrun
 rw [← hc] at this
 simpa using this
theorem addrs_ok (l : List Addr) : ∀ x, x ∈ l.map DV.addr → x.ok := by
 intro x hx
 obtain ⟨a, _, rfl⟩ := List.mem_map.1 hx
 trivial
section
variable {h0 h : H} {A : List Ent} {i j p r b s m : Nat} {C : Cm}
theorem kcheck_sp {Q : Bool → Int → H → Prop} {key : Int} {bb tag : List Int} {bp : Option Addr} {bl bc : Nat} {R : List SR} {x : SR} (hs : Sat h0 A h) (cr : At A i (blk r [.map (some m)])) (cm : At A j (mapE m (R.map SR.ent))) (gd : SR.good R)
  (rR : ∀ x, x ∈ R → ∀ h', Sat h0 A h' → hsv h' x.p 1 x.bytes.length (ints .u8 x.bytes)) (hx : SR.at_ R key = some x) (ht : tag.length = 32) (htb : isBy tag) (hbc : bl ≤ bc) (hbl : bl < 2 ^ 40)
  (rb : ∀ h', Sat h0 A h' → hsv h' bp 1 bl (ints .u8 bb)) (k : ∀ h', Sat h0 A h' → Q (decide (macM x.bytes bb = tag)) 0 h') : F_keys_Ring_Check ⟨r, 0, none⟩ key bp bl bc tag Q h := by
 unfold F_keys_Ring_Check G_keys_Ring_Check
 try simp only [add_mk, Nat.zero_add, List.append_nil]
 have hx2 : x ∈ R := List.mem_of_find?_eq_some hx
 have hg := gd x hx2
 have ml : mlook (.int .i64 key) (.one (.slice none 0 0)) (R.map SR.ent) = some (.one (.slice x.p x.bytes.length x.c), true) := by rw [mlook_at, hx]
 intro tb _ hn; replace hs := Sat.new hs hn; clear hn
 refine sign_sp hs cr.s cm.s ml hg.2.1 (by omega) hbc hbl (fun h' hs' => rR x hx2 _ hs'.drop) (fun h' hs' => rb _ hs'.drop) ?_
 intro h3 hs
 intro nb _ hn; replace hs := Sat.new hs hn; clear hn
 refine ⟨Sat.can hs (i := 0) .z (by simp [zeros]), ?_⟩
 intro h4 e
 replace hs := Sat.wra (xs := ints .u8 (macM x.bytes bb)) hs (i := 0) .z e (by simp [zeros, macM_len])
 clear e
 simp only [put_zero] at hs
 rw [if_neg (by decide)]
 refine equal_sp (isBy_mac _ _) htb (macM_len _ _) ht (hs.row0 (i := 0) .z) (hs.row0 (i := 1) (.s .z)) ?_
 exact k _ hs.drop.drop
theorem ibody_sp {Q : Option Addr → Nat → Nat → H → Prop} {bs : List Int} {q : Option Addr} {l c : Nat} (hs : Sat h0 A h) (rd : hsv h q 1 l (ints .u8 bs)) (hl : 32 ≤ l) (hlc : l ≤ c) (hl2 : l < 2 ^ 40)
  (k : ∀ p' c' h', l - 32 ≤ c' → Sat h0 (slE p' (l - 32) c' 1 (ints .u8 (bs.take (l - 32))) :: A) h' → Q p' (l - 32) c' h') : F_image_Body q l c Q h := by
 unfold F_image_Body G_image_Body
 have hbl : bs.length = l := by have := rd.1; simpa using this
 rw [ltI_eq, if_neg (by rw [decide_eq_true_iff]; omega)]
 have e : IntKind.i64.wrap ((l : Int) - 32) = ((l - 32 : Nat) : Int) := by rw [wrap_id (by omega)]; omega
 rw [e]
 refine ⟨by omega, by omega, ?_⟩
 simp only [Int.toNat_natCast, Nat.sub_zero]
 have R := subRd (o := 0) (n := l - 32) (m := c) rd (by omega) (by omega)
 rw [List.drop_zero] at R
 refine ⟨_, R, ?_⟩
 replace hs := hs.sl_nil 1 none
 refine Sat.app hs (i := 0) (vs := ints .u8 (bs.take (l - 32))) .z (by simp; omega) rfl (ints_one _ _) (by dsimp only; omega) ?_
 intro p' c' h' hs
 simp only [put_zero, List.nil_append, Nat.zero_add] at hs ⊢
 exact k p' c' h' (capS hs (i := 0) .z) hs
theorem ret0 {Q : Int → Int → Int → Option Addr → Nat → Nat → List Int → Int → H → Prop} {nb : Nat} {a1 a2 a3 : Int} {x : Sl} {t : List Int} (e : Int) (ht : t.length = 32) (hs : Sat h0 A h) (a : At A i (blk nb (imgL a1 a2 a3 x t))) (k : ∀ h', Sat h0 (put A i (blk nb (imgL 0 0 0 (none, 0, 0) (zeros 32)))) h' → Q 0 0 0 none 0 0 (zeros 32) e h') :
  hcan h ⟨nb, 0, none⟩ 36 ∧ ∀ h1, h1 = hwr h ⟨nb, 0, none⟩ (.int .i64 0 :: .int .i64 0 :: .int .i64 0 :: .slice none 0 0 :: ints .u8 (zeros 32)) → ∃ i1 : Int, hc h1 ⟨nb, 0, none⟩ = some (.int .i64 i1) ∧ ∃ i2 : Int, hc h1 ⟨nb, 1, none⟩ = some (.int .i64 i2) ∧ ∃ i3 : Int, hc h1 ⟨nb, 2, none⟩ = some (.int .i64 i3) ∧
   ∃ (o : Option Addr) (n m : Nat), hc h1 ⟨nb, 3, none⟩ = some (.slice o n m) ∧ ∃ l : List Int, l.length = 32 ∧ hrow h1 ⟨nb, 4, none⟩ .u8 l ∧ Q i1 i2 i3 o n m l e h1 := by
 refine ⟨Sat.can hs a (by simp [ht]), ?_⟩
 intro h1 e1
 replace hs := Sat.wra (xs := imgL 0 0 0 (none, 0, 0) (zeros 32)) hs a e1 (by simp [ht, zeros])
 exact ⟨_, hs.ld (a.put _) rfl, _, hs.ld (a.put _) rfl, _, hs.ld (a.put _) rfl, _, _, _, hs.ld (a.put _) rfl, _, zeros_len 32, img_row hs (a.put _) (zeros_len 32), k _ hs⟩
theorem gate_sp {Q : Int → Int → Int → Option Addr → Nat → Nat → List Int → Int → H → Prop} {mm rr jm jr : Nat} {bs : List Int} {q : Option Addr} {l c : Nat} {R : List SR} (hg : hc h0 ⟨0, 0, none⟩ = some errTypeV) (hs : Sat h0 A h) (ci : At A i (chipE p C)) (cl' : At A j (logE r p)) (st : At A m (storeE s p r))
  (cr : At A jr (blk rr [.map (some mm)])) (cm : At A jm (mapE mm (R.map SR.ent))) (gd : SR.good R) (rR : ∀ x, x ∈ R → ∀ h', Sat h0 A h' → hsv h' x.p 1 x.bytes.length (ints .u8 x.bytes))
  (rd : ∀ h', Sat h0 A h' → hsv h' q 1 l (ints .u8 bs)) (hb : bytesOk bs) (hlc : l ≤ c) (hl : l < 2 ^ 50)
  (k1 : ∀ e, e = gateM C (R.map SR.kv) bs → e ≠ 0 → ∀ h', Sat h0 A h' → Q 0 0 0 none 0 0 (zeros 32) e h')
  (k2 : ∀ (own : Sl) (n : Nat), gateM C (R.map SR.kv) bs = 0 → parseW bs = (0, 0) → num4 bs 12 = n → bs.length = 48 + n → ∀ h', Sat h0 (sE own 1 (ints .u8 bs) :: A) h' → Q (bs.getD 5 0) (bs.getD 6 0) (num4 bs 8) (subAddr own.1 16 (16 + n) 1) n n ((bs.drop (16 + n)).take 32) 0 h') :
  F_gate_Check ⟨s, 0, none⟩ ⟨rr, 0, none⟩ q l c Q h := by
 unfold F_gate_Check G_gate_Check
 try simp only [add_mk, Nat.zero_add, List.append_nil]
 have hbl : bs.length = l := by have := (rd _ hs).1; simpa using this
 have ok := chip_ok hs ci
 have w1 : IntKind.i64.wrap (0 + 1) = 1 := by decide
 have w2 : IntKind.i64.wrap (1 + 1) = 2 := by decide
 have w3 : IntKind.i64.wrap (2 + 1) = 3 := by decide
 have w4 : IntKind.i64.wrap (3 + 1) = 4 := by decide
 have w5 : IntKind.i64.wrap (4 + 1) = 5 := by decide
 have w6 : IntKind.i64.wrap (5 + 1) = 6 := by decide
 obtain ⟨G, hG⟩ : ∃ G, G = gateM C (R.map SR.kv) bs := ⟨_, rfl⟩
 have hG0 := hG
 rw [← hG] at k1 k2
 unfold gateM at hG
 intro n13 _ hn; replace hs := Sat.new hs hn; clear hn
 intro n16 _ hn; replace hs := Sat.new hs hn; clear hn
 intro n19 _ hn; replace hs := Sat.new hs hn; clear hn
 intro n22 _ hn; replace hs := Sat.new hs hn; clear hn
 intro n25 _ hn; replace hs := Sat.new hs hn; clear hn
 intro n28 _ hn; replace hs := Sat.new hs hn; clear hn
 obtain ⟨FS, hFS⟩ : ∃ FS : List Value, FS = [.func (.func id_gate_Check_1) (Array.mk []) (Array.mk [.pointer (some ⟨n13, 0, none⟩)]), .func (.func id_gate_Check_2) (Array.mk []) (Array.mk [.pointer (some ⟨n19, 0, none⟩), .pointer (some ⟨n25, 0, none⟩)]), .func (.func id_gate_Check_3) (Array.mk []) (Array.mk [.pointer (some ⟨n13, 0, none⟩), .pointer (some ⟨n25, 0, none⟩)]), .func (.func id_gate_Check_4) (Array.mk []) (Array.mk [.pointer (some ⟨n13, 0, none⟩), .pointer (some ⟨n25, 0, none⟩), .pointer (some ⟨n16, 0, none⟩)]), .func (.func id_gate_Check_5) (Array.mk []) (Array.mk [.pointer (some ⟨n16, 0, none⟩), .pointer (some ⟨n25, 0, none⟩), .pointer (some ⟨n19, 0, none⟩)]), .func (.func id_gate_Check_6) (Array.mk []) (Array.mk [.pointer (some ⟨n13, 0, none⟩), .pointer (some ⟨n25, 0, none⟩)])] := ⟨_, rfl⟩
 rw [← hFS] at hs
 replace hs : Sat h0 (blk n28 FS :: blk n25 (imgL 0 0 0 (none, 0, 0) (zeros 32)) :: blk n22 (imgL 0 0 0 (none, 0, 0) (zeros 32)) :: blk n19 [.slice q l c] :: blk n16 [.pointer (some ⟨rr, 0, none⟩)] :: blk n13 [.pointer (some ⟨s, 0, none⟩)] :: A) _ := hs
 intro J31 hJ31
 apply hJ31
 rw [ltI_eq, if_pos (by decide)]
 refine ⟨_, rfl, by decide, by decide, _, hs.ld (o := 0) (i := 0) .z (by rw [hFS]; rfl), rfl, ?_⟩
 refine callFn_of (ds := [⟨n13, 0, none⟩].map DV.addr) R_gate_Check_1 (addrs_ok _) rfl ?_
 show F_gate_Check_1 ⟨n13, 0, none⟩ _ _
 unfold F_gate_Check_1 G_gate_Check_1
 refine ⟨_, hs.ld (i := 5) (.s (.s (.s (.s (.s .z))))) rfl, _, rfl, ?_⟩
 refine sActive_sp hs ci.s.s.s.s.s.s cl'.s.s.s.s.s.s st.s.s.s.s.s.s ?_
 intro h1 hs
 refine ⟨_, _, rfl, _, rfl, rfl, ?_⟩
 rw [sActive_out ok]
 by_cases ho : C.out = true
 ·rw [if_pos ho] at hG ⊢
  rw [if_pos (by decide)]
  refine ret0 8 (zeros_len 32) hs (i := 2) (.s (.s .z)) ?_
  intro h2 hs
  exact k1 8 hG.symm (by decide) _ hs.drop.drop.drop.drop.drop.drop
 rw [if_neg ho] at hG ⊢
 rw [if_neg (by decide), w1]
 -- the image
 apply hJ31
 rw [ltI_eq, if_pos (by decide)]
 refine ⟨_, rfl, by decide, by decide, _, hs.ld (o := 1) (i := 0) .z (by rw [hFS]; rfl), rfl, ?_⟩
 refine callFn_of (ds := [⟨n19, 0, none⟩, ⟨n25, 0, none⟩].map DV.addr) R_gate_Check_2 (addrs_ok _) rfl ?_
 show F_gate_Check_2 ⟨n19, 0, none⟩ ⟨n25, 0, none⟩ _ _
 unfold F_gate_Check_2 G_gate_Check_2
 try simp only [add_mk, Nat.zero_add, List.append_nil]
 refine ⟨_, _, _, hs.ld (i := 3) (.s (.s (.s .z))) rfl, ?_⟩
 refine Parse_sp hs (fun h' hs' => rd _ hs'.drop.drop.drop.drop.drop.drop) hb hlc hl ?_ ?_
 ·intro e at_ w h2 hp he hs
  refine ⟨Sat.can hs (i := 2) (.s (.s .z)) (by simp [zeros]), ?_⟩
  intro h3 e3
  replace hs := Sat.wra (xs := imgL 0 0 0 (none, 0, 0) (zeros 32)) hs (i := 2) (.s (.s .z)) e3 rfl
  clear e3
  simp only [put_succ, put_zero] at hs
  refine ⟨rfl, ?_⟩
  rw [if_neg (nIF _ _)]
  intro n20 _ hn; replace hs := Sat.new hs hn; clear hn
  refine ⟨Sat.can hs (i := 0) .z (by simp), ?_⟩
  intro h4 e4
  replace hs := Sat.wra hs (i := 0) .z e4 rfl
  clear e4
  simp only [put_zero] at hs
  unfold F_errors_As
  refine Or.inl (Or.inr ⟨⟨w, 0, none⟩, n20, 0, e, rfl, rfl, hc_ext hs.ex hg (fun y => y), ⟨_, hs.ld (i := 0) .z rfl⟩, ?_, hs.ld (i := 1) (.s .z) rfl, ?_⟩)
  ·have := (Sat.can hs (i := 0) (o := 0) (n := 1) .z (by simp)) 0 (by decide)
   rw [add_zero] at this
   exact this.2
  intro b1 _ hn; replace hs := Sat.new hs hn; clear hn
  intro b2 _ hn; replace hs := Sat.new hs hn; clear hn
  intro b3 _ hn; replace hs := Sat.new hs hn; clear hn
  intro b4 _ hn; replace hs := Sat.new hs hn; clear hn
  intro h5 e5
  replace hs := Sat.wr hs (i := 4) (.s (.s (.s (.s .z)))) e5
  clear e5
  simp only [put_succ, put_zero] at hs
  replace hs := hs.drop.drop.drop.drop
  replace hs : Sat h0 (blk n20 [.int .i64 e] :: _) h5 := hs
  refine ⟨_, hs.ld (i := 0) .z rfl, ?_⟩
  refine ⟨_, _, rfl, _, rfl, rfl, ?_⟩
  rw [if_pos (by simpa using he)]
  replace hs := hs.drop.drop
  refine ret0 e (zeros_len 32) hs (i := 2) (.s (.s .z)) ?_
  intro h6 hs
  refine k1 e ?_ he _ hs.drop.drop.drop.drop.drop.drop
  rw [hp, if_pos he] at hG
  exact hG.symm
 intro own n h2 hp hnn hs
 obtain ⟨pl, p5, p6, pn⟩ := parse_ok hb hp hnn
 have htl : ((bs.drop (16 + n)).take 32).length = 32 := by rw [List.length_take, List.length_drop]; omega
 have htb : isBy ((bs.drop (16 + n)).take 32) := drop_bytes hb _ _
 refine ⟨Sat.can hs (i := 2) (.s (.s .z)) (by simp [zeros]), ?_⟩
 intro h3 e3
 replace hs := Sat.wra (xs := imgL (bs.getD 5 0) (bs.getD 6 0) (num4 bs 8) (subAddr own.1 16 (16 + n) 1, n, n) ((bs.drop (16 + n)).take 32)) hs (i := 2) (.s (.s .z)) e3 (by rw [img_len htl]; rfl)
 clear e3
 simp only [put_succ, put_zero] at hs
 refine ⟨rfl, ?_⟩
 rw [if_pos (by rfl)]
 refine ⟨_, _, rfl, _, rfl, rfl, ?_⟩
 rw [if_neg (by decide), w2]
 rw [hp, if_neg (by decide)] at hG
 -- the slot
 apply hJ31
 rw [ltI_eq, if_pos (by decide)]
 refine ⟨_, rfl, by decide, by decide, _, hs.ld (o := 2) (i := 1) (.s .z) (by rw [hFS]; rfl), rfl, ?_⟩
 refine callFn_of (ds := [⟨n13, 0, none⟩, ⟨n25, 0, none⟩].map DV.addr) R_gate_Check_3 (addrs_ok _) rfl ?_
 show F_gate_Check_3 ⟨n13, 0, none⟩ ⟨n25, 0, none⟩ _ _
 unfold F_gate_Check_3 G_gate_Check_3
 refine ⟨_, hs.ld (i := 6) (.s (.s (.s (.s (.s (.s .z)))))) rfl, _, hs.ld (i := 2) (.s (.s .z)) rfl, _, rfl, ?_⟩
 refine sRead_sp hs ci.s.s.s.s.s.s.s cl'.s.s.s.s.s.s.s st.s.s.s.s.s.s.s _ ?_
 intro h4 hs
 have er := sread_err ho p5.1
 by_cases gs : C.cfg.slots ≤ bs.getD 5 0
 ·rw [if_pos gs] at er hG
  rw [er, if_pos (by decide)]
  refine ⟨_, _, rfl, _, rfl, rfl, ?_⟩
  rw [if_pos (by decide)]
  refine ret0 5 (zeros_len 32) hs (i := 3) (.s (.s (.s .z))) ?_
  intro h6 hs
  exact k1 5 hG.symm (by decide) _ hs.drop.drop.drop.drop.drop.drop.drop
 rw [if_neg gs] at er hG
 rw [er, if_neg (by decide)]
 refine ⟨_, _, rfl, _, rfl, rfl, ?_⟩
 rw [if_neg (by decide), w3]
 -- the key
 apply hJ31
 rw [ltI_eq, if_pos (by decide)]
 refine ⟨_, rfl, by decide, by decide, _, hs.ld (o := 3) (i := 1) (.s .z) (by rw [hFS]; rfl), rfl, ?_⟩
 refine callFn_of (ds := [⟨n13, 0, none⟩, ⟨n25, 0, none⟩, ⟨n16, 0, none⟩].map DV.addr) R_gate_Check_4 (addrs_ok _) rfl ?_
 show F_gate_Check_4 ⟨n13, 0, none⟩ ⟨n25, 0, none⟩ ⟨n16, 0, none⟩ _ _
 unfold F_gate_Check_4 G_gate_Check_4
 try simp only [add_mk, Nat.zero_add]
 refine ⟨_, hs.ld (i := 6) (.s (.s (.s (.s (.s (.s .z)))))) rfl, _, hs.ld (i := 2) (.s (.s .z)) rfl, _, rfl, ?_⟩
 refine sRevoked_sp hs ci.s.s.s.s.s.s.s st.s.s.s.s.s.s.s _ ?_
 intro h5 hs
 refine ⟨_, hs.ld (i := 5) (.s (.s (.s (.s (.s .z))))) rfl, _, hs.ld (i := 2) (.s (.s .z)) rfl, _, rfl, ?_⟩
 refine hasN_sp _ hs cr.s.s.s.s.s.s.s cm.s.s.s.s.s.s.s ?_
 have ekv := at_kv R (bs.getD 6 0)
 cases ex : SR.at_ R (bs.getD 6 0) with
 | none =>
  rw [← ekv, ex] at hG
  rw [if_pos (by simp)]
  refine ⟨_, _, rfl, _, rfl, rfl, ?_⟩
  rw [if_pos (by decide)]
  refine ret0 13 (zeros_len 32) hs (i := 3) (.s (.s (.s .z))) ?_
  intro h6 hs
  exact k1 13 hG.symm (by decide) _ hs.drop.drop.drop.drop.drop.drop.drop
 | some x =>
 rw [← ekv, ex] at hG
 dsimp only [Option.map_some] at hG
 rw [if_neg (by simp)]
 have rv := revoked_err ho p6.1
 by_cases gk : C.cfg.keys ≤ bs.getD 6 0
 ·rw [if_pos gk] at rv hG
  rw [rv, if_pos (by decide)]
  refine ⟨_, _, rfl, _, rfl, rfl, ?_⟩
  rw [if_pos (by decide)]
  refine ret0 13 (zeros_len 32) hs (i := 3) (.s (.s (.s .z))) ?_
  intro h6 hs
  exact k1 13 hG.symm (by decide) _ hs.drop.drop.drop.drop.drop.drop.drop
 rw [if_neg gk] at rv hG
 rw [rv, if_neg (by decide)]
 by_cases gr : (revokedM C (bs.getD 6 0)).1 = true
 ·rw [if_pos gr] at hG ⊢
  refine ⟨_, _, rfl, _, rfl, rfl, ?_⟩
  rw [if_pos (by decide)]
  refine ret0 14 (zeros_len 32) hs (i := 3) (.s (.s (.s .z))) ?_
  intro h6 hs
  exact k1 14 hG.symm (by decide) _ hs.drop.drop.drop.drop.drop.drop.drop
 rw [if_neg gr] at hG ⊢
 refine ⟨_, _, rfl, _, rfl, rfl, ?_⟩
 rw [if_neg (by decide), w4]
 -- the tag
 apply hJ31
 rw [ltI_eq, if_pos (by decide)]
 refine ⟨_, rfl, by decide, by decide, _, hs.ld (o := 4) (i := 1) (.s .z) (by rw [hFS]; rfl), rfl, ?_⟩
 refine callFn_of (ds := [⟨n16, 0, none⟩, ⟨n25, 0, none⟩, ⟨n19, 0, none⟩].map DV.addr) R_gate_Check_5 (addrs_ok _) rfl ?_
 show F_gate_Check_5 ⟨n16, 0, none⟩ ⟨n25, 0, none⟩ ⟨n19, 0, none⟩ _ _
 unfold F_gate_Check_5 G_gate_Check_5
 try simp only [add_mk, Nat.zero_add, List.append_nil]
 refine ⟨_, hs.ld (i := 5) (.s (.s (.s (.s (.s .z))))) rfl, _, hs.ld (i := 2) (.s (.s .z)) rfl, _, _, _, hs.ld (i := 4) (.s (.s (.s (.s .z)))) rfl, _, htl, img_row hs (.s (.s .z)) htl, ?_⟩
 refine ibody_sp hs (rd _ hs.drop.drop.drop.drop.drop.drop.drop) (by omega) hlc (by omega) ?_
 intro p' c' h6 hc' hs
 refine ⟨Sat.cs hs (i := 3) (.s (.s (.s .z))) (by show (List.drop 4 (imgL _ _ _ _ _)).take _ = _; rw [List.take_of_length_le (by simp [htl])]; rfl), Sat.cs hs (i := 3) (.s (.s (.s .z))) rfl, Sat.cs hs (i := 6) (.s (.s (.s (.s (.s (.s .z)))))) rfl, _, rfl, ?_⟩
 refine kcheck_sp (bb := bs.take (l - 32)) hs cr.s.s.s.s.s.s.s.s cm.s.s.s.s.s.s.s.s gd (fun y hy h' hs' => rR y hy _ hs'.drop.drop.drop.drop.drop.drop.drop.drop) ex htl htb hc' (by omega) (fun h' hs' => hs'.sv (i := 0) .z) ?_
 intro h7 hs
 replace hs := hs.drop
 have et : (bs.drop (bs.length - 32)).take 32 = (bs.drop (16 + n)).take 32 := by rw [show bs.length - 32 = 16 + n by omega]
 rw [hbl] at hG et
 rw [et] at hG
 by_cases gt : macM x.bytes (bs.take (l - 32)) = (bs.drop (16 + n)).take 32
 case neg =>
  rw [if_pos gt] at hG
  rw [if_pos (by simp [gt])]
  refine ⟨_, _, rfl, _, rfl, rfl, ?_⟩
  rw [if_pos (by decide)]
  refine ret0 15 (zeros_len 32) hs (i := 3) (.s (.s (.s .z))) ?_
  intro h6 hs
  exact k1 15 hG.symm (by decide) _ hs.drop.drop.drop.drop.drop.drop.drop
 rw [if_neg (by simpa using gt)] at hG
 rw [if_neg (by simp [gt]), if_neg (by decide)]
 refine ⟨_, _, rfl, _, rfl, rfl, ?_⟩
 rw [if_neg (by decide), w5]
 -- the version
 apply hJ31
 rw [ltI_eq, if_pos (by decide)]
 refine ⟨_, rfl, by decide, by decide, _, hs.ld (o := 5) (i := 1) (.s .z) (by rw [hFS]; rfl), rfl, ?_⟩
 refine callFn_of (ds := [⟨n13, 0, none⟩, ⟨n25, 0, none⟩].map DV.addr) R_gate_Check_6 (addrs_ok _) rfl ?_
 show F_gate_Check_6 ⟨n13, 0, none⟩ ⟨n25, 0, none⟩ _ _
 unfold F_gate_Check_6 G_gate_Check_6
 try simp only [add_mk, Nat.zero_add]
 refine ⟨_, hs.ld (i := 6) (.s (.s (.s (.s (.s (.s .z)))))) rfl, _, hs.ld (i := 2) (.s (.s .z)) rfl, _, rfl, ?_⟩
 refine sRead_sp hs ci.s.s.s.s.s.s.s cl'.s.s.s.s.s.s.s st.s.s.s.s.s.s.s _ ?_
 intro h8 hs
 rw [er, if_neg (by decide)]
 refine ⟨_, hs.ld (i := 2) (.s (.s .z)) rfl, ?_⟩
 rw [ltI_eq]
 by_cases gv : num4 bs 8 < (sRead C (bs.getD 5 0)).1
 ·rw [if_pos gv] at hG
  rw [if_pos (by simpa using gv)]
  refine ⟨_, _, rfl, _, rfl, rfl, ?_⟩
  rw [if_pos (by decide)]
  refine ret0 16 (zeros_len 32) hs (i := 3) (.s (.s (.s .z))) ?_
  intro h6 hs
  exact k1 16 hG.symm (by decide) _ hs.drop.drop.drop.drop.drop.drop.drop
 rw [if_neg gv] at hG
 rw [if_neg (by simpa using gv)]
 refine ⟨_, hs.ld (i := 2) (.s (.s .z)) rfl, _, hs.ld (i := 6) (.s (.s (.s (.s (.s (.s .z)))))) rfl, _, rfl, ?_⟩
 refine sLast_sp hs ci.s.s.s.s.s.s.s st.s.s.s.s.s.s.s ?_
 intro h9 hs
 refine ⟨Sat.cs hs (i := 2) (.s (.s .z)) rfl, ?_⟩
 rw [ltI_eq]
 by_cases gl : lastM C.cfg < num4 bs 8
 ·rw [if_pos gl] at hG
  rw [if_pos (by simpa using gl)]
  refine ⟨_, _, rfl, _, rfl, rfl, ?_⟩
  rw [if_pos (by decide)]
  refine ret0 16 (zeros_len 32) hs (i := 3) (.s (.s (.s .z))) ?_
  intro h6 hs
  exact k1 16 hG.symm (by decide) _ hs.drop.drop.drop.drop.drop.drop.drop
 rw [if_neg gl] at hG
 rw [if_neg (by simpa using gl)]
 refine ⟨_, _, rfl, _, rfl, rfl, ?_⟩
 rw [if_neg (by decide), w6]
 apply hJ31
 rw [ltI_eq, if_neg (by decide)]
 refine ⟨_, hs.ld (i := 2) (.s (.s .z)) rfl, _, hs.ld (i := 2) (.s (.s .z)) rfl, _, hs.ld (i := 2) (.s (.s .z)) rfl, _, _, _, hs.ld (i := 2) (.s (.s .z)) rfl, _, htl, img_row hs (.s (.s .z)) htl, ?_⟩
 refine ⟨Sat.can hs (i := 3) (.s (.s (.s .z))) (by simp [zeros]), ?_⟩
 intro h10 e10
 replace hs := Sat.wra (xs := imgL (bs.getD 5 0) (bs.getD 6 0) (num4 bs 8) (subAddr own.1 16 (16 + n) 1, n, n) ((bs.drop (16 + n)).take 32)) hs (i := 3) (.s (.s (.s .z))) e10 (by rw [img_len htl]; rfl)
 clear e10
 simp only [put_succ, put_zero] at hs
 refine ⟨_, hs.ld (i := 3) (.s (.s (.s .z))) rfl, _, hs.ld (i := 3) (.s (.s (.s .z))) rfl, _, hs.ld (i := 3) (.s (.s (.s .z))) rfl, _, _, _, hs.ld (i := 3) (.s (.s (.s .z))) rfl, _, htl, img_row hs (.s (.s (.s .z))) htl, ?_⟩
 exact k2 own n hG hp hnn pl _ (hs.sub (by
  refine List.Sublist.cons_cons _ ?_
  exact (((((List.sublist_cons_self _ _).trans (List.sublist_cons_self _ _)).trans (List.sublist_cons_self _ _)).trans (List.sublist_cons_self _ _)).trans (List.sublist_cons_self _ _)).trans (List.sublist_cons_self _ _)))
end
end Go.Proofs.YtaglicdidpgkpaaGreatDoor
end

/- Images: taken apart by the document. Own work. -/
section
set_option maxRecDepth 100000
set_option linter.unusedVariables false
namespace Go.Proofs.YtaglicdidpgkpaaGreatDoor
open Go Go.Vc

def tagTo (t : List Int) (n : Nat) : List Int := tab 32 fun x => if x < n then t.getD x 0 else 0
theorem tagTo_len (t : List Int) (n : Nat) : (tagTo t n).length = 32 := by simp [tagTo]
theorem tagTo_zero (t : List Int) : tagTo t 0 = zeros 32 := by
 unfold tagTo
 simp only [Nat.not_lt_zero, if_false]; rfl
theorem tagTo_all {t : List Int} (ht : t.length = 32) : tagTo t 32 = t := by
 refine ext_getD ((tagTo_len t 32).trans ht.symm) fun x hx => ?_
 rw [tagTo_len] at hx
 unfold tagTo
 rw [tab_getD _ hx, if_pos hx]
theorem tagTo_set (t : List Int) {n : Nat} (hn : n < 32) : (tagTo t n).set n (t.getD n 0) = tagTo t (n + 1) := by
 refine ext_getD (by simp [tagTo_len]) fun x hx => ?_
 rw [List.length_set, tagTo_len] at hx
 rw [set_getD]
 unfold tagTo
 rw [tab_getD _ hx, tab_getD _ hx]
 by_cases c : n = x
 ·subst c; rw [if_pos ⟨rfl, by simp; omega⟩, if_pos (by omega)]
 ·rw [if_neg (fun y => c y.1)]
  by_cases d : x < n
  ·rw [if_pos d, if_pos (by omega)]
  ·rw [if_neg d, if_neg (by omega)]
section
variable {h0 h : H} {A : List Ent} {i j p r b : Nat}
theorem img_s1 {a b' v w : Int} {x : Sl} {t : List Int} {n : Nat} (hn : n < t.length) : splice (imgL a b' v x t) (4 + n) [.int .u8 w] = imgL a b' v x (t.set n w) := by
 show (imgL a b' v x t).set (4 + n) (.int .u8 w) = _
 rw [show 4 + n = n + 1 + 1 + 1 + 1 by omega]
 simp only [imgL, List.set_cons_succ, ints_set]
theorem rParse_sp {Q : Int → Int → Int → Option Addr → Nat → Nat → List Int → Int → Int → H → Prop} {q : Option Addr} {l c : Nat} {bs : List Int} (hs : Sat h0 A h) (rd : ∀ h', Sat h0 A h' → hsv h' q 1 l (ints .u8 bs)) (hb : bytesOk bs) (hlc : l ≤ c) (hl : l < 2 ^ 50)
  (k1 : ∀ e at_ h', parseW bs = (e, at_) → e ≠ 0 → Sat h0 A h' → Q 0 0 0 none 0 0 (zeros 32) e at_ h')
  (k2 : ∀ (own : Sl) (n : Nat) h', parseW bs = (0, 0) → num4 bs 12 = n → own.2.1 = n → Sat h0 (sE own 1 (ints .u8 ((bs.drop 16).take n)) :: A) h' → Q (bs.getD 5 0) (bs.getD 6 0) (num4 bs 8) own.1 own.2.1 own.2.2 ((bs.drop (16 + n)).take 32) 0 0 h') :
  F_portcullisref11_Parse q l c Q h := by
 unfold F_portcullisref11_Parse G_portcullisref11_Parse
 try simp only [add_mk, Nat.zero_add, List.append_nil]
 have hbl : bs.length = l := by have := (rd _ hs).1; simpa using this
 intro n7 _ hn; replace hs := Sat.new hs hn; clear hn
 intro n10 _ hn; replace hs := Sat.new hs hn; clear hn
 replace hs : Sat h0 (blk n10 [.int .i64 0, .int .i64 0] :: blk n7 (imgL 0 0 0 (none, 0, 0) (zeros 32)) :: A) _ := hs
 have bad : ∀ e at_ h', parseW bs = (e, at_) → e ≠ 0 → Sat h0 (blk n10 [.int .i64 0, .int .i64 0] :: blk n7 (imgL 0 0 0 (none, 0, 0) (zeros 32)) :: A) h' → hcan h' ⟨n7, 0, none⟩ 36 ∧ ∀ h13, h13 = hwr h' ⟨n7, 0, none⟩ (imgL 0 0 0 (none, 0, 0) (zeros 32)) → hcan h13 ⟨n10, 0, none⟩ 2 ∧ ∀ h15, h15 = hwr h13 ⟨n10, 0, none⟩ [.int .i64 e, .int .i64 at_] →
   ∃ i15 : Int, hc h15 ⟨n7, 0, none⟩ = some (.int .i64 i15) ∧ ∃ i16 : Int, hc h15 ⟨n7, 1, none⟩ = some (.int .i64 i16) ∧ ∃ i17 : Int, hc h15 ⟨n7, 2, none⟩ = some (.int .i64 i17) ∧ ∃ (o18 : Option Addr) (n19 n20 : Nat), hc h15 ⟨n7, 3, none⟩ = some (.slice o18 n19 n20) ∧
    ∃ l21 : List Int, l21.length = 32 ∧ hrow h15 ⟨n7, 4, none⟩ .u8 l21 ∧ ∃ i24 : Int, hc h15 ⟨n10, 0, none⟩ = some (.int .i64 i24) ∧ ∃ i25 : Int, hc h15 ⟨n10, 1, none⟩ = some (.int .i64 i25) ∧ Q i15 i16 i17 o18 n19 n20 l21 i24 i25 h15 := by
  intro e at_ h' hw he hs
  refine ⟨Sat.can hs (i := 1) (.s .z) (by decide), ?_⟩
  intro h13 e13
  replace hs := Sat.wra hs (i := 1) (.s .z) e13 rfl
  simp only [put] at hs
  refine ⟨Sat.can hs (i := 0) .z (by decide), ?_⟩
  intro h15 e15
  replace hs := Sat.wra hs (i := 0) .z e15 rfl
  simp only [put] at hs
  refine ⟨_, Sat.ld hs (i := 1) (.s .z) rfl, _, Sat.ld hs (i := 1) (.s .z) rfl, _, Sat.ld hs (i := 1) (.s .z) rfl, _, _, _, Sat.ld hs (i := 1) (.s .z) rfl, _, rfl, img_row hs (.s .z) rfl, _, Sat.ld hs (i := 0) .z rfl, _, Sat.ld hs (i := 0) .z rfl, ?_⟩
  exact k1 e at_ _ hw he hs.drop.drop
 by_cases g1 : 524288 < l
 ·rw [ltI_eq, if_pos (by simp; omega)]
  exact bad _ _ _ (by unfold parseW; rw [if_pos (by omega)]) (by decide) hs
 rw [ltI_eq, if_neg (by simp; omega)]
 have hP : parseW bs = match headW bs 16 0 with
  | some w => w
  | none => if 524240 < num4 bs 12 then (5, 12) else if (bs.length : Int) < 48 + num4 bs 12 then (6, bs.length) else if 48 + num4 bs 12 < bs.length then (7, 48 + num4 bs 12) else (0, 0) := by
  unfold parseW; rw [if_neg (by omega)]; try rfl
 clear k1
 generalize hW : headW bs 16 0 = W at hP
 intro J hJ
 refine loop_up 16 (fun x h => Sat h0 (blk n10 [.int .i64 0, .int .i64 0] :: blk n7 (imgL 0 0 0 (none, 0, 0) (zeros 32)) :: A) h ∧ W = headW bs (16 - x) x ∧ x ≤ l) ?_ ?_ 0 _ (by omega) ⟨hs, hW.symm, by omega⟩
 ·rintro x h1 hx ⟨hs, hh, hxl⟩ hk
  apply hJ
  rw [ltI_eq, if_pos (by simp; omega)]
  obtain ⟨m, hm⟩ : ∃ m, 16 - x = m + 1 := ⟨16 - x - 1, by omega⟩
  rw [hm] at hh
  unfold headW at hh
  by_cases g2 : x = l
  ·rw [if_pos (show x = bs.length by omega)] at hh
   rw [if_pos (by simp; omega)]
   exact bad 6 x _ (by rw [hP, hh]) (by decide) hs
  rw [if_neg (show ¬ x = bs.length by omega)] at hh
  rw [if_neg (by simp; omega)]
  obtain ⟨q', hq, g⟩ := hsv_int (rd _ hs.drop.drop) (x := x) (by omega)
  refine ⟨_, hq, by omega, by omega, _, by rw [Int.toNat_natCast, Nat.mul_one]; exact g, ?_⟩
  refine rmust_sp x _ ?_
  by_cases g3 : mayB x (bs.getD x 0) = true
  ·rw [if_pos g3] at hh
   rw [if_neg (by rw [g3]; decide), wrap_succ (by omega)]
   exact hk _ ⟨hs, by rw [hh, show 16 - (x + 1) = m by omega], by omega⟩
  ·rw [if_neg g3] at hh
   rw [if_pos (by rw [Bool.not_eq_true] at g3; rw [g3]; rfl)]
   exact bad 5 x _ (by rw [hP, hh]) (by decide) hs
 rintro h1 ⟨hs, hh, hxl⟩
 apply hJ
 rw [ltI_eq, if_neg (by simp)]
 clear hJ J
 have hh : W = none := hh
 rw [hh] at hP
 dsimp only at hP
 refine ⟨by omega, by omega, ?_⟩
 have rd12 := sub_rd (o := 12) (n := l - 12) (m := c) (rd _ hs.drop.drop) (by omega) (by omega)
 refine rnumber_sp rd12 (drop_bytes hb _ _) (by omega) ?_
 rw [num4_drop _ _ _ (by omega)]
 obtain ⟨r1, r2⟩ := num4_range hb 12
 obtain ⟨n, hnn⟩ := Int.eq_ofNat_of_zero_le r1
 rw [hnn] at hP r2 ⊢
 by_cases g2 : 524240 < n
 ·rw [if_pos (by omega)] at hP
  rw [ltI_eq, if_pos (by simp; omega)]
  exact bad 5 12 _ hP (by decide) hs
 rw [if_neg (by omega)] at hP
 rw [ltI_eq, if_neg (by simp; omega)]
 have ew : IntKind.i64.wrap ((n : Int) + 16) = ((16 + n : Nat) : Int) := by rw [wrap_id (by omega)]; omega
 have ew2 : IntKind.i64.wrap (((16 + n : Nat) : Int) + 32) = ((48 + n : Nat) : Int) := by rw [wrap_id (by omega)]; omega
 have ew3 : IntKind.i64.wrap (((48 + n : Nat) : Int) - 32) = ((16 + n : Nat) : Int) := by rw [wrap_id (by omega)]; omega
 rw [ew, ew2, ew3]
 by_cases g3 : l < 48 + n
 ·rw [if_pos (by omega), hbl] at hP
  rw [ltI_eq, if_pos (by simp; omega)]
  exact bad 6 l _ hP (by decide) hs
 rw [if_neg (by omega)] at hP
 rw [ltI_eq, if_neg (by simp; omega)]
 by_cases g4 : 48 + n < l
 ·rw [if_pos (by omega)] at hP
  rw [ltI_eq, if_pos (by simp; omega)]
  exact bad 7 _ _ (by rw [hP]; congr 1) (by decide) hs
 rw [if_neg (by omega)] at hP
 rw [ltI_eq, if_neg (by simp; omega)]
 have hw := hP
 clear bad hP
 have hl48 : l = 48 + n := by omega
 intro J100 hJ100
 have ht32 : ((bs.drop (16 + n)).take 32).length = 32 := by rw [List.length_take, List.length_drop]; omega
 have way : ∀ (nb : Nat) h', Sat h0 (blk nb (imgL (bs.getD 5 0) (bs.getD 6 0) (num4 bs 8) (none, 0, 0) (zeros 32)) :: blk n10 [.int .i64 0, .int .i64 0] :: blk n7 (imgL 0 0 0 (none, 0, 0) (zeros 32)) :: A) h' → J100 [.dv (.addr ⟨nb, 0, none⟩)] h' := by
  intro nb h2 hs
  apply hJ100
  clear hJ100 J100
  try simp only [add_mk, Nat.zero_add]
  intro n103 _ hn; replace hs := Sat.new hs hn; clear hn
  rw [Int.toNat_natCast, Nat.add_sub_cancel_left]
  refine ⟨by omega, by omega, by omega, _, sub_rd (o := 16) (n := n) (rd _ hs.drop.drop.drop.drop) (by omega) (by omega), ?_⟩
  refine Sat.app_new hs (by simp; omega) rfl (ints_one _ _) (by omega) ?_
  intro o c2 h3 hs
  obtain ⟨own, hown⟩ : ∃ own : Sl, own = (o, n, c2) := ⟨_, rfl⟩
  replace hs : Sat h0 (sE own 1 (ints .u8 ((bs.drop 16).take n)) :: blk n103 [] :: blk nb (imgL (bs.getD 5 0) (bs.getD 6 0) (num4 bs 8) (none, 0, 0) (zeros 32)) :: blk n10 [.int .i64 0, .int .i64 0] :: blk n7 (imgL 0 0 0 (none, 0, 0) (zeros 32)) :: A) h3 := by rw [hown]; exact hs
  have eo1 : o = own.1 := by rw [hown]
  have eo2 : n = own.2.1 := by rw [hown]
  have eo3 : c2 = own.2.2 := by rw [hown]
  refine ⟨Sat.can hs (i := 2) (.s (.s .z)) (by rw [img_len rfl]; decide), ?_⟩
  intro h4 e4
  replace hs := Sat.wr hs (i := 2) (.s (.s .z)) (o := 3) e4
  clear e4
  simp only [put] at hs
  have e5 : splice (imgL (bs.getD 5 0) (bs.getD 6 0) (num4 bs 8) (none, 0, 0) (zeros 32)) 3 [.slice o n c2] = imgL (bs.getD 5 0) (bs.getD 6 0) (num4 bs 8) own (tagTo ((bs.drop (16 + n)).take 32) 0) := by rw [tagTo_zero, hown]; rfl
  rw [e5] at hs
  clear e5
  intro J113 hJ113
  refine loop_up 32 (fun x h => Sat h0 (sE own 1 (ints .u8 ((bs.drop 16).take n)) :: blk n103 [] :: blk nb (imgL (bs.getD 5 0) (bs.getD 6 0) (num4 bs 8) own (tagTo ((bs.drop (16 + n)).take 32) x)) :: blk n10 [.int .i64 0, .int .i64 0] :: blk n7 (imgL 0 0 0 (none, 0, 0) (zeros 32)) :: A) h) ?_ ?_ 0 _ (by omega) hs
  ·intro x h5 hx hs hk
   apply hJ113
   rw [ltI_eq, if_pos (by simp; omega)]
   have e6 : IntKind.i64.wrap (((16 + n : Nat) : Int) + (x : Int)) = ((16 + n + x : Nat) : Int) := by rw [wrap_id (by omega)]; omega
   rw [e6]
   obtain ⟨q', hq, g⟩ := hsv_int (rd _ hs.drop.drop.drop.drop.drop) (x := 16 + n + x) (by omega)
   refine ⟨_, hq, by omega, by omega, _, by rw [Int.toNat_natCast, Nat.mul_one]; exact g, by omega, by omega, ?_⟩
   rw [Int.toNat_natCast, Nat.mul_one]
   refine ⟨Sat.can hs (i := 2) (.s (.s .z)) (by rw [img_len (tagTo_len _ _)]; simp; omega), ?_⟩
   intro h6 e6
   replace hs := Sat.wr hs (i := 2) (.s (.s .z)) (o := 4 + x) e6
   clear e6
   rw [img_s1 (by rw [tagTo_len]; exact hx)] at hs
   have e7 : bs.getD (16 + n + x) 0 = ((bs.drop (16 + n)).take 32).getD x 0 := (drop_getD bs (16 + n) 32 x hx).symm
   rw [e7, tagTo_set _ hx] at hs
   rw [wrap_succ (by omega)]
   exact hk _ hs
  ·intro h5 hs
   rw [tagTo_all ht32] at hs
   apply hJ113
   rw [ltI_eq, if_neg (by simp)]
   refine ⟨_, Sat.ld hs (i := 2) (.s (.s .z)) rfl, _, Sat.ld hs (i := 2) (.s (.s .z)) rfl, _, Sat.ld hs (i := 2) (.s (.s .z)) rfl, _, _, _, Sat.ld hs (i := 2) (.s (.s .z)) rfl, _, ht32, img_row hs (.s (.s .z)) ht32, Sat.can hs (i := 4) (.s (.s (.s (.s .z)))) (by decide), ?_⟩
   intro h6 e6
   replace hs := Sat.wra hs (i := 4) (.s (.s (.s (.s .z)))) e6 (by rw [img_len ht32]; rfl)
   clear e6
   simp only [put] at hs
   refine ⟨Sat.can hs (i := 3) (.s (.s (.s .z))) (by decide), ?_⟩
   intro h7 e7
   replace hs := Sat.wra hs (i := 3) (.s (.s (.s .z))) e7 (by rfl)
   clear e7
   simp only [put] at hs
   replace hs : Sat h0 (sE own 1 (ints .u8 ((bs.drop 16).take n)) :: blk n103 [] :: blk nb (imgL (bs.getD 5 0) (bs.getD 6 0) (num4 bs 8) own ((bs.drop (16 + n)).take 32)) :: blk n10 [.int .i64 0, .int .i64 0] :: blk n7 (imgL (bs.getD 5 0) (bs.getD 6 0) (num4 bs 8) own ((bs.drop (16 + n)).take 32)) :: A) h7 := hs
   refine ⟨_, Sat.ld hs (i := 4) (.s (.s (.s (.s .z)))) rfl, _, Sat.ld hs (i := 4) (.s (.s (.s (.s .z)))) rfl, _, Sat.ld hs (i := 4) (.s (.s (.s (.s .z)))) rfl, _, _, _, Sat.ld hs (i := 4) (.s (.s (.s (.s .z)))) rfl, _, ht32, img_row hs (.s (.s (.s (.s .z)))) ht32, _, Sat.ld hs (i := 3) (.s (.s (.s .z))) rfl, _, Sat.ld hs (i := 3) (.s (.s (.s .z))) rfl, ?_⟩
   exact k2 own n _ hw hnn eo2.symm (hs.sub (by (repeat (first | exact List.Sublist.refl _ | apply List.Sublist.cons_cons | apply List.Sublist.cons))))
 obtain ⟨q', hq, g5⟩ := hsv_int (rd _ hs.drop.drop) (x := 5) (by omega)
 obtain ⟨q2, hq2, g6⟩ := hsv_int (rd _ hs.drop.drop) (x := 6) (by omega)
 rw [hq] at hq2
 injection hq2 with hq2
 subst hq2
 have c5 : ∀ h', Sat h0 A h' → hcs h' (q'.add 5) [.int .u8 (bs.getD 5 0)] := fun h' hs' => by
  obtain ⟨q2, hq2, g⟩ := hsv_int (rd _ hs') (x := 5) (by omega)
  rw [hq] at hq2; injection hq2 with hq2; subst hq2; exact hcs_one g
 have c6 : ∀ h', Sat h0 A h' → hcs h' (q'.add 6) [.int .u8 (bs.getD 6 0)] := fun h' hs' => by
  obtain ⟨q2, hq2, g⟩ := hsv_int (rd _ hs') (x := 6) (by omega)
  rw [hq] at hq2; injection hq2 with hq2; subst hq2; exact hcs_one g
 have b5 := byte_getD hb 5
 have b6 := byte_getD hb 6
 unfold isByte at b5 b6
 have w5 : IntKind.i64.wrap (bs.getD 5 0) = bs.getD 5 0 := by rw [IntKind.wrap_i64]; omega
 have w6 : IntKind.i64.wrap (bs.getD 6 0) = bs.getD 6 0 := by rw [IntKind.wrap_i64]; omega
 have rd8 : ∀ h', Sat h0 A h' → hsv h' (subAddr q 8 c 1) 1 (l - 8) (ints .u8 ((bs.drop 8).take (l - 8))) := fun h' hs' => sub_rd (o := 8) (n := l - 8) (m := c) (rd _ hs') (by omega) (by omega)
 refine ⟨_, hq, by omega, by omega, _, g5, _, hq, by omega, by omega, _, g6, by omega, by omega, ?_⟩
 rw [w5, w6]
 constructor
 ·refine rnumber_sp (rd8 _ hs.drop.drop) (drop_bytes hb _ _) (by omega) ?_
  rw [num4_drop _ _ _ (by omega)]
  refine ⟨c6 _ hs.drop.drop, c5 _ hs.drop.drop, ?_⟩
  intro nb _ hn; replace hs := Sat.new hs hn; clear hn
  refine ⟨c6 _ hs.drop.drop.drop, c5 _ hs.drop.drop.drop, ?_⟩
  refine ⟨Sat.can hs (i := 0) .z (by decide), ?_⟩
  intro h4 e4
  replace hs := Sat.wra hs (i := 0) .z e4 (by rfl)
  exact way nb _ hs
 ·intro nb _ hn; replace hs := Sat.new hs hn; clear hn
  refine ⟨c6 _ hs.drop.drop.drop, c5 _ hs.drop.drop.drop, ?_⟩
  refine rnumber_sp (rd8 _ hs.drop.drop.drop) (drop_bytes hb _ _) (by omega) ?_
  rw [num4_drop _ _ _ (by omega)]
  refine ⟨c6 _ hs.drop.drop.drop, c5 _ hs.drop.drop.drop, ?_⟩
  refine ⟨Sat.can hs (i := 0) .z (by decide), ?_⟩
  intro h4 e4
  replace hs := Sat.wra hs (i := 0) .z e4 (by rfl)
  exact way nb _ hs
end
end Go.Proofs.YtaglicdidpgkpaaGreatDoor
end

/- The gate, the document: whether an image may be started. Own work. -/
section
set_option maxRecDepth 100000
set_option linter.unusedVariables false
namespace Go.Proofs.YtaglicdidpgkpaaGreatDoor
open Go Go.Vc
attribute [local irreducible] macM

section
variable {h0 h : H} {A : List Ent} {i j p r b s m : Nat} {C : Cm}
theorem rsignN_sp {Q : List Int → Int → H → Prop} {key : Int} {bb : List Int} {bp lp : Option Addr} {bl bc lc : Nat} {R : List SR} {x : SR} (hs : Sat h0 A h) (cr : At A i (blk r [.slice lp R.length lc])) (cl : At A j (slE lp R.length lc 2 (secV R))) (hR : R.length < 2 ^ 40) (gd : SR.good R)
  (rR : ∀ x, x ∈ R → ∀ h', Sat h0 A h' → hsv h' x.p 1 x.bytes.length (ints .u8 x.bytes)) (hx : SR.at_ R key = some x) (hbb : isBy bb) (hbl : bl < 2 ^ 40)
  (rb : ∀ h', Sat h0 A h' → hsv h' bp 1 bl (ints .u8 bb)) (k : ∀ h', Sat h0 A h' → Q (macM x.bytes bb) 0 h') : F_portcullisref12_Ring_Sign ⟨r, 0, none⟩ key bp bl bc Q h := by
 unfold F_portcullisref12_Ring_Sign G_portcullisref12_Ring_Sign
 try simp only [add_mk, Nat.zero_add, List.append_nil]
 have hx2 : x ∈ R := List.mem_of_find?_eq_some hx
 have hg := gd x hx2
 intro nb _ hn; replace hs := Sat.new hs hn; clear hn
 refine find_sp key hs cr.s cl.s hR ?_
 rintro n (⟨e, _⟩ | ⟨t, ht, rfl, e⟩)
 ·rw [hx] at e; cases e
 rw [hx] at e
 injection e with e
 rw [ltI_eq, if_neg (by rw [decide_eq_true_iff]; omega)]
 obtain ⟨q2, hq2, g2⟩ := hsv_get (hs.sv cl.s) (secV_get R t ht).2
 refine ⟨_, _, _, hs.ld cr.s rfl, q2, hq2, by omega, by omega, ?_⟩
 simp only [Int.toNat_natCast]
 refine ⟨_, _, _, by rw [addAdd]; exact g2, ?_⟩
 rw [← e]
 refine rmac_sp (key := x.bytes) (b := bb) hs hg.2.2 hbb (by omega) (by omega) (fun h' hs' => rR x hx2 _ hs'.drop) (fun h' hs' => rb _ hs'.drop) ?_
 intro h2 hs
 refine ⟨Sat.can hs (i := 0) .z (by simp [zeros]), ?_⟩
 intro h3 e3
 replace hs := Sat.wra (xs := ints .u8 (macM x.bytes bb)) hs (i := 0) .z e3 (by simp [zeros, macM_len])
 clear e3
 simp only [put_zero] at hs
 exact ⟨_, macM_len _ _, hs.row0 (i := 0) .z, k _ hs.drop⟩
theorem rbody_sp {Q : Option Addr → Nat → Nat → H → Prop} {bs : List Int} {q : Option Addr} {l c : Nat} (hs : Sat h0 A h) (rd : ∀ h', Sat h0 A h' → hsv h' q 1 l (ints .u8 bs)) (hl : 32 ≤ l) (hlc : l ≤ c) (hl2 : l < 2 ^ 40)
  (k : ∀ p' c' h', l - 32 ≤ c' → Sat h0 (slE p' (l - 32) c' 1 (ints .u8 (bs.take (l - 32))) :: A) h' → Q p' (l - 32) c' h') : F_portcullisref11_Body q l c Q h := by
 unfold F_portcullisref11_Body G_portcullisref11_Body
 have hbl : bs.length = l := by have := (rd _ hs).1; simpa using this
 rw [ltI_eq, if_neg (by rw [decide_eq_true_iff]; omega)]
 intro eb _ hn; replace hs := Sat.new hs hn; clear hn
 have e : IntKind.i64.wrap ((l : Int) - 32) = ((l - 32 : Nat) : Int) := by rw [wrap_id (by omega)]; omega
 rw [e]
 refine ⟨by omega, by omega, ?_⟩
 simp only [Int.toNat_natCast, Nat.sub_zero]
 have R := subRd (o := 0) (n := l - 32) (m := c) (rd _ hs.drop) (by omega) (by omega)
 rw [List.drop_zero] at R
 refine ⟨_, R, ?_⟩
 replace hs := hs.drop.sl_nil 1 (some ⟨eb, 0, none⟩)
 refine Sat.app hs (i := 0) (vs := ints .u8 (bs.take (l - 32))) .z (by simp; omega) rfl (ints_one _ _) (by dsimp only; omega) ?_
 intro p' c' h' hs
 simp only [put_zero, List.nil_append, Nat.zero_add] at hs ⊢
 exact k p' c' h' (capS hs (i := 0) .z) hs
theorem rgateK_sp {Q : Int → Int → Int → Option Addr → Nat → Nat → List Int → Int → H → Prop} {nb n37 n14 : Nat} {bs T tag : List Int} {own : Sl} {E : List Ent} (hs : Sat h0 (blk nb (ints .u8 (zeros 32)) :: blk n37 (imgL (bs.getD 5 0) (bs.getD 6 0) (num4 bs 8) own tag) :: blk n14 (imgL 0 0 0 (none, 0, 0) (zeros 32)) :: E) h) (cj : At E j (refE r C)) (ho : ¬ C.out = true)
  (hT : T.length = 32) (ht : tag.length = 32) (er : (sRead C (bs.getD 5 0)).2 = 0)
  (k1 : ∀ e, e = (if T ≠ tag then 15 else if num4 bs 8 < (sRead C (bs.getD 5 0)).1 then 16 else if lastM C.cfg < num4 bs 8 then 16 else 0) → e ≠ 0 → ∀ h', Sat h0 E h' → Q 0 0 0 none 0 0 (zeros 32) e h')
  (k2 : (if T ≠ tag then 15 else if num4 bs 8 < (sRead C (bs.getD 5 0)).1 then 16 else if lastM C.cfg < num4 bs 8 then 16 else (0 : Int)) = 0 → ∀ h', Sat h0 E h' → Q (bs.getD 5 0) (bs.getD 6 0) (num4 bs 8) own.1 own.2.1 own.2.2 tag 0 h') :
  K1_portcullisref13_Check F_portcullisref10_Read F_portcullisref10_Last ⟨r, 0, none⟩ Q h nb T n37 n14 := by
 unfold K1_portcullisref13_Check
 try simp only [add_mk, Nat.zero_add, List.append_nil]
 intro h2 e
 replace hs := Sat.wra (xs := ints .u8 T) hs (i := 0) .z e (by simp [zeros, hT])
 clear e
 simp only [put_zero] at hs
 refine ⟨T, hT, hs.row0 (i := 0) .z, tag, ht, img_row hs (.s .z) ht, ?_⟩
 by_cases gt : T = tag
 case neg =>
  rw [if_pos gt] at k1
  rw [if_pos (by simpa using gt)]
  refine ret0 15 (zeros_len 32) hs (i := 2) (.s (.s .z)) ?_
  intro h6 hs
  exact k1 15 rfl (by decide) _ hs.drop.drop.drop
 rw [if_neg (by simpa using gt)] at k1 k2
 rw [if_neg (by simpa using gt)]
 refine ⟨_, hs.ld (i := 1) (.s .z) rfl, ?_⟩
 refine rRead10_sp hs cj.s.s.s _ ?_
 intro h3 hs
 rw [er, if_neg (by decide)]
 refine ⟨_, hs.ld (i := 1) (.s .z) rfl, ?_⟩
 rw [ltI_eq]
 by_cases gv : num4 bs 8 < (sRead C (bs.getD 5 0)).1
 ·rw [if_pos gv] at k1
  rw [if_pos (by simpa using gv)]
  refine ret0 16 (zeros_len 32) hs (i := 2) (.s (.s .z)) ?_
  intro h6 hs
  exact k1 16 rfl (by decide) _ hs.drop.drop.drop
 rw [if_neg gv] at k1 k2
 rw [if_neg (by simpa using gv)]
 have ok := ref_ok hs cj.s.s.s
 obtain ⟨_, lc1⟩ := ref_cell hs cj.s.s.s
 refine ⟨_, hs.ld (i := 1) (.s .z) rfl, _, lc1 0 _ rfl, _, lc1 1 _ rfl, _, lc1 2 _ rfl, _, lc1 3 _ rfl, _, lc1 4 _ rfl, _, lc1 5 _ rfl, _, lc1 6 _ rfl, ?_⟩
 refine rLast10_sp ok.may hs ?_
 intro h4 hs
 refine ⟨Sat.cs hs (i := 1) (.s .z) rfl, ?_⟩
 rw [ltI_eq]
 by_cases gl : lastM C.cfg < num4 bs 8
 ·rw [if_pos gl] at k1
  rw [if_pos (by simpa using gl)]
  refine ret0 16 (zeros_len 32) hs (i := 2) (.s (.s .z)) ?_
  intro h6 hs
  exact k1 16 rfl (by decide) _ hs.drop.drop.drop
 rw [if_neg gl] at k2
 rw [if_neg (by simpa using gl)]
 refine ⟨_, hs.ld (i := 1) (.s .z) rfl, _, hs.ld (i := 1) (.s .z) rfl, _, hs.ld (i := 1) (.s .z) rfl, _, _, _, hs.ld (i := 1) (.s .z) rfl, _, ht, img_row hs (.s .z) ht, ?_⟩
 refine ⟨Sat.can hs (i := 2) (.s (.s .z)) (by simp [zeros]), ?_⟩
 intro h10 e10
 replace hs := Sat.wra (xs := imgL (bs.getD 5 0) (bs.getD 6 0) (num4 bs 8) own tag) hs (i := 2) (.s (.s .z)) e10 (by rw [img_len ht]; rfl)
 clear e10
 simp only [put_succ, put_zero] at hs
 refine ⟨_, hs.ld (i := 2) (.s (.s .z)) rfl, _, hs.ld (i := 2) (.s (.s .z)) rfl, _, hs.ld (i := 2) (.s (.s .z)) rfl, _, _, _, hs.ld (i := 2) (.s (.s .z)) rfl, _, ht, img_row hs (.s (.s .z)) ht, ?_⟩
 exact k2 rfl _ hs.drop.drop.drop
theorem rgate_sp {Q : Int → Int → Int → Option Addr → Nat → Nat → List Int → Int → H → Prop} {rr jl jr lc : Nat} {lp : Option Addr} {bs : List Int} {q : Option Addr} {l c : Nat} {R : List SR} (hs : Sat h0 A h) (cj : At A j (refE r C))
  (cr : At A jr (blk rr [.slice lp R.length lc])) (cm : At A jl (slE lp R.length lc 2 (secV R))) (hR : R.length < 2 ^ 40) (gd : SR.good R) (rR : ∀ x, x ∈ R → ∀ h', Sat h0 A h' → hsv h' x.p 1 x.bytes.length (ints .u8 x.bytes))
  (rd : ∀ h', Sat h0 A h' → hsv h' q 1 l (ints .u8 bs)) (hb : bytesOk bs) (hlc : l ≤ c) (hl : l < 2 ^ 50)
  (k1 : ∀ e, e = gateM C (R.map SR.kv) bs → e ≠ 0 → ∀ h', Sat h0 A h' → Q 0 0 0 none 0 0 (zeros 32) e h')
  (k2 : ∀ (own : Sl) (n : Nat), gateM C (R.map SR.kv) bs = 0 → parseW bs = (0, 0) → num4 bs 12 = n → own.2.1 = n → ∀ h', Sat h0 (sE own 1 (ints .u8 ((bs.drop 16).take n)) :: A) h' → Q (bs.getD 5 0) (bs.getD 6 0) (num4 bs 8) own.1 own.2.1 own.2.2 ((bs.drop (16 + n)).take 32) 0 h') :
  F_portcullisref13_Check ⟨r, 0, none⟩ ⟨rr, 0, none⟩ q l c Q h := by
 unfold F_portcullisref13_Check G_portcullisref13_Check
 try simp only [add_mk, Nat.zero_add, List.append_nil]
 have hbl : bs.length = l := by have := (rd _ hs).1; simpa using this
 obtain ⟨G, hG⟩ : ∃ G, G = gateM C (R.map SR.kv) bs := ⟨_, rfl⟩
 rw [← hG] at k1 k2
 unfold gateM at hG
 intro n14 _ hn; replace hs := Sat.new hs hn; clear hn
 replace hs : Sat h0 (blk n14 (imgL 0 0 0 (none, 0, 0) (zeros 32)) :: A) _ := hs
 obtain ⟨_, lc0⟩ := ref_cell hs cj.s
 refine ⟨_, lc0 11 _ rfl, ?_⟩
 by_cases ho : C.out = true
 ·rw [if_pos ho] at hG ⊢
  refine ret0 8 (zeros_len 32) hs (i := 0) .z ?_
  intro h2 hs
  exact k1 8 hG.symm (by decide) _ hs.drop
 rw [if_neg ho] at hG ⊢
 refine rParse_sp hs (fun h' hs' => rd _ hs'.drop) hb hlc hl ?_ ?_
 ·intro e at_ h2 hp he hs
  intro n37 _ hn; replace hs := Sat.new hs hn; clear hn
  intro n40 _ hn; replace hs := Sat.new hs hn; clear hn
  refine ⟨Sat.can hs (i := 1) (.s .z) (by simp [zeros]), ?_⟩
  intro h3 e3
  replace hs := Sat.wra (xs := imgL 0 0 0 (none, 0, 0) (zeros 32)) hs (i := 1) (.s .z) e3 rfl
  clear e3
  simp only [put_succ, put_zero] at hs
  refine ⟨Sat.can hs (i := 0) .z (by simp), ?_⟩
  intro h4 e4
  replace hs := Sat.wra hs (i := 0) .z e4 rfl
  clear e4
  simp only [put_zero] at hs
  refine ⟨_, hs.ld (i := 0) .z rfl, ?_⟩
  rw [if_pos (by simpa using he)]
  refine ⟨_, hs.ld (i := 0) .z rfl, Sat.can hs (i := 2) (.s (.s .z)) (by simp [zeros]), ?_⟩
  intro h5 e5
  replace hs := Sat.wra (xs := imgL 0 0 0 (none, 0, 0) (zeros 32)) hs (i := 2) (.s (.s .z)) e5 rfl
  clear e5
  simp only [put_succ, put_zero] at hs
  refine ⟨Sat.cs hs (i := 0) .z rfl, _, hs.ld (i := 2) (.s (.s .z)) rfl, _, hs.ld (i := 2) (.s (.s .z)) rfl, _, hs.ld (i := 2) (.s (.s .z)) rfl, _, _, _, hs.ld (i := 2) (.s (.s .z)) rfl, _, zeros_len 32, img_row hs (.s (.s .z)) (zeros_len 32), ?_⟩
  refine k1 e ?_ he _ hs.drop.drop.drop
  rw [hp, if_pos he] at hG
  exact hG.symm
 intro own n h2 hp hnn hon hs
 obtain ⟨pl, p5, p6, pn⟩ := parse_ok hb hp hnn
 have htl : ((bs.drop (16 + n)).take 32).length = 32 := by rw [List.length_take, List.length_drop]; omega
 rw [hp, if_neg (by decide)] at hG
 intro n37 _ hn; replace hs := Sat.new hs hn; clear hn
 intro n40 _ hn; replace hs := Sat.new hs hn; clear hn
 refine ⟨Sat.can hs (i := 1) (.s .z) (by simp [zeros]), ?_⟩
 intro h3 e3
 replace hs := Sat.wra (xs := imgL (bs.getD 5 0) (bs.getD 6 0) (num4 bs 8) own ((bs.drop (16 + n)).take 32)) hs (i := 1) (.s .z) e3 (by rw [img_len htl]; rfl)
 clear e3
 simp only [put_succ, put_zero] at hs
 refine ⟨Sat.can hs (i := 0) .z (by simp), ?_⟩
 intro h4 e4
 replace hs := Sat.wra hs (i := 0) .z e4 rfl
 clear e4
 simp only [put_zero] at hs
 refine ⟨_, hs.ld (i := 0) .z rfl, ?_⟩
 rw [if_neg (by decide)]
 replace hs := hs.drop
 replace hs : Sat h0 (blk n37 (imgL (bs.getD 5 0) (bs.getD 6 0) (num4 bs 8) own ((bs.drop (16 + n)).take 32)) :: sE own 1 (ints .u8 ((bs.drop 16).take n)) :: blk n14 (imgL 0 0 0 (none, 0, 0) (zeros 32)) :: A) _ := hs
 obtain ⟨_, lc1⟩ := ref_cell hs cj.s.s.s
 refine ⟨_, hs.ld (i := 0) .z rfl, _, lc1 1 _ rfl, ?_⟩
 rw [leI_eq]
 by_cases gs : C.cfg.slots ≤ bs.getD 5 0
 ·rw [if_pos gs] at hG
  rw [if_pos (by simpa using gs)]
  refine ret0 5 (zeros_len 32) hs (i := 2) (.s (.s .z)) ?_
  intro h6 hs
  exact k1 5 hG.symm (by decide) _ hs.drop.drop.drop
 rw [if_neg gs] at hG
 rw [if_neg (by simpa using gs)]
 have er : (sRead C (bs.getD 5 0)).2 = 0 := by rw [sread_err ho p5.1, if_neg gs]
 intro J69 hJ69
 refine ⟨_, hs.ld (i := 0) .z rfl, ?_⟩
 refine rhas_sp _ hs cr.s.s.s cm.s.s.s hR ?_
 have ekv := at_kv R (bs.getD 6 0)
 cases ex : SR.at_ R (bs.getD 6 0) with
 | none =>
  rw [← ekv, ex] at hG
  rw [if_pos (by simp)]
  refine ret0 13 (zeros_len 32) hs (i := 2) (.s (.s .z)) ?_
  intro h6 hs
  exact k1 13 hG.symm (by decide) _ hs.drop.drop.drop
 | some x =>
 rw [← ekv, ex] at hG
 dsimp only [Option.map_some] at hG
 rw [if_neg (by simp)]
 have rv := revoked_err ho p6.1
 refine ⟨_, hs.ld (i := 0) .z rfl, _, lc1 4 _ rfl, ?_⟩
 rw [leI_eq]
 by_cases gk : C.cfg.keys ≤ bs.getD 6 0
 ·rw [if_pos gk] at hG
  rw [if_pos (by simpa using gk)]
  refine ret0 13 (zeros_len 32) hs (i := 2) (.s (.s .z)) ?_
  intro h6 hs
  exact k1 13 hG.symm (by decide) _ hs.drop.drop.drop
 rw [if_neg gk] at rv hG
 rw [if_neg (by simpa using gk)]
 apply hJ69
 clear hJ69
 refine ⟨_, hs.ld (i := 0) .z rfl, ?_⟩
 unfold F_portcullisref10_Revoked G_portcullisref10_Revoked
 refine rRevoked_sp hs cj.s.s.s _ ?_
 intro h5 hs
 dsimp only
 rw [rv, if_neg (by decide)]
 by_cases gr : (revokedM C (bs.getD 6 0)).1 = true
 ·rw [if_pos gr] at hG ⊢
  refine ret0 14 (zeros_len 32) hs (i := 2) (.s (.s .z)) ?_
  intro h6 hs
  exact k1 14 hG.symm (by decide) _ hs.drop.drop.drop
 rw [if_neg gr] at hG ⊢
 have et : (bs.drop (bs.length - 32)).take 32 = (bs.drop (16 + n)).take 32 := by rw [show bs.length - 32 = 16 + n by omega]
 rw [hbl] at hG et
 rw [et] at hG
 have hbb : isBy (bs.take (l - 32)) := fun v hv => hb v (List.mem_of_mem_take hv)
 have leaf : ∀ nb h', Sat h0 (blk nb (ints .u8 (zeros 32)) :: blk n37 (imgL (bs.getD 5 0) (bs.getD 6 0) (num4 bs 8) own ((bs.drop (16 + n)).take 32)) :: sE own 1 (ints .u8 ((bs.drop 16).take n)) :: blk n14 (imgL 0 0 0 (none, 0, 0) (zeros 32)) :: A) h' → K1_portcullisref13_Check F_portcullisref10_Read F_portcullisref10_Last ⟨r, 0, none⟩ Q h' nb (macM x.bytes (bs.take (l - 32))) n37 n14 := by
  intro nb h' hs'
  replace hs' := hs'.front (e := sE own 1 (ints .u8 ((bs.drop 16).take n))) (i := 2) (.s (.s .z))
  simp only [del] at hs'
  refine rgateK_sp (own := own) (E := sE own 1 (ints .u8 ((bs.drop 16).take n)) :: A) (hs'.perm ?_) cj.s ho (macM_len _ _) htl er ?_ ?_
  ·exact ((List.Perm.swap _ _ _).trans (List.Perm.cons _ ((List.Perm.swap _ _ _).trans (List.Perm.cons _ (List.Perm.swap _ _ _)))))
  ·intro e he hne h6 hs6
   exact k1 e (by rw [he]; exact hG.symm) hne _ hs6.drop
  ·intro he h6 hs6
   exact k2 own n (by rw [hG]; exact he) hp hnn hon _ hs6
 refine ⟨_, hs.ld (i := 0) .z rfl, ?_, ?_⟩
 ·refine rbody_sp hs (fun h' hs' => rd _ hs'.drop.drop.drop) (by omega) hlc (by omega) ?_
  intro p' c' h6 hc' hs
  refine ⟨Sat.cs hs (i := 1) (.s .z) rfl, ?_, ?_⟩
  ·refine rsignN_sp (bb := bs.take (l - 32)) hs cr.s.s.s.s cm.s.s.s.s hR gd (fun y hy h' hs' => rR y hy _ hs'.drop.drop.drop.drop) ex hbb (by omega) (fun h' hs' => hs'.sv (i := 0) .z) ?_
   intro h7 hs
   intro nb _ hn; replace hs := Sat.new hs hn; clear hn
   exact ⟨Sat.can hs (i := 0) .z (by simp [zeros]), leaf _ _ (hs.sub (by (repeat (first | exact List.Sublist.refl _ | apply List.Sublist.cons_cons | apply List.Sublist.cons))))⟩
  ·intro nb _ hn; replace hs := Sat.new hs hn; clear hn
   refine ⟨Sat.cs hs (i := 2) (.s (.s .z)) rfl, ?_⟩
   refine rsignN_sp (bb := bs.take (l - 32)) hs cr.s.s.s.s.s cm.s.s.s.s.s hR gd (fun y hy h' hs' => rR y hy _ hs'.drop.drop.drop.drop.drop) ex hbb (by omega) (fun h' hs' => hs'.sv (i := 1) (.s .z)) ?_
   intro h7 hs
   exact ⟨Sat.can hs (i := 0) .z (by simp [zeros]), leaf _ _ (hs.sub (by (repeat (first | exact List.Sublist.refl _ | apply List.Sublist.cons_cons | apply List.Sublist.cons))))⟩
 ·intro nb _ hn; replace hs := Sat.new hs hn; clear hn
  refine ⟨Sat.cs hs (i := 1) (.s .z) rfl, ?_⟩
  refine rbody_sp hs (fun h' hs' => rd _ hs'.drop.drop.drop.drop) (by omega) hlc (by omega) ?_
  intro p' c' h6 hc' hs
  refine ⟨Sat.cs hs (i := 2) (.s (.s .z)) rfl, ?_⟩
  refine rsignN_sp (bb := bs.take (l - 32)) hs cr.s.s.s.s.s cm.s.s.s.s.s hR gd (fun y hy h' hs' => rR y hy _ hs'.drop.drop.drop.drop.drop) ex hbb (by omega) (fun h' hs' => hs'.sv (i := 0) .z) ?_
  intro h7 hs
  exact ⟨Sat.can hs (i := 1) (.s .z) (by simp [zeros]), leaf _ _ (hs.sub (by (repeat (first | exact List.Sublist.refl _ | apply List.Sublist.cons_cons | apply List.Sublist.cons))))⟩
end
end Go.Proofs.YtaglicdidpgkpaaGreatDoor
end

/- Images, the document: what their tag covers, bytes; whether they may be. Own work. -/
section
set_option maxRecDepth 100000
set_option linter.unusedVariables false
namespace Go.Proofs.YtaglicdidpgkpaaGreatDoor
open Go Go.Vc
attribute [local irreducible] macM

def fourL (v : Int) (t : Nat) : List Int := (List.range t).map fun j => IntKind.u8.wrap (v.fdiv (2 ^ (8 * j)))
theorem fourL_len (v : Int) (t : Nat) : (fourL v t).length = t := by simp [fourL]
theorem fourL_succ (v : Int) (t : Nat) : fourL v (t + 1) = fourL v t ++ [IntKind.u8.wrap (v.fdiv (2 ^ (8 * t)))] := by
 unfold fourL; rw [List.range_succ, List.map_append]; rfl
def coverM (slot key ver : Int) (pay : List Int) : List Int := [80, 67, 85, 76, 1, IntKind.u8.wrap slot, IntKind.u8.wrap key, 0] ++ fourL ver 4 ++ fourL (pay.length : Int) 4 ++ pay
theorem coverM_len (slot key ver : Int) (pay : List Int) : (coverM slot key ver pay).length = 16 + pay.length := by
 unfold coverM
 rw [List.length_append, List.length_append, List.length_append, fourL_len, fourL_len]; rfl
def may11 (slot key ver : Int) (n : Nat) : Int :=
 if slot < 0 ∨ 7 < slot ∨ key < 0 ∨ 63 < key ∨ ver < 0 ∨ 4294967295 < ver then 2 else if 524240 < n then 4 else 0
section
variable {h0 h : H} {A : List Ent} {i j p r b s m : Nat} {C : Cm}
theorem rfour_sp {Q : Option Addr → Nat → Nat → H → Prop} {q : Option Addr} {l c : Nat} {xs : List Int} (v : Int) (hs : Sat h0 (slE q l c 1 (ints .u8 xs) :: A) h) (hl : l < 2 ^ 45)
  (k : ∀ p' c' h', Sat h0 (slE p' (l + 4) c' 1 (ints .u8 (xs ++ fourL v 4)) :: A) h' → Q p' (l + 4) c' h') : F_portcullisref11_four q l c v Q h := by
 unfold F_portcullisref11_four G_portcullisref11_four
 intro J hJ
 refine loopS 4 (fun t (s : Option Addr × Nat) => [.dv (.one (.slice s.1 (l + t) s.2)), si t]) (fun t s h => Sat h0 (slE s.1 (l + t) s.2 1 (ints .u8 (xs ++ fourL v t)) :: A) h) ?_ ?_ 0 (q, c) _ (by omega) (by simpa [fourL] using hs)
 ·clear hs
  rintro t ⟨p2, c2⟩ h2 ht hs hk
  dsimp only at hs hk ⊢
  apply hJ
  rw [ltI_eq, if_pos (by rw [decide_eq_true_iff]; omega)]
  have e : IntKind.i64.wrap (8 * (t : Int)) = ((8 * t : Nat) : Int) := by rw [wrap_id (by omega)]; push_cast; rfl
  rw [e]
  refine ⟨by omega, ?_⟩
  rw [Int.toNat_natCast, show min (8 * t) 64 = 8 * t by omega]
  intro nb _ hn; replace hs := Sat.new hs hn; clear hn
  refine ⟨_, hs.bv (i := 0) (l := 1) .z rfl (ints_one .u8 [_]), ?_⟩
  refine Sat.app hs (i := 1) (vs := ints .u8 [_]) (.s .z) rfl rfl (ints_one .u8 [_]) (by omega) ?_
  intro p3 c3 h3 hs
  simp only [put_succ, put_zero] at hs
  rw [wrap_succ (by omega)]
  refine hk (p3, c3) h3 ?_
  dsimp only
  rw [fourL_succ, ← List.append_assoc, ints_app .u8 _ [_]]
  exact hs.drop
 ·clear hs
  rintro ⟨p2, c2⟩ h2 hs
  dsimp only at hs ⊢
  apply hJ
  rw [ltI_eq, if_neg (by decide)]
  exact k _ _ _ hs
theorem rcover_sp {Q : Option Addr → Nat → Nat → H → Prop} {slot key ver : Int} {pay tag : List Int} {pp : Option Addr} {pl pc : Nat} (hs : Sat h0 A h) (hp : pl < 2 ^ 44) (rd : ∀ h', Sat h0 A h' → hsv h' pp 1 pl (ints .u8 pay))
  (k : ∀ p' c' h', Sat h0 (slE p' (16 + pl) c' 1 (ints .u8 (coverM slot key ver pay)) :: A) h' → Q p' (16 + pl) c' h') : F_portcullisref11_Cover slot key ver pp pl pc tag Q h := by
 unfold F_portcullisref11_Cover G_portcullisref11_Cover
 try simp only [add_mk, Nat.zero_add, List.append_nil]
 have hpl : pay.length = pl := by have := (rd _ hs).1; simpa using this
 intro n10 _ hn; replace hs := Sat.new hs hn; clear hn
 replace hs : Sat h0 (blk n10 (imgL slot key ver (pp, pl, pc) tag) :: A) _ := hs
 refine ⟨_, hs.ld (i := 0) .z rfl, _, hs.ld (i := 0) .z rfl, ?_⟩
 intro n15 _ hn; replace hs := Sat.new hs hn; clear hn
 refine ⟨_, hs.ld (i := 1) (.s .z) rfl, ?_⟩
 replace hs := hs.as_sl (i := 0) (l := 8) (sz := 1) .z rfl (ints_one .u8 [80, 67, 85, 76, 1, IntKind.u8.wrap slot, IntKind.u8.wrap key, 0])
 simp only [put_zero] at hs
 refine rfour_sp (xs := [80, 67, 85, 76, 1, IntKind.u8.wrap slot, IntKind.u8.wrap key, 0]) ver hs (by decide) ?_
 intro p2 c2 h2 hs
 refine ⟨_, _, _, hs.ld (i := 1) (.s .z) rfl, ?_⟩
 refine rfour_sp (pl : Int) hs (by decide) ?_
 intro p3 c3 h3 hs
 refine ⟨_, _, _, hs.ld (i := 1) (.s .z) rfl, _, rd _ hs.drop.drop, ?_⟩
 refine Sat.app hs (i := 0) (vs := ints .u8 pay) .z (by simp [hpl]) rfl (ints_one _ _) (by dsimp only; omega) ?_
 intro p4 c4 h4 hs
 simp only [put_zero] at hs
 have e : ints .u8 ([80, 67, 85, 76, 1, IntKind.u8.wrap slot, IntKind.u8.wrap key, 0] ++ fourL ver 4 ++ fourL (pl : Int) 4) ++ ints .u8 pay = ints .u8 (coverM slot key ver pay) := by
  unfold coverM; rw [hpl, ← ints_app]
 rw [e] at hs
 have K := k p4 c4 h4
 rw [show 16 + pl = 8 + 4 + 4 + pl by omega] at K
 exact K (hs.sub (by (repeat (first | exact List.Sublist.refl _ | apply List.Sublist.cons_cons | apply List.Sublist.cons))))
theorem rtagged_sp {Q : Option Addr → Nat → Nat → H → Prop} {slot key ver : Int} {pay tag : List Int} {pp : Option Addr} {pl pc : Nat} (hs : Sat h0 A h) (ht : tag.length = 32) (hp : pl < 2 ^ 44) (rd : ∀ h', Sat h0 A h' → hsv h' pp 1 pl (ints .u8 pay))
  (k : ∀ p' c' h', Sat h0 (slE p' (48 + pl) c' 1 (ints .u8 (coverM slot key ver pay ++ tag)) :: A) h' → 48 + pl ≤ c' → Q p' (48 + pl) c' h') : F_portcullisref11_Tagged slot key ver pp pl pc tag Q h := by
 unfold F_portcullisref11_Tagged G_portcullisref11_Tagged
 try simp only [add_mk, Nat.zero_add, List.append_nil]
 intro n10 _ hn; replace hs := Sat.new hs hn; clear hn
 replace hs : Sat h0 (blk n10 (imgL slot key ver (pp, pl, pc) tag) :: A) _ := hs
 refine ⟨_, hs.ld (i := 0) .z rfl, _, hs.ld (i := 0) .z rfl, _, hs.ld (i := 0) .z rfl, _, _, _, hs.ld (i := 0) .z rfl, tag, ht, img_row hs .z ht, ?_⟩
 refine rcover_sp (pay := pay) hs hp (fun h' hs' => rd _ hs'.drop) ?_
 intro p2 c2 h2 hs
 intro J hJ
 refine loopS 32 (fun t (s : Option Addr × Nat) => [.dv (.one (.slice s.1 (16 + pl + t) s.2)), si t]) (fun t s h => Sat h0 (slE s.1 (16 + pl + t) s.2 1 (ints .u8 (coverM slot key ver pay ++ tag.take t)) :: blk n10 (imgL slot key ver (pp, pl, pc) tag) :: A) h) ?_ ?_ 0 (p2, c2) _ (by omega) (by simpa using hs)
 ·clear hs
  rintro t ⟨p6, c6⟩ h6 ht2 hs hk
  dsimp only at hs hk ⊢
  apply hJ
  rw [ltI_eq, if_pos (by rw [decide_eq_true_iff]; omega)]
  have ht3 : t < tag.length := by omega
  refine ⟨by omega, by omega, tag[t], ?_, ?_⟩
  ·simp only [Int.toNat_natCast, Nat.mul_one]
   have := img_row hs (.s .z) ht t (.int .u8 tag[t]) (by rw [ints_get, List.getElem?_eq_getElem ht3]; rfl)
   first | exact this | (rw [add_mk] at this; exact this)
  intro b3 _ hn; replace hs := Sat.new hs hn; clear hn
  refine ⟨_, hs.bv (i := 0) (l := 1) .z rfl (ints_one .u8 [tag[t]]), ?_⟩
  refine Sat.app hs (i := 1) (vs := ints .u8 [tag[t]]) (.s .z) rfl rfl (ints_one _ _) (by omega) ?_
  intro p7 c7 h7 hs
  simp only [put_succ, put_zero] at hs
  rw [wrap_succ (by omega)]
  refine hk (p7, c7) h7 ?_
  dsimp only
  rw [take_snoc _ ht3, ← List.append_assoc, ints_app .u8 _ [tag[t]]]
  exact hs.drop
 ·clear hs
  rintro ⟨p6, c6⟩ h6 hs
  dsimp only at hs ⊢
  apply hJ
  rw [ltI_eq, if_neg (by decide)]
  rw [List.take_of_length_le (by omega)] at hs
  have hc := capS hs (i := 0) .z
  have K := k p6 c6 h6
  rw [show 48 + pl = 16 + pl + 32 by omega] at K
  exact K (hs.sub (by (repeat (first | exact List.Sublist.refl _ | apply List.Sublist.cons_cons | apply List.Sublist.cons)))) hc
theorem rmay11_sp {Q : Int → H → Prop} {slot key ver : Int} {tag : List Int} {pp : Option Addr} {pl pc : Nat} (hs : Sat h0 A h) (k : ∀ h', Sat h0 A h' → Q (may11 slot key ver pl) h') : F_portcullisref11_May slot key ver pp pl pc tag Q h := by
 unfold F_portcullisref11_May G_portcullisref11_May
 try simp only [add_mk, Nat.zero_add, List.append_nil]
 intro n9 _ hn; replace hs := Sat.new hs hn; clear hn
 replace hs : Sat h0 (blk n9 (imgL slot key ver (pp, pl, pc) tag) :: A) _ := hs
 have K := k _ hs.drop
 clear k
 unfold may11 at K
 intro J hJ
 refine ⟨_, hs.ld (i := 0) .z rfl, ?_⟩
 rw [ltI_eq]
 by_cases g1 : slot < 0
 ·rw [if_pos (by simpa using g1)]
  rw [if_pos (Or.inl g1)] at K; exact K
 rw [if_neg (by simpa using g1)]
 refine ⟨_, hs.ld (i := 0) .z rfl, ?_⟩
 rw [ltI_eq]
 by_cases g2 : 7 < slot
 ·rw [if_pos (by simpa using g2)]
  rw [if_pos (Or.inr (Or.inl g2))] at K; exact K
 rw [if_neg (by simpa using g2)]
 refine ⟨_, hs.ld (i := 0) .z rfl, ?_⟩
 rw [ltI_eq]
 by_cases g3 : key < 0
 ·rw [if_pos (by simpa using g3)]
  rw [if_pos (by omega)] at K; exact K
 rw [if_neg (by simpa using g3)]
 refine ⟨_, hs.ld (i := 0) .z rfl, ?_⟩
 rw [ltI_eq]
 by_cases g4 : 63 < key
 ·rw [if_pos (by simpa using g4)]
  rw [if_pos (by omega)] at K; exact K
 rw [if_neg (by simpa using g4)]
 refine ⟨_, hs.ld (i := 0) .z rfl, ?_⟩
 rw [ltI_eq]
 by_cases g5 : ver < 0
 ·rw [if_pos (by simpa using g5)]
  rw [if_pos (by omega)] at K; exact K
 rw [if_neg (by simpa using g5)]
 refine ⟨_, hs.ld (i := 0) .z rfl, ?_⟩
 intro v25 hv
 subst hv
 rw [ltI_eq]
 by_cases g6 : 4294967295 < ver
 ·rw [if_pos (by simpa using g6)]
  rw [if_pos (by omega)] at K; exact K
 rw [if_neg (by simpa using g6)]
 rw [if_neg (by omega)] at K
 apply hJ
 refine ⟨_, _, _, hs.ld (i := 0) .z rfl, ?_⟩
 dsimp only
 rw [ltI_eq]
 by_cases g7 : 524240 < pl
 ·rw [if_pos (by rw [decide_eq_true_iff]; omega)]
  rw [if_pos g7] at K; exact K
 ·rw [if_neg (by rw [decide_eq_true_iff]; omega)]
  rw [if_neg g7] at K; exact K
theorem rmake_sp {Q : Option Addr → Nat → Nat → Int → H → Prop} {slot key ver : Int} {sec pay tag : List Int} {sp pp : Option Addr} {sl sc pl pc : Nat} (hs : Sat h0 A h) (ht : tag.length = 32) (hm : may11 slot key ver pl = 0) (hsb : isBy sec) (hsl : sl < 2 ^ 40) (hpb : isBy pay)
  (rs : ∀ h', Sat h0 A h' → hsv h' sp 1 sl (ints .u8 sec)) (rd : ∀ h', Sat h0 A h' → hsv h' pp 1 pl (ints .u8 pay))
  (k : ∀ p' c' h', Sat h0 (slE p' (48 + pl) c' 1 (ints .u8 (coverM slot key ver pay ++ macM sec (coverM slot key ver pay))) :: A) h' → 48 + pl ≤ c' → Q p' (48 + pl) c' 0 h') : F_portcullisref11_Make sp sl sc slot key ver pp pl pc tag Q h := by
 unfold F_portcullisref11_Make G_portcullisref11_Make
 try simp only [add_mk, Nat.zero_add, List.append_nil]
 have hpl : pay.length = pl := by have := (rd _ hs).1; simpa using this
 have hp : pl ≤ 524240 := by
  unfold may11 at hm
  by_cases g : slot < 0 ∨ 7 < slot ∨ key < 0 ∨ 63 < key ∨ ver < 0 ∨ 4294967295 < ver
  ·rw [if_pos g] at hm; cases hm
  ·rw [if_neg g] at hm
   by_cases g2 : 524240 < pl
   ·rw [if_pos g2] at hm; cases hm
   ·omega
 have hcb : isBy (coverM slot key ver pay) := by
  intro v hv
  unfold coverM at hv
  have w8 : ∀ n, 0 ≤ IntKind.u8.wrap n ∧ IntKind.u8.wrap n < 256 := fun n => by rw [IntKind.wrap_u8]; omega
  have f8 : ∀ v t x, x ∈ fourL v t → 0 ≤ x ∧ x < 256 := by
   intro v t x hx
   unfold fourL at hx
   obtain ⟨j, _, rfl⟩ := List.mem_map.1 hx
   exact w8 _
  rcases List.mem_append.1 hv with hv | hv
  ·rcases List.mem_append.1 hv with hv | hv
   ·rcases List.mem_append.1 hv with hv | hv
    ·simp only [List.mem_cons, List.not_mem_nil, or_false] at hv
     rcases hv with rfl | rfl | rfl | rfl | rfl | rfl | rfl | rfl
     ·decide
     ·decide
     ·decide
     ·decide
     ·decide
     ·exact w8 _
     ·exact w8 _
     ·decide
    ·exact f8 _ _ _ hv
   ·exact f8 _ _ _ hv
  ·exact hpb v hv
 intro n16 _ hn; replace hs := Sat.new hs hn; clear hn
 replace hs : Sat h0 (blk n16 (imgL slot key ver (pp, pl, pc) tag) :: A) _ := hs
 refine ⟨_, hs.ld (i := 0) .z rfl, _, hs.ld (i := 0) .z rfl, _, hs.ld (i := 0) .z rfl, _, _, _, hs.ld (i := 0) .z rfl, tag, ht, img_row hs .z ht, ?_⟩
 refine rmay11_sp hs ?_
 intro h2 hs
 rw [hm, if_neg (by decide)]
 refine ⟨_, hs.ld (i := 0) .z rfl, _, hs.ld (i := 0) .z rfl, _, hs.ld (i := 0) .z rfl, _, _, _, hs.ld (i := 0) .z rfl, tag, ht, img_row hs .z ht, ?_⟩
 refine rcover_sp (pay := pay) hs (by dsimp only; omega) (fun h' hs' => rd _ hs'.drop) ?_
 intro p2 c2 h3 hs
 refine rmac_sp (key := sec) (b := coverM slot key ver pay) hs hsb hcb (by omega) (by dsimp only; omega) (fun h' hs' => rs _ hs'.drop.drop) (fun h' hs' => hs'.sv (i := 0) .z) ?_
 intro h4 hs
 replace hs := hs.drop
 refine ⟨Sat.can hs (i := 0) .z (by simp [ht]), ?_⟩
 intro h5 e5
 replace hs := Sat.wr hs (i := 0) (o := 4) .z e5
 clear e5
 simp only [put_zero] at hs
 have es : splice (imgL slot key ver (pp, pl, pc) tag) 4 (ints .u8 (macM sec (coverM slot key ver pay))) = imgL slot key ver (pp, pl, pc) (macM sec (coverM slot key ver pay)) := by
  have := splice_append [Value.int .i64 slot, .int .i64 key, .int .i64 ver, .slice pp pl pc] (ints .u8 tag) [] (ints .u8 (macM sec (coverM slot key ver pay))) (by simp [ht, macM_len])
  simpa using this
 rw [es] at hs
 refine ⟨_, hs.ld (i := 0) .z rfl, _, hs.ld (i := 0) .z rfl, _, hs.ld (i := 0) .z rfl, _, _, _, hs.ld (i := 0) .z rfl, _, macM_len _ _, img_row hs .z (macM_len _ _), ?_⟩
 refine rtagged_sp (pay := pay) hs (macM_len _ _) (by dsimp only; omega) (fun h' hs' => rd _ hs'.drop) ?_
 intro p6 c6 h6 hs hc
 exact k _ _ _ (hs.sub (by (repeat (first | exact List.Sublist.refl _ | apply List.Sublist.cons_cons | apply List.Sublist.cons)))) hc
theorem same11_sp {Q : Bool → H → Prop} {a b v : Int} {pay tag : List Int} {p1 p2 : Option Addr} {l1 c1 l2 c2 : Nat} (hs : Sat h0 A h) (ht : tag.length = 32) (r1 : ∀ h', Sat h0 A h' → hsv h' p1 1 l1 (ints .u8 pay)) (r2 : ∀ h', Sat h0 A h' → hsv h' p2 1 l2 (ints .u8 pay))
  (k : ∀ h', Sat h0 A h' → Q true h') : F_portcullisref11_Same a b v p1 l1 c1 tag a b v p2 l2 c2 tag Q h := by
 unfold F_portcullisref11_Same G_portcullisref11_Same
 try simp only [add_mk, Nat.zero_add, List.append_nil]
 intro n16 _ hn; replace hs := Sat.new hs hn; clear hn
 intro n19 _ hn; replace hs := Sat.new hs hn; clear hn
 replace hs : Sat h0 (blk n19 (imgL a b v (p2, l2, c2) tag) :: blk n16 (imgL a b v (p1, l1, c1) tag) :: A) _ := hs
 refine ⟨_, hs.ld (i := 1) (.s .z) rfl, _, hs.ld (i := 0) .z rfl, ?_⟩
 rw [if_pos (by simp)]
 refine ⟨_, hs.ld (i := 1) (.s .z) rfl, _, hs.ld (i := 0) .z rfl, ?_⟩
 rw [if_pos (by simp)]
 refine ⟨_, hs.ld (i := 1) (.s .z) rfl, _, hs.ld (i := 0) .z rfl, ?_⟩
 rw [if_pos (by simp)]
 refine ⟨_, _, _, hs.ld (i := 1) (.s .z) rfl, _, r1 _ hs.drop.drop, _, _, _, hs.ld (i := 0) .z rfl, _, r2 _ hs.drop.drop, ?_⟩
 rw [if_pos (by simp)]
 refine ⟨tag, ht, img_row hs (.s .z) ht, tag, ht, img_row hs .z ht, ?_⟩
 have : (tag == tag) = true := by simp
 rw [this]
 exact k _ hs.drop.drop
end
end Go.Proofs.YtaglicdidpgkpaaGreatDoor
end

/- The gate: answers that the document fixes (reckoned). Own work. -/
section
set_option maxRecDepth 1000000
namespace Go.Proofs.YtaglicdidpgkpaaGreatDoor
open Go Go.Vc
def cfg13 : Cfg := ⟨8, 2, 3, 10, 4, 5, 0⟩
theorem cfg13_may : cfg13.may := by decide
theorem g13 : (gateM (freshC cfg13) [(1, [7])] (coverM 1 1 5 [] ++ zeros 32) == 15 && gateM (freshC cfg13) [(1, [7])] (coverM 1 1 5 [] ++ macM [7] (coverM 1 1 5 [])) == 0 && gateM (freshC cfg13) [(1, [7])] [] == 6 && num4 (coverM 1 1 5 [] ++ macM [7] (coverM 1 1 5 [])) 8 == 5) = true := by decide +kernel
theorem g13a : gateM (freshC cfg13) [(1, [7])] (coverM 1 1 5 [] ++ zeros 32) = 15 := by have := g13; simp only [Bool.and_eq_true, beq_iff_eq] at this; exact this.1.1.1
theorem g13b : gateM (freshC cfg13) [(1, [7])] (coverM 1 1 5 [] ++ macM [7] (coverM 1 1 5 [])) = 0 := by have := g13; simp only [Bool.and_eq_true, beq_iff_eq] at this; exact this.1.1.2
theorem g13c : gateM (freshC cfg13) [(1, [7])] [] = 6 := by have := g13; simp only [Bool.and_eq_true, beq_iff_eq] at this; exact this.1.2
theorem g13d : num4 (coverM 1 1 5 [] ++ macM [7] (coverM 1 1 5 [])) 8 = 5 := by have := g13; simp only [Bool.and_eq_true, beq_iff_eq] at this; exact this.2
theorem n13 : newM [(1, [7])] = none := by decide
end Go.Proofs.YtaglicdidpgkpaaGreatDoor
end

/- Law 13: what stands at the head of its statements. Own work. -/
section
set_option maxRecDepth 100000
set_option linter.unusedVariables false
namespace Go.Proofs.YtaglicdidpgkpaaGreatDoor
open Go Go.Vc
attribute [local irreducible] macM gateM

section
variable {h0 h : H} {A : List Ent} {i j p r b s m : Nat} {C : Cm}
theorem awake13_sp {Q : Bool → H → Prop} (hg : hc h0 ⟨0, 0, none⟩ = some errTypeV) (hs : Sat h0 A h) (k : ∀ h', Sat h0 A h' → Q true h') : F_portcullislaw13_awake Q h := by
 unfold F_portcullislaw13_awake G_portcullislaw13_awake
 try simp only [add_mk, Nat.zero_add, List.append_nil]
 refine New_sp cfg13 hs (fun nm => absurd cfg13_may nm) ?_
 intro _ pc h1 hs
 intro n11 _ hn; replace hs := Sat.new hs hn; clear hn
 intro n14 _ hn; replace hs := Sat.new hs hn; clear hn
 have rdX : ∀ h', Sat h0 (blk n14 [.int .i64 1, .slice (some ⟨n11, 0, none⟩) 1 1] :: blk n11 [.int .u8 7] :: chipE pc (freshC cfg13) :: A) h' → SecsAt h' (some ⟨n14, 0, none⟩) 1 [⟨1, [7], some ⟨n11, 0, none⟩, 1⟩] := by
  intro h' hs'
  refine ⟨rfl, ?_⟩
  intro x hx
  have : x = 0 := by simp at hx; exact hx
  subst this
  refine ⟨_, rfl, ?_, ?_, hs'.bv (i := 1) (l := 1) (.s .z) rfl (ints_one .u8 [7]), ?_, by show 1 < 2 ^ 47; decide⟩
  ·exact hs'.ld (i := 0) .z rfl
  ·exact hs'.ld (i := 0) .z rfl
  ·intro n hn
   simp only [List.getElem_cons_zero, List.mem_cons, List.not_mem_nil, or_false] at hn
   subst hn; decide
 refine keysU_sp (L := [(1, [7])]) hs rfl rdX (by decide) ?_
 intro o e x h2 B hs hB
 intro J21 hJ21
 rcases hB with ⟨a, _⟩ | ⟨_, e0, rp, mp, R, ho, eR, gR, b1⟩
 ·rw [n13] at a; cases a
 subst e0 ho b1
 rw [if_neg (by decide), if_neg (by decide), if_neg (by simp), if_neg (by simp)]
 apply hJ21
 clear hJ21
 obtain ⟨RR, hRR⟩ : ∃ RR, RR = ringP rp mp R ++ (blk n14 [.int .i64 1, .slice (some ⟨n11, 0, none⟩) 1 1] :: blk n11 [.int .u8 7] :: chipE pc (freshC cfg13) :: A) := ⟨_, rfl⟩
 rw [← hRR] at hs
 obtain ⟨y0, a0⟩ : ∃ x, At RR x (chipE pc (freshC cfg13)) := At.mem (by rw [hRR]; simp)
 obtain ⟨y3, a3⟩ : ∃ x, At RR x (blk rp [.map (some mp)]) := At.mem (by rw [hRR]; simp)
 obtain ⟨y4, a4⟩ : ∃ x, At RR x (mapE mp (R.map SR.ent)) := At.mem (by rw [hRR]; simp)
 have r1 : ∀ x, x ∈ R → ∃ y, At RR y x.sl := fun x hx => At.mem (by rw [hRR]; exact List.mem_append_left _ (List.mem_cons_of_mem _ (List.mem_cons_of_mem _ (List.mem_map_of_mem hx))))
 have sub : A.Sublist RR := by
  rw [hRR]
  exact (((List.sublist_cons_self _ _).trans (List.sublist_cons_self _ _)).trans (List.sublist_cons_self _ _)).trans (List.sublist_append_right _ _)
 clear hRR
 refine ⟨_, rfl, ?_⟩
 refine sMount_sp hs a0 (fun y => by cases y) ?_
 intro _ st lg h3 hs
 intro J27 hJ27
 rw [if_neg (by decide), if_neg (by simp)]
 apply hJ27
 clear hJ27
 refine rtagged_sp (slot := 1) (key := 1) (ver := 5) (pay := []) (tag := zeros 32) (pl := 0) hs (zeros_len 32) (by decide) (fun _ _ => hsv_nil _ _ _) ?_
 intro p1 c1 h4 hs hc1
 refine ⟨_, rfl, _, rfl, ?_⟩
 refine gate_sp (bs := coverM 1 1 5 [] ++ zeros 32) hg hs a0.s.s.s (.s (.s .z)) (.s .z) a3.s.s.s a4.s.s.s gR (fun x hx h' hs' => hs'.sv (r1 x hx).choose_spec.s.s.s) (fun h' hs' => hs'.sv (i := 0) .z) (by unfold bytesOk isByte; decide) (by omega) (by decide) ?_ ?_
 case refine_2 =>
  intro own n he _ _ _ h5 hs
  rw [eR] at he
  have := g13a
  omega
 intro e he _ h5 hs
 rw [eR, g13a] at he
 subst he
 intro n44 _ hn; replace hs := Sat.new hs hn; clear hn
 refine ⟨Sat.can hs (i := 0) .z (by simp [zeros]), ?_⟩
 intro h6 e6
 replace hs := Sat.wra (xs := imgL 0 0 0 (none, 0, 0) (zeros 32)) hs (i := 0) .z e6 rfl
 clear e6
 simp only [put_zero] at hs
 intro n49 _ hn; replace hs := Sat.new hs hn; clear hn
 refine rmake_sp (sec := [7]) (pay := []) (slot := 1) (key := 1) (ver := 5) (pl := 0) hs (zeros_len 32) (by decide) (by intro n hn; simp at hn; subst hn; decide) (by decide) (by intro n hn; cases hn) (fun h' hs' => hs'.bv (i := 0) (l := 1) .z rfl (ints_one .u8 [7])) (fun _ _ => hsv_nil _ _ _) ?_
 intro p2 c2 h7 hs hc2
 refine ⟨_, rfl, _, rfl, ?_⟩
 have hb2 : bytesOk (coverM 1 1 5 [] ++ macM [7] (coverM 1 1 5 [])) := by
  intro v hv
  rcases List.mem_append.1 hv with hv | hv
  ·exact (by unfold bytesOk isByte; decide : bytesOk (coverM 1 1 5 [])) v hv
  ·exact isBy_mac _ _ v hv
 refine gate_sp (bs := coverM 1 1 5 [] ++ macM [7] (coverM 1 1 5 [])) hg hs a0.s.s.s.s.s.s (.s (.s (.s (.s (.s .z))))) (.s (.s (.s (.s .z)))) a3.s.s.s.s.s.s a4.s.s.s.s.s.s gR (fun x hx h' hs' => hs'.sv (r1 x hx).choose_spec.s.s.s.s.s.s) (fun h' hs' => hs'.sv (i := 0) .z) hb2 (by omega) (by decide) ?_ ?_
 ·intro e he hne h8 hs
  rw [eR, g13b] at he
  exact absurd he hne
 intro own n he hp hnn hln h8 hs
 have htl : (((coverM 1 1 5 [] ++ macM [7] (coverM 1 1 5 [])).drop (16 + n)).take 32).length = 32 := by rw [List.length_take, List.length_drop]; omega
 intro n68 _ hn; replace hs := Sat.new hs hn; clear hn
 refine ⟨Sat.can hs (i := 0) .z (by simp [zeros]), ?_⟩
 intro h9 e9
 replace hs := Sat.wra (xs := imgL ((coverM 1 1 5 [] ++ macM [7] (coverM 1 1 5 [])).getD 5 0) ((coverM 1 1 5 [] ++ macM [7] (coverM 1 1 5 [])).getD 6 0) (num4 (coverM 1 1 5 [] ++ macM [7] (coverM 1 1 5 [])) 8) (subAddr own.1 16 (16 + n) 1, n, n) (((coverM 1 1 5 [] ++ macM [7] (coverM 1 1 5 [])).drop (16 + n)).take 32)) hs (i := 0) .z e9 (by rw [img_len htl]; rfl)
 clear e9
 simp only [put_zero] at hs
 rw [g13d] at hs
 refine ⟨_, rfl, _, rfl, ?_⟩
 refine gate_sp (bs := []) hg hs a0.s.s.s.s.s.s.s.s (.s (.s (.s (.s (.s (.s (.s .z))))))) (.s (.s (.s (.s (.s (.s .z)))))) a3.s.s.s.s.s.s.s.s a4.s.s.s.s.s.s.s.s gR (fun x hx h' hs' => hs'.sv (r1 x hx).choose_spec.s.s.s.s.s.s.s.s) (fun _ _ => hsv_nil _ _ _) (by intro n hn; cases hn) (by decide) (by decide) ?_ ?_
 case refine_2 =>
  intro own n he _ _ _ h5 hs
  rw [eR] at he
  have := g13c
  omega
 intro e he _ h10 hs
 rw [eR, g13c] at he
 subst he
 intro n84 _ hn; replace hs := Sat.new hs hn; clear hn
 refine ⟨Sat.can hs (i := 0) .z (by simp [zeros]), ?_⟩
 intro h11 e11
 replace hs := Sat.wra (xs := imgL 0 0 0 (none, 0, 0) (zeros 32)) hs (i := 0) .z e11 rfl
 clear e11
 simp only [put_zero] at hs
 rw [if_pos (by decide), if_pos (by decide)]
 refine ⟨_, hs.ld (i := 1) (.s .z) rfl, ?_⟩
 rw [if_pos (by decide)]
 exact k _ (hs.sub (by
  refine sub.trans ?_
  exact ((((((((List.sublist_cons_self _ _).trans (List.sublist_cons_self _ _)).trans (List.sublist_cons_self _ _)).trans (List.sublist_cons_self _ _)).trans (List.sublist_cons_self _ _)).trans (List.sublist_cons_self _ _)).trans (List.sublist_cons_self _ _)).trans (List.sublist_cons_self _ _)).trans (List.sublist_cons_self _ _)))
def okS (c : Cfg) (s : St) (L : List Sec) : Prop := c.may ∧ s.lays c ∧ newM L = none
theorem scene13_sp {a_ b_ c' : Sl} {s : St} {X : List SR} {lp : Option Addr} {ll lc : Nat} {Q : Option Addr → Option Addr → Option Addr → Bool → H → Prop} (c : Cfg) (hs : Sat h0 A h) (rd : ∀ h', Sat h0 A h' → RdS h' a_ b_ c' s) (ty : s.typed) (rl : SecsAt h0 lp ll X) (hll : ll < 2 ^ 47)
  (k1 : ¬ okS c s (X.map SR.kv) → ∀ h', Sat h0 A h' → Q none none none false h')
  (k2 : okS c s (X.map SR.kv) → ∀ pc st lg rp mp R h', R.map SR.kv = X.map SR.kv → SR.good R → Sat h0 (chipE pc (layC c s) :: storeE st pc lg :: logE lg pc :: (ringP rp mp R ++ A)) h' → Q (some ⟨pc, 0, none⟩) (some ⟨st, 0, none⟩) (some ⟨rp, 0, none⟩) true h') :
  F_portcullislaw13_scene c.cells c.slots c.fuses c.step c.keys c.erases c.area a_.1 a_.2.1 a_.2.2 b_.1 b_.2.1 b_.2.2 c'.1 c'.2.1 c'.2.2 lp ll lc Q h := by
 unfold F_portcullislaw13_scene G_portcullislaw13_scene
 try simp only [add_mk, Nat.zero_add, List.append_nil]
 have lR : X.length = ll := rl.1.symm
 obtain ⟨L, hL⟩ : ∃ L, X.map SR.kv = L := ⟨_, rfl⟩
 rw [hL] at k1 k2
 intro n26 _ hn; replace hs := Sat.new hs hn; clear hn
 replace hs : Sat h0 (blk n26 (scnV c a_ b_ c' lp ll lc) :: A) _ := hs
 (repeat first | refine ⟨_, Sat.ld hs (by (repeat (first | exact At.z | apply At.s))) (by rfl), ?_⟩ | refine ⟨_, _, _, Sat.ld hs (by (repeat (first | exact At.z | apply At.s))) (by rfl), ?_⟩ | (intro _ _ hn; replace hs := Sat.new hs hn; clear hn) | refine ⟨Sat.cs hs (by (repeat (first | exact At.z | apply At.s))) (by rfl), ?_⟩ | (refine ⟨Sat.can hs (by (repeat (first | exact At.z | apply At.s))) (by simp), ?_⟩; intro _ e; replace hs := Sat.wr hs (by (repeat (first | exact At.z | apply At.s))) e; clear e; simp only [put, splice, List.set] at hs))
 refine Lay_sp (a := a_) (b := b_) (c' := c') (s := s) c hs (fun h' hs' => rd _ hs'.drop) ty ?_ ?_ ?_
 ·intro nm h1 hs
  refine ⟨_, _, _, Sat.ld hs (by (repeat (first | exact At.z | apply At.s))) (by rfl), ?_⟩
  refine keysU_sp hs hL (fun h' hs' => rl.ext hs') hll ?_
  intro o1 e1 i1 h3 B hs hB J53 hJ53
  rw [if_pos (by decide)]
  exact k1 (fun y => nm y.1) _ (hs.sub ((List.sublist_cons_self _ _).trans (List.sublist_append_right _ _)))
 ·intro m nl h1 hs
  refine ⟨_, _, _, Sat.ld hs (by (repeat (first | exact At.z | apply At.s))) (by rfl), ?_⟩
  refine keysU_sp hs hL (fun h' hs' => rl.ext hs') hll ?_
  intro o1 e1 i1 h3 B hs hB J53 hJ53
  rw [if_pos (by decide)]
  exact k1 (fun y => nl y.2.1) _ (hs.sub ((List.sublist_cons_self _ _).trans (List.sublist_append_right _ _)))
 ·intro m l pc h1 hs
  refine ⟨_, _, _, Sat.ld hs (by (repeat (first | exact At.z | apply At.s))) (by rfl), ?_⟩
  refine keysU_sp hs hL (fun h' hs' => rl.ext hs') hll ?_
  intro o1 e1 i1 h3 B hs hB J53 hJ53
  rw [if_neg (by decide)]
  rcases hB with ⟨a, b⟩ | ⟨a, b0, rp, mp, R, b, eR, gR, b1⟩
  ·rw [if_pos (by simpa using newM_ne a)]
   exact k1 (fun y => by rw [y.2.2] at a; cases a) _ (hs.sub (((List.sublist_cons_self _ _).trans (List.sublist_cons_self _ _)).trans (List.sublist_append_right _ _)))
  subst b0 b b1
  rw [if_neg (by decide), if_neg (by simp), if_neg (by simp)]
  apply hJ53
  refine ⟨_, rfl, ?_⟩
  obtain ⟨z, az⟩ : ∃ z, At (ringP rp mp R ++ (chipE pc (layC c s) :: blk n26 (scnV c a_ b_ c' lp ll lc) :: A)) z (chipE pc (layC c s)) := At.mem (by simp)
  refine sMount_sp hs az (fun y => by cases y) ?_
  intro _ st lg h5 hs
  rw [if_pos (by decide)]
  refine k2 ⟨m, l, a⟩ pc st lg rp mp R h5 eR gR ?_
  have p1 : (storeE st pc lg :: logE lg pc :: (ringP rp mp R ++ (chipE pc (layC c s) :: blk n26 (scnV c a_ b_ c' lp ll lc) :: A))).Perm (chipE pc (layC c s) :: storeE st pc lg :: logE lg pc :: (ringP rp mp R ++ (blk n26 (scnV c a_ b_ c' lp ll lc) :: A))) := by
   have q1 : (ringP rp mp R ++ (chipE pc (layC c s) :: (blk n26 (scnV c a_ b_ c' lp ll lc) :: A))).Perm (chipE pc (layC c s) :: (ringP rp mp R ++ (blk n26 (scnV c a_ b_ c' lp ll lc) :: A))) := List.perm_middle
   exact ((q1.cons _).cons _).trans ((List.Perm.swap _ _ _).cons _ |>.trans (List.Perm.swap _ _ _))
  refine (hs.perm p1).sub ?_
  refine List.Sublist.cons_cons _ (List.Sublist.cons_cons _ (List.Sublist.cons_cons _ ?_))
  exact (List.Sublist.refl _).append (List.sublist_cons_self _ _)
theorem may13_sp {a_ b_ c' : Sl} {s : St} {X : List SR} {lp : Option Addr} {ll lc : Nat} {Q : Option Addr → Option Addr → Bool → H → Prop} (c : Cfg) (hs : Sat h0 A h) (rd : ∀ h', Sat h0 A h' → RdS h' a_ b_ c' s) (ty : s.typed) (rl : SecsAt h0 lp ll X) (hll : ll < 2 ^ 47)
  (k1 : ¬ okS c s (X.map SR.kv) → ∀ o o' h', Sat h0 A h' → Q o o' false h')
  (k2 : okS c s (X.map SR.kv) → ∀ pr rr lp' lc' R2 h', R2.map SR.kv = X.map SR.kv → SR.good R2 → R2.length < 2 ^ 40 → Sat h0 (refE pr (layC c s) :: (ringD rr lp' lc' R2 ++ A)) h' → Q (some ⟨pr, 0, none⟩) (some ⟨rr, 0, none⟩) true h') :
  F_portcullislaw13_may c.cells c.slots c.fuses c.step c.keys c.erases c.area a_.1 a_.2.1 a_.2.2 b_.1 b_.2.1 b_.2.2 c'.1 c'.2.1 c'.2.2 lp ll lc Q h := by
 unfold F_portcullislaw13_may G_portcullislaw13_may
 try simp only [add_mk, Nat.zero_add, List.append_nil]
 have lR : X.length = ll := rl.1.symm
 obtain ⟨L, hL⟩ : ∃ L, X.map SR.kv = L := ⟨_, rfl⟩
 rw [hL] at k1 k2
 intro n26 _ hn; replace hs := Sat.new hs hn; clear hn
 replace hs : Sat h0 (blk n26 (scnV c a_ b_ c' lp ll lc) :: A) _ := hs
 (repeat first | refine ⟨_, Sat.ld hs (by (repeat (first | exact At.z | apply At.s))) (by rfl), ?_⟩ | refine ⟨_, _, _, Sat.ld hs (by (repeat (first | exact At.z | apply At.s))) (by rfl), ?_⟩ | (intro _ _ hn; replace hs := Sat.new hs hn; clear hn) | refine ⟨Sat.cs hs (by (repeat (first | exact At.z | apply At.s))) (by rfl), ?_⟩ | (refine ⟨Sat.can hs (by (repeat (first | exact At.z | apply At.s))) (by simp), ?_⟩; intro _ e; replace hs := Sat.wr hs (by (repeat (first | exact At.z | apply At.s))) e; clear e; simp only [put, splice, List.set] at hs))
 refine rLay_sp (a := a_) (b := b_) (c' := c') (s := s) c hs (fun h' hs' => rd _ hs'.drop) ty ?_ ?_ ?_
 ·intro nm h1 hs
  refine ⟨_, _, _, Sat.ld hs (by (repeat (first | exact At.z | apply At.s))) (by rfl), ?_⟩
  refine ringsU_sp hs hL (fun h' hs' => rl.ext hs') hll ?_
  intro o1 e1 i1 h3 B hs hB
  rw [if_neg (by decide)]
  exact k1 (fun y => nm y.1) _ _ _ (hs.sub ((List.sublist_cons_self _ _).trans (List.sublist_append_right _ _)))
 ·intro m nl h1 hs
  refine ⟨_, _, _, Sat.ld hs (by (repeat (first | exact At.z | apply At.s))) (by rfl), ?_⟩
  refine ringsU_sp hs hL (fun h' hs' => rl.ext hs') hll ?_
  intro o1 e1 i1 h3 B hs hB
  rw [if_neg (by decide)]
  exact k1 (fun y => nl y.2.1) _ _ _ (hs.sub ((List.sublist_cons_self _ _).trans (List.sublist_append_right _ _)))
 ·intro m l pr h1 hs
  refine ⟨_, _, _, Sat.ld hs (by (repeat (first | exact At.z | apply At.s))) (by rfl), ?_⟩
  refine ringsU_sp hs hL (fun h' hs' => rl.ext hs') hll ?_
  intro o1 e1 i1 h3 B hs hB
  rw [if_pos (by decide)]
  rcases hB with ⟨a, b⟩ | ⟨a, b0, rr, lp2, lc2, R2, b, eR2, gR2, b1⟩
  ·have : (e1 == 0) = false := by simpa using newM_ne a
   rw [this]
   exact k1 (fun y => by rw [y.2.2] at a; cases a) _ _ _ (hs.sub (((List.sublist_cons_self _ _).trans (List.sublist_cons_self _ _)).trans (List.sublist_append_right _ _)))
  subst b0 b b1
  have lR2 : R2.length < 2 ^ 40 := by
   have := congrArg List.length eR2
   rw [List.length_map] at this
   have h64 : ¬ 64 < L.length := fun y => by unfold newM at a; rw [if_pos y] at a; cases a
   omega
  refine k2 ⟨m, l, a⟩ pr rr lp2 lc2 R2 h3 eR2 gR2 lR2 ?_
  have q1 : (ringD rr lp2 lc2 R2 ++ (refE pr (layC c s) :: (blk n26 (scnV c a_ b_ c' lp ll lc) :: A))).Perm (refE pr (layC c s) :: (ringD rr lp2 lc2 R2 ++ (blk n26 (scnV c a_ b_ c' lp ll lc) :: A))) := List.perm_middle
  refine (hs.perm q1).sub ?_
  refine List.Sublist.cons_cons _ ?_
  exact (List.Sublist.refl _).append (List.sublist_cons_self _ _)
end
end Go.Proofs.YtaglicdidpgkpaaGreatDoor
end

/- TokenChecks: over any chip, keys, tokens, wishes; no act; without power, too. Own work. -/
section
set_option maxRecDepth 100000
set_option linter.unusedVariables false
namespace Go.Proofs.YtaglicdidpgkpaaGreatDoor
open Go Go.Vc
attribute [local irreducible] macM

structure TkIn (h : H) (key : Int) (id tag : List Int) (cs : List CvM) (ip : Option Addr) (il : Nat) (cp : Option Addr) (cl : Nat) : Prop where
 ri : hsv h ip 1 il (ints .u8 id)
 rb : isBy id
 ii : il + 4096 ≤ 2 ^ 47
 rc : hsv h cp 5 cl (cvsV cs)
 tl : tag.length = 32
 tb : isBy tag
section
variable {h0 h : H} {A : List Ent} {i j p r b s m : Nat} {C : Cm}
end
end Go.Proofs.YtaglicdidpgkpaaGreatDoor
end

/- GateNames, GateChecks. Own work. -/
section
set_option maxRecDepth 100000
set_option linter.unusedVariables false
namespace Go.Proofs.YtaglicdidpgkpaaGreatDoor
open Go Go.Vc
attribute [local irreducible] macM gateM

section
variable {h0 h : H} {A : List Ent} {i j p r b s m : Nat} {C : Cm}
theorem perm3m {α : Type} (a b c : α) (P C : List α) : (P ++ a :: b :: c :: C).Perm (a :: b :: c :: (P ++ C)) := by
 have := (List.perm_append_comm (l₁ := P) (l₂ := [a, b, c])).append_right C
 simpa using this
end
end Go.Proofs.YtaglicdidpgkpaaGreatDoor
end

/- The store's laws, plain: what a BumpTo leaves. Own work. -/
section
set_option maxRecDepth 100000
set_option linter.unusedVariables false
namespace Go.Proofs.YtaglicdidpgkpaaGreatDoor
open Go Go.Vc

theorem program_blown (C : Cm) (t q : Int) (x : List Int) : (programM C t q x).1.s.blown = C.s.blown := by
 unfold programM
 split
 ·rfl
 ·show C.act.s.blown = _; rw [act_s]
theorem erase_blown (C : Cm) (t : Int) : (eraseM C t).1.s.blown = C.s.blown := by
 unfold eraseM
 split
 ·rfl
 ·split
  ·rfl
  ·show C.act.s.blown = _; rw [act_s]
theorem layL_blown (C : Cm) (slot n : Int) : (layL C slot n).1.s.blown = C.s.blown := by
 have ep : ∀ (t : Int) (nums : List Int) (m x a : Nat) (D : Cm), (turnP t nums m x a D).1.s.blown = D.s.blown := by
  intro t nums m
  induction m with
  | zero => intro x a D; rfl
  | succ m ih =>
   intro x a D
   unfold turnP
   split
   ·exact ih _ _ _
   ·split
    ·exact program_blown _ _ _ _
    ·exact (ih _ _ _).trans (program_blown _ _ _ _)
 have ea : ∀ (g t : Int) (nums : List Int) (m : Nat) (D : Cm), (turnA g t nums m D).1.s.blown = D.s.blown := by
  intro g t nums m D
  unfold turnA
  split
  ·exact ep _ _ _ _ _ _
  ·exact (program_blown _ _ _ _).trans (ep _ _ _ _ _ _)
 unfold layL
 (repeat' split) <;> first | rfl | exact program_blown _ _ _ _ | skip
 unfold turnL
 split
 ·exact ea _ _ _ _ _
 ·split
  ·exact erase_blown _ _
  ·exact (ea _ _ _ _ _).trans (erase_blown _ _)
theorem blow_pages (C : Cm) (k : Int) : (blowM C k).1.s.pages = C.s.pages ∧ (blowM C k).1.s.erases = C.s.erases ∧ (blowM C k).1.cfg = C.cfg := by
 unfold blowM
 split
 ·exact ⟨rfl, rfl, rfl⟩
 ·dsimp only
  split
  ·exact ⟨rfl, rfl, act_cfg C⟩
  ·rw [act_s]; exact ⟨rfl, rfl, act_cfg C⟩
theorem raise_pages (a f : Nat) (n : Int) : ∀ (m : Nat) (C : Cm), (raiseL a f n m C).1.s.pages = C.s.pages ∧ (raiseL a f n m C).1.cfg = C.cfg
 | 0, C => ⟨rfl, rfl⟩
 | m + 1, C => by
  unfold raiseL
  split
  ·exact ⟨rfl, rfl⟩
  ·split
   ·exact ⟨rfl, rfl⟩
   ·rename_i k _
    have b := blow_pages C k
    split
    ·exact ⟨b.1, b.2.2⟩
    ·have r := raise_pages a f n m (blowM C k).1
     exact ⟨r.1.trans b.1, r.2.trans b.2.2⟩
theorem blow_left {C : Cm} (h : C.left < 0) (k : Int) : (blowM C k).1.left < 0 := by
 unfold blowM
 split
 ·exact h
 ·dsimp only
  split
  ·exact act_left h
  ·exact act_left h
theorem raise_left (a f : Nat) (n : Int) : ∀ (m : Nat) (C : Cm), C.left < 0 → (raiseL a f n m C).1.left < 0
 | 0, C, h => h
 | m + 1, C, h => by
  unfold raiseL
  split
  ·exact h
  ·split
   ·exact h
   ·rename_i k _
    have b := blow_left h k
    split
    ·exact b
    ·exact raise_left a f n m _ b
theorem snd_of {u : Bool} {C D : Cm} (hc : D.cfg = C.cfg) (hp : D.s.pages = C.s.pages) (hl : C.left < 0 → D.left < 0) (h : sndU u C) : sndU u D := by
 cases u
 ·intro x hx
  have := h x hx
  unfold Cm.pg at this ⊢
  rw [hp, hc]
  exact this
 ·exact hl h
def cntB (C : Cm) (k : Nat) : Nat := cnt C.s.blown (((k : Nat) : Int) * C.cfg.fuses).toNat C.cfg.fuses.toNat
def valB (C : Cm) (k : Nat) : Int := if (cntB C k : Int) * C.cfg.step < numOf C k then numOf C k else (cntB C k : Int) * C.cfg.step
theorem valS_B {C : Cm} (ho : C.out = false) {k : Nat} (hk : (k : Int) < C.cfg.slots) : valS C (k : Int) = valB C k := by
 have e : countM C (k : Int) = (((cnt C.s.blown (((k : Nat) : Int) * C.cfg.fuses).toNat C.cfg.fuses.toNat : Nat) : Int), 0) := by
  unfold countM
  rw [askedM_in ho (by omega) hk, if_neg (by simp)]
 unfold valS valB cntB
 rw [e, Int.toNat_natCast]
theorem numOf_pages {C D : Cm} (hc : D.cfg = C.cfg) (hp : D.s.pages = C.s.pages) (k : Nat) : numOf D k = numOf C k := by
 have e : ∀ t, pI D t = pI C t := fun t => by unfold pI Cm.pg; rw [hc, hp]
 unfold numOf infoM presM
 rw [e, e, e]
structure Bumped (u : Bool) (C D : Cm) (slot : Nat) (v e : Int) : Prop where
 cfg : D.cfg = C.cfg
 snd : sndU u D
 keys : ∀ q : Nat, C.cfg.slots * C.cfg.fuses ≤ (q : Int) → D.s.blown.getD q false = C.s.blown.getD q false
 other : ∀ k : Nat, (k : Int) < C.cfg.slots → k ≠ slot → valB D k = valB C k
 me : valB D slot = valB C slot ∨ (valB D slot = v ∧ valB C slot < v)
 done : e = 0 → valB D slot = max v (valB C slot)
 bad : e ≠ 0 → e ≠ 8 → D = C
theorem cnt_congr {x y : List Bool} {a : Nat} : ∀ {n : Nat}, (∀ k, a ≤ k → k < a + n → x.getD k false = y.getD k false) → cnt x a n = cnt y a n
 | 0, _ => rfl
 | n + 1, h => by
  unfold cnt
  rw [cnt_congr (n := n) fun k h1 h2 => h k h1 (by omega), h (a + n) (by omega) (by omega)]
theorem bump_law {u : Bool} {C : Cm} (ok : C.ok) (ho : C.out = false) (snd : sndU u C) {slot : Nat} (hs : (slot : Int) < C.cfg.slots) (v : Int) :
  Bumped u C (sBumpTo C (slot : Int) v).1 slot v (sBumpTo C (slot : Int) v).2 := by
 have hms := ok.may.slots
 have hst := ok.may.step
 have hfu := ok.may.fuses
 have hr : sRead C (slot : Int) = (valB C slot, 0) := by
  unfold sRead
  rw [askedM_in ho (by omega) hs, if_neg (by simp), valS_B ho hs]
 have hmv := most_val
 have hlast := lastM_in ok.may
 unfold sBumpTo
 rw [hr]
 dsimp only
 rw [if_neg (by simp)]
 have idle : ∀ e, (e = 0 → v ≤ valB C slot) → Bumped u C C slot v e := fun e he =>
  ⟨rfl, snd, fun _ _ => rfl, fun _ _ _ => rfl, Or.inl rfl, fun y => by have := he y; omega, fun _ _ => rfl⟩
 by_cases g1 : v < 0
 ·rw [if_pos g1]; exact idle 2 (fun y => absurd y (by decide))
 rw [if_neg g1]
 by_cases g2 : v ≤ valB C slot
 ·rw [if_pos g2]; exact idle 0 (fun _ => g2)
 rw [if_neg g2]
 by_cases g3 : lastM C.cfg < v
 ·rw [if_pos g3]; exact idle 10 (fun y => absurd y (by decide))
 rw [if_neg g3]
 have hnum : numOf C slot ≤ valB C slot := by unfold valB; split <;> omega
 have hcnt : (cntB C slot : Int) * C.cfg.step ≤ valB C slot := by unfold valB; split <;> omega
 have hc0 : 0 ≤ (cntB C slot : Int) * C.cfg.step := Int.mul_nonneg (by omega) (by omega)
 obtain ⟨D, e, hL, L⟩ := lay_law (u := u) ok ho snd (slot := slot) (n := v) (by omega) (by omega) (by omega) (by omega)
 have hbl := layL_blown C (slot : Int) v
 rw [hL] at hbl ⊢
 dsimp only at hbl ⊢
 have cD : ∀ k, cntB D k = cntB C k := fun k => by unfold cntB; rw [hbl, L.cfg]
 have vD : ∀ k : Nat, (k : Int) < C.cfg.slots → k ≠ slot → valB D k = valB C k := fun k h1 h2 => by
  unfold valB
  rw [cD, L.cfg, L.other k (by omega) h2]
 by_cases ge : e = 0
 case neg =>
  rw [if_pos ge]
  refine ⟨L.cfg, L.snd, fun q _ => by rw [hbl], vD, ?_, fun y => absurd y ge, fun _ h8 => L.e9 (by have := L.ec; omega)⟩
  rcases L.me with y | y
  ·left; unfold valB; rw [cD, L.cfg, y]
  ·right
   refine ⟨?_, by omega⟩
   unfold valB
   rw [cD, L.cfg, y, if_pos (by omega)]
 rw [if_neg (fun y => y ge)]
 have okD := L.ok
 have hoD := L.out0 ge
 have hn := L.done ge
 have hsD : (slot : Int) < D.cfg.slots := by rw [L.cfg]; exact hs
 obtain ⟨r1, r2, r3, r4, r5, r6⟩ := row_in okD (slot := (slot : Int)) (by omega) hsD
 have hd0 : 0 ≤ v.tdiv C.cfg.step := Int.tdiv_nonneg (by omega) (by omega)
 have hdq : v.tdiv C.cfg.step * C.cfg.step ≤ v := by
  rw [Int.tdiv_eq_ediv_of_nonneg (by omega)]
  exact Int.ediv_mul_le v (by omega)
 have hdf : v.tdiv C.cfg.step ≤ C.cfg.fuses := by
  rw [Int.tdiv_eq_ediv_of_nonneg (by omega)]
  have : v / C.cfg.step < C.cfg.fuses + 1 := Int.ediv_lt_of_lt_mul (by omega) (by
   rw [Int.add_mul, Int.one_mul, Int.mul_comm]
   unfold lastM at g3
   omega)
  omega
 unfold raiseM
 rw [askedM_in hoD (by omega) hsD, if_neg (by simp), if_neg (by omega), if_neg (by rw [L.cfg]; omega)]
 have R := raised ((slot : Int) * D.cfg.fuses).toNat D.cfg.fuses.toNat (v.tdiv C.cfg.step) (by rw [L.cfg]; rw [L.cfg] at r2; omega) D.cfg.fuses.toNat D hoD okD.left r3 (by
  have := Int.natCast_nonneg (cnt D.s.blown ((slot : Int) * D.cfg.fuses).toNat D.cfg.fuses.toNat)
  rw [L.cfg] at r2 ⊢
  omega)
 have P := raise_pages ((slot : Int) * D.cfg.fuses).toNat D.cfg.fuses.toNat (v.tdiv C.cfg.step) D.cfg.fuses.toNat D
 have PL := raise_left ((slot : Int) * D.cfg.fuses).toNat D.cfg.fuses.toNat (v.tdiv C.cfg.step) D.cfg.fuses.toNat D
 generalize raiseL ((slot : Int) * D.cfg.fuses).toNat D.cfg.fuses.toNat (v.tdiv C.cfg.step) D.cfg.fuses.toNat D = X at *
 have cX : X.1.cfg = C.cfg := R.cfg.trans L.cfg
 have nX : ∀ k, numOf X.1 k = numOf D k := fun k => numOf_pages R.cfg P.1 k
 have sX : sndU u X.1 := snd_of R.cfg P.1 PL L.snd
 have hfm : (C.cfg.fuses.toNat : Int) = C.cfg.fuses := by omega
 have cXme : ((cntB X.1 slot : Nat) : Int) * C.cfg.step ≤ v := by
  have := R.le
  have e1 : cnt D.s.blown ((slot : Int) * D.cfg.fuses).toNat D.cfg.fuses.toNat = cntB C slot := (show cntB D slot = _ from cD slot)
  have e2 : cnt X.1.s.blown ((slot : Int) * D.cfg.fuses).toNat D.cfg.fuses.toNat = cntB X.1 slot := by unfold cntB; rw [R.cfg]
  rw [e1, e2] at this
  rcases Int.le_total (v.tdiv C.cfg.step) (cntB C slot : Int) with y | y
  ·have z : ((cntB X.1 slot : Nat) : Int) ≤ (cntB C slot : Int) := by omega
   have := Int.mul_le_mul_of_nonneg_right z (show 0 ≤ C.cfg.step by omega)
   omega
  ·have z : ((cntB X.1 slot : Nat) : Int) ≤ v.tdiv C.cfg.step := by omega
   have := Int.mul_le_mul_of_nonneg_right z (show 0 ≤ C.cfg.step by omega)
   omega
 have vme : valB X.1 slot = v := by
  unfold valB
  rw [nX, hn, cX]
  split <;> omega
 refine ⟨cX, sX, ?_, ?_, Or.inr ⟨vme, by omega⟩, fun _ => by rw [vme]; omega, fun h1 h2 => absurd (R.bad h1).1 h2⟩
 ·intro q hq
  rw [← hbl]
  refine R.same q (Or.inr ?_)
  have : ((slot : Int) + 1) * C.cfg.fuses ≤ C.cfg.slots * C.cfg.fuses := Int.mul_le_mul_of_nonneg_right (by omega) (by omega)
  rw [Int.add_mul, Int.one_mul] at this
  rw [L.cfg] at r1 r2 ⊢
  omega
 ·intro k hk hne
  rw [← vD k hk hne]
  have hce : cntB X.1 k = cntB D k := by
   unfold cntB
   rw [R.cfg]
   refine cnt_congr fun q h1 h2 => R.same q ?_
   rw [L.cfg] at h1 h2 r1 r2 ⊢
   have k0 : 0 ≤ (k : Int) * C.cfg.fuses := Int.mul_nonneg (by omega) (by omega)
   rcases Nat.lt_or_ge k slot with y | y
   ·left
    have : ((k : Int) + 1) * C.cfg.fuses ≤ (slot : Int) * C.cfg.fuses := Int.mul_le_mul_of_nonneg_right (by omega) (by omega)
    rw [Int.add_mul, Int.one_mul] at this
    omega
   ·right
    have : ((slot : Int) + 1) * C.cfg.fuses ≤ (k : Int) * C.cfg.fuses := Int.mul_le_mul_of_nonneg_right (by omega) (by omega)
    rw [Int.add_mul, Int.one_mul] at this
    omega
  unfold valB
  rw [hce, nX, R.cfg]
end Go.Proofs.YtaglicdidpgkpaaGreatDoor
end

/- The store's laws, plain: what a Revoke leaves. Own work. -/
section
set_option maxRecDepth 100000
set_option linter.unusedVariables false
namespace Go.Proofs.YtaglicdidpgkpaaGreatDoor
open Go Go.Vc

def keyB (C : Cm) (k : Nat) : Bool := C.s.blown.getD (C.cfg.slots * C.cfg.fuses + (k : Int)).toNat false
structure RevokedL (u : Bool) (C D : Cm) (key : Nat) (e : Int) : Prop where
 cfg : D.cfg = C.cfg
 snd : sndU u D
 vals : ∀ k : Nat, (k : Int) < C.cfg.slots → valB D k = valB C k
 other : ∀ k : Nat, k ≠ key → keyB D k = keyB C k
 up : keyB C key = true → keyB D key = true
 done : e = 0 → keyB D key = true ∧ D.out = false
 bad : e ≠ 0 → e ≠ 8 → D = C
theorem revoke_law {u : Bool} {C : Cm} (ok : C.ok) (ho : C.out = false) (snd : sndU u C) {key : Nat} (hk : (key : Int) < C.cfg.keys) : RevokedL u C (revokeM C (key : Int)).1 key (revokeM C (key : Int)).2 := by
 have hms := ok.may.slots
 have hfu := ok.may.fuses
 have h0 : 0 ≤ C.cfg.slots * C.cfg.fuses := Int.mul_nonneg (by omega) (by omega)
 have hbl := ok.fits.blown
 have hnf : C.cfg.nf = C.cfg.slots * C.cfg.fuses + C.cfg.keys := rfl
 have er : revokedM C (key : Int) = (keyB C key, 0) := by
  unfold revokedM
  rw [askedM_in ho (by omega) hk, if_neg (by simp)]; rfl
 unfold revokeM
 rw [er]
 dsimp only
 rw [if_neg (by simp)]
 by_cases g : keyB C key = true
 ·rw [if_pos g]
  exact ⟨rfl, snd, fun _ _ => rfl, fun _ _ => rfl, fun y => y, fun _ => ⟨g, ho⟩, fun y => absurd rfl y⟩
 rw [if_neg g]
 obtain ⟨q, hq⟩ : ∃ q : Nat, C.cfg.slots * C.cfg.fuses + (key : Int) = (q : Int) := Int.eq_ofNat_of_zero_le (by omega)
 rw [hq]
 have hql : q < C.s.blown.length := by omega
 have B := blow_pages C (q : Int)
 have BL := fun h => blow_left (C := C) h (q : Int)
 have hb : (blowM C (q : Int)).1.s.blown = C.s.blown ∨ (blowM C (q : Int)).1.s.blown = C.s.blown.set q true := by
  by_cases hl : C.left = 0
  ·exact (blow_cut ho hql hl).2.2
  ·right; rw [blow_good ho hql hl]
 have he : (blowM C (q : Int)).2 = 0 → (blowM C (q : Int)).1.s.blown = C.s.blown.set q true ∧ (blowM C (q : Int)).1.out = false := by
  intro y
  by_cases hl : C.left = 0
  ·rw [(blow_cut ho hql hl).1] at y; exact absurd y (by decide)
  ·rw [blow_good ho hql hl]; exact ⟨rfl, act_out ho hl⟩
 have hbad : (blowM C (q : Int)).2 = 0 ∨ (blowM C (q : Int)).2 = 8 := by
  by_cases hl : C.left = 0
  ·exact Or.inr (blow_cut ho hql hl).1
  ·left; rw [blow_good ho hql hl]
 generalize blowM C (q : Int) = X at *
 obtain ⟨b1, _, b3⟩ := B
 have same : ∀ k, k ≠ q → X.1.s.blown.getD k false = C.s.blown.getD k false := by
  intro k hne
  rcases hb with y | y
  ·rw [y]
  ·rw [y]; simp only [List.getD, List.getElem?_set_ne (Ne.symm hne)]
 refine ⟨b3, snd_of b3 b1 BL snd, ?_, ?_, fun y => absurd y g, ?_, fun h1 h2 => by rcases hbad with y | y; exact absurd y h1; exact absurd y h2⟩
 ·intro k hk2
  have k0 : 0 ≤ (k : Int) * C.cfg.fuses := Int.mul_nonneg (by omega) (by omega)
  have k1 : ((k : Int) + 1) * C.cfg.fuses ≤ C.cfg.slots * C.cfg.fuses := Int.mul_le_mul_of_nonneg_right (by omega) (by omega)
  rw [Int.add_mul, Int.one_mul] at k1
  have hce : cntB X.1 k = cntB C k := by
   unfold cntB
   rw [b3]
   refine cnt_congr fun z h1 h2 => same z ?_
   omega
  unfold valB
  rw [hce, numOf_pages b3 b1, b3]
 ·intro k hne
  unfold keyB
  rw [b3]
  exact same _ (by omega)
 ·intro y
  refine ⟨?_, (he y).2⟩
  unfold keyB
  rw [b3, hq, Int.toNat_natCast, (he y).1]
  simp [List.getD, hql]
end Go.Proofs.YtaglicdidpgkpaaGreatDoor
end

/- The gate, plain: what is handed off once is handed off no more behind a bump or a revocation. Own work. -/
section
set_option maxRecDepth 100000
set_option linter.unusedVariables false
namespace Go.Proofs.YtaglicdidpgkpaaGreatDoor
open Go Go.Vc
attribute [local irreducible] macM

theorem read_on {C : Cm} (ho : C.out = false) {k : Nat} (hk : (k : Int) < C.cfg.slots) : sRead C (k : Int) = (valB C k, 0) := by
 unfold sRead
 rw [askedM_in ho (by omega) hk, if_neg (by simp), valS_B ho hk]
theorem revoked_on {C : Cm} (ho : C.out = false) {k : Nat} (hk : (k : Int) < C.cfg.keys) : revokedM C (k : Int) = (keyB C k, 0) := by
 unfold revokedM
 rw [askedM_in ho (by omega) hk, if_neg (by simp)]; rfl
structure Hands (C : Cm) (L : List Sec) (bs : List Int) (x y : Nat) (s : Sec) : Prop where
 on : C.out = false
 fine : (parseW bs).1 = 0
 slot : bs.getD 5 0 = (x : Int)
 key : bs.getD 6 0 = (y : Int)
 slots : (x : Int) < C.cfg.slots
 keys : (y : Int) < C.cfg.keys
 has : L.find? (fun z => z.1 == (y : Int)) = some s
 may : keyB C y = false
 tag : macM s.2 (bs.take (bs.length - 32)) = (bs.drop (bs.length - 32)).take 32
 low : valB C x ≤ num4 bs 8
 high : num4 bs 8 ≤ lastM C.cfg
theorem hands_of {C : Cm} {L : List Sec} {bs : List Int} (hb : bytesOk bs) (h : gateM C L bs = 0) : ∃ x y s, Hands C L bs x y s := by
 unfold gateM at h
 by_cases ho : C.out = true
 ·rw [if_pos ho] at h; cases h
 rw [if_neg ho] at h
 have ho : C.out = false := by simpa using ho
 by_cases hp : (parseW bs).1 ≠ 0
 ·rw [if_pos hp] at h; exact absurd h hp
 rw [if_neg hp] at h
 by_cases hs : C.cfg.slots ≤ bs.getD 5 0
 ·rw [if_pos hs] at h; cases h
 rw [if_neg hs] at h
 cases hf : L.find? (fun z => z.1 == bs.getD 6 0) with
 | none => rw [hf] at h; cases h
 | some s =>
  rw [hf] at h
  dsimp only at h
  obtain ⟨x, hx⟩ := Int.eq_ofNat_of_zero_le (byte_getD hb 5).1
  obtain ⟨y, hy⟩ := Int.eq_ofNat_of_zero_le (byte_getD hb 6).1
  rw [hx] at hs h
  rw [hy] at hf h
  by_cases hk : C.cfg.keys ≤ (y : Int)
  ·rw [if_pos hk] at h; cases h
  rw [if_neg hk, revoked_on ho (by omega)] at h
  dsimp only at h
  by_cases hr : keyB C y = true
  ·rw [if_pos hr] at h; cases h
  rw [if_neg hr] at h
  by_cases ht : macM s.2 (bs.take (bs.length - 32)) ≠ (bs.drop (bs.length - 32)).take 32
  ·rw [if_pos ht] at h; cases h
  rw [if_neg ht, read_on ho (by omega)] at h
  dsimp only at h
  by_cases h1 : num4 bs 8 < valB C x
  ·rw [if_pos h1] at h; cases h
  rw [if_neg h1] at h
  by_cases h2 : lastM C.cfg < num4 bs 8
  ·rw [if_pos h2] at h; cases h
  exact ⟨x, y, s, ho, Decidable.not_not.1 hp, hx, hy, by omega, by omega, hf, by simpa using hr, Decidable.not_not.1 ht, by omega, by omega⟩
theorem hands_to {C : Cm} {L : List Sec} {bs : List Int} {x y : Nat} {s : Sec} (H : Hands C L bs x y s) : gateM C L bs = 0 := by
 unfold gateM
 rw [if_neg (by rw [H.on]; decide), if_neg (fun z => z H.fine), H.slot, H.key, if_neg (by have := H.slots; omega), H.has]
 dsimp only
 rw [if_neg (by have := H.keys; omega), revoked_on H.on H.keys]
 dsimp only
 rw [if_neg (by rw [H.may]; decide), if_neg (fun z => z H.tag), read_on H.on H.slots]
 dsimp only
 rw [if_neg (by have := H.low; omega), if_neg (by have := H.high; omega)]
structure Lifted (C D : Cm) : Prop where
 cfg : D.cfg = C.cfg
 vals : ∀ k : Nat, (k : Int) < C.cfg.slots → valB C k ≤ valB D k
 keys : ∀ k : Nat, (k : Int) < C.cfg.keys → keyB C k = true → keyB D k = true
theorem hands_back {C D : Cm} {L : List Sec} {bs : List Int} {x y : Nat} {s : Sec} (l : Lifted C D) (ho : C.out = false) (H : Hands D L bs x y s) : Hands C L bs x y s := by
 have h1 := H.slots
 have h2 := H.keys
 have h3 := H.high
 rw [l.cfg] at h1 h2 h3
 refine ⟨ho, H.fine, H.slot, H.key, h1, h2, H.has, ?_, H.tag, ?_, h3⟩
 ·cases e : keyB C y with
  | false => rfl
  | true => have := l.keys y h2 e; rw [H.may] at this; cases this
 ·have := l.vals x h1
  have := H.low
  omega
theorem lifted_refl (C : Cm) : Lifted C C := ⟨rfl, fun _ _ => Int.le_refl _, fun _ _ h => h⟩
theorem bump_lifted {C : Cm} (ok : C.ok) (ho : C.out = false) (hl : C.left < 0) (slot v : Int) :
  Lifted C (sBumpTo C slot v).1 ∧ (sBumpTo C slot v).1.left < 0 ∧ ((sBumpTo C slot v).2 = 0 → ∀ x : Nat, slot = (x : Int) → (x : Int) < C.cfg.slots → v ≤ valB (sBumpTo C slot v).1 x) := by
 by_cases g : 0 ≤ slot ∧ slot < C.cfg.slots
 case neg =>
  have e : sBumpTo C slot v = (C, 2) := by
   have e2 : (sRead C slot).2 = 2 := by
    unfold sRead
    by_cases g0 : slot < 0
    ·rw [askedM_neg ho g0, if_pos (by decide)]
    ·rw [askedM_hi ho (by omega), if_pos (by decide)]
   unfold sBumpTo
   rw [e2, if_pos (by decide)]
  rw [e]
  exact ⟨lifted_refl C, hl, fun y => absurd (show (2 : Int) = 0 from y) (by decide)⟩
 obtain ⟨z, hz⟩ := Int.eq_ofNat_of_zero_le g.1
 rw [hz] at g ⊢
 have B := bump_law (u := true) ok ho hl g.2 v
 have hms := ok.may.slots
 have hfu := ok.may.fuses
 have hnn : 0 ≤ C.cfg.slots * C.cfg.fuses := Int.mul_nonneg (by omega) (by omega)
 generalize sBumpTo C (z : Int) v = X at *
 refine ⟨⟨B.cfg, fun k hk => ?_, fun k hk y => ?_⟩, B.snd, fun e x hx h2 => ?_⟩
 ·by_cases e : k = z
  ·subst e; rcases B.me with y | y <;> omega
  ·rw [B.other k hk e]; exact Int.le_refl _
 ·unfold keyB at y ⊢
  rw [B.cfg, B.keys _ (by omega)]; exact y
 ·have : x = z := by omega
  subst this
  rw [B.done e]; omega
theorem revoke_lifted {C : Cm} (ok : C.ok) (ho : C.out = false) (hl : C.left < 0) (key : Int) :
  Lifted C (revokeM C key).1 ∧ ((revokeM C key).2 = 0 → (revokeM C key).1.out = false ∧ ∀ x : Nat, key = (x : Int) → (x : Int) < C.cfg.keys → keyB (revokeM C key).1 x = true) := by
 by_cases g : 0 ≤ key ∧ key < C.cfg.keys
 case neg =>
  have e : revokeM C key = (C, 2) := by
   have e2 : revokedM C key = (false, 2) := by
    unfold revokedM
    by_cases g0 : key < 0
    ·rw [askedM_neg ho g0, if_pos (by decide)]
    ·rw [askedM_hi ho (by omega), if_pos (by decide)]
   unfold revokeM
   rw [e2, if_pos (by decide)]
  rw [e]
  exact ⟨lifted_refl C, fun y => absurd (show (2 : Int) = 0 from y) (by decide)⟩
 obtain ⟨z, hz⟩ := Int.eq_ofNat_of_zero_le g.1
 rw [hz] at g ⊢
 have B := revoke_law (u := true) ok ho hl g.2
 generalize revokeM C (z : Int) = X at *
 refine ⟨⟨B.cfg, fun k hk => by rw [B.vals k hk]; exact Int.le_refl _, fun k hk y => ?_⟩, fun e => ⟨(B.done e).2, fun x hx _ => ?_⟩⟩
 ·by_cases e : k = z
  ·subst e; exact B.up y
  ·rw [B.other k e]; exact y
 ·have : x = z := by omega
  subst this
  exact (B.done e).1
theorem gate_revoked {C : Cm} {L : List Sec} {bs : List Int} {x y : Nat} {s : Sec} {D : Cm} (H : Hands C L bs x y s) (hc : D.cfg = C.cfg) (ho : D.out = false) (hk : keyB D y = true) : gateM D L bs = 14 := by
 unfold gateM
 have h1 := H.slots
 have h2 := H.keys
 rw [← hc] at h1 h2
 rw [if_neg (by rw [ho]; decide), if_neg (fun z => z H.fine), H.slot, H.key, if_neg (by omega), H.has]
 dsimp only
 rw [if_neg (by omega), revoked_on ho h2]
 dsimp only
 rw [if_pos hk]
theorem revoke_off {C : Cm} (ho : C.out = true) (key : Int) : revokeM C key = (C, 8) := by
 have e2 : revokedM C key = (false, 8) := by
  unfold revokedM
  rw [show askedM C key C.cfg.keys = 8 by unfold askedM; rw [if_pos ho], if_pos (by decide)]
 unfold revokeM
 rw [e2, if_pos (by decide)]
theorem gate_off {C : Cm} (ho : C.out = true) (L : List Sec) (bs : List Int) : gateM C L bs = 8 := by unfold gateM; rw [if_pos ho]
theorem stays {C D E : Cm} {L : List Sec} {bs : List Int} {slot v key f g : Int} (hb : bytesOk bs) (ok : C.ok) (okD : D.ok) (ho : C.out = false) (hl : C.left < 0) (hf : sBumpTo C slot v = (D, f)) (hg : revokeM D key = (E, g)) :
  (gateM D L bs = 0 → gateM C L bs = 0) ∧ (f = 0 → gateM D L bs = 0 → bs.getD 5 0 = slot → v ≤ num4 bs 8) ∧ (gateM E L bs = 0 → gateM D L bs = 0 ∧ (g = 0 → bs.getD 6 0 ≠ key)) ∧
  (g = 0 → gateM D L bs = 0 → bs.getD 6 0 = key → gateM E L bs = 14) := by
 obtain ⟨b1, b2, b3⟩ := bump_lifted ok ho hl slot v
 rw [hf] at b1 b2 b3
 dsimp only at b1 b2 b3
 refine ⟨fun h => ?_, fun e h hs => ?_, fun h => ?_, fun e h hk => ?_⟩
 ·obtain ⟨x, y, s, H⟩ := hands_of hb h
  exact hands_to (hands_back b1 ho H)
 ·obtain ⟨x, y, s, H⟩ := hands_of hb h
  have h1 := H.slots
  rw [b1.cfg] at h1
  have := b3 e x (by rw [← hs, H.slot]) h1
  have := H.low
  omega
 ·by_cases o : D.out = true
  ·rw [revoke_off o] at hg
   injection hg with hg _
   rw [← hg, gate_off o] at h
   exact absurd h (by decide)
  have o : D.out = false := by simpa using o
  obtain ⟨r1, r2⟩ := revoke_lifted okD o b2 key
  rw [hg] at r1 r2
  dsimp only at r1 r2
  obtain ⟨x, y, s, H⟩ := hands_of hb h
  refine ⟨hands_to (hands_back r1 o H), fun e hk => ?_⟩
  have h2 := H.keys
  rw [r1.cfg] at h2
  have := (r2 e).2 y (by rw [← hk, H.key]) h2
  rw [H.may] at this
  cases this
 ·obtain ⟨x, y, s, H⟩ := hands_of hb h
  obtain ⟨r1, r2⟩ := revoke_lifted okD H.on b2 key
  rw [hg] at r1 r2
  dsimp only at r1 r2
  exact gate_revoked H r1.cfg (r2 e).1 ((r2 e).2 y (by rw [← hk, H.key]) H.keys)
end Go.Proofs.YtaglicdidpgkpaaGreatDoor
end
