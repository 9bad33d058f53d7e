/- GateKeeps: what is proved and its parts, laid together by a program of ours: Gt8 GtA GtB RwGateKeeps -/
import Derived.Test.YtaglicdidpgkpaaGreatDoorK14
set_option autoImplicit false
set_option linter.all false
/- Images that are made: the program's Make; what a made image's bytes say. Own work. -/
section
set_option maxRecDepth 100000
set_option linter.unusedVariables false
namespace Go.Proofs.YtaglicdidpgkpaaGreatDoor
open Go Go.Vc
attribute [local irreducible] macM

theorem fourL_all (v : Int) : fourL v 4 = [IntKind.u8.wrap v, IntKind.u8.wrap (v.fdiv (2 ^ 8)), IntKind.u8.wrap (v.fdiv (2 ^ 16)), IntKind.u8.wrap (v.fdiv (2 ^ 24))] := by
 show [IntKind.u8.wrap (v.fdiv (2 ^ 0)), IntKind.u8.wrap (v.fdiv (2 ^ 8)), IntKind.u8.wrap (v.fdiv (2 ^ 16)), IntKind.u8.wrap (v.fdiv (2 ^ 24))] = _
 rw [show (2 : Int) ^ 0 = 1 by decide, Int.fdiv_one]
theorem four_val {v : Int} (h0 : 0 ≤ v) (h1 : v < 4294967296) :
  IntKind.u8.wrap v + 256 * IntKind.u8.wrap (v.fdiv (2 ^ 8)) + 65536 * IntKind.u8.wrap (v.fdiv (2 ^ 16)) + 16777216 * IntKind.u8.wrap (v.fdiv (2 ^ 24)) = v := by
 rw [Int.fdiv_eq_ediv_of_nonneg _ (by decide), Int.fdiv_eq_ediv_of_nonneg _ (by decide), Int.fdiv_eq_ediv_of_nonneg _ (by decide)]
 simp only [IntKind.wrap_u8]
 omega
theorem made_list (slot key ver : Int) (pay t : List Int) : coverM slot key ver pay ++ t = 80 :: 67 :: 85 :: 76 :: 1 :: IntKind.u8.wrap slot :: IntKind.u8.wrap key :: 0 :: IntKind.u8.wrap ver :: IntKind.u8.wrap (ver.fdiv (2 ^ 8)) :: IntKind.u8.wrap (ver.fdiv (2 ^ 16)) :: IntKind.u8.wrap (ver.fdiv (2 ^ 24)) ::
  IntKind.u8.wrap (pay.length : Int) :: IntKind.u8.wrap ((pay.length : Int).fdiv (2 ^ 8)) :: IntKind.u8.wrap ((pay.length : Int).fdiv (2 ^ 16)) :: IntKind.u8.wrap ((pay.length : Int).fdiv (2 ^ 24)) :: (pay ++ t) := by
 unfold coverM
 rw [fourL_all, fourL_all]
 rfl
theorem may11_ok {slot key ver : Int} {n : Nat} (h : may11 slot key ver n = 0) : (0 ≤ slot ∧ slot < 8) ∧ (0 ≤ key ∧ key < 64) ∧ (0 ≤ ver ∧ ver < 4294967296) ∧ n ≤ 524240 := by
 unfold may11 at h
 by_cases g : slot < 0 ∨ 7 < slot ∨ key < 0 ∨ 63 < key ∨ ver < 0 ∨ 4294967295 < ver
 ·rw [if_pos g] at h; cases h
 ·rw [if_neg g] at h
  by_cases g2 : 524240 < n
  ·rw [if_pos g2] at h; cases h
  ·omega
theorem head_none {bs : List Int} : ∀ (m x : Nat), x + m ≤ bs.length → (∀ y, x ≤ y → y < x + m → mayB y (bs.getD y 0) = true) → headW bs m x = none
 | 0, x, _, _ => rfl
 | m + 1, x, h1, h2 => by
  unfold headW
  rw [if_neg (by omega), if_pos (h2 x (by omega) (by omega))]
  exact head_none m (x + 1) (by omega) fun y a b => h2 y (by omega) (by omega)
structure Made (bs : List Int) (slot key ver : Int) (pay t : List Int) : Prop where
 fine : parseW bs = (0, 0)
 atSlot : bs.getD 5 0 = slot
 atKey : bs.getD 6 0 = key
 atVer : num4 bs 8 = ver
 n : num4 bs 12 = pay.length
 len : bs.length = 48 + pay.length
 body : bs.take (bs.length - 32) = coverM slot key ver pay
 tag : (bs.drop (bs.length - 32)).take 32 = t
 load : (bs.drop 16).take pay.length = pay
 tag2 : (bs.drop (16 + pay.length)).take 32 = t
theorem made {slot key ver : Int} {pay t : List Int} (h : may11 slot key ver pay.length = 0) (ht : t.length = 32) : Made (coverM slot key ver pay ++ t) slot key ver pay t := by
 obtain ⟨h1, h2, h3, h4⟩ := may11_ok h
 have hlen : (coverM slot key ver pay ++ t).length = 48 + pay.length := by rw [List.length_append, coverM_len, ht]; omega
 have hc := coverM_len slot key ver pay
 have e5 : (coverM slot key ver pay ++ t).getD 5 0 = slot := by
  rw [made_list]; show IntKind.u8.wrap slot = slot; rw [IntKind.wrap_u8]; omega
 have e6 : (coverM slot key ver pay ++ t).getD 6 0 = key := by
  rw [made_list]; show IntKind.u8.wrap key = key; rw [IntKind.wrap_u8]; omega
 have e8 : num4 (coverM slot key ver pay ++ t) 8 = ver := by
  rw [made_list]; exact four_val h3.1 h3.2
 have e12 : num4 (coverM slot key ver pay ++ t) 12 = (pay.length : Int) := by
  rw [made_list]; exact four_val (by omega) (by omega)
 refine ⟨?_, e5, e6, e8, e12, hlen, ?_, ?_, ?_, ?_⟩
 ·unfold parseW
  rw [if_neg (by omega), head_none 16 0 (by omega) ?_]
  ·dsimp only
   rw [e12, if_neg (by omega), if_neg (by omega), if_neg (by omega)]
  ·intro y _ hy
   have : y = 0 ∨ y = 1 ∨ y = 2 ∨ y = 3 ∨ y = 4 ∨ y = 5 ∨ y = 6 ∨ y = 7 ∨ 8 ≤ y := by omega
   rcases this with rfl | rfl | rfl | rfl | rfl | rfl | rfl | rfl | g
   ·rw [made_list]; rfl
   ·rw [made_list]; rfl
   ·rw [made_list]; rfl
   ·rw [made_list]; rfl
   ·rw [made_list]; rfl
   ·rw [e5]; show decide (slot < 8) = true; rw [decide_eq_true_iff]; omega
   ·rw [e6]; show decide (key < 64) = true; rw [decide_eq_true_iff]; omega
   ·rw [made_list]; rfl
   ·unfold mayB; rw [if_neg (by omega), if_neg (by omega), if_neg (by omega), if_neg (by omega), if_neg (by omega)]
 ·rw [hlen, show 48 + pay.length - 32 = (coverM slot key ver pay).length by omega, List.take_left']
  rfl
 ·rw [hlen, show 48 + pay.length - 32 = (coverM slot key ver pay).length by omega, List.drop_left', List.take_of_length_le (by omega)]
  rfl
 ·rw [made_list]
  show (pay ++ t).take pay.length = pay
  rw [List.take_left']; rfl
 ·rw [← hc, List.drop_left', List.take_of_length_le (by omega)]
  rfl
section
variable {h0 h : H} {A : List Ent} {i j p r b s m : Nat} {C : Cm}
end
end Go.Proofs.YtaglicdidpgkpaaGreatDoor
end

/- Parts of a block that are owned; what the gate tells, in one form. Own work. -/
section
set_option maxRecDepth 100000
set_option linter.unusedVariables false
namespace Go.Proofs.YtaglicdidpgkpaaGreatDoor
open Go Go.Vc
attribute [local irreducible] macM gateM

@[irreducible] def prtP (P : Option Addr) (n : Nat) (xs : List Int) (h : H) (f : Nat → Prop) : Prop :=
 xs.length = n ∧ ((n = 0 ∧ ∀ x, ¬ f x) ∨ ∃ b pre post, (n = 0 ∨ P = some ⟨b, pre.length, none⟩) ∧ Blk h b (pre ++ ints .u8 xs ++ post) ∧ ∀ x, f x ↔ x = b)
def prtE (P : Option Addr) (n : Nat) (xs : List Int) : Ent where
 tag := .of 77
 P := prtP P n xs
 st := by
  unfold prtP; rintro h h' f ⟨e, k⟩ hs
  refine ⟨e, ?_⟩
  rcases k with k | ⟨b, pre, post, k1, k2, k3⟩
  ·exact Or.inl k
  ·exact Or.inr ⟨b, pre, post, k1, k2.of_eq (hs b ((k3 b).2 rfl)), k3⟩
 lt := by
  unfold prtP; rintro h f x ⟨e, k⟩ hx
  rcases k with k | ⟨b, pre, post, k1, k2, k3⟩
  ·exact absurd hx (k.2 x)
  ·rw [(k3 x).1 hx]; exact k2.lt
theorem prtE_P {P : Option Addr} {n : Nat} {xs : List Int} {h : H} {f : Nat → Prop} : (prtE P n xs).P h f ↔ xs.length = n ∧ ((n = 0 ∧ ∀ x, ¬ f x) ∨ ∃ b pre post, (n = 0 ∨ P = some ⟨b, pre.length, none⟩) ∧ Blk h b (pre ++ ints .u8 xs ++ post) ∧ ∀ x, f x ↔ x = b) := by
 show prtP P n xs h f ↔ _; unfold prtP; rfl
section
variable {h0 h : H} {A : List Ent} {i j p r b s m : Nat} {C : Cm}
theorem prt_rd {P : Option Addr} {n : Nat} {xs : List Int} (hs : Sat h0 A h) (a : At A i (prtE P n xs)) : hsv h P 1 n (ints .u8 xs) := by
 obtain ⟨f, hp, _⟩ := hs.take a
 obtain ⟨e, k⟩ := prtE_P.1 hp
 refine ⟨by rw [ints_length, e, Nat.mul_one], ints_one _ _, ?_⟩
 have nl : n = 0 → ints .u8 xs = [] := fun y => by rw [List.eq_nil_of_length_eq_zero (e.trans y)]; rfl
 rcases k with k | ⟨b, pre, post, k1, k2, k3⟩
 ·exact Or.inl (nl k.1)
 ·rcases k1 with k1 | k1
  ·exact Or.inl (nl k1)
  ·refine Or.inr ⟨_, k1, k2.hcs fun x hx => ?_⟩
   rw [List.append_assoc, List.getElem?_append_right (by omega), Nat.add_sub_cancel_left, List.getElem?_append_left hx]
theorem prt_wr {P : Option Addr} {n x : Nat} {xs : List Int} (hs : Sat h0 A h) (a : At A i (prtE P n xs)) (hx : x < n) :
  ∃ q, P = some q ∧ hcan h (q.add x) 1 ∧ ∀ v h', h' = hwr h (q.add x) [.int .u8 v] → Sat h0 (put A i (prtE P n (xs.set x v))) h' := by
 obtain ⟨f, hp, _, hk⟩ := hs.takeK a
 obtain ⟨e, k⟩ := prtE_P.1 hp
 rcases k with k | ⟨b, pre, post, k1, k2, k3⟩
 ·exact absurd k.1 (by omega)
 rcases k1 with k1 | k1
 ·exact absurd k1 (by omega)
 have hxl : x < xs.length := by omega
 refine ⟨_, k1, ?_, ?_⟩
 ·rw [add_mk]
  exact k2.can (by rw [List.length_append, List.length_append, ints_length]; omega)
 ·intro v h' e'
  rw [add_mk] at e'
  subst e'
  refine hk _ _ f (prtE_P.2 ⟨by rw [List.length_set]; exact e, Or.inr ⟨b, pre, post, Or.inr k1, ?_, k3⟩⟩) (fun _ => Or.inl) ((Ext.wr h b _ _).mono fun y _ hy => (k3 y).2 hy)
  have w := k2.wr (pre.length + x) [.int .u8 v]
  have e1 : pre ++ ints .u8 xs ++ post = pre ++ ints .u8 (xs.take x) ++ ints .u8 [xs[x]] ++ (ints .u8 (xs.drop (x + 1)) ++ post) := by
   have : xs = xs.take x ++ [xs[x]] ++ xs.drop (x + 1) := by
    have := (List.take_append_drop x xs).symm
    rw [List.drop_eq_getElem_cons hxl] at this
    rw [List.append_assoc]; exact this
   have e2 := congrArg (ints .u8) this
   rw [ints_app, ints_app] at e2
   rw [e2]
   simp only [List.append_assoc]
  have e3 : xs.set x v = xs.take x ++ [v] ++ xs.drop (x + 1) := by
   rw [List.set_eq_take_append_cons_drop, if_pos hxl, List.append_assoc]; rfl
  have e4 := splice_append (pre ++ ints .u8 (xs.take x)) (ints .u8 [xs[x]]) (ints .u8 (xs.drop (x + 1)) ++ post) [.int .u8 v] rfl
  rw [List.length_append, ints_length, List.length_take, Nat.min_eq_left (by omega)] at e4
  rw [e1, e4] at w
  rw [e3, ints_app, ints_app]
  have e5 : pre ++ (ints .u8 (xs.take x) ++ ints .u8 [v] ++ ints .u8 (xs.drop (x + 1))) ++ post = pre ++ ints .u8 (xs.take x) ++ [.int .u8 v] ++ (ints .u8 (xs.drop (x + 1)) ++ post) := by
   simp only [List.append_assoc]; rfl
  rw [e5]
  exact w
theorem prt_nil {c sz : Nat} (hs : Sat h0 A h) (a : At A i (sE (none, 0, 0) sz [])) : Sat h0 (put A i (prtE none 0 [])) h := by
 refine hs.as a fun f hp => ?_
 obtain ⟨bs, ⟨_, _, _, h4⟩, hf⟩ := slE_P.1 hp
 refine prtE_P.2 ⟨rfl, Or.inl ⟨rfl, fun x hx => ?_⟩⟩
 rcases h4 with ⟨_, _, rfl⟩ | ⟨b, rest, y, _⟩
 ·simpa using (hf x).1 hx
 ·cases y
theorem prt_of {own : Sl} {bs : List Int} {n : Nat} (hs : Sat h0 A h) (a : At A i (sE own 1 (ints .u8 bs))) (hl : bs.length = 48 + n) : Sat h0 (put A i (prtE (subAddr own.1 16 (16 + n) 1) n ((bs.drop 16).take n))) h := by
 refine hs.as a fun f hp => ?_
 obtain ⟨B, ⟨h1, h2, h3, h4⟩, hf⟩ := slE_P.1 hp
 have hlen : own.2.1 = 48 + n := by simp at h1; omega
 refine prtE_P.2 ⟨by rw [List.length_take, List.length_drop]; omega, Or.inr ?_⟩
 rcases h4 with ⟨y, _, _⟩ | ⟨b, rest, e1, rfl, k, _⟩
 ·omega
 refine ⟨b, ints .u8 (bs.take 16), ints .u8 (bs.drop (16 + n)) ++ rest, ?_, ?_, ?_⟩
 ·by_cases g : n = 0
  ·exact Or.inl g
  ·right
   unfold subAddr
   rw [if_neg (by omega), e1]
   show some ((⟨b, 0, none⟩ : Addr).add (16 * 1)) = _
   rw [add_mk, ints_length, List.length_take, Nat.min_eq_left (by omega)]
 ·have e2 : bs = bs.take 16 ++ (bs.drop 16).take n ++ bs.drop (16 + n) := by
   rw [List.append_assoc, ← List.drop_drop, List.take_append_drop, List.take_append_drop]
  have e3 := congrArg (ints .u8) e2
  rw [ints_app, ints_app] at e3
  rw [e3] at k
  have e4 : ints .u8 (bs.take 16) ++ ints .u8 ((bs.drop 16).take n) ++ (ints .u8 (bs.drop (16 + n)) ++ rest) = ints .u8 (bs.take 16) ++ ints .u8 ((bs.drop 16).take n) ++ ints .u8 (bs.drop (16 + n)) ++ rest := by simp only [List.append_assoc]
  rw [e4]
  exact k
 ·intro x; rw [hf]; simp
end
def tSlot (G : Int) (bs : List Int) : Int := if G = 0 then bs.getD 5 0 else 0
def tKey (G : Int) (bs : List Int) : Int := if G = 0 then bs.getD 6 0 else 0
def tVer (G : Int) (bs : List Int) : Int := if G = 0 then num4 bs 8 else 0
def tPay (G : Int) (bs : List Int) : List Int := if G = 0 then (bs.drop 16).take (num4 bs 12).toNat else []
def tTag (G : Int) (bs : List Int) : List Int := if G = 0 then (bs.drop (16 + (num4 bs 12).toNat)).take 32 else zeros 32
section
variable {h0 h : H} {A : List Ent} {i j p r b s m : Nat} {C : Cm}
theorem gateP_sp {K : Nat → Int → H → Prop} {mm rr jm jr : Nat} {bs : List Int} {q : Option Addr} {l c : Nat} {R : List SR} {L : List Sec} (hg : hc h0 ⟨0, 0, none⟩ = some errTypeV) (hs : Sat h0 A h) (ci : At A i (chipE p C)) (cl' : At A j (logE r p)) (st : At A m (storeE s p r))
  (cr : At A jr (blk rr [.map (some mm)])) (cm : At A jm (mapE mm (R.map SR.ent))) (eR : R.map SR.kv = L) (gd : SR.good R) (rR : ∀ x, x ∈ R → ∃ y, At A y x.sl)
  (rd : ∀ h', Sat h0 A h' → hsv h' q 1 l (ints .u8 bs)) (hb : bytesOk bs) (hlc : l ≤ c) (hl : l < 2 ^ 50)
  (k : ∀ nb P h', (tTag (gateM C L bs) bs).length = 32 → (tPay (gateM C L bs) bs).length < 2 ^ 40 → Sat h0 (blk nb (imgL (tSlot (gateM C L bs) bs) (tKey (gateM C L bs) bs) (tVer (gateM C L bs) bs) (P, (tPay (gateM C L bs) bs).length, (tPay (gateM C L bs) bs).length) (tTag (gateM C L bs) bs)) :: prtE P (tPay (gateM C L bs) bs).length (tPay (gateM C L bs) bs) :: A) h' → K nb (gateM C L bs) h') :
  F_gate_Check ⟨s, 0, none⟩ ⟨rr, 0, none⟩ q l c (fun i1 i2 i3 o n m l e h => ∀ nb h', hnew h nb (.int .i64 0 :: .int .i64 0 :: .int .i64 0 :: .slice none 0 0 :: ints .u8 (zeros 32)) h' → hcan h' ⟨nb, 0, none⟩ 36 ∧ ∀ h'', h'' = hwr h' ⟨nb, 0, none⟩ (.int .i64 i1 :: .int .i64 i2 :: .int .i64 i3 :: .slice o n m :: ints .u8 l) → K nb e h'') h := by
 refine gate_sp (bs := bs) hg hs ci cl' st cr cm gd (fun x hx h' hs' => hs'.sv (rR x hx).choose_spec) rd hb hlc hl ?_ ?_
 ·intro e he hne h5 hs
  rw [eR] at he
  subst he
  replace hs := hs.sl_nil 1 none
  intro n113 _ hn; replace hs := Sat.new hs hn; clear hn
  refine ⟨Sat.can hs (i := 0) .z (by simp [zeros]), ?_⟩
  intro h6 e6
  replace hs := Sat.wra (xs := imgL 0 0 0 (none, 0, 0) (zeros 32)) hs (i := 0) .z e6 rfl
  clear e6
  simp only [put_zero] at hs
  replace hs := prt_nil (c := 0) hs (i := 1) (.s .z)
  simp only [put_succ, put_zero] at hs
  have e1 : tSlot (gateM C L bs) bs = 0 := if_neg hne
  have e2 : tKey (gateM C L bs) bs = 0 := if_neg hne
  have e3 : tVer (gateM C L bs) bs = 0 := if_neg hne
  have e4 : tPay (gateM C L bs) bs = [] := if_neg hne
  have e5 : tTag (gateM C L bs) bs = zeros 32 := if_neg hne
  have := k n113 none h6
  rw [e1, e2, e3, e4, e5] at this
  exact this (zeros_len 32) (by decide) hs
 ·intro own n hz hp hnn hln h5 hs
  rw [eR] at hz
  have tl32 : ((bs.drop (16 + n)).take 32).length = 32 := by rw [List.length_take, List.length_drop]; omega
  have pl : ((bs.drop 16).take n).length = n := by rw [List.length_take, List.length_drop]; omega
  intro n113 _ hn; replace hs := Sat.new hs hn; clear hn
  refine ⟨Sat.can hs (i := 0) .z (by simp [zeros]), ?_⟩
  intro h6 e6
  replace hs := Sat.wra (xs := imgL (bs.getD 5 0) (bs.getD 6 0) (num4 bs 8) (subAddr own.1 16 (16 + n) 1, n, n) ((bs.drop (16 + n)).take 32)) hs (i := 0) .z e6 (by rw [img_len tl32]; rfl)
  clear e6
  simp only [put_zero] at hs
  replace hs := prt_of hs (i := 1) (.s .z) hln
  simp only [put_succ, put_zero] at hs
  have en : (num4 bs 12).toNat = n := by omega
  have e1 : tSlot (gateM C L bs) bs = bs.getD 5 0 := if_pos hz
  have e2 : tKey (gateM C L bs) bs = bs.getD 6 0 := if_pos hz
  have e3 : tVer (gateM C L bs) bs = num4 bs 8 := if_pos hz
  have e4 : tPay (gateM C L bs) bs = (bs.drop 16).take n := by rw [← en]; exact if_pos hz
  have e5 : tTag (gateM C L bs) bs = (bs.drop (16 + n)).take 32 := by rw [← en]; exact if_pos hz
  have := k n113 (subAddr own.1 16 (16 + n) 1) h6
  rw [e1, e2, e3, e4, e5, hz, pl] at this
  exact this tl32 (by have := (parse_ok hb hp hnn).2.2.2; omega) hs
theorem rgateP_sp {K : Nat → Int → H → Prop} {jm jr : Nat} {bs : List Int} {q : Option Addr} {l c rr lc' : Nat} {lp' : Option Addr} {R : List SR} {L : List Sec} {pr : Nat} (hs : Sat h0 A h) (ci : At A i (refE pr C))
  (cr : At A jr (blk rr [.slice lp' R.length lc'])) (cm : At A jm (slE lp' R.length lc' 2 (secV R))) (eR : R.map SR.kv = L) (lR : R.length < 2 ^ 40) (gd : SR.good R) (rR : ∀ x, x ∈ R → ∃ y, At A y x.sl)
  (rd : ∀ h', Sat h0 A h' → hsv h' q 1 l (ints .u8 bs)) (hb : bytesOk bs) (hlc : l ≤ c) (hl : l < 2 ^ 50)
  (k : ∀ nb (x : Sl) h', (tTag (gateM C L bs) bs).length = 32 → (tPay (gateM C L bs) bs).length < 2 ^ 40 → x.2.1 = (tPay (gateM C L bs) bs).length → Sat h0 (blk nb (imgL (tSlot (gateM C L bs) bs) (tKey (gateM C L bs) bs) (tVer (gateM C L bs) bs) x (tTag (gateM C L bs) bs)) :: sE x 1 (ints .u8 (tPay (gateM C L bs) bs)) :: A) h' → K nb (gateM C L bs) h') :
  F_portcullisref13_Check ⟨pr, 0, none⟩ ⟨rr, 0, none⟩ q l c (fun i1 i2 i3 o n m l e h => ∀ nb h', hnew h nb (.int .i64 0 :: .int .i64 0 :: .int .i64 0 :: .slice none 0 0 :: ints .u8 (zeros 32)) h' → hcan h' ⟨nb, 0, none⟩ 36 ∧ ∀ h'', h'' = hwr h' ⟨nb, 0, none⟩ (.int .i64 i1 :: .int .i64 i2 :: .int .i64 i3 :: .slice o n m :: ints .u8 l) → K nb e h'') h := by
 refine rgate_sp (bs := bs) hs ci cr cm lR gd (fun x hx h' hs' => hs'.sv (rR x hx).choose_spec) rd hb hlc hl ?_ ?_
 ·intro e he hne h5 hs
  rw [eR] at he
  subst he
  replace hs := hs.sl_nil 1 none
  intro n113 _ hn; replace hs := Sat.new hs hn; clear hn
  refine ⟨Sat.can hs (i := 0) .z (by simp [zeros]), ?_⟩
  intro h6 e6
  replace hs := Sat.wra (xs := imgL 0 0 0 (none, 0, 0) (zeros 32)) hs (i := 0) .z e6 rfl
  clear e6
  simp only [put_zero] at hs
  have e1 : tSlot (gateM C L bs) bs = 0 := if_neg hne
  have e2 : tKey (gateM C L bs) bs = 0 := if_neg hne
  have e3 : tVer (gateM C L bs) bs = 0 := if_neg hne
  have e4 : tPay (gateM C L bs) bs = [] := if_neg hne
  have e5 : tTag (gateM C L bs) bs = zeros 32 := if_neg hne
  have := k n113 (none, 0, 0) h6
  rw [e1, e2, e3, e4, e5] at this
  exact this (zeros_len 32) (by decide) rfl hs
 ·intro own n hz hp hnn hon h5 hs
  rw [eR] at hz
  obtain ⟨hln, _, _, hn2⟩ := parse_ok hb hp hnn
  have tl32 : ((bs.drop (16 + n)).take 32).length = 32 := by rw [List.length_take, List.length_drop]; omega
  have pl : ((bs.drop 16).take n).length = n := by rw [List.length_take, List.length_drop]; omega
  intro n113 _ hn; replace hs := Sat.new hs hn; clear hn
  refine ⟨Sat.can hs (i := 0) .z (by simp [zeros]), ?_⟩
  intro h6 e6
  replace hs := Sat.wra (xs := imgL (bs.getD 5 0) (bs.getD 6 0) (num4 bs 8) own ((bs.drop (16 + n)).take 32)) hs (i := 0) .z e6 (by rw [img_len tl32]; rfl)
  clear e6
  simp only [put_zero] at hs
  have en : (num4 bs 12).toNat = n := by omega
  have e1 : tSlot (gateM C L bs) bs = bs.getD 5 0 := if_pos hz
  have e2 : tKey (gateM C L bs) bs = bs.getD 6 0 := if_pos hz
  have e3 : tVer (gateM C L bs) bs = num4 bs 8 := if_pos hz
  have e4 : tPay (gateM C L bs) bs = (bs.drop 16).take n := by rw [← en]; exact if_pos hz
  have e5 : tTag (gateM C L bs) bs = (bs.drop (16 + n)).take 32 := by rw [← en]; exact if_pos hz
  have := k n113 own h6
  rw [e1, e2, e3, e4, e5, hz, pl] at this
  exact this tl32 (by omega) hon hs
end
end Go.Proofs.YtaglicdidpgkpaaGreatDoor
end

/- GateKeeps. Own work. -/
section
set_option maxRecDepth 100000
set_option linter.unusedVariables false
namespace Go.Proofs.YtaglicdidpgkpaaGreatDoor
open Go Go.Vc
attribute [local irreducible] macM gateM tSlot tKey tVer tPay tTag

def mark13 (j : Nat) : Int := IntKind.u8.wrap (IntKind.i64.wrap ((j : Int) + 1))
def All13 (h : H) (j : Nat) (p : Option Addr) (l : Nat) : Prop := hsv h p 1 l (ints .u8 (List.replicate l (mark13 j)))
theorem All13.get {h : H} {j l : Nat} {p : Option Addr} (a : All13 h j p l) {x : Nat} (hx : x < l) : ∃ q, p = some q ∧ hc h (q.add x) = some (.int .u8 (mark13 j)) := by
 obtain ⟨q, hq, g⟩ := hsv_int a hx
 refine ⟨q, hq, ?_⟩
 rw [g]
 have : (List.replicate l (mark13 j)).getD x 0 = mark13 j := by simp [List.getD, hx]
 rw [this]
theorem map_get {α : Type} (f : α → Value) (l : List α) {i : Nat} (hi : i < l.length) : (l.map f)[i]? = some (f l[i]) := by
 rw [List.getElem?_map, List.getElem?_eq_getElem hi]; rfl
theorem repSet13 (id : List Int) (b : Int) {x : Nat} (hx : x < id.length) : (List.replicate x b ++ id.drop x).set x b = List.replicate (x + 1) b ++ id.drop (x + 1) := by
 rw [List.set_append_right _ _ (by simp), List.length_replicate, Nat.sub_self, List.drop_eq_getElem_cons hx, List.replicate_succ', List.append_assoc]
 rfl
theorem sub0 {p : Option Addr} {c : Nat} : subAddr p 0 c 1 = p := by
 unfold subAddr
 split
 ·rfl
 ·cases p with
  | none => rfl
  | some a => show some (a.add (0 * 1)) = some a; rw [Nat.zero_mul, add_zero]
section
variable {h0 h : H} {A : List Ent} {i j p r b s m : Nat} {C : Cm}
theorem GateKeeps_sp {Q : Bool → H → Prop} (hg : hc h0 ⟨0, 0, none⟩ = some errTypeV) {a_ b_ c' : Sl} {s : St} {X : List SR} {lp q : Option Addr} {ll lc l lc2 : Nat} {bs : List Int} (c : Cfg) (rd0 : RdS h0 a_ b_ c' s) (ty : s.typed) (rl : SecsAt h0 lp ll X) (hll : ll < 2 ^ 47)
  (rb : hsv h0 q 1 l (ints .u8 bs)) (hby : bytesOk bs) (hle : l ≤ lc2) (hlt : l + 4096 ≤ 2 ^ 47) (k : ∀ h', Sat h0 [] h' → Q true h') :
  F_portcullislaw13_GateKeeps c.cells c.slots c.fuses c.step c.keys c.erases c.area a_.1 a_.2.1 a_.2.2 b_.1 b_.2.1 b_.2.2 c'.1 c'.2.1 c'.2.2 lp ll lc q l lc2 Q h0 := by
 unfold F_portcullislaw13_GateKeeps G_portcullislaw13_GateKeeps
 try simp only [add_mk, Nat.zero_add, List.append_nil, Int.toNat_natCast, Nat.sub_zero]
 have hbl : bs.length = l := by have := rb.1; simpa using this
 have hs := Sat.init h0
 intro n41 _ hn; replace hs := Sat.new hs hn; clear hn
 replace hs : Sat h0 [blk n41 (scnV c a_ b_ c' lp ll lc)] _ := hs
 refine awake13_sp hg hs ?_
 intro h1 hs
 rw [if_neg (by decide)]
 (repeat first | refine ⟨_, Sat.ld hs (by (repeat (first | exact At.z | apply At.s))) (by rfl), ?_⟩ | refine ⟨_, _, _, Sat.ld hs (by (repeat (first | exact At.z | apply At.s))) (by rfl), ?_⟩ | (intro _ _ hn; replace hs := Sat.new hs hn; clear hn) | refine ⟨Sat.cs hs (by (repeat (first | exact At.z | apply At.s))) (by rfl), ?_⟩ | (refine ⟨Sat.can hs (by (repeat (first | exact At.z | apply At.s))) (by simp), ?_⟩; intro _ e; replace hs := Sat.wr hs (by (repeat (first | exact At.z | apply At.s))) e; clear e; simp only [put, splice, List.set] at hs))
 refine scene13_sp (a_ := a_) (b_ := b_) (c' := c') (s := s) (X := X) c hs (fun h' hs' => rd0.ext hs'.ex) ty rl hll ?_ ?_
 ·intro nok h2 hs
  (repeat first | refine ⟨_, Sat.ld hs (by (repeat (first | exact At.z | apply At.s))) (by rfl), ?_⟩ | refine ⟨_, _, _, Sat.ld hs (by (repeat (first | exact At.z | apply At.s))) (by rfl), ?_⟩ | (intro _ _ hn; replace hs := Sat.new hs hn; clear hn) | refine ⟨Sat.cs hs (by (repeat (first | exact At.z | apply At.s))) (by rfl), ?_⟩ | (refine ⟨Sat.can hs (by (repeat (first | exact At.z | apply At.s))) (by simp), ?_⟩; intro _ e; replace hs := Sat.wr hs (by (repeat (first | exact At.z | apply At.s))) e; clear e; simp only [put, splice, List.set] at hs))
  refine may13_sp (a_ := a_) (b_ := b_) (c' := c') (s := s) (X := X) c hs (fun h' hs' => rd0.ext hs'.ex) ty rl hll ?_ (fun y => absurd y nok)
  intro _ o o' h3 hs
  rw [if_neg (by decide), if_pos (by decide)]
  exact k _ hs.nil
 intro ok pc st lg rp mp R h2 eR gR hs
 obtain ⟨y5, b5⟩ : ∃ x, At (chipE pc (layC c s) :: storeE st pc lg :: logE lg pc :: (ringP rp mp R ++ [blk n41 (scnV c a_ b_ c' lp ll lc)])) x (blk n41 (scnV c a_ b_ c' lp ll lc)) := At.mem (by simp)
 refine ⟨_, hs.ld b5 rfl, _, hs.ld b5 rfl, _, hs.ld b5 rfl, _, hs.ld b5 rfl, _, hs.ld b5 rfl, _, hs.ld b5 rfl, _, hs.ld b5 rfl, _, _, _, hs.ld b5 rfl, _, _, _, hs.ld b5 rfl, _, _, _, hs.ld b5 rfl, _, _, _, hs.ld b5 rfl, ?_⟩
 refine may13_sp (a_ := a_) (b_ := b_) (c' := c') (s := s) (X := X) c hs (fun h' hs' => rd0.ext hs'.ex) ty rl hll (fun nok => absurd ok nok) ?_
 intro _ pr rr lp' lc' R2 h3 eR2 gR2 lR2 hs
 rw [if_neg (by decide), if_neg (by decide)]
 clear b5 y5 ok
 replace hs := hs.perm (((perm3m (chipE pc (layC c s)) (storeE st pc lg) (logE lg pc) (ringD rr lp' lc' R2) (ringP rp mp R ++ [blk n41 (scnV c a_ b_ c' lp ll lc)])).cons (refE pr (layC c s))).trans (List.Perm.swap _ _ _))
 obtain ⟨RR, hRR⟩ : ∃ RR, RR = chipE pc (layC c s) :: refE pr (layC c s) :: (storeE st pc lg :: logE lg pc :: (ringD rr lp' lc' R2 ++ (ringP rp mp R ++ [blk n41 (scnV c a_ b_ c' lp ll lc)]))) := ⟨_, rfl⟩
 rw [← hRR] at hs
 obtain ⟨x1, a1⟩ : ∃ x, At RR x (blk rr [.slice lp' R2.length lc']) := At.mem (by rw [hRR]; simp)
 obtain ⟨x2, a2⟩ : ∃ x, At RR x (slE lp' R2.length lc' 2 (secV R2)) := At.mem (by rw [hRR]; simp)
 obtain ⟨x3, a3⟩ : ∃ x, At RR x (blk rp [.map (some mp)]) := At.mem (by rw [hRR]; simp)
 obtain ⟨x4, a4⟩ : ∃ x, At RR x (mapE mp (R.map SR.ent)) := At.mem (by rw [hRR]; simp)
 have ac : At RR 0 (chipE pc (layC c s)) := by rw [hRR]; exact .z
 have arr : At RR 1 (refE pr (layC c s)) := by rw [hRR]; exact .s .z
 have asr : At RR 2 (storeE st pc lg) := by rw [hRR]; exact .s (.s .z)
 have al : At RR 3 (logE lg pc) := by rw [hRR]; exact .s (.s (.s .z))
 have r1 : ∀ x, x ∈ R → ∃ y, At RR y x.sl := fun x hx => At.mem (by rw [hRR]; exact List.mem_cons_of_mem _ (List.mem_cons_of_mem _ (List.mem_cons_of_mem _ (List.mem_cons_of_mem _ (List.mem_append_right _ (List.mem_append_left _ (List.mem_cons_of_mem _ (List.mem_cons_of_mem _ (List.mem_map_of_mem hx)))))))))
 have r2 : ∀ x, x ∈ R2 → ∃ y, At RR y x.sl := fun x hx => At.mem (by rw [hRR]; exact List.mem_cons_of_mem _ (List.mem_cons_of_mem _ (List.mem_cons_of_mem _ (List.mem_cons_of_mem _ (List.mem_append_left _ (List.mem_cons_of_mem _ (List.mem_cons_of_mem _ (List.mem_map_of_mem hx))))))))
 clear hRR
 obtain ⟨C, hC⟩ : ∃ C, C = layC c s := ⟨_, rfl⟩
 rw [← hC] at ac arr
 clear hC
 obtain ⟨L, hL⟩ : ∃ L, L = X.map SR.kv := ⟨_, rfl⟩
 rw [← hL] at eR eR2
 clear hL
 -- the own bytes
 have ew : IntKind.i64.wrap ((l : Int) + 3) = ((l + 3 : Nat) : Int) := by rw [wrap_id (by omega)]; push_cast; rfl
 rw [ew]
 simp only [Int.toNat_natCast]
 refine ⟨by decide, by omega, by omega, by omega, ?_⟩
 intro n82 _ hn; replace hs := Sat.new hs hn; clear hn
 replace hs := as_sl0 hs (i := 0) (c := l + 3) (sz := 1) .z (by simp)
 simp only [put_zero] at hs
 refine ⟨_, hs.base rb, ?_⟩
 refine Sat.app hs (i := 0) (vs := ints .u8 bs) .z (by simp [hbl]) rfl (ints_one _ _) (by omega) ?_
 intro p1 c1 h4 hs
 simp only [put_zero, List.nil_append, Nat.zero_add] at hs ⊢
 intro n90 _ hn; replace hs := Sat.new hs hn; clear hn
 refine ⟨_, hs.bv (i := 0) (l := 3) .z rfl (ints_one .u8 [161, 162, 163]), ?_⟩
 refine Sat.app hs (i := 1) (vs := ints .u8 [161, 162, 163]) (.s .z) rfl rfl (ints_one _ _) (by omega) ?_
 intro po co h5 hs
 simp only [put_succ, put_zero] at hs
 rw [← ints_app] at hs
 replace hs := hs.drop
 have hco := capS hs (i := 0) .z
 refine ⟨by omega, by omega, ?_⟩
 -- what the document says
 refine ⟨_, rfl, _, rfl, ?_⟩
 refine rgateP_sp (L := L) (bs := bs) (C := C) hs arr.s a1.s a2.s eR2 lR2 gR2 (fun x hx => ⟨_, (r2 x hx).choose_spec.s⟩) (fun h' hs' => hs'.base rb) hby hle (by omega) ?_
 intro n109 x h6 tl32 pl40 hx hs
 obtain ⟨G, hG⟩ : ∃ G, G = gateM C L bs := ⟨_, rfl⟩
 rw [← hG] at hs tl32 pl40 hx ⊢
 obtain ⟨N, hN⟩ : ∃ N, N = (tPay G bs).length := ⟨_, rfl⟩
 obtain ⟨pay, hpay⟩ : ∃ pay, pay = tPay G bs := ⟨_, rfl⟩
 rw [← hpay] at hs pl40 hx hN
 rw [← hN] at pl40 hx
 obtain ⟨W, hW⟩ : ∃ W, W = imgL (tSlot G bs) (tKey G bs) (tVer G bs) x (tTag G bs) := ⟨_, rfl⟩
 rw [← hW] at hs
 have hxe : x = (x.1, N, x.2.2) := by rw [← hx]
 intro n114 h6b hn; replace hs := Sat.new hs hn; clear hn
 replace hs := as_sl0 hs (i := 0) (c := 0) (sz := 1) .z rfl
 simp only [put_zero] at hs
 obtain ⟨E, hE⟩ : ∃ E, E = blk n109 W :: sE x 1 (ints .u8 pay) :: RR := ⟨_, rfl⟩
 have aw : At E 0 (blk n109 W) := by rw [hE]; exact .z
 have ax : At E 1 (sE x 1 (ints .u8 pay)) := by rw [hE]; exact .s .z
 replace hs : Sat h0 (slE po (l + 3) co 1 (ints .u8 (bs ++ [161, 162, 163])) :: slE (some ⟨n114, 0, none⟩) 0 0 1 [] :: E) h6b := by
  rw [hE]
  refine hs.perm ?_
  refine (List.Perm.trans ?_ (List.Perm.swap _ _ _))
  refine List.Perm.cons _ ?_
  exact ((List.Perm.swap _ _ _).cons _).trans (List.Perm.swap _ _ _)
 have up : ∀ {y : Nat} {e : Ent}, At RR y e → At E (y + 2) e := fun a => by rw [hE]; exact a.s.s
 have wl : ∀ {o : Nat} {v : Value}, (imgL (tSlot G bs) (tKey G bs) (tVer G bs) x (tTag G bs))[o]? = some v → W[o]? = some v := fun {o v} e => by rw [hW]; exact e
 clear hE
 -- one look at bytes
 have look : ∀ {D : List Ent} {h : H} {K : Nat → Int → H → Prop} {q' : Option Addr} {c' : Nat}, Sat h0 (D ++ E) h → (∀ h', Sat h0 (D ++ E) h' → hsv h' q' 1 l (ints .u8 bs)) → l ≤ c' →
   (∀ nb P h', Sat h0 (blk nb (imgL (tSlot G bs) (tKey G bs) (tVer G bs) (P, N, N) (tTag G bs)) :: prtE P N pay :: (D ++ E)) h' → K nb G h') →
   F_gate_Check ⟨st, 0, none⟩ ⟨rp, 0, none⟩ q' l c' (fun i1 i2 i3 o n m l e h => ∀ nb h', hnew h nb (.int .i64 0 :: .int .i64 0 :: .int .i64 0 :: .slice none 0 0 :: ints .u8 (zeros 32)) h' → hcan h' ⟨nb, 0, none⟩ 36 ∧ ∀ h'', h'' = hwr h' ⟨nb, 0, none⟩ (.int .i64 i1 :: .int .i64 i2 :: .int .i64 i3 :: .slice o n m :: ints .u8 l) → K nb e h'') h := by
  intro D h K q' c' hs rd hc k
  have sh : ∀ {y : Nat} {e : Ent}, At RR y e → At (D ++ E) (D.length + (y + 2)) e := fun {y e} a => by
   have := up a
   clear k rd hs
   induction D with
   | nil => simpa using this
   | cons d D ih => rw [List.length_cons, Nat.add_right_comm]; exact ih.s
  refine gateP_sp (L := L) (bs := bs) hg hs (sh ac) (sh al) (sh asr) (sh a3) (sh a4) eR gR (fun x hx => ⟨_, sh (r1 x hx).choose_spec⟩) rd hby hc (by omega) ?_
  intro nb P h' _ _ hs'
  rw [← hG, ← hpay, ← hN] at hs'
  have := k nb P h' hs'
  rw [hG] at this
  exact this
 clear hG
 -- the first loop: three looks at the own bytes
 intro J117 hJ117
 refine loopS 3 (fun t (s : List (Option Addr) × Option Addr × Nat) => [.dv (.one (.slice s.2.1 t s.2.2)), si t])
  (fun t s h => s.1.length = t ∧ Sat h0 (slE po (l + 3) co 1 (ints .u8 (bs ++ [161, 162, 163])) :: slE s.2.1 t s.2.2 1 (s.1.map fun P => .slice P N N) :: (s.1.map (fun P => prtE P N pay) ++ E)) h) ?_ ?_ 0 ([], some ⟨n114, 0, none⟩, 0) _ (by omega) ⟨rfl, hs⟩
 ·clear hs
  rintro t ⟨Ps, tp, tc⟩ h7 ht ⟨hPl, hs⟩ hk
  dsimp only at hPl hs hk ⊢
  apply hJ117
  clear hJ117
  rw [ltI_eq, if_pos (by rw [decide_eq_true_iff]; omega)]
  rw [sub0]
  refine ⟨_, rfl, _, rfl, ?_⟩
  obtain ⟨D, hD⟩ : ∃ D, D = slE po (l + 3) co 1 (ints .u8 (bs ++ [161, 162, 163])) :: slE tp t tc 1 (Ps.map fun P => .slice P N N) :: (Ps.map (fun P => prtE P N pay)) := ⟨_, rfl⟩
  have ao : At D 0 (slE po (l + 3) co 1 (ints .u8 (bs ++ [161, 162, 163]))) := by rw [hD]; exact .z
  replace hs : Sat h0 (D ++ E) h7 := by rw [hD]; exact hs
  have ownRd : ∀ {B : List Ent} {y : Nat} {h' : H}, Sat h0 B h' → At B y (slE po (l + 3) co 1 (ints .u8 (bs ++ [161, 162, 163]))) → hsv h' po 1 l (ints .u8 bs) := by
   intro B y h' hs' a
   have R := subRd (o := 0) (n := l) (m := l + 3) (hs'.sv a) (by omega) (by omega)
   rw [List.drop_zero, ← hbl, List.take_left' rfl, hbl, sub0] at R
   exact R
  refine look hs (fun h' hs' => ownRd hs' ao.app) (by omega) ?_
  intro nb P h8 hs
  rw [if_neg (by simp)]
  have shE : ∀ {y : Nat} {e : Ent}, At E y e → ∃ z, At (blk nb (imgL (tSlot G bs) (tKey G bs) (tVer G bs) (P, N, N) (tTag G bs)) :: prtE P N pay :: (D ++ E)) z e := fun {y e} a => by
   have : ∀ D : List Ent, ∃ z, At (D ++ E) z e := by
    intro D
    induction D with
    | nil => exact ⟨_, a⟩
    | cons d D ih => exact ⟨_, ih.choose_spec.s⟩
   exact ⟨_, (this D).choose_spec.s.s⟩
  obtain ⟨zw, aw2⟩ := shE aw
  obtain ⟨zx, ax2⟩ := shE ax
  have rowW : hrow h8 ⟨n109, 4, none⟩ .u8 (tTag G bs) := by
   have := img_row (a := tSlot G bs) (b' := tKey G bs) (v := tVer G bs) (x := x) hs (hW ▸ aw2) tl32
   exact this
  refine ⟨_, hs.ld (i := 0) .z rfl, _, hs.ld (i := 0) .z rfl, _, hs.ld (i := 0) .z rfl, _, _, _, hs.ld (i := 0) .z rfl, _, tl32, img_row hs (i := 0) .z tl32, _, hs.ld aw2 (wl rfl), _, hs.ld aw2 (wl rfl), _, hs.ld aw2 (wl rfl), _, _, _, hs.ld aw2 (wl rfl), _, tl32, rowW, ?_⟩
  refine same11_sp (pay := pay) hs tl32 (fun h' hs' => prt_rd hs' (i := 1) (.s .z)) (fun h' hs' => by have := hs'.sv ax2; rw [hx] at this ⊢; exact this) ?_
  intro h9 hs
  rw [if_neg (by decide)]
  refine ⟨bs, ownRd hs ao.app.s.s, bs, hs.base rb, ?_⟩
  rw [if_neg (by simp)]
  have R3 := subRd (o := l) (n := 3) (m := co) (hs.sv ao.app.s.s) (by omega) (by omega)
  rw [← hbl, List.drop_left' rfl, hbl] at R3
  refine ⟨by omega, by omega, by omega, by omega, [161, 162, 163], ?_, ?_⟩
  ·rw [sub0]
   rw [show l + 3 - l = 3 by omega]
   exact R3
  rw [if_neg (by rw [show (bytesOf [161, 162, 163]).toList = (ByteArray.mk #[161, 162, 163]).toList by rfl]; simp)]
  refine ⟨_, _, _, hs.ld (i := 0) .z rfl, ?_⟩
  intro n161 _ hn; replace hs := Sat.new hs hn; clear hn
  refine ⟨_, hs.bv (i := 0) (l := 1) .z rfl (by simp), ?_⟩
  rw [hD] at hs
  refine Sat.app hs (i := 4) (vs := [.slice P N N]) (.s (.s (.s (.s .z)))) rfl rfl (by simp) (by omega) ?_
  intro tp2 tc2 h10 hs
  simp only [List.cons_append, put_succ, put_zero] at hs
  rw [wrap_succ (by omega)]
  refine hk (Ps ++ [P], tp2, tc2) h10 ⟨by rw [List.length_append, hPl]; rfl, ?_⟩
  dsimp only
  rw [List.map_append, List.map_append, List.append_assoc]
  replace hs := hs.drop.drop
  refine hs.perm ?_
  have e : ∀ (a b c : Ent) (P R : List Ent), (a :: b :: c :: (P ++ R)).Perm (b :: c :: (P ++ ([a] ++ R))) := by
   intro a b c P R
   have p1 : (a :: (b :: c :: (P ++ R))).Perm (b :: c :: (P ++ (a :: R))) := by
    have : (b :: c :: (P ++ (a :: R))) = ([b, c] ++ P) ++ a :: R := by simp
    rw [this]
    have := (List.perm_middle (a := a) (l₁ := [b, c] ++ P) (l₂ := R)).symm
    simpa using this
   exact p1
  exact e _ _ _ _ _
 clear hs
 rintro ⟨Ps, tp, tc⟩ h7 ⟨hPl, hs⟩
 dsimp only at hPl hs ⊢
 apply hJ117
 clear hJ117
 rw [ltI_eq, if_neg (by decide)]
 rw [sub0]
 -- the own bytes are written over
 intro J169 hJ169
 refine loop_up l (fun t h => ∃ zs : List Int, zs.length = l + 3 ∧ Sat h0 (slE po (l + 3) co 1 (ints .u8 zs) :: slE tp 3 tc 1 (Ps.map fun P => .slice P N N) :: (Ps.map (fun P => prtE P N pay) ++ E)) h) ?_ ?_ 0 _ (by omega) ⟨_, by rw [List.length_append, hbl]; rfl, hs⟩
 ·clear hs
  rintro t h8 ht ⟨zs, hz, hs⟩ hk
  apply hJ169
  clear hJ169
  rw [ltI_eq, if_pos (by rw [decide_eq_true_iff]; omega)]
  obtain ⟨ob, hob⟩ := hs.sl_some (i := 0) .z (by omega)
  rw [hob] at hs ⊢
  simp only [Int.toNat_natCast, Nat.mul_one]
  obtain ⟨q1, hq1, g1⟩ := hsv_int (hs.sv (i := 0) .z) (x := t) (by omega)
  cases hq1
  refine ⟨_, rfl, by omega, by omega, _, g1, _, rfl, by omega, by omega, ?_, ?_⟩
  ·rw [add_mk, Nat.zero_add]
   exact hs.scan (i := 0) .z (by omega) (by rw [ints_length]; omega)
  intro h9 e9
  rw [add_mk, Nat.zero_add] at e9
  obtain ⟨v, hv⟩ : ∃ v, v = bits .xor .u8 (zs.getD t 0) 119 := ⟨_, rfl⟩
  rw [← hv] at e9
  have hs := hs.swr (xs := ints .u8 [v]) (i := 0) .z e9 (by omega) (by simp; omega) (ints_one _ _)
  simp only [put_zero] at hs
  have es : splice (ints .u8 zs) t (ints .u8 [v]) = ints .u8 (zs.set t v) := by
   have := splice_append (ints .u8 (zs.take t)) (ints .u8 [zs[t]]) (ints .u8 (zs.drop (t + 1))) (ints .u8 [v]) rfl
   rw [ints_length, List.length_take, Nat.min_eq_left (by omega)] at this
   have e1 : zs = zs.take t ++ [zs[t]] ++ zs.drop (t + 1) := by
    have := (List.take_append_drop t zs).symm
    rw [List.drop_eq_getElem_cons (show t < zs.length by omega)] at this
    rw [List.append_assoc]; exact this
   have e2 := congrArg (ints .u8) e1
   rw [ints_app, ints_app] at e2
   rw [← e2] at this
   rw [this, List.set_eq_take_append_cons_drop, if_pos (by omega), ← ints_app, ← ints_app, List.append_assoc]
   rfl
  rw [es, ← hob] at hs
  rw [wrap_succ (by omega)]
  exact hk _ ⟨_, by rw [List.length_set]; exact hz, hs⟩
 clear hs
 rintro h8 ⟨zs, hz, hs⟩
 apply hJ169
 clear hJ169
 rw [ltI_eq, if_neg (by rw [decide_eq_true_iff]; omega)]
 replace hs := hs.drop
 -- what was told is as it was
 have shE : ∀ {y : Nat} {e : Ent} (D : List Ent), At E y e → ∃ z, At (D ++ E) z e := fun {y e} D a => by
  induction D with
  | nil => exact ⟨_, a⟩
  | cons d D ih => exact ⟨_, ih.choose_spec.s⟩
 have rdT : ∀ {h' : H} {t : Nat}, hsv h' tp 1 3 (Ps.map fun P => Value.slice P N N) → (ht : t < Ps.length) → ∃ q, tp = some q ∧ hc h' (q.add t) = some (.slice Ps[t] N N) := by
  intro h' t rd ht
  exact hsv_get rd (i := t) (map_get _ _ ht)
 intro J177 hJ177
 refine loop_up 3 (fun t h => h = h8) ?_ ?_ 0 _ (by omega) rfl
 ·rintro t h9 ht rfl hk
  apply hJ177
  rw [ltI_eq, if_pos (by rw [decide_eq_true_iff]; omega)]
  obtain ⟨q1, hq1, g1⟩ := rdT (hs.sv (i := 0) .z) (t := t) (by omega)
  refine ⟨q1, hq1, by omega, by omega, ?_⟩
  simp only [Int.toNat_natCast, Nat.mul_one]
  refine ⟨_, _, _, g1, ?_⟩
  obtain ⟨z1, az⟩ : ∃ z, At (slE tp 3 tc 1 (Ps.map fun P => .slice P N N) :: (Ps.map (fun P => prtE P N pay) ++ E)) z (prtE (Ps[t]'(by omega)) N pay) := At.mem (List.mem_cons_of_mem _ (List.mem_append_left _ (List.mem_map_of_mem (f := fun P => prtE P N pay) (List.getElem_mem (show t < Ps.length by omega)))))
  obtain ⟨zw, aw2⟩ := shE (slE tp 3 tc 1 (Ps.map fun P => .slice P N N) :: (Ps.map (fun P => prtE P N pay))) aw
  obtain ⟨zx, ax2⟩ := shE (slE tp 3 tc 1 (Ps.map fun P => .slice P N N) :: (Ps.map (fun P => prtE P N pay))) ax
  refine ⟨pay, prt_rd hs az, _, _, _, hs.ld aw2 (wl rfl), pay, hs.sv ax2, ?_⟩
  rw [if_neg (by simp), wrap_succ (by omega)]
  exact hk _ rfl
 rintro h9 rfl
 apply hJ177
 clear hJ177
 rw [ltI_eq, if_neg (by decide)]
 -- marks
 intro n189 _ hn; replace hs := Sat.new hs hn; clear hn
 replace hs := as_sl0 hs (i := 0) (c := 0) (sz := 1) .z rfl
 simp only [put_zero] at hs
 intro J192 hJ192
 refine loopS 3 (fun t (s : List (Option Addr × Nat) × Option Addr × Nat) => [.dv (.one (.slice s.2.1 t s.2.2)), si t])
  (fun t s h => s.1.length = t ∧ ∃ B : List Ent, (∀ j (hj : j < Ps.length) (hv : j < s.1.length), ∀ h', Sat h0 B h' → All13 h' j Ps[j] N ∧ All13 h' j s.1[j].1 (N + 40)) ∧
   Sat h0 (slE s.2.1 t s.2.2 1 (s.1.map fun V => .slice V.1 (N + 40) V.2) :: slE tp 3 tc 1 (Ps.map fun P => .slice P N N) :: (B ++ ((Ps.drop t).map (fun P => prtE P N pay) ++ E))) h) ?_ ?_ 0 ([], some ⟨n189, 0, none⟩, 0) _ (by omega) ⟨rfl, [], (fun j _ hv => by simp at hv), hs⟩
 ·clear hs
  rintro t ⟨V, vp, vc⟩ h10 ht ⟨hVl, B, hB, hs⟩ hk
  dsimp only at hVl hB hs hk ⊢
  apply hJ192
  clear hJ192
  rw [ltI_eq, if_pos (by rw [decide_eq_true_iff]; omega)]
  have htP : t < Ps.length := by omega
  obtain ⟨q1, hq1, g1⟩ := rdT (hs.sv (i := 1) (.s .z)) htP
  refine ⟨q1, hq1, by omega, by omega, ?_⟩
  simp only [Int.toNat_natCast, Nat.mul_one]
  refine ⟨_, _, _, g1, ?_⟩
  obtain ⟨P, hP⟩ : ∃ P, P = Ps[t] := ⟨_, rfl⟩
  rw [List.drop_eq_getElem_cons htP] at hs
  rw [← hP] at hs ⊢
  obtain ⟨D, hD⟩ : ∃ D, D = slE vp t vc 1 (V.map fun V => .slice V.1 (N + 40) V.2) :: slE tp 3 tc 1 (Ps.map fun P => .slice P N N) :: (B ++ ((Ps.drop (t + 1)).map (fun P => prtE P N pay) ++ E)) := ⟨_, rfl⟩
  replace hs : Sat h0 (prtE P N pay :: D) h10 := by
   rw [hD]
   refine hs.perm ?_
   have e : ∀ (a b c : Ent) (P R : List Ent), (b :: c :: (P ++ (a :: R))).Perm (a :: b :: c :: (P ++ R)) := by
    intro a b c P R
    have : (b :: c :: (P ++ (a :: R))) = ([b, c] ++ P) ++ a :: R := by simp
    rw [this]
    have := (List.perm_middle (a := a) (l₁ := [b, c] ++ P) (l₂ := R))
    simpa using this
   exact e _ _ _ _ _
  have hb : IntKind.u8.wrap (IntKind.i64.wrap ((t : Int) + 1)) = mark13 t := rfl
  rw [hb]
  intro J202 hJ202
  refine loop_up N (fun x h => Sat h0 (prtE P N (List.replicate x (mark13 t) ++ pay.drop x) :: D) h) ?_ ?_ 0 _ (by omega) (by simpa using hs)
  ·clear hs
   intro x h11 hx hs hk2
   apply hJ202
   rw [ltI_eq, if_pos (by rw [decide_eq_true_iff]; omega)]
   obtain ⟨q2, hq2, w1, w2⟩ := prt_wr hs (i := 0) .z hx
   refine ⟨q2, hq2, by omega, by omega, ?_⟩
   simp only [Int.toNat_natCast]
   refine ⟨w1, ?_⟩
   intro h12 e12
   have hs := w2 _ _ e12
   simp only [put_zero] at hs
   rw [repSet13 _ _ (by omega)] at hs
   rw [wrap_succ (by omega)]
   exact hk2 _ hs
  clear hs
  intro h11 hs
  apply hJ202
  clear hJ202
  rw [ltI_eq, if_neg (by rw [decide_eq_true_iff]; omega)]
  rw [List.drop_of_length_le (by omega), List.append_nil] at hs
  intro J208 hJ208
  refine loopS 40 (fun x (s : Option Addr × Nat) => [.dv (.one (.slice s.1 (N + x) s.2)), si x])
   (fun x s h => (x = 0 ∧ s = (P, N) ∧ Sat h0 (prtE P N (List.replicate N (mark13 t)) :: D) h) ∨ Sat h0 (slE s.1 (N + x) s.2 1 (ints .u8 (List.replicate (N + x) (mark13 t))) :: prtE P N (List.replicate N (mark13 t)) :: D) h) ?_ ?_ 0 (P, N) _ (by omega) (Or.inl ⟨rfl, rfl, hs⟩)
  ·clear hs
   rintro x ⟨sp, sc⟩ h12 hx hs hk2
   dsimp only at hs hk2 ⊢
   apply hJ208
   rw [ltI_eq, if_pos (by rw [decide_eq_true_iff]; omega)]
   intro nb h13 hn
   have eb : ∀ n, ints .u8 (List.replicate n (mark13 t)) ++ ints .u8 [mark13 t] = ints .u8 (List.replicate (n + 1) (mark13 t)) := fun n => by rw [← ints_app, List.replicate_succ']
   rcases hs with ⟨rfl, he, hs⟩ | hs
   ·cases he
    replace hs := Sat.new hs hn; clear hn
    refine ⟨_, hs.bv (i := 0) (l := 1) .z rfl (ints_one .u8 [mark13 t]), ?_⟩
    refine Sat.app_keep hs (prt_rd hs (i := 1) (.s .z)) (by omega) (vs := ints .u8 [mark13 t]) rfl rfl (ints_one _ _) (by omega) ?_
    intro p3 c3 h14 hs
    rw [eb] at hs
    rw [wrap_succ (by omega)]
    exact hk2 (p3, c3) _ (Or.inr (hs.sub (List.Sublist.cons_cons _ (List.sublist_cons_self _ _))))
   ·replace hs := Sat.new hs hn; clear hn
    refine ⟨_, hs.bv (i := 0) (l := 1) .z rfl (ints_one .u8 [mark13 t]), ?_⟩
    refine Sat.app hs (i := 1) (vs := ints .u8 [mark13 t]) (.s .z) rfl rfl (ints_one _ _) (by omega) ?_
    intro p3 c3 h14 hs
    simp only [put_succ, put_zero] at hs
    rw [eb] at hs
    rw [wrap_succ (by omega)]
    exact hk2 (p3, c3) _ (Or.inr hs.drop)
  clear hs
  rintro ⟨sp, sc⟩ h12 hs
  dsimp only at hs ⊢
  apply hJ208
  clear hJ208
  rw [ltI_eq, if_neg (by decide)]
  rcases hs with ⟨y, _⟩ | hs
  ·omega
  intro nb _ hn; replace hs := Sat.new hs hn; clear hn
  refine ⟨_, hs.bv (i := 0) (l := 1) .z rfl (by simp), ?_⟩
  rw [hD] at hs
  refine Sat.app hs (i := 3) (vs := [.slice sp (N + 40) sc]) (.s (.s (.s .z))) rfl rfl (by simp) (by omega) ?_
  intro vp2 vc2 h13 hs
  simp only [put_succ, put_zero] at hs
  rw [wrap_succ (by omega)]
  replace hs := hs.drop
  refine hk (V ++ [(sp, sc)], vp2, vc2) h13 ⟨by rw [List.length_append, hVl]; rfl, slE sp (N + 40) sc 1 (ints .u8 (List.replicate (N + 40) (mark13 t))) :: prtE P N (List.replicate N (mark13 t)) :: B, ?_, ?_⟩
  ·intro j hj hjv h' hs'
   dsimp only at hjv ⊢
   rw [List.length_append] at hjv
   by_cases cj : j < V.length
   ·rw [List.getElem_append_left cj]
    exact hB j hj cj h' hs'.drop.drop
   ·have ej : j = t := by simp at hjv; omega
    subst ej
    rw [List.getElem_append_right (by omega)]
    have e1 : [(sp, sc)][j - V.length]'(by simp at hjv ⊢; omega) = (sp, sc) := by simp
    rw [e1, ← hP]
    exact ⟨prt_rd hs' (i := 1) (.s .z), hs'.sv (i := 0) .z⟩
  ·dsimp only
   rw [List.map_append]
   refine hs.perm ?_
   have e : ∀ (a b c d : Ent) (R : List Ent), (a :: b :: c :: d :: R).Perm (c :: d :: a :: b :: R) := by
    intro a b c d R
    have := (List.perm_append_comm (l₁ := [a, b]) (l₂ := [c, d])).append_right R
    simpa using this
   exact e _ _ _ _ _
 clear hs
 rintro ⟨V, vp, vc⟩ h10 ⟨hVl, B, hB, hs⟩
 dsimp only at hVl hB hs ⊢
 apply hJ192
 clear hJ192
 rw [ltI_eq, if_neg (by decide)]
 rw [List.drop_of_length_le (by omega)] at hs
 replace hs : Sat h0 (slE vp 3 vc 1 (V.map fun V => .slice V.1 (N + 40) V.2) :: slE tp 3 tc 1 (Ps.map fun P => .slice P N N) :: (B ++ E)) h10 := hs
 have hM : ∀ j (hj : j < Ps.length) (hv : j < V.length), All13 h10 j Ps[j] N ∧ All13 h10 j V[j].1 (N + 40) := fun j hj hv => hB j hj hv h10 (hs.sub ((List.sublist_append_left _ _).trans ((List.sublist_cons_self _ _).trans (List.sublist_cons_self _ _))))
 intro J234 hJ234
 refine loop_up 3 (fun t h => h = h10) ?_ ?_ 0 _ (by omega) rfl
 ·rintro t h11 ht rfl hk
  apply hJ234
  rw [ltI_eq, if_pos (by rw [decide_eq_true_iff]; omega)]
  have htV : t < V.length := by omega
  obtain ⟨M1, M2⟩ := hM t (by omega) htV
  obtain ⟨q1, hq1, g1⟩ := hsv_get (hs.sv (i := 0) .z) (i := t) (map_get _ _ htV)
  obtain ⟨q2, hq2, g2⟩ := rdT (hs.sv (i := 1) (.s .z)) (t := t) (by omega)
  refine ⟨q1, hq1, by omega, by omega, ?_⟩
  simp only [Int.toNat_natCast, Nat.mul_one]
  refine ⟨_, _, _, g1, ?_⟩
  have hb : IntKind.u8.wrap (IntKind.i64.wrap ((t : Int) + 1)) = mark13 t := rfl
  rw [hb]
  intro J241 hJ241
  refine loop_up (N + 40) (fun x h => h = h11) ?_ ?_ 0 _ (by omega) rfl
  ·rintro x h12 hx rfl hk2
   apply hJ241
   rw [ltI_eq, if_pos (by rw [decide_eq_true_iff]; omega)]
   obtain ⟨qa, hqa, ga⟩ := M2.get hx
   refine ⟨q1, hq1, by omega, by omega, _, _, _, g1, qa, hqa, by omega, by omega, _, ga, ?_⟩
   rw [if_neg (by simp)]
   refine ⟨q2, hq2, by omega, by omega, _, _, _, g2, ?_⟩
   rw [wrap_succ (by omega), ltI_eq]
   by_cases cx : x < N
   ·rw [if_pos (by rw [decide_eq_true_iff]; omega)]
    obtain ⟨qb, hqb, gb⟩ := M1.get cx
    refine ⟨q2, hq2, by omega, by omega, _, _, _, g2, qb, hqb, by omega, by omega, _, gb, ?_⟩
    rw [if_neg (by simp)]
    exact hk2 _ rfl
   ·rw [if_neg (by rw [decide_eq_true_iff]; omega)]
    exact hk2 _ rfl
  ·rintro h12 rfl
   apply hJ241
   rw [ltI_eq, if_neg (by rw [decide_eq_true_iff]; omega), wrap_succ (by omega)]
   exact hk _ rfl
 rintro h11 rfl
 apply hJ234
 clear hJ234
 rw [ltI_eq, if_neg (by decide)]
 replace hs : Sat h0 ((slE vp 3 vc 1 (V.map fun V => .slice V.1 (N + 40) V.2) :: slE tp 3 tc 1 (Ps.map fun P => .slice P N N) :: B) ++ E) h11 := hs
 obtain ⟨D, hD⟩ : ∃ D, D = (slE vp 3 vc 1 (V.map fun V => .slice V.1 (N + 40) V.2) :: slE tp 3 tc 1 (Ps.map fun P => .slice P N N) :: B) := ⟨_, rfl⟩
 rw [← hD] at hs
 refine ⟨_, rfl, _, rfl, ?_⟩
 refine look hs (fun h' hs' => hs'.base rb) hle ?_
 intro nb P h12 hs
 rw [if_pos (by simp)]
 obtain ⟨zw, aw2⟩ := shE (blk nb (imgL (tSlot G bs) (tKey G bs) (tVer G bs) (P, N, N) (tTag G bs)) :: prtE P N pay :: D) aw
 obtain ⟨zx, ax2⟩ := shE (blk nb (imgL (tSlot G bs) (tKey G bs) (tVer G bs) (P, N, N) (tTag G bs)) :: prtE P N pay :: D) ax
 have rowW : hrow h12 ⟨n109, 4, none⟩ .u8 (tTag G bs) := img_row (a := tSlot G bs) (b' := tKey G bs) (v := tVer G bs) (x := x) hs (hW ▸ aw2) tl32
 refine ⟨_, hs.ld (i := 0) .z rfl, _, hs.ld (i := 0) .z rfl, _, hs.ld (i := 0) .z rfl, _, _, _, hs.ld (i := 0) .z rfl, _, tl32, img_row hs (i := 0) .z tl32, _, hs.ld aw2 (wl rfl), _, hs.ld aw2 (wl rfl), _, hs.ld aw2 (wl rfl), _, _, _, hs.ld aw2 (wl rfl), _, tl32, rowW, ?_⟩
 refine same11_sp (pay := pay) hs tl32 (fun h' hs' => prt_rd hs' (i := 1) (.s .z)) (fun h' hs' => by have := hs'.sv ax2; rw [hx] at this ⊢; exact this) ?_
 intro h13 hs
 exact k _ hs.nil
end
end Go.Proofs.YtaglicdidpgkpaaGreatDoor
end

/- GateKeeps: bytes that are handed in stay, room and all; a payload that came out is its owner's; for every input. -/
section
set_option maxRecDepth 100000
set_option linter.unusedVariables false
namespace Go.Proofs.YtaglicdidpgkpaaGreatDoor
open Go Go.Vc Go.ChangeShapes Go.WideShapes Go.ChangeAt Go.RowKit

theorem GateKeeps_calls {D : Type} {enc : TypeId × Value → D} {W : World} {base : Nat} (hg : hc W.heap ⟨0, 0, none⟩ = some errTypeV) (vs : List Value) (h : ArgsOk enc PP W base [31, 32] vs) : CallsTrue PP 6 vs W := by
 obtain ⟨hl, h⟩ := h
 match vs, hl with
 | [v0, v1], _ =>
 obtain ⟨r0, w0⟩ := h 0 _ v0 rfl rfl
 obtain ⟨r1, w1⟩ := h 1 _ v1 rfl rfl
 obtain ⟨c, a, b, c', s, X, lp, ll, lc, rfl, rd, ty, _, rl, hll⟩ := scene_of r0 w0
 obtain ⟨tp, tl, tc, rfl, hs1⟩ := slice24_of (e := 5) (by kernel_rfl) r1 w1
 obtain ⟨bs, b1, b2, b3, b4⟩ := bytes24_of hs1
 have := R_portcullislaw13_GateKeeps [.agg [.c (.int .i64 c.cells), .c (.int .i64 c.slots), .c (.int .i64 c.fuses), .c (.int .i64 c.step), .c (.int .i64 c.keys), .c (.int .i64 c.erases), .c (.int .i64 c.area), .c a.v, .c b.v, .c c'.v, .c (.slice lp ll lc)], .one (.slice tp tl tc)] (fun rs h' => rs = [DV.one (.bool true)] ∧ Ext none_ W.heap h') W.heap (by
  intro x hx
  simp only [List.mem_cons, List.not_mem_nil, or_false] at hx
  rcases hx with rfl | rfl
  ·exact ok_scn c a b c' lp ll lc
  ·rfl) (by
  show F_portcullislaw13_GateKeeps c.cells c.slots c.fuses c.step c.keys c.erases c.area a.1 a.2.1 a.2.2 b.1 b.2.1 b.2.2 c'.1 c'.2.1 c'.2.2 lp ll lc tp tl tc (fun b h' => [DV.one (.bool b)] = [DV.one (.bool true)] ∧ Ext none_ W.heap h') W.heap
  exact GateKeeps_sp hg c rd ty rl hll b1 b2 b3 (by omega) fun h' x => ⟨rfl, x.ex⟩)
 exact this
theorem GateKeeps_lifted (os : Os) (started : os.Started) (D : Type) (enc : TypeId × Value → D) :
  ReturnsInHanded {} Tryz.checked os 6 .any (fun w args => (Rows.gateKeepsSpec.pre enc Tryz.prog Tryz.f6 [] false w args ∧ laidMetH Tryz.prog laidL w) ∧ sizedMet enc Tryz.prog Tryz.f6 (OpenSpec.ofChange Rows.gateKeepsSpec) false w args)
   (Rows.gateKeepsSpec.post enc Tryz.prog Tryz.f6 false true false false) := by
 refine returnsInHanded_of_change_and (C := Tryz.checked) (X := fun w _ => laidMetH Tryz.prog laidL w) (fun _ _ _ hh h => h.of_heap hh) Tryz.own started (by kernel_rfl) Tryz.func6
  (ChangeSpec.witness_at (enc := enc) (C := Tryz.checked) (os := os) (X := fun w _ => laidMetH Tryz.prog laidL w) false (laidWorld os) #[.agg #[.int .i64 0, .int .i64 0, .int .i64 0, .int .i64 0, .int .i64 0, .int .i64 0, .int .i64 0, .slice none 0 0, .slice none 0 0, .slice none 0 0, .slice none 0 0], .slice none 0 0] 8 rfl (by kernel_rfl) (by kernel_rfl) (by kernel_rfl) (by kernel_rfl) (by kernel_rfl) (laidWorld_met os _)) ?_
 intro W base args ds gs before hval hW hcnd hsz hL _
 exact law_go (P := Tryz.prog) (fn := Tryz.f6) (s := Rows.gateKeepsSpec) [31, 32] (by kernel_rfl) Tryz.laidOut rfl (by kernel_rfl) (by kernel_rfl) Tryz.ubool
  (fun ds hl => match ds, hl with | [d1, d2], _ => rfl) hval hW hsz (GateKeeps_calls (handle_of_laid hL))

theorem GateKeeps_k1 : (Rows.gateKeepsRow.wf (OpenSpec.ofChange Rows.gateKeepsSpec) && laidOutB Tryz.prog && mapsRowed Tryz.prog && Tryz.f6.params.all (Tryz.prog.readableRec ·) && namedTie Tryz.prog Rows.gateKeepsRow.named Rows.gateKeepsSpec.vars && (Rows.gateKeepsRow.stops == []) && (Tryz.prog.stops == []) && (Rows.gateKeepsRow.knobs == []) && (Tryz.prog.stopKnobs == [])) = true := by kernel_rfl
theorem GateKeeps_k2 : (Rows.gateKeepsRow.inPlace == Tryz.prog.inPlace 6) = true := by kernel_rfl
theorem GateKeeps_k3 : (Rows.gateKeepsRow.unfollowed == Tryz.prog.unfollowed 6) = true := by kernel_rfl
theorem GateKeeps_k4 : (Rows.gateKeepsRow.recurses == Tryz.prog.recurses 6) = true := by kernel_rfl
theorem GateKeeps_k5 : (Rows.gateKeepsRow.named == Tryz.prog.varsNamed 6) = true := by kernel_rfl
theorem GateKeeps_k6 : Tryz.prog.stopsHeard = true := by kernel_rfl
theorem GateKeeps_k7 : Tryz.prog.mayEnter = true := by kernel_rfl
theorem GateKeeps_k8 : (Rows.gateKeepsRow.lifted == Tryz.prog.liftsFinal) = true := by kernel_rfl
theorem GateKeeps_k9 : (Tryz.prog.make == some Rows.gateKeepsRow.make) = true := by kernel_rfl
theorem GateKeeps_facts : joinedFacts Tryz.pinned.checked.prog 6 Tryz.f6 Rows.gateKeepsSpec Rows.gateKeepsRow = true := by
 unfold joinedFacts
 exact bool_and (bool_and (bool_and (bool_and (bool_and (bool_and (bool_and (bool_and (bool_and (bool_and (bool_and (bool_and (bool_and (bool_and (bool_and (bool_and (bool_and (bool_and (bool_and (bool_and (bool_and (bool_and (bool_and (GateKeeps_k1) GateKeeps_k2) GateKeeps_k3) GateKeeps_k4) GateKeeps_k5) (by kernel_rfl)) (by kernel_rfl)) (by kernel_rfl)) (by kernel_rfl)) (by kernel_rfl)) (by kernel_rfl)) (by kernel_rfl)) (by kernel_rfl)) (by kernel_rfl)) (by kernel_rfl)) (by kernel_rfl)) GateKeeps_k6) GateKeeps_k7) GateKeeps_k8) GateKeeps_k9) (by kernel_rfl)) (by kernel_rfl)) (by kernel_rfl)) (by kernel_rfl)
theorem GateKeeps_said : Rows.GateKeepsSaid :=
 OpenClaim.holds_of_wide 6 Tryz.f6 rfl rfl rfl rfl rfl rfl rfl ⟨rfl, rfl, rfl, rfl, rfl⟩ rfl rfl rfl rfl rfl (by kernel_rfl) Tryz.func6 GateKeeps_facts
  (of_decide_eq_true (by kernel_rfl)) (by unfold Func.isWrapper; first | (rw [if_pos (by decide +kernel)]; kernel_rfl) | (rw [if_neg (by decide +kernel)]; exact ⟨rfl, rfl⟩))
  (fun os started H enc _ => GateKeeps_lifted os started H enc)

theorem GateKeeps_plain (f : FuncId) (fn : Func) (hf : Tryz.pinned.checked.prog.funcNamed "portcullis/portcullislaw13.GateKeeps" = some f) (hfn : Tryz.pinned.checked.prog.funcs[f]? = some fn) :
  true = Tryz.pinned.checked.prog.looks [] ∧ ∀ (j : Nat) t, fn.params[j]? = some t → Tryz.pinned.checked.prog.wantsStandIn t = false := by
 obtain rfl : f = 6 := Option.some.inj ((show Tryz.prog.funcNamed "portcullis/portcullislaw13.GateKeeps" = some 6 by kernel_rfl).symm.trans hf) |>.symm
 obtain rfl : fn = Tryz.f6 := (Option.some.inj (Tryz.func6.symm.trans hfn)).symm
 refine ⟨by kernel_rfl, fun j t ht => ?_⟩
 have hm := Array.mem_of_getElem? ht
 have hm2 : t ∈ ([31, 32] : List Nat) := by
  have : Tryz.f6.params.toList = [31, 32] := by kernel_rfl
  rw [← this]; exact Array.mem_toList_iff.2 hm
 simp only [List.mem_cons, List.not_mem_nil, or_false] at hm2
 rcases hm2 with rfl | rfl <;> (first | kernel_rfl | rfl)

theorem GateKeeps_holds : Rows.GateKeepsCardSaid :=
 Claim7.holds_tied_plain_at .later [] _ _ _ _ GateKeeps_said (fun _ h => by cases h) (by kernel_rfl) (fun _ h => by cases h) gateKeeps_row_tie rfl ⟨rfl, rfl⟩ (by kernel_rfl) rfl GateKeeps_plain (by kernel_rfl)

end Go.Proofs.YtaglicdidpgkpaaGreatDoor
end
