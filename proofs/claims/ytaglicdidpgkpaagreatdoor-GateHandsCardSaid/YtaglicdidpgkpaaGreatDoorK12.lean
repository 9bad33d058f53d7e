/- GateHands: what is proved and its parts, laid together by a program of ours: Gt8 Gt9 RwGateHands -/
import Derived.Test.YtaglicdidpgkpaaGreatDoorK11
set_option autoImplicit false
set_option linter.all false
/- Images that are made: the program's Make; what a made image's bytes say. Own work. -/
section
set_option maxRecDepth 100000
set_option linter.unusedVariables false
namespace Go.Proofs.YtaglicdidpgkpaaGreatDoor
open Go Go.Vc
attribute [local irreducible] macM

theorem w8_in (n : Int) : 0 ≤ IntKind.u8.wrap n ∧ IntKind.u8.wrap n < 256 := by rw [IntKind.wrap_u8]; omega
theorem cover_by {slot key ver : Int} {pay : List Int} (hpb : isBy pay) : isBy (coverM slot key ver pay) := by
 intro v hv
 unfold coverM at hv
 have f8 : ∀ v t x, x ∈ fourL v t → 0 ≤ x ∧ x < 256 := by
  intro v t x hx
  unfold fourL at hx
  obtain ⟨j, _, rfl⟩ := List.mem_map.1 hx
  exact w8_in _
 rcases List.mem_append.1 hv with hv | hv
 ·rcases List.mem_append.1 hv with hv | hv
  ·rcases List.mem_append.1 hv with hv | hv
   ·simp only [List.mem_cons, List.not_mem_nil, or_false] at hv
    rcases hv with rfl | rfl | rfl | rfl | rfl | rfl | rfl | rfl
    ·decide
    ·decide
    ·decide
    ·decide
    ·decide
    ·exact w8_in _
    ·exact w8_in _
    ·decide
   ·exact f8 _ _ _ hv
  ·exact f8 _ _ _ hv
 ·exact hpb v hv
theorem fourL_all (v : Int) : fourL v 4 = [IntKind.u8.wrap v, IntKind.u8.wrap (v.fdiv (2 ^ 8)), IntKind.u8.wrap (v.fdiv (2 ^ 16)), IntKind.u8.wrap (v.fdiv (2 ^ 24))] := by
 show [IntKind.u8.wrap (v.fdiv (2 ^ 0)), IntKind.u8.wrap (v.fdiv (2 ^ 8)), IntKind.u8.wrap (v.fdiv (2 ^ 16)), IntKind.u8.wrap (v.fdiv (2 ^ 24))] = _
 rw [show (2 : Int) ^ 0 = 1 by decide, Int.fdiv_one]
theorem four_val {v : Int} (h0 : 0 ≤ v) (h1 : v < 4294967296) :
  IntKind.u8.wrap v + 256 * IntKind.u8.wrap (v.fdiv (2 ^ 8)) + 65536 * IntKind.u8.wrap (v.fdiv (2 ^ 16)) + 16777216 * IntKind.u8.wrap (v.fdiv (2 ^ 24)) = v := by
 rw [Int.fdiv_eq_ediv_of_nonneg _ (by decide), Int.fdiv_eq_ediv_of_nonneg _ (by decide), Int.fdiv_eq_ediv_of_nonneg _ (by decide)]
 simp only [IntKind.wrap_u8]
 omega
theorem made_list (slot key ver : Int) (pay t : List Int) : coverM slot key ver pay ++ t = 80 :: 67 :: 85 :: 76 :: 1 :: IntKind.u8.wrap slot :: IntKind.u8.wrap key :: 0 :: IntKind.u8.wrap ver :: IntKind.u8.wrap (ver.fdiv (2 ^ 8)) :: IntKind.u8.wrap (ver.fdiv (2 ^ 16)) :: IntKind.u8.wrap (ver.fdiv (2 ^ 24)) ::
  IntKind.u8.wrap (pay.length : Int) :: IntKind.u8.wrap ((pay.length : Int).fdiv (2 ^ 8)) :: IntKind.u8.wrap ((pay.length : Int).fdiv (2 ^ 16)) :: IntKind.u8.wrap ((pay.length : Int).fdiv (2 ^ 24)) :: (pay ++ t) := by
 unfold coverM
 rw [fourL_all, fourL_all]
 rfl
theorem may11_ok {slot key ver : Int} {n : Nat} (h : may11 slot key ver n = 0) : (0 ≤ slot ∧ slot < 8) ∧ (0 ≤ key ∧ key < 64) ∧ (0 ≤ ver ∧ ver < 4294967296) ∧ n ≤ 524240 := by
 unfold may11 at h
 by_cases g : slot < 0 ∨ 7 < slot ∨ key < 0 ∨ 63 < key ∨ ver < 0 ∨ 4294967295 < ver
 ·rw [if_pos g] at h; cases h
 ·rw [if_neg g] at h
  by_cases g2 : 524240 < n
  ·rw [if_pos g2] at h; cases h
  ·omega
theorem head_none {bs : List Int} : ∀ (m x : Nat), x + m ≤ bs.length → (∀ y, x ≤ y → y < x + m → mayB y (bs.getD y 0) = true) → headW bs m x = none
 | 0, x, _, _ => rfl
 | m + 1, x, h1, h2 => by
  unfold headW
  rw [if_neg (by omega), if_pos (h2 x (by omega) (by omega))]
  exact head_none m (x + 1) (by omega) fun y a b => h2 y (by omega) (by omega)
structure Made (bs : List Int) (slot key ver : Int) (pay t : List Int) : Prop where
 fine : parseW bs = (0, 0)
 atSlot : bs.getD 5 0 = slot
 atKey : bs.getD 6 0 = key
 atVer : num4 bs 8 = ver
 n : num4 bs 12 = pay.length
 len : bs.length = 48 + pay.length
 body : bs.take (bs.length - 32) = coverM slot key ver pay
 tag : (bs.drop (bs.length - 32)).take 32 = t
 load : (bs.drop 16).take pay.length = pay
 tag2 : (bs.drop (16 + pay.length)).take 32 = t
theorem made {slot key ver : Int} {pay t : List Int} (h : may11 slot key ver pay.length = 0) (ht : t.length = 32) : Made (coverM slot key ver pay ++ t) slot key ver pay t := by
 obtain ⟨h1, h2, h3, h4⟩ := may11_ok h
 have hlen : (coverM slot key ver pay ++ t).length = 48 + pay.length := by rw [List.length_append, coverM_len, ht]; omega
 have hc := coverM_len slot key ver pay
 have e5 : (coverM slot key ver pay ++ t).getD 5 0 = slot := by
  rw [made_list]; show IntKind.u8.wrap slot = slot; rw [IntKind.wrap_u8]; omega
 have e6 : (coverM slot key ver pay ++ t).getD 6 0 = key := by
  rw [made_list]; show IntKind.u8.wrap key = key; rw [IntKind.wrap_u8]; omega
 have e8 : num4 (coverM slot key ver pay ++ t) 8 = ver := by
  rw [made_list]; exact four_val h3.1 h3.2
 have e12 : num4 (coverM slot key ver pay ++ t) 12 = (pay.length : Int) := by
  rw [made_list]; exact four_val (by omega) (by omega)
 refine ⟨?_, e5, e6, e8, e12, hlen, ?_, ?_, ?_, ?_⟩
 ·unfold parseW
  rw [if_neg (by omega), head_none 16 0 (by omega) ?_]
  ·dsimp only
   rw [e12, if_neg (by omega), if_neg (by omega), if_neg (by omega)]
  ·intro y _ hy
   have : y = 0 ∨ y = 1 ∨ y = 2 ∨ y = 3 ∨ y = 4 ∨ y = 5 ∨ y = 6 ∨ y = 7 ∨ 8 ≤ y := by omega
   rcases this with rfl | rfl | rfl | rfl | rfl | rfl | rfl | rfl | g
   ·rw [made_list]; rfl
   ·rw [made_list]; rfl
   ·rw [made_list]; rfl
   ·rw [made_list]; rfl
   ·rw [made_list]; rfl
   ·rw [e5]; show decide (slot < 8) = true; rw [decide_eq_true_iff]; omega
   ·rw [e6]; show decide (key < 64) = true; rw [decide_eq_true_iff]; omega
   ·rw [made_list]; rfl
   ·unfold mayB; rw [if_neg (by omega), if_neg (by omega), if_neg (by omega), if_neg (by omega), if_neg (by omega)]
 ·rw [hlen, show 48 + pay.length - 32 = (coverM slot key ver pay).length by omega, List.take_left']
  rfl
 ·rw [hlen, show 48 + pay.length - 32 = (coverM slot key ver pay).length by omega, List.drop_left', List.take_of_length_le (by omega)]
  rfl
 ·rw [made_list]
  show (pay ++ t).take pay.length = pay
  rw [List.take_left']; rfl
 ·rw [← hc, List.drop_left', List.take_of_length_le (by omega)]
  rfl
theorem new_dist {L : List Sec} (h : newM L = none) {t : Nat} (ht : t < L.length) : badM (L.take t) L[t] = 0 := by
 have h64 : ¬ 64 < L.length := fun y => by unfold newM at h; rw [if_pos y] at h; cases h
 have hg : goM L L.length = none := by unfold newM at h; rw [if_neg h64] at h; exact h
 have all : ∀ t, t ≤ L.length → goM L (L.length - t) = none := by
  intro t
  induction t with
  | zero => intro _; exact hg
  | succ t ih =>
   intro hl
   have := ih (by omega)
   rw [goM_at L (by omega)] at this
   by_cases e : badM (L.take t) L[t] = 0
   ·rw [if_pos e] at this; exact this
   ·rw [if_neg e] at this; cases this
 have := all t (by omega)
 rw [goM_at L ht] at this
 by_cases e : badM (L.take t) L[t] = 0
 ·exact e
 ·rw [if_neg e] at this; cases this
theorem find_new {L : List Sec} (h : newM L = none) {t : Nat} (ht : t < L.length) : L.find? (fun z => z.1 == L[t].1) = some L[t] := by
 have b := new_dist h ht
 unfold badM at b
 have hn : (L.take t).find? (fun x => x.1 == L[t].1) = none := by
  cases e : (L.take t).find? (fun x => x.1 == L[t].1) with
  | none => rfl
  | some w =>
   rw [e] at b
   (repeat' split at b) <;> first | exact absurd b (by decide) | (rename_i z; exact absurd rfl z)
 have : L = L.take t ++ (L[t] :: L.drop (t + 1)) := by rw [← List.drop_eq_getElem_cons ht, List.take_append_drop]
 have e2 : ∀ x : Sec, (L.take t ++ (x :: L.drop (t + 1))).find? (fun z => z.1 == x.1) = if ((L.take t).find? (fun z => z.1 == x.1)) = none then some x else (L.take t).find? (fun z => z.1 == x.1) := by
  intro x
  rw [List.find?_append]
  cases e : (L.take t).find? (fun z => z.1 == x.1) with
  | none => simp
  | some w => simp
 have e3 := e2 L[t]
 rw [← this, if_pos hn] at e3
 exact e3
theorem made_hands {C : Cm} {L : List Sec} {slot ver : Int} {pay : List Int} (ho : C.out = false) (hL : newM L = none) {t : Nat} (ht : t < L.length) (h : may11 slot L[t].1 ver pay.length = 0) :
  gateM C L (coverM slot L[t].1 ver pay ++ macM L[t].2 (coverM slot L[t].1 ver pay)) = 0 ↔ (sRead C slot).2 = 0 ∧ (revokedM C L[t].1).2 = 0 ∧ (revokedM C L[t].1).1 = false ∧ (sRead C slot).1 ≤ ver ∧ ver ≤ lastM C.cfg := by
 have M := made (t := macM L[t].2 (coverM slot L[t].1 ver pay)) h (macM_len _ _)
 obtain ⟨h1, h2, _, _⟩ := may11_ok h
 have ho' : ¬ C.out = true := by rw [ho]; decide
 unfold gateM
 rw [if_neg ho', M.fine, M.atSlot, M.atKey, M.atVer, M.body, M.tag, if_neg (by decide), find_new hL ht, sread_err ho' h1.1, revoked_err ho' h2.1]
 dsimp only
 by_cases g1 : C.cfg.slots ≤ slot
 ·rw [if_pos g1, if_pos g1]
  constructor
  ·intro y; exact absurd y (by decide)
  ·intro y; exact absurd y.1 (by decide)
 rw [if_neg g1, if_neg g1]
 by_cases g2 : C.cfg.keys ≤ L[t].1
 ·rw [if_pos g2, if_pos g2]
  constructor
  ·intro y; exact absurd y (by decide)
  ·intro y; exact absurd y.2.1 (by decide)
 rw [if_neg g2, if_neg g2]
 by_cases g3 : (revokedM C L[t].1).1 = true
 ·rw [if_pos g3]
  constructor
  ·intro y; exact absurd y (by decide)
  ·intro y; rw [g3] at y; exact absurd y.2.2.1 (by decide)
 rw [if_neg g3, if_neg (fun y => y rfl)]
 by_cases g4 : ver < (sRead C slot).1
 ·rw [if_pos g4]
  constructor
  ·intro y; exact absurd y (by decide)
  ·intro y; omega
 rw [if_neg g4]
 by_cases g5 : lastM C.cfg < ver
 ·rw [if_pos g5]
  constructor
  ·intro y; exact absurd y (by decide)
  ·intro y; omega
 rw [if_neg g5]
 refine ⟨fun _ => ⟨rfl, rfl, by simpa using g3, by omega, by omega⟩, fun _ => rfl⟩
section
variable {h0 h : H} {A : List Ent} {i j p r b s m : Nat} {C : Cm}
theorem ifour_sp {Q : Option Addr → Nat → Nat → H → Prop} {q : Option Addr} {l c : Nat} {xs : List Int} (v : Int) (hs : Sat h0 A h) (a : At A i (slE q l c 1 (ints .u8 xs))) (hl : l < 2 ^ 45)
  (k : ∀ p' c' h', Sat h0 (put A i (slE p' (l + 4) c' 1 (ints .u8 (xs ++ fourL v 4)))) h' → Q p' (l + 4) c' h') : F_image_four q l c v Q h := by
 unfold F_image_four G_image_four
 refine ⟨by decide, by decide, by decide, ?_⟩
 intro nb _ hn; replace hs := Sat.new hs hn; clear hn
 rw [fourL_all] at k
 refine ⟨_, hs.bv (i := 0) (l := 4) .z rfl (ints_one .u8 [_, _, _, _]), ?_⟩
 refine Sat.app hs (i := i + 1) a.s rfl rfl (ints_one .u8 [_, _, _, _]) (by omega) ?_
 intro p3 c3 h3 hs
 simp only [put_succ] at hs
 refine k _ _ _ ?_
 rw [ints_app]
 exact hs.drop
theorem imake_sp {Q : Option Addr → Nat → Nat → Int → H → Prop} {slot key ver : Int} {sec pay tag : List Int} {sp pp : Option Addr} {sl sc pl pc : Nat} (hs : Sat h0 A h) (ht : tag.length = 32) (hsl : sl < 2 ^ 60) (hsc : sl ≤ sc) (hp : pl < 2 ^ 60)
  (rs : ∀ h', Sat h0 A h' → hsv h' sp 1 sl (ints .u8 sec)) (rd : ∀ h', Sat h0 A h' → hsv h' pp 1 pl (ints .u8 pay))
  (k1 : ∀ e, e = may11 slot key ver pl → e ≠ 0 → ∀ h', Sat h0 A h' → Q none 0 0 e h')
  (k2 : may11 slot key ver pl = 0 → ∀ p' c' h', Sat h0 (slE p' (48 + pl) c' 1 (ints .u8 (coverM slot key ver pay ++ macM sec (coverM slot key ver pay))) :: A) h' → 48 + pl ≤ c' → Q p' (48 + pl) c' 0 h') : F_image_Make sp sl sc slot key ver pp pl pc tag Q h := by
 unfold F_image_Make G_image_Make
 try simp only [add_mk, Nat.zero_add, List.append_nil]
 have hpl : pay.length = pl := by have := (rd _ hs).1; simpa using this
 intro n14 _ hn; replace hs := Sat.new hs hn; clear hn
 replace hs : Sat h0 (blk n14 (imgL slot key ver (pp, pl, pc) tag) :: A) _ := hs
 intro J17 hJ17
 obtain ⟨G, hG⟩ : ∃ G : Prop, G = (slot < 0 ∨ 7 < slot ∨ key < 0 ∨ 63 < key ∨ ver < 0 ∨ 4294967295 < ver) := ⟨_, rfl⟩
 have bad : G → J17 [.dv (.one (.bool true))] ‹H› := by
  intro g
  apply hJ17
  rw [if_pos rfl]
  exact k1 2 (by unfold may11; rw [if_pos (by rw [← hG]; exact g)]) (by decide) _ hs.drop
 refine ⟨_, hs.ld (i := 0) .z rfl, ?_⟩
 rw [ltI_eq]
 by_cases g1 : slot < 0
 ·rw [if_pos (by simpa using g1)]; exact bad (by rw [hG]; omega)
 rw [if_neg (by simpa using g1)]
 refine ⟨_, hs.ld (i := 0) .z rfl, ?_⟩
 rw [leI_eq]
 by_cases g2 : 8 ≤ slot
 ·rw [if_pos (by simpa using g2)]; exact bad (by rw [hG]; omega)
 rw [if_neg (by simpa using g2)]
 refine ⟨_, hs.ld (i := 0) .z rfl, ?_⟩
 rw [ltI_eq]
 by_cases g3 : key < 0
 ·rw [if_pos (by simpa using g3)]; exact bad (by rw [hG]; omega)
 rw [if_neg (by simpa using g3)]
 refine ⟨_, hs.ld (i := 0) .z rfl, ?_⟩
 rw [leI_eq]
 by_cases g4 : 64 ≤ key
 ·rw [if_pos (by simpa using g4)]; exact bad (by rw [hG]; omega)
 rw [if_neg (by simpa using g4)]
 refine ⟨_, hs.ld (i := 0) .z rfl, ?_⟩
 rw [ltI_eq]
 by_cases g5 : ver < 0
 ·rw [if_pos (by simpa using g5)]; exact bad (by rw [hG]; omega)
 rw [if_neg (by simpa using g5)]
 refine ⟨_, hs.ld (i := 0) .z rfl, ?_⟩
 intro v83 hv
 subst hv
 rw [leI_eq]
 by_cases g6 : 4294967296 ≤ ver
 ·rw [decide_eq_true g6]; exact bad (by rw [hG]; omega)
 rw [decide_eq_false g6]
 clear bad
 apply hJ17
 clear hJ17
 rw [if_neg (by decide)]
 have hm : may11 slot key ver pl = if 524240 < pl then 4 else 0 := by unfold may11; rw [if_neg (by omega)]
 refine ⟨_, _, _, hs.ld (i := 0) .z rfl, ?_⟩
 dsimp only
 rw [ltI_eq]
 by_cases g7 : 524240 < pl
 ·rw [if_pos (by rw [decide_eq_true_iff]; omega)]
  exact k1 4 (by rw [hm, if_pos g7]) (by decide) _ hs.drop
 rw [if_neg (by rw [decide_eq_true_iff]; omega)]
 rw [if_neg g7] at hm
 refine ⟨_, _, _, hs.ld (i := 0) .z rfl, ?_⟩
 dsimp only
 have ew : IntKind.i64.wrap (IntKind.i64.wrap (16 + (pl : Int)) + 32) = ((48 + pl : Nat) : Int) := by rw [wrap_id (n := 16 + (pl : Int)) (by omega), wrap_id (by omega)]; push_cast; omega
 rw [ew, Int.toNat_natCast]
 refine ⟨by decide, by omega, by omega, by omega, ?_⟩
 intro n26 _ hn; replace hs := Sat.new hs hn; clear hn
 replace hs := as_sl0 hs (i := 0) (c := 48 + pl) (sz := 1) .z (by simp)
 simp only [put_zero] at hs
 refine Sat.app hs (i := 0) (vs := ints .u8 [80, 67, 85, 76]) .z rfl rfl (ints_one _ _) (by omega) ?_
 intro p1 c1 h1 hs
 simp only [put_zero, List.nil_append, Nat.zero_add] at hs ⊢
 refine ⟨_, hs.ld (i := 1) (.s .z) rfl, _, hs.ld (i := 1) (.s .z) rfl, ?_⟩
 intro n35 _ hn; replace hs := Sat.new hs hn; clear hn
 refine ⟨_, hs.bv (i := 0) (l := 4) .z rfl (ints_one .u8 [1, IntKind.u8.wrap slot, IntKind.u8.wrap key, 0]), ?_⟩
 refine Sat.app hs (i := 1) (vs := ints .u8 [1, IntKind.u8.wrap slot, IntKind.u8.wrap key, 0]) (.s .z) rfl rfl (ints_one _ _) (by omega) ?_
 intro p2 c2 h2 hs
 simp only [put_succ, put_zero] at hs
 rw [← ints_app] at hs
 replace hs := hs.drop
 refine ⟨_, hs.ld (i := 1) (.s .z) rfl, ?_⟩
 refine ifour_sp ver hs (i := 0) .z (by omega) ?_
 intro p3 c3 h3 hs
 simp only [put_zero] at hs
 refine ⟨_, _, _, hs.ld (i := 1) (.s .z) rfl, ?_⟩
 dsimp only
 refine ifour_sp (pl : Int) hs (i := 0) .z (by omega) ?_
 intro p4 c4 h4 hs
 simp only [put_zero] at hs
 refine ⟨_, _, _, hs.ld (i := 1) (.s .z) rfl, _, rd _ hs.drop.drop, ?_⟩
 refine Sat.app hs (i := 0) (vs := ints .u8 pay) .z (by simp [hpl]) rfl (ints_one _ _) (by dsimp only; omega) ?_
 intro p5 c5 h5 hs
 simp only [put_zero] at hs
 rw [← ints_app] at hs
 have ec : [80, 67, 85, 76] ++ [1, IntKind.u8.wrap slot, IntKind.u8.wrap key, 0] ++ fourL ver 4 ++ fourL (pl : Int) 4 ++ pay = coverM slot key ver pay := by unfold coverM; rw [hpl]; rfl
 rw [ec] at hs
 have hc5 := capS hs (i := 0) .z
 refine MacOf_sp (key := sec) (b := coverM slot key ver pay) hs hsc hsl hc5 (by dsimp only; omega) (fun h' hs' => rs _ hs'.drop.drop) (fun h' hs' => hs'.sv (i := 0) .z) ?_
 intro h6 hs
 intro n65 _ hn; replace hs := Sat.new hs hn; clear hn
 refine ⟨Sat.can hs (i := 0) .z (by simp [zeros]), ?_⟩
 intro h7 e7
 replace hs := Sat.wra (xs := ints .u8 (macM sec (coverM slot key ver pay))) hs (i := 0) .z e7 (by simp [zeros, macM_len])
 clear e7
 simp only [put_zero] at hs
 have R := subRd (o := 0) (n := 32) (m := 32) (hs.bv (i := 0) (l := 32) .z (by simp [macM_len]) (ints_one .u8 (macM sec (coverM slot key ver pay)))) (by omega) (by omega)
 rw [List.drop_zero, List.take_of_length_le (by simp [macM_len])] at R
 refine ⟨_, R, ?_⟩
 refine Sat.app hs (i := 1) (vs := ints .u8 (macM sec (coverM slot key ver pay))) (.s .z) (by simp [macM_len]) rfl (ints_one _ _) (by omega) ?_
 intro p8 c8 h8 hs
 simp only [put_succ, put_zero] at hs
 rw [← ints_app] at hs
 have hc8 := capS hs (i := 1) (.s .z)
 have K := k2 hm p8 c8 h8
 rw [show 48 + pl = 4 + 4 + 4 + 4 + pl + 32 by omega] at K
 exact K (hs.sub (by (repeat (first | exact List.Sublist.refl _ | apply List.Sublist.cons_cons | apply List.Sublist.cons)))) hc8
end
end Go.Proofs.YtaglicdidpgkpaaGreatDoor
end

/- GateHands. Own work. -/
section
set_option maxRecDepth 100000
set_option linter.unusedVariables false
namespace Go.Proofs.YtaglicdidpgkpaaGreatDoor
open Go Go.Vc
attribute [local irreducible] macM gateM

section
variable {h0 h : H} {A : List Ent} {i j p r b s m : Nat} {C : Cm}
theorem GateHands_sp {Q : Bool → H → Prop} (hg : hc h0 ⟨0, 0, none⟩ = some errTypeV) {a_ b_ c' : Sl} {s : St} {X : List SR} {lp pp : Option Addr} {ll lc pl pc : Nat} {pay tag : List Int} (c : Cfg) (slot key0 ver : Int) (rd0 : RdS h0 a_ b_ c' s) (ty : s.typed) (rl : SecsAt h0 lp ll X) (hll : ll < 2 ^ 47) (rc : ∀ i (hi : i < X.length), X[i].bytes.length ≤ X[i].c)
  (rp0 : hsv h0 pp 1 pl (ints .u8 pay)) (hpb : isBy pay) (hpl : pl < 2 ^ 50) (ht : tag.length = 32) (k : ∀ h', Sat h0 [] h' → Q true h') :
  F_portcullislaw13_GateHands c.cells c.slots c.fuses c.step c.keys c.erases c.area a_.1 a_.2.1 a_.2.2 b_.1 b_.2.1 b_.2.2 c'.1 c'.2.1 c'.2.2 lp ll lc slot key0 ver pp pl pc tag Q h0 := by
 unfold F_portcullislaw13_GateHands G_portcullislaw13_GateHands
 try simp only [add_mk, Nat.zero_add, List.append_nil]
 have hs := Sat.init h0
 have epl : pay.length = pl := by have := rp0.1; simpa using this
 intro n41 _ hn; replace hs := Sat.new hs hn; clear hn
 replace hs : Sat h0 [blk n41 (scnV c a_ b_ c' lp ll lc)] _ := hs
 intro n42 _ hn; replace hs := Sat.new hs hn; clear hn
 replace hs : Sat h0 [blk n42 (imgL slot key0 ver (pp, pl, pc) tag), blk n41 (scnV c a_ b_ c' lp ll lc)] _ := hs
 refine awake13_sp hg hs ?_
 intro h1 hs
 rw [if_neg (by decide)]
 (repeat first | refine ⟨_, Sat.ld hs (by (repeat (first | exact At.z | apply At.s))) (by rfl), ?_⟩ | refine ⟨_, _, _, Sat.ld hs (by (repeat (first | exact At.z | apply At.s))) (by rfl), ?_⟩ | (intro _ _ hn; replace hs := Sat.new hs hn; clear hn) | refine ⟨Sat.cs hs (by (repeat (first | exact At.z | apply At.s))) (by rfl), ?_⟩ | (refine ⟨Sat.can hs (by (repeat (first | exact At.z | apply At.s))) (by simp), ?_⟩; intro _ e; replace hs := Sat.wr hs (by (repeat (first | exact At.z | apply At.s))) e; clear e; simp only [put, splice, List.set] at hs))
 refine scene13_sp (a_ := a_) (b_ := b_) (c' := c') (s := s) (X := X) c hs (fun h' hs' => rd0.ext hs'.ex) ty rl hll ?_ ?_
 ·intro nok h2 hs
  (repeat first | refine ⟨_, Sat.ld hs (by (repeat (first | exact At.z | apply At.s))) (by rfl), ?_⟩ | refine ⟨_, _, _, Sat.ld hs (by (repeat (first | exact At.z | apply At.s))) (by rfl), ?_⟩ | (intro _ _ hn; replace hs := Sat.new hs hn; clear hn) | refine ⟨Sat.cs hs (by (repeat (first | exact At.z | apply At.s))) (by rfl), ?_⟩ | (refine ⟨Sat.can hs (by (repeat (first | exact At.z | apply At.s))) (by simp), ?_⟩; intro _ e; replace hs := Sat.wr hs (by (repeat (first | exact At.z | apply At.s))) e; clear e; simp only [put, splice, List.set] at hs))
  refine may13_sp (a_ := a_) (b_ := b_) (c' := c') (s := s) (X := X) c hs (fun h' hs' => rd0.ext hs'.ex) ty rl hll ?_ (fun y => absurd y nok)
  intro _ o o' h3 hs
  rw [if_neg (by decide), if_pos (by decide)]
  exact k _ hs.nil
 intro ok pc0 st lg rp mp R h2 eR gR hs
 obtain ⟨T, hT⟩ : ∃ T : List Ent, T = [blk n41 (scnV c a_ b_ c' lp ll lc)] := ⟨_, rfl⟩
 obtain ⟨y5, b5⟩ : ∃ x, At (chipE pc0 (layC c s) :: storeE st pc0 lg :: logE lg pc0 :: (ringP rp mp R ++ [blk n42 (imgL slot key0 ver (pp, pl, pc) tag), blk n41 (scnV c a_ b_ c' lp ll lc)])) x (blk n41 (scnV c a_ b_ c' lp ll lc)) := At.mem (by simp)
 refine ⟨_, hs.ld b5 rfl, _, hs.ld b5 rfl, _, hs.ld b5 rfl, _, hs.ld b5 rfl, _, hs.ld b5 rfl, _, hs.ld b5 rfl, _, hs.ld b5 rfl, _, _, _, hs.ld b5 rfl, _, _, _, hs.ld b5 rfl, _, _, _, hs.ld b5 rfl, _, _, _, hs.ld b5 rfl, ?_⟩
 refine may13_sp (a_ := a_) (b_ := b_) (c' := c') (s := s) (X := X) c hs (fun h' hs' => rd0.ext hs'.ex) ty rl hll (fun nok => absurd ok nok) ?_
 intro _ pr rr lp' lc' R2 h3 eR2 gR2 lR2 hs
 rw [if_neg (by decide), if_neg (by decide)]
 clear b5 y5
 have hnew := ok.2.2
 clear ok
 -- the entities that stay
 replace hs : Sat h0 (chipE pc0 (layC c s) :: blk n42 (imgL slot key0 ver (pp, pl, pc) tag) :: storeE st pc0 lg :: logE lg pc0 :: (ringP rp mp R ++ [blk n41 (scnV c a_ b_ c' lp ll lc)])) h3 := by
  replace hs := hs.sub (B := chipE pc0 (layC c s) :: storeE st pc0 lg :: logE lg pc0 :: (ringP rp mp R ++ [blk n42 (imgL slot key0 ver (pp, pl, pc) tag), blk n41 (scnV c a_ b_ c' lp ll lc)])) ((List.sublist_append_right _ _).trans (List.sublist_cons_self _ _))
  refine hs.perm (List.Perm.cons _ ?_)
  have q1 : (ringP rp mp R ++ [blk n42 (imgL slot key0 ver (pp, pl, pc) tag), blk n41 (scnV c a_ b_ c' lp ll lc)]).Perm (blk n42 (imgL slot key0 ver (pp, pl, pc) tag) :: (ringP rp mp R ++ [blk n41 (scnV c a_ b_ c' lp ll lc)])) := List.perm_middle
  exact ((q1.cons _).cons _).trans (((List.Perm.swap _ _ _).cons _).trans (List.Perm.swap _ _ _))
 obtain ⟨RR, hRR⟩ : ∃ RR, RR = ringP rp mp R ++ [blk n41 (scnV c a_ b_ c' lp ll lc)] := ⟨_, rfl⟩
 rw [← hRR] at hs
 obtain ⟨x3, a3⟩ : ∃ x, At RR x (blk rp [.map (some mp)]) := At.mem (by rw [hRR]; simp)
 obtain ⟨x4, a4⟩ : ∃ x, At RR x (mapE mp (R.map SR.ent)) := At.mem (by rw [hRR]; simp)
 obtain ⟨x5, a5⟩ : ∃ x, At RR x (blk n41 (scnV c a_ b_ c' lp ll lc)) := At.mem (by rw [hRR]; simp)
 have r1 : ∀ x, x ∈ R → ∃ y, At RR y x.sl := fun x hx => At.mem (by rw [hRR]; exact List.mem_append_left _ (List.mem_cons_of_mem _ (List.mem_cons_of_mem _ (List.mem_map_of_mem hx))))
 clear hRR
 obtain ⟨C, hC⟩ : ∃ C, C = layC c s := ⟨_, rfl⟩
 have ho : C.out = false := by rw [hC]; rfl
 rw [← hC] at hs
 clear hC
 obtain ⟨L, hL⟩ : ∃ L, L = X.map SR.kv := ⟨_, rfl⟩
 rw [← hL] at eR hnew
 refine ⟨_, _, _, hs.ld a5.s.s.s.s rfl, ?_⟩
 have lX : ll = X.length := rl.1
 intro J97 hJ97
 refine loop_up ll (fun t h => ∃ ky, Sat h0 (chipE pc0 C :: blk n42 (imgL slot ky ver (pp, pl, pc) tag) :: storeE st pc0 lg :: logE lg pc0 :: RR) h) ?_ ?_ 0 _ (by omega) ⟨_, hs⟩
 case refine_2 =>
  clear hs
  rintro h4 ⟨ky, hs⟩
  apply hJ97
  rw [ltI_eq, if_neg (by rw [decide_eq_true_iff]; omega)]
  exact k _ hs.nil
 clear hs
 rintro t h4 htt ⟨ky0, hs⟩ hk
 apply hJ97
 clear hJ97
 rw [ltI_eq, if_pos (by rw [decide_eq_true_iff]; omega)]
 obtain ⟨q, hq, g0, g1, g2, g3, g4⟩ := rl.2 t (by omega)
 have g5 := rc t (by omega)
 have hLt : t < L.length := by rw [hL, List.length_map]; omega
 have eL : L[t] = (X[t].key, X[t].bytes) := by simp [hL]
 obtain ⟨x, hx⟩ : ∃ x, x = X[t]'(by omega) := ⟨_, rfl⟩
 rw [← hx] at g0 g1 g2 g3 g4 g5 eL
 clear hx
 have g6 : x.bytes.length ≤ 256 := by
  have := new_dist hnew hLt
  rw [eL] at this
  unfold badM at this
  dsimp only at this
  (repeat' split at this) <;> first | exact absurd this (by decide) | omega
 refine ⟨q, hq, by omega, by omega, ?_⟩
 simp only [Int.toNat_natCast]
 refine ⟨_, hc_ext hs.ex g0 (fun y => y), _, _, _, hc_ext hs.ex g1 (fun y => y), ?_⟩
 intro n105 _ hn; replace hs := Sat.new hs hn; clear hn
 refine ⟨Sat.can hs (i := 0) .z (by simp), ?_⟩
 intro h5 e5
 replace hs := Sat.wra (xs := [.int .i64 x.key, .slice x.p x.bytes.length x.c]) hs (i := 0) .z e5 rfl
 clear e5
 simp only [put_zero] at hs
 refine ⟨_, hs.ld (i := 0) .z rfl, Sat.can hs (i := 2) (.s (.s .z)) (by rw [img_len ht]; decide), ?_⟩
 intro h6 e6
 replace hs := Sat.wr hs (i := 2) (.s (.s .z)) e6
 clear e6
 simp only [put_succ, put_zero] at hs
 have esp : splice (imgL slot ky0 ver (pp, pl, pc) tag) 1 [Value.int .i64 x.key] = imgL slot x.key ver (pp, pl, pc) tag := rfl
 rw [esp] at hs
 refine ⟨_, _, _, hs.ld (i := 0) .z rfl, _, hs.ld (i := 2) (.s (.s .z)) rfl, _, hs.ld (i := 2) (.s (.s .z)) rfl, _, hs.ld (i := 2) (.s (.s .z)) rfl, _, _, _, hs.ld (i := 2) (.s (.s .z)) rfl, tag, ht, img_row hs (.s (.s .z)) ht, ?_⟩
 refine imake_sp (sec := x.bytes) (pay := pay) hs ht (by omega) g5 (by dsimp only; omega) (fun h' hs' => hs'.base g2) (fun h' hs' => hs'.base rp0) ?_ ?_
 ·intro e he hne h7 hs
  rw [if_pos (by simpa using hne)]
  refine ⟨_, hs.ld (i := 2) (.s (.s .z)) rfl, _, hs.ld (i := 2) (.s (.s .z)) rfl, _, hs.ld (i := 2) (.s (.s .z)) rfl, _, _, _, hs.ld (i := 2) (.s (.s .z)) rfl, tag, ht, img_row hs (.s (.s .z)) ht, ?_⟩
  refine rmay11_sp hs ?_
  intro h8 hs
  rw [he]
  dsimp only
  rw [beq_self_eq_true]
  exact k _ hs.nil
 intro hm pm cm h7 hs hcm
 dsimp only at hm hs hcm ⊢
 rw [if_neg (by decide)]
 have hm' : may11 slot L[t].1 ver pay.length = 0 := by rw [eL, epl]; exact hm
 have MH := made_hands ho hnew hLt hm'
 have MD := made (t := macM x.bytes (coverM slot x.key ver pay)) (by rw [epl]; exact hm) (macM_len _ _)
 rw [eL] at MH
 dsimp only at MH
 obtain ⟨bs, hbs⟩ : ∃ bs, bs = coverM slot x.key ver pay ++ macM x.bytes (coverM slot x.key ver pay) := ⟨_, rfl⟩
 rw [← hbs] at MH MD hs
 have hbb : bytesOk bs := by
  intro v hv
  rw [hbs] at hv
  rcases List.mem_append.1 hv with hv | hv
  ·exact cover_by hpb v hv
  ·exact isBy_mac _ _ v hv
 clear hbs
 have hpl2 := (may11_ok hm).2.2.2
 refine ⟨_, hs.ld (i := 3) (.s (.s (.s .z))) rfl, _, rfl, ?_⟩
 refine sRead_sp hs (i := 2) (.s (.s .z)) (j := 5) (.s (.s (.s (.s (.s .z))))) (m := 4) (.s (.s (.s (.s .z)))) slot ?_
 intro h8 hs
 refine ⟨_, hs.ld (i := 3) (.s (.s (.s .z))) rfl, _, rfl, ?_⟩
 refine sRevoked_sp hs (i := 2) (.s (.s .z)) (m := 4) (.s (.s (.s (.s .z)))) x.key ?_
 intro h9 hs J147 hJ147
 obtain ⟨B, hB⟩ : ∃ B : Bool, B = decide (gateM C L bs = 0) := ⟨_, rfl⟩
 have go : ∀ h', Sat h0 (slE pm (48 + pl) cm 1 (ints .u8 bs) :: blk n105 [.int .i64 x.key, .slice x.p x.bytes.length x.c] :: chipE pc0 C :: blk n42 (imgL slot x.key ver (pp, pl, pc) tag) :: storeE st pc0 lg :: logE lg pc0 :: RR) h' → J147 [.dv (.one (.bool B))] h' := by
  clear hs
  intro h10 hs
  apply hJ147
  clear hJ147
  refine ⟨_, rfl, _, rfl, ?_⟩
  refine gateN_sp (L := L) (bs := bs) hg hs (i := 2) (.s (.s .z)) (.s (.s (.s (.s (.s .z))))) (.s (.s (.s (.s .z)))) a3.s.s.s.s.s.s a4.s.s.s.s.s.s eR gR (fun x hx => ⟨_, (r1 x hx).choose_spec.s.s.s.s.s.s⟩) (fun h' hs' => hs'.sv (i := 0) .z) hbb hcm (by omega) ?_
  intro n2 E2 sl2 ky2 vr2 x2 t2 h11 tl2 im2 hs
  generalize gateM C L bs = G at *
  rw [if_neg (by rw [hB]; by_cases g : G = 0 <;> simp [g])]
  by_cases g : G = 0
  case neg =>
   rw [if_neg (by rw [hB]; simp [g])]
   rw [wrap_succ (by omega)]
   exact ⟨hk _ ⟨_, hs.drop.drop.drop.drop⟩, hk _ ⟨_, hs.drop.drop.drop.drop⟩⟩
  rw [if_pos (by rw [hB]; simp [g])]
  obtain ⟨w1, w2, w3, own, n, w4, w5, w6, w7, w8⟩ := im2 g
  rw [MD.atSlot] at w1
  rw [MD.atKey] at w2
  rw [MD.atVer] at w3
  have en : n = pay.length := by have := MD.n; omega
  subst en
  rw [MD.tag2] at w7
  rw [w1, w2, w3] at hs
  subst w6 w7 w8
  clear w1 w2 w3
  refine ⟨_, hs.ld (i := 0) .z rfl, _, hs.ld (i := 5) (.s (.s (.s (.s (.s .z))))) rfl, ?_⟩
  rw [if_neg (by simp)]
  refine ⟨_, hs.ld (i := 0) .z rfl, _, hs.ld (i := 5) (.s (.s (.s (.s (.s .z))))) rfl, ?_⟩
  rw [if_neg (by simp)]
  refine ⟨_, hs.ld (i := 0) .z rfl, _, hs.ld (i := 5) (.s (.s (.s (.s (.s .z))))) rfl, ?_⟩
  rw [if_neg (by simp)]
  have hpy := payRd (hs.sv (i := 1) (.s .z)) w5
  rw [MD.load] at hpy
  refine ⟨_, _, _, hs.ld (i := 0) .z rfl, _, _, _, hs.ld (i := 5) (.s (.s (.s (.s (.s .z))))) rfl, ?_⟩
  have tail : ∃ (l180 : List Int), l180.length = 32 ∧ hrow h11 ⟨n2, 4, none⟩ .u8 l180 ∧ ∃ (o181 : Option Addr), ∃ (n182 : Nat), ∃ (n183 : Nat), hc h11 ⟨n105, 1, none⟩ = some (.slice o181 n182 n183) ∧ F_image_Body pm (48 + pl) cm (fun o184 n185 n186 h187 => hcs h187 ⟨n105, 1, none⟩ [.slice o181 n182 n183] ∧ hcs h187 ⟨n2, 4, none⟩ (ints .u8 l180) ∧
    F_portcullisref03_Of o181 n182 n183 o184 n185 n186 (fun l188 h189 => hcs h189 ⟨n2, 4, none⟩ (ints .u8 l180) ∧ if (!l180 == l188) = true then Q false h189 else J97 [.dv (.one (.int .i64 (IntKind.i64.wrap ((t : Int) + 1))))] h189) h187) h11 := by
   refine ⟨_, tl2, img_row hs (i := 0) .z tl2, _, _, _, hs.ld (i := 3) (.s (.s (.s .z))) rfl, ?_⟩
   refine ibody_sp (bs := bs) hs (hs.sv (i := 2) (.s (.s .z))) (by omega) hcm (by omega) ?_
   intro p' c2 h12 hc2 hs
   refine ⟨Sat.cs hs (i := 4) (.s (.s (.s (.s .z)))) rfl, Sat.cs hs (i := 1) (.s .z) (by rw [List.take_of_length_le (by simp [tl2])]; rfl), ?_⟩
   refine rmac_sp (key := x.bytes) (b := bs.take (48 + pl - 32)) hs g3 (fun v hv => hbb v (List.mem_of_mem_take hv)) (by omega) (by omega) (fun h' hs' => hs'.base g2) (fun h' hs' => hs'.sv (i := 0) .z) ?_
   intro h13 hs
   refine ⟨Sat.cs hs (i := 1) (.s .z) (by rw [List.take_of_length_le (by simp [tl2])]; rfl), ?_⟩
   have eb : bs.take (48 + pl - 32) = coverM slot x.key ver pay := by
    have := MD.body
    rw [MD.len, epl] at this
    exact this
   rw [eb, if_neg (by simp), wrap_succ (by omega)]
   exact hk _ ⟨_, hs.drop.drop.drop.drop.drop⟩
  have cs1 := Sat.cs hs (i := 5) (o := 3) (xs := [.slice pp pl pc]) (.s (.s (.s (.s (.s .z))))) rfl
  have cs2 := Sat.cs hs (i := 0) (o := 3) (xs := [.slice (subAddr own.1 16 (16 + pay.length) 1) pay.length pay.length]) .z rfl
  refine ⟨⟨_, hpy, cs1, _, hs.base rp0, ?_⟩, ⟨_, hs.base rp0, cs2, _, hpy, ?_⟩⟩
  ·rw [if_neg (by simp)]; exact tail
  ·rw [if_neg (by simp)]; exact tail
 clear hJ147
 have no : ¬ gateM C L bs = 0 → J147 [.dv (.one (.bool false))] h9 := by
  intro y
  have := go _ hs
  rw [hB, decide_eq_false y] at this
  exact this
 generalize gateM C L bs = G at *
 by_cases e1 : (sRead C slot).2 = 0
 case neg =>
  rw [if_neg (by simpa using e1)]
  exact no (fun y => e1 (MH.1 y).1)
 rw [if_pos (by simpa using e1)]
 by_cases e2 : (revokedM C x.key).2 = 0
 case neg =>
  rw [if_neg (by simpa using e2)]
  exact no (fun y => e2 (MH.1 y).2.1)
 rw [if_pos (by simpa using e2)]
 cases e3 : (revokedM C x.key).1 with
 | true =>
  rw [if_neg (by decide)]
  exact no (fun y => by have := (MH.1 y).2.2.1; rw [e3] at this; cases this)
 | false =>
  rw [if_pos (by decide)]
  refine ⟨_, hs.ld (i := 3) (.s (.s (.s .z))) rfl, ?_⟩
  rw [leI_eq]
  by_cases e4 : (sRead C slot).1 ≤ ver
  case neg =>
   rw [if_neg (by simpa using e4)]
   exact no (fun y => e4 (MH.1 y).2.2.2.1)
  rw [if_pos (by simpa using e4)]
  refine ⟨_, hs.ld (i := 3) (.s (.s (.s .z))) rfl, _, rfl, ?_⟩
  refine sLast_sp hs (i := 2) (.s (.s .z)) (m := 4) (.s (.s (.s (.s .z)))) ?_
  intro h10 hs
  refine ⟨Sat.cs hs (i := 3) (.s (.s (.s .z))) rfl, ?_⟩
  have eb : B = leI ver (lastM C.cfg) := by
   rw [hB, leI_eq]
   by_cases e5 : ver ≤ lastM C.cfg
   ·rw [decide_eq_true e5, decide_eq_true (MH.2 ⟨e1, e2, e3, e4, e5⟩)]
   ·rw [decide_eq_false e5, decide_eq_false (fun y => e5 (MH.1 y).2.2.2.2)]
  rw [← eb]
  exact go _ hs
end
end Go.Proofs.YtaglicdidpgkpaaGreatDoor
end

/- GateHands: what is made with a secret of the ring is handed off just if its slot and key are the chip's, the key isn't revoked, its version may be; for every input. -/
section
set_option maxRecDepth 100000
set_option linter.unusedVariables false
namespace Go.Proofs.YtaglicdidpgkpaaGreatDoor
open Go Go.Vc Go.ChangeShapes Go.WideShapes Go.ChangeAt Go.RowKit

theorem xImg : xsh PP 8 81 = some [.int .i64, .int .i64, .int .i64, .slc 5, .row .u8 32] := by kernel_rfl
theorem img_of {D : Type} {enc : TypeId × Value → D} {W : World} {v : Value} {base : Nat} (h : Rdt enc PP W 81 v.cells.toList) (ho : Value.okWide PP W .any base 81 v) :
  ∃ (slot key ver : Int) (p : Option Addr) (l c : Nat) (pay tag : List Int), v = .agg (imgL slot key ver (p, l, c) tag).toArray ∧ hsv W.heap p 1 l (ints .u8 pay) ∧ isBytes pay ∧ l + 4096 ≤ 2 ^ 47 ∧ tag.length = 32 := by
 have e := okw_agg (by kernel_rfl) ho
 obtain ⟨a, r1, e1, _, b, r2, rfl, _, c, r3, rfl, _, p, l, cc, r4, rfl, s1, tag, r5, rfl, t1, _, hr⟩ := Rdt.xm 8 _ _ _ xImg h
 simp only [XM] at hr
 subst hr
 obtain ⟨bs, b1, b2, b3, b4⟩ := bytes24_of s1
 refine ⟨a, b, c, p, l, cc, bs, tag, ?_, b1, b2, b4, t1⟩
 rw [e]
 congr 1
 rw [← Array.toArray_toList (xs := v.cells), e1, List.append_nil]

theorem GateHands_calls {D : Type} {enc : TypeId × Value → D} {W : World} {base : Nat} (hg : hc W.heap ⟨0, 0, none⟩ = some errTypeV) (vs : List Value) (h : ArgsOk enc PP W base [31, 81] vs) : CallsTrue PP 7 vs W := by
 obtain ⟨hl, h⟩ := h
 match vs, hl with
 | [v0, v1], _ =>
 obtain ⟨r0, w0⟩ := h 0 _ v0 rfl rfl
 obtain ⟨r1, w1⟩ := h 1 _ v1 rfl rfl
 obtain ⟨c, a, b, c', s, X, lp, ll, lc, rfl, rd, ty, _, rl, hll, rc⟩ := sceneC_of r0 w0
 obtain ⟨slot, key, ver, p, l, cc, pay, tag, rfl, b1, b2, b3, b4⟩ := img_of r1 w1
 have := R_portcullislaw13_GateHands [.agg [.c (.int .i64 c.cells), .c (.int .i64 c.slots), .c (.int .i64 c.fuses), .c (.int .i64 c.step), .c (.int .i64 c.keys), .c (.int .i64 c.erases), .c (.int .i64 c.area), .c a.v, .c b.v, .c c'.v, .c (.slice lp ll lc)], .agg [.c (.int .i64 slot), .c (.int .i64 key), .c (.int .i64 ver), .c (.slice p l cc), .row .u8 32 tag]] (fun rs h' => rs = [DV.one (.bool true)] ∧ Ext none_ W.heap h') W.heap (by
  intro x hx
  simp only [List.mem_cons, List.not_mem_nil, or_false] at hx
  rcases hx with rfl | rfl
  ·exact ok_scn c a b c' lp ll lc
  ·intro y hy
   simp only [List.mem_cons, List.not_mem_nil, or_false] at hy
   rcases hy with rfl | rfl | rfl | rfl | rfl
   ·rfl
   ·rfl
   ·rfl
   ·rfl
   ·exact b4) (by
  show F_portcullislaw13_GateHands c.cells c.slots c.fuses c.step c.keys c.erases c.area a.1 a.2.1 a.2.2 b.1 b.2.1 b.2.2 c'.1 c'.2.1 c'.2.2 lp ll lc slot key ver p l cc tag (fun b h' => [DV.one (.bool b)] = [DV.one (.bool true)] ∧ Ext none_ W.heap h') W.heap
  exact GateHands_sp hg c slot key ver rd ty rl hll rc b1 b2 (by omega) b4 fun h' x => ⟨rfl, x.ex⟩)
 have e : [DV.agg [.c (.int .i64 c.cells), .c (.int .i64 c.slots), .c (.int .i64 c.fuses), .c (.int .i64 c.step), .c (.int .i64 c.keys), .c (.int .i64 c.erases), .c (.int .i64 c.area), .c a.v, .c b.v, .c c'.v, .c (.slice lp ll lc)], .agg [.c (.int .i64 slot), .c (.int .i64 key), .c (.int .i64 ver), .c (.slice p l cc), .row .u8 32 tag]].map DV.flat = [.agg (scnV c a b c' lp ll lc).toArray, .agg (imgL slot key ver (p, l, cc) tag).toArray] := by
  simp [DV.flat, flats, Ch.flat]
 rw [e] at this
 exact this
theorem GateHands_lifted (os : Os) (started : os.Started) (D : Type) (enc : TypeId × Value → D) :
  ReturnsInHanded {} Tryz.checked os 7 .any (fun w args => (Rows.gateHandsSpec.pre enc Tryz.prog Tryz.f7 [] false w args ∧ laidMetH Tryz.prog laidL w) ∧ sizedMet enc Tryz.prog Tryz.f7 (OpenSpec.ofChange Rows.gateHandsSpec) false w args)
   (Rows.gateHandsSpec.post enc Tryz.prog Tryz.f7 false true false false) := by
 refine returnsInHanded_of_change_and (C := Tryz.checked) (X := fun w _ => laidMetH Tryz.prog laidL w) (fun _ _ _ hh h => h.of_heap hh) Tryz.own started (by kernel_rfl) Tryz.func7
  (ChangeSpec.witness_at (enc := enc) (C := Tryz.checked) (os := os) (X := fun w _ => laidMetH Tryz.prog laidL w) false (laidWorld os) #[.agg #[.int .i64 0, .int .i64 0, .int .i64 0, .int .i64 0, .int .i64 0, .int .i64 0, .int .i64 0, .slice none 0 0, .slice none 0 0, .slice none 0 0, .slice none 0 0], .agg #[.int .i64 0, .int .i64 0, .int .i64 0, .slice none 0 0, .int .u8 0, .int .u8 0, .int .u8 0, .int .u8 0, .int .u8 0, .int .u8 0, .int .u8 0, .int .u8 0, .int .u8 0, .int .u8 0, .int .u8 0, .int .u8 0, .int .u8 0, .int .u8 0, .int .u8 0, .int .u8 0, .int .u8 0, .int .u8 0, .int .u8 0, .int .u8 0, .int .u8 0, .int .u8 0, .int .u8 0, .int .u8 0, .int .u8 0, .int .u8 0, .int .u8 0, .int .u8 0, .int .u8 0, .int .u8 0, .int .u8 0, .int .u8 0]] 8 rfl (by kernel_rfl) (by kernel_rfl) (by kernel_rfl) (by kernel_rfl) (by kernel_rfl) (laidWorld_met os _)) ?_
 intro W base args ds gs before hval hW hcnd hsz hL _
 exact law_go (P := Tryz.prog) (fn := Tryz.f7) (s := Rows.gateHandsSpec) [31, 81] (by kernel_rfl) Tryz.laidOut rfl (by kernel_rfl) (by kernel_rfl) Tryz.ubool
  (fun ds hl => match ds, hl with | [d1, d2], _ => rfl) hval hW hsz (GateHands_calls (handle_of_laid hL))

theorem GateHands_k1 : (Rows.gateHandsRow.wf (OpenSpec.ofChange Rows.gateHandsSpec) && laidOutB Tryz.prog && mapsRowed Tryz.prog && Tryz.f7.params.all (Tryz.prog.readableRec ·) && namedTie Tryz.prog Rows.gateHandsRow.named Rows.gateHandsSpec.vars && (Rows.gateHandsRow.stops == []) && (Tryz.prog.stops == []) && (Rows.gateHandsRow.knobs == []) && (Tryz.prog.stopKnobs == [])) = true := by kernel_rfl
theorem GateHands_k2 : (Rows.gateHandsRow.inPlace == Tryz.prog.inPlace 7) = true := by kernel_rfl
theorem GateHands_k3 : (Rows.gateHandsRow.unfollowed == Tryz.prog.unfollowed 7) = true := by kernel_rfl
theorem GateHands_k4 : (Rows.gateHandsRow.recurses == Tryz.prog.recurses 7) = true := by kernel_rfl
theorem GateHands_k5 : (Rows.gateHandsRow.named == Tryz.prog.varsNamed 7) = true := by kernel_rfl
theorem GateHands_k6 : Tryz.prog.stopsHeard = true := by kernel_rfl
theorem GateHands_k7 : Tryz.prog.mayEnter = true := by kernel_rfl
theorem GateHands_k8 : (Rows.gateHandsRow.lifted == Tryz.prog.liftsFinal) = true := by kernel_rfl
theorem GateHands_k9 : (Tryz.prog.make == some Rows.gateHandsRow.make) = true := by kernel_rfl
theorem GateHands_facts : joinedFacts Tryz.pinned.checked.prog 7 Tryz.f7 Rows.gateHandsSpec Rows.gateHandsRow = true := by
 unfold joinedFacts
 exact bool_and (bool_and (bool_and (bool_and (bool_and (bool_and (bool_and (bool_and (bool_and (bool_and (bool_and (bool_and (bool_and (bool_and (bool_and (bool_and (bool_and (bool_and (bool_and (bool_and (bool_and (bool_and (bool_and (GateHands_k1) GateHands_k2) GateHands_k3) GateHands_k4) GateHands_k5) (by kernel_rfl)) (by kernel_rfl)) (by kernel_rfl)) (by kernel_rfl)) (by kernel_rfl)) (by kernel_rfl)) (by kernel_rfl)) (by kernel_rfl)) (by kernel_rfl)) (by kernel_rfl)) (by kernel_rfl)) GateHands_k6) GateHands_k7) GateHands_k8) GateHands_k9) (by kernel_rfl)) (by kernel_rfl)) (by kernel_rfl)) (by kernel_rfl)
theorem GateHands_said : Rows.GateHandsSaid :=
 OpenClaim.holds_of_wide 7 Tryz.f7 rfl rfl rfl rfl rfl rfl rfl ⟨rfl, rfl, rfl, rfl, rfl⟩ rfl rfl rfl rfl rfl (by kernel_rfl) Tryz.func7 GateHands_facts
  (of_decide_eq_true (by kernel_rfl)) (by unfold Func.isWrapper; first | (rw [if_pos (by decide +kernel)]; kernel_rfl) | (rw [if_neg (by decide +kernel)]; exact ⟨rfl, rfl⟩))
  (fun os started H enc _ => GateHands_lifted os started H enc)

theorem GateHands_plain (f : FuncId) (fn : Func) (hf : Tryz.pinned.checked.prog.funcNamed "portcullis/portcullislaw13.GateHands" = some f) (hfn : Tryz.pinned.checked.prog.funcs[f]? = some fn) :
  true = Tryz.pinned.checked.prog.looks [] ∧ ∀ (j : Nat) t, fn.params[j]? = some t → Tryz.pinned.checked.prog.wantsStandIn t = false := by
 obtain rfl : f = 7 := Option.some.inj ((show Tryz.prog.funcNamed "portcullis/portcullislaw13.GateHands" = some 7 by kernel_rfl).symm.trans hf) |>.symm
 obtain rfl : fn = Tryz.f7 := (Option.some.inj (Tryz.func7.symm.trans hfn)).symm
 refine ⟨by kernel_rfl, fun j t ht => ?_⟩
 have hm := Array.mem_of_getElem? ht
 have hm2 : t ∈ ([31, 81] : List Nat) := by
  have : Tryz.f7.params.toList = [31, 81] := by kernel_rfl
  rw [← this]; exact Array.mem_toList_iff.2 hm
 simp only [List.mem_cons, List.not_mem_nil, or_false] at hm2
 rcases hm2 with rfl | rfl <;> (first | kernel_rfl | rfl)

theorem GateHands_holds : Rows.GateHandsCardSaid :=
 Claim7.holds_tied_plain_at .later [] _ _ _ _ GateHands_said (fun _ h => by cases h) (by kernel_rfl) (fun _ h => by cases h) gateHands_row_tie rfl ⟨rfl, rfl⟩ (by kernel_rfl) rfl GateHands_plain (by kernel_rfl)

end Go.Proofs.YtaglicdidpgkpaaGreatDoor
end
