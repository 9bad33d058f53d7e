/- GateStays: what is proved and its parts, laid together by a program of ours: Gt3 GtW Gt4 Tq5 Gt5 St7 St8 Gt6 Gt7 RwGateStays -/
import Derived.Test.YtaglicdidpgkpaaGreatDoorK13
set_option autoImplicit false
set_option linter.all false
/- Images, the document: what their tag covers, bytes; whether they may be. Own work. -/
section
set_option maxRecDepth 100000
set_option linter.unusedVariables false
namespace Go.Proofs.YtaglicdidpgkpaaGreatDoor
open Go Go.Vc
attribute [local irreducible] macM

def fourL (v : Int) (t : Nat) : List Int := (List.range t).map fun j => IntKind.u8.wrap (v.fdiv (2 ^ (8 * j)))
theorem fourL_succ (v : Int) (t : Nat) : fourL v (t + 1) = fourL v t ++ [IntKind.u8.wrap (v.fdiv (2 ^ (8 * t)))] := by
 unfold fourL; rw [List.range_succ, List.map_append]; rfl
def coverM (slot key ver : Int) (pay : List Int) : List Int := [80, 67, 85, 76, 1, IntKind.u8.wrap slot, IntKind.u8.wrap key, 0] ++ fourL ver 4 ++ fourL (pay.length : Int) 4 ++ pay
def may11 (slot key ver : Int) (n : Nat) : Int :=
 if slot < 0 ∨ 7 < slot ∨ key < 0 ∨ 63 < key ∨ ver < 0 ∨ 4294967295 < ver then 2 else if 524240 < n then 4 else 0
section
variable {h0 h : H} {A : List Ent} {i j p r b s m : Nat} {C : Cm}
theorem rfour_sp {Q : Option Addr → Nat → Nat → H → Prop} {q : Option Addr} {l c : Nat} {xs : List Int} (v : Int) (hs : Sat h0 (slE q l c 1 (ints .u8 xs) :: A) h) (hl : l < 2 ^ 45)
  (k : ∀ p' c' h', Sat h0 (slE p' (l + 4) c' 1 (ints .u8 (xs ++ fourL v 4)) :: A) h' → Q p' (l + 4) c' h') : F_portcullisref11_four q l c v Q h := by
 unfold F_portcullisref11_four G_portcullisref11_four
 intro J hJ
 refine loopS 4 (fun t (s : Option Addr × Nat) => [.dv (.one (.slice s.1 (l + t) s.2)), si t]) (fun t s h => Sat h0 (slE s.1 (l + t) s.2 1 (ints .u8 (xs ++ fourL v t)) :: A) h) ?_ ?_ 0 (q, c) _ (by omega) (by simpa [fourL] using hs)
 ·clear hs
  rintro t ⟨p2, c2⟩ h2 ht hs hk
  dsimp only at hs hk ⊢
  apply hJ
  rw [ltI_eq, if_pos (by rw [decide_eq_true_iff]; omega)]
  have e : IntKind.i64.wrap (8 * (t : Int)) = ((8 * t : Nat) : Int) := by rw [wrap_id (by omega)]; push_cast; rfl
  rw [e]
  refine ⟨by omega, ?_⟩
  rw [Int.toNat_natCast, show min (8 * t) 64 = 8 * t by omega]
  intro nb _ hn; replace hs := Sat.new hs hn; clear hn
  refine ⟨_, hs.bv (i := 0) (l := 1) .z rfl (ints_one .u8 [_]), ?_⟩
  refine Sat.app hs (i := 1) (vs := ints .u8 [_]) (.s .z) rfl rfl (ints_one .u8 [_]) (by omega) ?_
  intro p3 c3 h3 hs
  simp only [put_succ, put_zero] at hs
  rw [wrap_succ (by omega)]
  refine hk (p3, c3) h3 ?_
  dsimp only
  rw [fourL_succ, ← List.append_assoc, ints_app .u8 _ [_]]
  exact hs.drop
 ·clear hs
  rintro ⟨p2, c2⟩ h2 hs
  dsimp only at hs ⊢
  apply hJ
  rw [ltI_eq, if_neg (by decide)]
  exact k _ _ _ hs
theorem rcover_sp {Q : Option Addr → Nat → Nat → H → Prop} {slot key ver : Int} {pay tag : List Int} {pp : Option Addr} {pl pc : Nat} (hs : Sat h0 A h) (hp : pl < 2 ^ 44) (rd : ∀ h', Sat h0 A h' → hsv h' pp 1 pl (ints .u8 pay))
  (k : ∀ p' c' h', Sat h0 (slE p' (16 + pl) c' 1 (ints .u8 (coverM slot key ver pay)) :: A) h' → Q p' (16 + pl) c' h') : F_portcullisref11_Cover slot key ver pp pl pc tag Q h := by
 unfold F_portcullisref11_Cover G_portcullisref11_Cover
 try simp only [add_mk, Nat.zero_add, List.append_nil]
 have hpl : pay.length = pl := by have := (rd _ hs).1; simpa using this
 intro n10 _ hn; replace hs := Sat.new hs hn; clear hn
 replace hs : Sat h0 (blk n10 (imgL slot key ver (pp, pl, pc) tag) :: A) _ := hs
 refine ⟨_, hs.ld (i := 0) .z rfl, _, hs.ld (i := 0) .z rfl, ?_⟩
 intro n15 _ hn; replace hs := Sat.new hs hn; clear hn
 refine ⟨_, hs.ld (i := 1) (.s .z) rfl, ?_⟩
 replace hs := hs.as_sl (i := 0) (l := 8) (sz := 1) .z rfl (ints_one .u8 [80, 67, 85, 76, 1, IntKind.u8.wrap slot, IntKind.u8.wrap key, 0])
 simp only [put_zero] at hs
 refine rfour_sp (xs := [80, 67, 85, 76, 1, IntKind.u8.wrap slot, IntKind.u8.wrap key, 0]) ver hs (by decide) ?_
 intro p2 c2 h2 hs
 refine ⟨_, _, _, hs.ld (i := 1) (.s .z) rfl, ?_⟩
 refine rfour_sp (pl : Int) hs (by decide) ?_
 intro p3 c3 h3 hs
 refine ⟨_, _, _, hs.ld (i := 1) (.s .z) rfl, _, rd _ hs.drop.drop, ?_⟩
 refine Sat.app hs (i := 0) (vs := ints .u8 pay) .z (by simp [hpl]) rfl (ints_one _ _) (by dsimp only; omega) ?_
 intro p4 c4 h4 hs
 simp only [put_zero] at hs
 have e : ints .u8 ([80, 67, 85, 76, 1, IntKind.u8.wrap slot, IntKind.u8.wrap key, 0] ++ fourL ver 4 ++ fourL (pl : Int) 4) ++ ints .u8 pay = ints .u8 (coverM slot key ver pay) := by
  unfold coverM; rw [hpl, ← ints_app]
 rw [e] at hs
 have K := k p4 c4 h4
 rw [show 16 + pl = 8 + 4 + 4 + pl by omega] at K
 exact K (hs.sub (by (repeat (first | exact List.Sublist.refl _ | apply List.Sublist.cons_cons | apply List.Sublist.cons))))
theorem rtagged_sp {Q : Option Addr → Nat → Nat → H → Prop} {slot key ver : Int} {pay tag : List Int} {pp : Option Addr} {pl pc : Nat} (hs : Sat h0 A h) (ht : tag.length = 32) (hp : pl < 2 ^ 44) (rd : ∀ h', Sat h0 A h' → hsv h' pp 1 pl (ints .u8 pay))
  (k : ∀ p' c' h', Sat h0 (slE p' (48 + pl) c' 1 (ints .u8 (coverM slot key ver pay ++ tag)) :: A) h' → 48 + pl ≤ c' → Q p' (48 + pl) c' h') : F_portcullisref11_Tagged slot key ver pp pl pc tag Q h := by
 unfold F_portcullisref11_Tagged G_portcullisref11_Tagged
 try simp only [add_mk, Nat.zero_add, List.append_nil]
 intro n10 _ hn; replace hs := Sat.new hs hn; clear hn
 replace hs : Sat h0 (blk n10 (imgL slot key ver (pp, pl, pc) tag) :: A) _ := hs
 refine ⟨_, hs.ld (i := 0) .z rfl, _, hs.ld (i := 0) .z rfl, _, hs.ld (i := 0) .z rfl, _, _, _, hs.ld (i := 0) .z rfl, tag, ht, img_row hs .z ht, ?_⟩
 refine rcover_sp (pay := pay) hs hp (fun h' hs' => rd _ hs'.drop) ?_
 intro p2 c2 h2 hs
 intro J hJ
 refine loopS 32 (fun t (s : Option Addr × Nat) => [.dv (.one (.slice s.1 (16 + pl + t) s.2)), si t]) (fun t s h => Sat h0 (slE s.1 (16 + pl + t) s.2 1 (ints .u8 (coverM slot key ver pay ++ tag.take t)) :: blk n10 (imgL slot key ver (pp, pl, pc) tag) :: A) h) ?_ ?_ 0 (p2, c2) _ (by omega) (by simpa using hs)
 ·clear hs
  rintro t ⟨p6, c6⟩ h6 ht2 hs hk
  dsimp only at hs hk ⊢
  apply hJ
  rw [ltI_eq, if_pos (by rw [decide_eq_true_iff]; omega)]
  have ht3 : t < tag.length := by omega
  refine ⟨by omega, by omega, tag[t], ?_, ?_⟩
  ·simp only [Int.toNat_natCast, Nat.mul_one]
   have := img_row hs (.s .z) ht t (.int .u8 tag[t]) (by rw [ints_get, List.getElem?_eq_getElem ht3]; rfl)
   first | exact this | (rw [add_mk] at this; exact this)
  intro b3 _ hn; replace hs := Sat.new hs hn; clear hn
  refine ⟨_, hs.bv (i := 0) (l := 1) .z rfl (ints_one .u8 [tag[t]]), ?_⟩
  refine Sat.app hs (i := 1) (vs := ints .u8 [tag[t]]) (.s .z) rfl rfl (ints_one _ _) (by omega) ?_
  intro p7 c7 h7 hs
  simp only [put_succ, put_zero] at hs
  rw [wrap_succ (by omega)]
  refine hk (p7, c7) h7 ?_
  dsimp only
  rw [take_snoc _ ht3, ← List.append_assoc, ints_app .u8 _ [tag[t]]]
  exact hs.drop
 ·clear hs
  rintro ⟨p6, c6⟩ h6 hs
  dsimp only at hs ⊢
  apply hJ
  rw [ltI_eq, if_neg (by decide)]
  rw [List.take_of_length_le (by omega)] at hs
  have hc := capS hs (i := 0) .z
  have K := k p6 c6 h6
  rw [show 48 + pl = 16 + pl + 32 by omega] at K
  exact K (hs.sub (by (repeat (first | exact List.Sublist.refl _ | apply List.Sublist.cons_cons | apply List.Sublist.cons)))) hc
theorem rmay11_sp {Q : Int → H → Prop} {slot key ver : Int} {tag : List Int} {pp : Option Addr} {pl pc : Nat} (hs : Sat h0 A h) (k : ∀ h', Sat h0 A h' → Q (may11 slot key ver pl) h') : F_portcullisref11_May slot key ver pp pl pc tag Q h := by
 unfold F_portcullisref11_May G_portcullisref11_May
 try simp only [add_mk, Nat.zero_add, List.append_nil]
 intro n9 _ hn; replace hs := Sat.new hs hn; clear hn
 replace hs : Sat h0 (blk n9 (imgL slot key ver (pp, pl, pc) tag) :: A) _ := hs
 have K := k _ hs.drop
 clear k
 unfold may11 at K
 intro J hJ
 refine ⟨_, hs.ld (i := 0) .z rfl, ?_⟩
 rw [ltI_eq]
 by_cases g1 : slot < 0
 ·rw [if_pos (by simpa using g1)]
  rw [if_pos (Or.inl g1)] at K; exact K
 rw [if_neg (by simpa using g1)]
 refine ⟨_, hs.ld (i := 0) .z rfl, ?_⟩
 rw [ltI_eq]
 by_cases g2 : 7 < slot
 ·rw [if_pos (by simpa using g2)]
  rw [if_pos (Or.inr (Or.inl g2))] at K; exact K
 rw [if_neg (by simpa using g2)]
 refine ⟨_, hs.ld (i := 0) .z rfl, ?_⟩
 rw [ltI_eq]
 by_cases g3 : key < 0
 ·rw [if_pos (by simpa using g3)]
  rw [if_pos (by omega)] at K; exact K
 rw [if_neg (by simpa using g3)]
 refine ⟨_, hs.ld (i := 0) .z rfl, ?_⟩
 rw [ltI_eq]
 by_cases g4 : 63 < key
 ·rw [if_pos (by simpa using g4)]
  rw [if_pos (by omega)] at K; exact K
 rw [if_neg (by simpa using g4)]
 refine ⟨_, hs.ld (i := 0) .z rfl, ?_⟩
 rw [ltI_eq]
 by_cases g5 : ver < 0
 ·rw [if_pos (by simpa using g5)]
  rw [if_pos (by omega)] at K; exact K
 rw [if_neg (by simpa using g5)]
 refine ⟨_, hs.ld (i := 0) .z rfl, ?_⟩
 intro v25 hv
 subst hv
 rw [ltI_eq]
 by_cases g6 : 4294967295 < ver
 ·rw [if_pos (by simpa using g6)]
  rw [if_pos (by omega)] at K; exact K
 rw [if_neg (by simpa using g6)]
 rw [if_neg (by omega)] at K
 apply hJ
 refine ⟨_, _, _, hs.ld (i := 0) .z rfl, ?_⟩
 dsimp only
 rw [ltI_eq]
 by_cases g7 : 524240 < pl
 ·rw [if_pos (by rw [decide_eq_true_iff]; omega)]
  rw [if_pos g7] at K; exact K
 ·rw [if_neg (by rw [decide_eq_true_iff]; omega)]
  rw [if_neg g7] at K; exact K
theorem rmake_sp {Q : Option Addr → Nat → Nat → Int → H → Prop} {slot key ver : Int} {sec pay tag : List Int} {sp pp : Option Addr} {sl sc pl pc : Nat} (hs : Sat h0 A h) (ht : tag.length = 32) (hm : may11 slot key ver pl = 0) (hsb : isBy sec) (hsl : sl < 2 ^ 40) (hpb : isBy pay)
  (rs : ∀ h', Sat h0 A h' → hsv h' sp 1 sl (ints .u8 sec)) (rd : ∀ h', Sat h0 A h' → hsv h' pp 1 pl (ints .u8 pay))
  (k : ∀ p' c' h', Sat h0 (slE p' (48 + pl) c' 1 (ints .u8 (coverM slot key ver pay ++ macM sec (coverM slot key ver pay))) :: A) h' → 48 + pl ≤ c' → Q p' (48 + pl) c' 0 h') : F_portcullisref11_Make sp sl sc slot key ver pp pl pc tag Q h := by
 unfold F_portcullisref11_Make G_portcullisref11_Make
 try simp only [add_mk, Nat.zero_add, List.append_nil]
 have hpl : pay.length = pl := by have := (rd _ hs).1; simpa using this
 have hp : pl ≤ 524240 := by
  unfold may11 at hm
  by_cases g : slot < 0 ∨ 7 < slot ∨ key < 0 ∨ 63 < key ∨ ver < 0 ∨ 4294967295 < ver
  ·rw [if_pos g] at hm; cases hm
  ·rw [if_neg g] at hm
   by_cases g2 : 524240 < pl
   ·rw [if_pos g2] at hm; cases hm
   ·omega
 have hcb : isBy (coverM slot key ver pay) := by
  intro v hv
  unfold coverM at hv
  have w8 : ∀ n, 0 ≤ IntKind.u8.wrap n ∧ IntKind.u8.wrap n < 256 := fun n => by rw [IntKind.wrap_u8]; omega
  have f8 : ∀ v t x, x ∈ fourL v t → 0 ≤ x ∧ x < 256 := by
   intro v t x hx
   unfold fourL at hx
   obtain ⟨j, _, rfl⟩ := List.mem_map.1 hx
   exact w8 _
  rcases List.mem_append.1 hv with hv | hv
  ·rcases List.mem_append.1 hv with hv | hv
   ·rcases List.mem_append.1 hv with hv | hv
    ·simp only [List.mem_cons, List.not_mem_nil, or_false] at hv
     rcases hv with rfl | rfl | rfl | rfl | rfl | rfl | rfl | rfl
     ·decide
     ·decide
     ·decide
     ·decide
     ·decide
     ·exact w8 _
     ·exact w8 _
     ·decide
    ·exact f8 _ _ _ hv
   ·exact f8 _ _ _ hv
  ·exact hpb v hv
 intro n16 _ hn; replace hs := Sat.new hs hn; clear hn
 replace hs : Sat h0 (blk n16 (imgL slot key ver (pp, pl, pc) tag) :: A) _ := hs
 refine ⟨_, hs.ld (i := 0) .z rfl, _, hs.ld (i := 0) .z rfl, _, hs.ld (i := 0) .z rfl, _, _, _, hs.ld (i := 0) .z rfl, tag, ht, img_row hs .z ht, ?_⟩
 refine rmay11_sp hs ?_
 intro h2 hs
 rw [hm, if_neg (by decide)]
 refine ⟨_, hs.ld (i := 0) .z rfl, _, hs.ld (i := 0) .z rfl, _, hs.ld (i := 0) .z rfl, _, _, _, hs.ld (i := 0) .z rfl, tag, ht, img_row hs .z ht, ?_⟩
 refine rcover_sp (pay := pay) hs (by dsimp only; omega) (fun h' hs' => rd _ hs'.drop) ?_
 intro p2 c2 h3 hs
 refine rmac_sp (key := sec) (b := coverM slot key ver pay) hs hsb hcb (by omega) (by dsimp only; omega) (fun h' hs' => rs _ hs'.drop.drop) (fun h' hs' => hs'.sv (i := 0) .z) ?_
 intro h4 hs
 replace hs := hs.drop
 refine ⟨Sat.can hs (i := 0) .z (by simp [ht]), ?_⟩
 intro h5 e5
 replace hs := Sat.wr hs (i := 0) (o := 4) .z e5
 clear e5
 simp only [put_zero] at hs
 have es : splice (imgL slot key ver (pp, pl, pc) tag) 4 (ints .u8 (macM sec (coverM slot key ver pay))) = imgL slot key ver (pp, pl, pc) (macM sec (coverM slot key ver pay)) := by
  have := splice_append [Value.int .i64 slot, .int .i64 key, .int .i64 ver, .slice pp pl pc] (ints .u8 tag) [] (ints .u8 (macM sec (coverM slot key ver pay))) (by simp [ht, macM_len])
  simpa using this
 rw [es] at hs
 refine ⟨_, hs.ld (i := 0) .z rfl, _, hs.ld (i := 0) .z rfl, _, hs.ld (i := 0) .z rfl, _, _, _, hs.ld (i := 0) .z rfl, _, macM_len _ _, img_row hs .z (macM_len _ _), ?_⟩
 refine rtagged_sp (pay := pay) hs (macM_len _ _) (by dsimp only; omega) (fun h' hs' => rd _ hs'.drop) ?_
 intro p6 c6 h6 hs hc
 exact k _ _ _ (hs.sub (by (repeat (first | exact List.Sublist.refl _ | apply List.Sublist.cons_cons | apply List.Sublist.cons)))) hc
theorem same11_sp {Q : Bool → H → Prop} {a b v : Int} {pay tag : List Int} {p1 p2 : Option Addr} {l1 c1 l2 c2 : Nat} (hs : Sat h0 A h) (ht : tag.length = 32) (r1 : ∀ h', Sat h0 A h' → hsv h' p1 1 l1 (ints .u8 pay)) (r2 : ∀ h', Sat h0 A h' → hsv h' p2 1 l2 (ints .u8 pay))
  (k : ∀ h', Sat h0 A h' → Q true h') : F_portcullisref11_Same a b v p1 l1 c1 tag a b v p2 l2 c2 tag Q h := by
 unfold F_portcullisref11_Same G_portcullisref11_Same
 try simp only [add_mk, Nat.zero_add, List.append_nil]
 intro n16 _ hn; replace hs := Sat.new hs hn; clear hn
 intro n19 _ hn; replace hs := Sat.new hs hn; clear hn
 replace hs : Sat h0 (blk n19 (imgL a b v (p2, l2, c2) tag) :: blk n16 (imgL a b v (p1, l1, c1) tag) :: A) _ := hs
 refine ⟨_, hs.ld (i := 1) (.s .z) rfl, _, hs.ld (i := 0) .z rfl, ?_⟩
 rw [if_pos (by simp)]
 refine ⟨_, hs.ld (i := 1) (.s .z) rfl, _, hs.ld (i := 0) .z rfl, ?_⟩
 rw [if_pos (by simp)]
 refine ⟨_, hs.ld (i := 1) (.s .z) rfl, _, hs.ld (i := 0) .z rfl, ?_⟩
 rw [if_pos (by simp)]
 refine ⟨_, _, _, hs.ld (i := 1) (.s .z) rfl, _, r1 _ hs.drop.drop, _, _, _, hs.ld (i := 0) .z rfl, _, r2 _ hs.drop.drop, ?_⟩
 rw [if_pos (by simp)]
 refine ⟨tag, ht, img_row hs (.s .z) ht, tag, ht, img_row hs .z ht, ?_⟩
 have : (tag == tag) = true := by simp
 rw [this]
 exact k _ hs.drop.drop
end
end Go.Proofs.YtaglicdidpgkpaaGreatDoor
end

/- The gate: answers that the document fixes (reckoned). Own work. -/
section
set_option maxRecDepth 1000000
namespace Go.Proofs.YtaglicdidpgkpaaGreatDoor
open Go Go.Vc
def cfg13 : Cfg := ⟨8, 2, 3, 10, 4, 5, 0⟩
theorem cfg13_may : cfg13.may := by decide
theorem g13 : (gateM (freshC cfg13) [(1, [7])] (coverM 1 1 5 [] ++ zeros 32) == 15 && gateM (freshC cfg13) [(1, [7])] (coverM 1 1 5 [] ++ macM [7] (coverM 1 1 5 [])) == 0 && gateM (freshC cfg13) [(1, [7])] [] == 6 && num4 (coverM 1 1 5 [] ++ macM [7] (coverM 1 1 5 [])) 8 == 5) = true := by decide +kernel
theorem g13a : gateM (freshC cfg13) [(1, [7])] (coverM 1 1 5 [] ++ zeros 32) = 15 := by have := g13; simp only [Bool.and_eq_true, beq_iff_eq] at this; exact this.1.1.1
theorem g13b : gateM (freshC cfg13) [(1, [7])] (coverM 1 1 5 [] ++ macM [7] (coverM 1 1 5 [])) = 0 := by have := g13; simp only [Bool.and_eq_true, beq_iff_eq] at this; exact this.1.1.2
theorem g13c : gateM (freshC cfg13) [(1, [7])] [] = 6 := by have := g13; simp only [Bool.and_eq_true, beq_iff_eq] at this; exact this.1.2
theorem g13d : num4 (coverM 1 1 5 [] ++ macM [7] (coverM 1 1 5 [])) 8 = 5 := by have := g13; simp only [Bool.and_eq_true, beq_iff_eq] at this; exact this.2
theorem n13 : newM [(1, [7])] = none := by decide
end Go.Proofs.YtaglicdidpgkpaaGreatDoor
end

/- Law 13: what stands at the head of its statements. Own work. -/
section
set_option maxRecDepth 100000
set_option linter.unusedVariables false
namespace Go.Proofs.YtaglicdidpgkpaaGreatDoor
open Go Go.Vc
attribute [local irreducible] macM gateM

section
variable {h0 h : H} {A : List Ent} {i j p r b s m : Nat} {C : Cm}
theorem awake13_sp {Q : Bool → H → Prop} (hg : hc h0 ⟨0, 0, none⟩ = some errTypeV) (hs : Sat h0 A h) (k : ∀ h', Sat h0 A h' → Q true h') : F_portcullislaw13_awake Q h := by
 unfold F_portcullislaw13_awake G_portcullislaw13_awake
 try simp only [add_mk, Nat.zero_add, List.append_nil]
 refine New_sp cfg13 hs (fun nm => absurd cfg13_may nm) ?_
 intro _ pc h1 hs
 intro n11 _ hn; replace hs := Sat.new hs hn; clear hn
 intro n14 _ hn; replace hs := Sat.new hs hn; clear hn
 have rdX : ∀ h', Sat h0 (blk n14 [.int .i64 1, .slice (some ⟨n11, 0, none⟩) 1 1] :: blk n11 [.int .u8 7] :: chipE pc (freshC cfg13) :: A) h' → SecsAt h' (some ⟨n14, 0, none⟩) 1 [⟨1, [7], some ⟨n11, 0, none⟩, 1⟩] := by
  intro h' hs'
  refine ⟨rfl, ?_⟩
  intro x hx
  have : x = 0 := by simp at hx; exact hx
  subst this
  refine ⟨_, rfl, ?_, ?_, hs'.bv (i := 1) (l := 1) (.s .z) rfl (ints_one .u8 [7]), ?_, by show 1 < 2 ^ 47; decide⟩
  ·exact hs'.ld (i := 0) .z rfl
  ·exact hs'.ld (i := 0) .z rfl
  ·intro n hn
   simp only [List.getElem_cons_zero, List.mem_cons, List.not_mem_nil, or_false] at hn
   subst hn; decide
 refine keysU_sp (L := [(1, [7])]) hs rfl rdX (by decide) ?_
 intro o e x h2 B hs hB
 intro J21 hJ21
 rcases hB with ⟨a, _⟩ | ⟨_, e0, rp, mp, R, ho, eR, gR, b1⟩
 ·rw [n13] at a; cases a
 subst e0 ho b1
 rw [if_neg (by decide), if_neg (by decide), if_neg (by simp), if_neg (by simp)]
 apply hJ21
 clear hJ21
 obtain ⟨RR, hRR⟩ : ∃ RR, RR = ringP rp mp R ++ (blk n14 [.int .i64 1, .slice (some ⟨n11, 0, none⟩) 1 1] :: blk n11 [.int .u8 7] :: chipE pc (freshC cfg13) :: A) := ⟨_, rfl⟩
 rw [← hRR] at hs
 obtain ⟨y0, a0⟩ : ∃ x, At RR x (chipE pc (freshC cfg13)) := At.mem (by rw [hRR]; simp)
 obtain ⟨y3, a3⟩ : ∃ x, At RR x (blk rp [.map (some mp)]) := At.mem (by rw [hRR]; simp)
 obtain ⟨y4, a4⟩ : ∃ x, At RR x (mapE mp (R.map SR.ent)) := At.mem (by rw [hRR]; simp)
 have r1 : ∀ x, x ∈ R → ∃ y, At RR y x.sl := fun x hx => At.mem (by rw [hRR]; exact List.mem_append_left _ (List.mem_cons_of_mem _ (List.mem_cons_of_mem _ (List.mem_map_of_mem hx))))
 have sub : A.Sublist RR := by
  rw [hRR]
  exact (((List.sublist_cons_self _ _).trans (List.sublist_cons_self _ _)).trans (List.sublist_cons_self _ _)).trans (List.sublist_append_right _ _)
 clear hRR
 refine ⟨_, rfl, ?_⟩
 refine sMount_sp hs a0 (fun y => by cases y) ?_
 intro _ st lg h3 hs
 intro J27 hJ27
 rw [if_neg (by decide), if_neg (by simp)]
 apply hJ27
 clear hJ27
 refine rtagged_sp (slot := 1) (key := 1) (ver := 5) (pay := []) (tag := zeros 32) (pl := 0) hs (zeros_len 32) (by decide) (fun _ _ => hsv_nil _ _ _) ?_
 intro p1 c1 h4 hs hc1
 refine ⟨_, rfl, _, rfl, ?_⟩
 refine gate_sp (bs := coverM 1 1 5 [] ++ zeros 32) hg hs a0.s.s.s (.s (.s .z)) (.s .z) a3.s.s.s a4.s.s.s gR (fun x hx h' hs' => hs'.sv (r1 x hx).choose_spec.s.s.s) (fun h' hs' => hs'.sv (i := 0) .z) (by unfold bytesOk isByte; decide) (by omega) (by decide) ?_ ?_
 case refine_2 =>
  intro own n he _ _ _ h5 hs
  rw [eR] at he
  have := g13a
  omega
 intro e he _ h5 hs
 rw [eR, g13a] at he
 subst he
 intro n44 _ hn; replace hs := Sat.new hs hn; clear hn
 refine ⟨Sat.can hs (i := 0) .z (by simp [zeros]), ?_⟩
 intro h6 e6
 replace hs := Sat.wra (xs := imgL 0 0 0 (none, 0, 0) (zeros 32)) hs (i := 0) .z e6 rfl
 clear e6
 simp only [put_zero] at hs
 intro n49 _ hn; replace hs := Sat.new hs hn; clear hn
 refine rmake_sp (sec := [7]) (pay := []) (slot := 1) (key := 1) (ver := 5) (pl := 0) hs (zeros_len 32) (by decide) (by intro n hn; simp at hn; subst hn; decide) (by decide) (by intro n hn; cases hn) (fun h' hs' => hs'.bv (i := 0) (l := 1) .z rfl (ints_one .u8 [7])) (fun _ _ => hsv_nil _ _ _) ?_
 intro p2 c2 h7 hs hc2
 refine ⟨_, rfl, _, rfl, ?_⟩
 have hb2 : bytesOk (coverM 1 1 5 [] ++ macM [7] (coverM 1 1 5 [])) := by
  intro v hv
  rcases List.mem_append.1 hv with hv | hv
  ·exact (by unfold bytesOk isByte; decide : bytesOk (coverM 1 1 5 [])) v hv
  ·exact isBy_mac _ _ v hv
 refine gate_sp (bs := coverM 1 1 5 [] ++ macM [7] (coverM 1 1 5 [])) hg hs a0.s.s.s.s.s.s (.s (.s (.s (.s (.s .z))))) (.s (.s (.s (.s .z)))) a3.s.s.s.s.s.s a4.s.s.s.s.s.s gR (fun x hx h' hs' => hs'.sv (r1 x hx).choose_spec.s.s.s.s.s.s) (fun h' hs' => hs'.sv (i := 0) .z) hb2 (by omega) (by decide) ?_ ?_
 ·intro e he hne h8 hs
  rw [eR, g13b] at he
  exact absurd he hne
 intro own n he hp hnn hln h8 hs
 have htl : (((coverM 1 1 5 [] ++ macM [7] (coverM 1 1 5 [])).drop (16 + n)).take 32).length = 32 := by rw [List.length_take, List.length_drop]; omega
 intro n68 _ hn; replace hs := Sat.new hs hn; clear hn
 refine ⟨Sat.can hs (i := 0) .z (by simp [zeros]), ?_⟩
 intro h9 e9
 replace hs := Sat.wra (xs := imgL ((coverM 1 1 5 [] ++ macM [7] (coverM 1 1 5 [])).getD 5 0) ((coverM 1 1 5 [] ++ macM [7] (coverM 1 1 5 [])).getD 6 0) (num4 (coverM 1 1 5 [] ++ macM [7] (coverM 1 1 5 [])) 8) (subAddr own.1 16 (16 + n) 1, n, n) (((coverM 1 1 5 [] ++ macM [7] (coverM 1 1 5 [])).drop (16 + n)).take 32)) hs (i := 0) .z e9 (by rw [img_len htl]; rfl)
 clear e9
 simp only [put_zero] at hs
 rw [g13d] at hs
 refine ⟨_, rfl, _, rfl, ?_⟩
 refine gate_sp (bs := []) hg hs a0.s.s.s.s.s.s.s.s (.s (.s (.s (.s (.s (.s (.s .z))))))) (.s (.s (.s (.s (.s (.s .z)))))) a3.s.s.s.s.s.s.s.s a4.s.s.s.s.s.s.s.s gR (fun x hx h' hs' => hs'.sv (r1 x hx).choose_spec.s.s.s.s.s.s.s.s) (fun _ _ => hsv_nil _ _ _) (by intro n hn; cases hn) (by decide) (by decide) ?_ ?_
 case refine_2 =>
  intro own n he _ _ _ h5 hs
  rw [eR] at he
  have := g13c
  omega
 intro e he _ h10 hs
 rw [eR, g13c] at he
 subst he
 intro n84 _ hn; replace hs := Sat.new hs hn; clear hn
 refine ⟨Sat.can hs (i := 0) .z (by simp [zeros]), ?_⟩
 intro h11 e11
 replace hs := Sat.wra (xs := imgL 0 0 0 (none, 0, 0) (zeros 32)) hs (i := 0) .z e11 rfl
 clear e11
 simp only [put_zero] at hs
 rw [if_pos (by decide), if_pos (by decide)]
 refine ⟨_, hs.ld (i := 1) (.s .z) rfl, ?_⟩
 rw [if_pos (by decide)]
 exact k _ (hs.sub (by
  refine sub.trans ?_
  exact ((((((((List.sublist_cons_self _ _).trans (List.sublist_cons_self _ _)).trans (List.sublist_cons_self _ _)).trans (List.sublist_cons_self _ _)).trans (List.sublist_cons_self _ _)).trans (List.sublist_cons_self _ _)).trans (List.sublist_cons_self _ _)).trans (List.sublist_cons_self _ _)).trans (List.sublist_cons_self _ _)))
def okS (c : Cfg) (s : St) (L : List Sec) : Prop := c.may ∧ s.lays c ∧ newM L = none
theorem scene13_sp {a_ b_ c' : Sl} {s : St} {X : List SR} {lp : Option Addr} {ll lc : Nat} {Q : Option Addr → Option Addr → Option Addr → Bool → H → Prop} (c : Cfg) (hs : Sat h0 A h) (rd : ∀ h', Sat h0 A h' → RdS h' a_ b_ c' s) (ty : s.typed) (rl : SecsAt h0 lp ll X) (hll : ll < 2 ^ 47)
  (k1 : ¬ okS c s (X.map SR.kv) → ∀ h', Sat h0 A h' → Q none none none false h')
  (k2 : okS c s (X.map SR.kv) → ∀ pc st lg rp mp R h', R.map SR.kv = X.map SR.kv → SR.good R → Sat h0 (chipE pc (layC c s) :: storeE st pc lg :: logE lg pc :: (ringP rp mp R ++ A)) h' → Q (some ⟨pc, 0, none⟩) (some ⟨st, 0, none⟩) (some ⟨rp, 0, none⟩) true h') :
  F_portcullislaw13_scene c.cells c.slots c.fuses c.step c.keys c.erases c.area a_.1 a_.2.1 a_.2.2 b_.1 b_.2.1 b_.2.2 c'.1 c'.2.1 c'.2.2 lp ll lc Q h := by
 unfold F_portcullislaw13_scene G_portcullislaw13_scene
 try simp only [add_mk, Nat.zero_add, List.append_nil]
 have lR : X.length = ll := rl.1.symm
 obtain ⟨L, hL⟩ : ∃ L, X.map SR.kv = L := ⟨_, rfl⟩
 rw [hL] at k1 k2
 intro n26 _ hn; replace hs := Sat.new hs hn; clear hn
 replace hs : Sat h0 (blk n26 (scnV c a_ b_ c' lp ll lc) :: A) _ := hs
 (repeat first | refine ⟨_, Sat.ld hs (by (repeat (first | exact At.z | apply At.s))) (by rfl), ?_⟩ | refine ⟨_, _, _, Sat.ld hs (by (repeat (first | exact At.z | apply At.s))) (by rfl), ?_⟩ | (intro _ _ hn; replace hs := Sat.new hs hn; clear hn) | refine ⟨Sat.cs hs (by (repeat (first | exact At.z | apply At.s))) (by rfl), ?_⟩ | (refine ⟨Sat.can hs (by (repeat (first | exact At.z | apply At.s))) (by simp), ?_⟩; intro _ e; replace hs := Sat.wr hs (by (repeat (first | exact At.z | apply At.s))) e; clear e; simp only [put, splice, List.set] at hs))
 refine Lay_sp (a := a_) (b := b_) (c' := c') (s := s) c hs (fun h' hs' => rd _ hs'.drop) ty ?_ ?_ ?_
 ·intro nm h1 hs
  refine ⟨_, _, _, Sat.ld hs (by (repeat (first | exact At.z | apply At.s))) (by rfl), ?_⟩
  refine keysU_sp hs hL (fun h' hs' => rl.ext hs') hll ?_
  intro o1 e1 i1 h3 B hs hB J53 hJ53
  rw [if_pos (by decide)]
  exact k1 (fun y => nm y.1) _ (hs.sub ((List.sublist_cons_self _ _).trans (List.sublist_append_right _ _)))
 ·intro m nl h1 hs
  refine ⟨_, _, _, Sat.ld hs (by (repeat (first | exact At.z | apply At.s))) (by rfl), ?_⟩
  refine keysU_sp hs hL (fun h' hs' => rl.ext hs') hll ?_
  intro o1 e1 i1 h3 B hs hB J53 hJ53
  rw [if_pos (by decide)]
  exact k1 (fun y => nl y.2.1) _ (hs.sub ((List.sublist_cons_self _ _).trans (List.sublist_append_right _ _)))
 ·intro m l pc h1 hs
  refine ⟨_, _, _, Sat.ld hs (by (repeat (first | exact At.z | apply At.s))) (by rfl), ?_⟩
  refine keysU_sp hs hL (fun h' hs' => rl.ext hs') hll ?_
  intro o1 e1 i1 h3 B hs hB J53 hJ53
  rw [if_neg (by decide)]
  rcases hB with ⟨a, b⟩ | ⟨a, b0, rp, mp, R, b, eR, gR, b1⟩
  ·rw [if_pos (by simpa using newM_ne a)]
   exact k1 (fun y => by rw [y.2.2] at a; cases a) _ (hs.sub (((List.sublist_cons_self _ _).trans (List.sublist_cons_self _ _)).trans (List.sublist_append_right _ _)))
  subst b0 b b1
  rw [if_neg (by decide), if_neg (by simp), if_neg (by simp)]
  apply hJ53
  refine ⟨_, rfl, ?_⟩
  obtain ⟨z, az⟩ : ∃ z, At (ringP rp mp R ++ (chipE pc (layC c s) :: blk n26 (scnV c a_ b_ c' lp ll lc) :: A)) z (chipE pc (layC c s)) := At.mem (by simp)
  refine sMount_sp hs az (fun y => by cases y) ?_
  intro _ st lg h5 hs
  rw [if_pos (by decide)]
  refine k2 ⟨m, l, a⟩ pc st lg rp mp R h5 eR gR ?_
  have p1 : (storeE st pc lg :: logE lg pc :: (ringP rp mp R ++ (chipE pc (layC c s) :: blk n26 (scnV c a_ b_ c' lp ll lc) :: A))).Perm (chipE pc (layC c s) :: storeE st pc lg :: logE lg pc :: (ringP rp mp R ++ (blk n26 (scnV c a_ b_ c' lp ll lc) :: A))) := by
   have q1 : (ringP rp mp R ++ (chipE pc (layC c s) :: (blk n26 (scnV c a_ b_ c' lp ll lc) :: A))).Perm (chipE pc (layC c s) :: (ringP rp mp R ++ (blk n26 (scnV c a_ b_ c' lp ll lc) :: A))) := List.perm_middle
   exact ((q1.cons _).cons _).trans ((List.Perm.swap _ _ _).cons _ |>.trans (List.Perm.swap _ _ _))
  refine (hs.perm p1).sub ?_
  refine List.Sublist.cons_cons _ (List.Sublist.cons_cons _ (List.Sublist.cons_cons _ ?_))
  exact (List.Sublist.refl _).append (List.sublist_cons_self _ _)
theorem may13_sp {a_ b_ c' : Sl} {s : St} {X : List SR} {lp : Option Addr} {ll lc : Nat} {Q : Option Addr → Option Addr → Bool → H → Prop} (c : Cfg) (hs : Sat h0 A h) (rd : ∀ h', Sat h0 A h' → RdS h' a_ b_ c' s) (ty : s.typed) (rl : SecsAt h0 lp ll X) (hll : ll < 2 ^ 47)
  (k1 : ¬ okS c s (X.map SR.kv) → ∀ o o' h', Sat h0 A h' → Q o o' false h')
  (k2 : okS c s (X.map SR.kv) → ∀ pr rr lp' lc' R2 h', R2.map SR.kv = X.map SR.kv → SR.good R2 → R2.length < 2 ^ 40 → Sat h0 (refE pr (layC c s) :: (ringD rr lp' lc' R2 ++ A)) h' → Q (some ⟨pr, 0, none⟩) (some ⟨rr, 0, none⟩) true h') :
  F_portcullislaw13_may c.cells c.slots c.fuses c.step c.keys c.erases c.area a_.1 a_.2.1 a_.2.2 b_.1 b_.2.1 b_.2.2 c'.1 c'.2.1 c'.2.2 lp ll lc Q h := by
 unfold F_portcullislaw13_may G_portcullislaw13_may
 try simp only [add_mk, Nat.zero_add, List.append_nil]
 have lR : X.length = ll := rl.1.symm
 obtain ⟨L, hL⟩ : ∃ L, X.map SR.kv = L := ⟨_, rfl⟩
 rw [hL] at k1 k2
 intro n26 _ hn; replace hs := Sat.new hs hn; clear hn
 replace hs : Sat h0 (blk n26 (scnV c a_ b_ c' lp ll lc) :: A) _ := hs
 (repeat first | refine ⟨_, Sat.ld hs (by (repeat (first | exact At.z | apply At.s))) (by rfl), ?_⟩ | refine ⟨_, _, _, Sat.ld hs (by (repeat (first | exact At.z | apply At.s))) (by rfl), ?_⟩ | (intro _ _ hn; replace hs := Sat.new hs hn; clear hn) | refine ⟨Sat.cs hs (by (repeat (first | exact At.z | apply At.s))) (by rfl), ?_⟩ | (refine ⟨Sat.can hs (by (repeat (first | exact At.z | apply At.s))) (by simp), ?_⟩; intro _ e; replace hs := Sat.wr hs (by (repeat (first | exact At.z | apply At.s))) e; clear e; simp only [put, splice, List.set] at hs))
 refine rLay_sp (a := a_) (b := b_) (c' := c') (s := s) c hs (fun h' hs' => rd _ hs'.drop) ty ?_ ?_ ?_
 ·intro nm h1 hs
  refine ⟨_, _, _, Sat.ld hs (by (repeat (first | exact At.z | apply At.s))) (by rfl), ?_⟩
  refine ringsU_sp hs hL (fun h' hs' => rl.ext hs') hll ?_
  intro o1 e1 i1 h3 B hs hB
  rw [if_neg (by decide)]
  exact k1 (fun y => nm y.1) _ _ _ (hs.sub ((List.sublist_cons_self _ _).trans (List.sublist_append_right _ _)))
 ·intro m nl h1 hs
  refine ⟨_, _, _, Sat.ld hs (by (repeat (first | exact At.z | apply At.s))) (by rfl), ?_⟩
  refine ringsU_sp hs hL (fun h' hs' => rl.ext hs') hll ?_
  intro o1 e1 i1 h3 B hs hB
  rw [if_neg (by decide)]
  exact k1 (fun y => nl y.2.1) _ _ _ (hs.sub ((List.sublist_cons_self _ _).trans (List.sublist_append_right _ _)))
 ·intro m l pr h1 hs
  refine ⟨_, _, _, Sat.ld hs (by (repeat (first | exact At.z | apply At.s))) (by rfl), ?_⟩
  refine ringsU_sp hs hL (fun h' hs' => rl.ext hs') hll ?_
  intro o1 e1 i1 h3 B hs hB
  rw [if_pos (by decide)]
  rcases hB with ⟨a, b⟩ | ⟨a, b0, rr, lp2, lc2, R2, b, eR2, gR2, b1⟩
  ·have : (e1 == 0) = false := by simpa using newM_ne a
   rw [this]
   exact k1 (fun y => by rw [y.2.2] at a; cases a) _ _ _ (hs.sub (((List.sublist_cons_self _ _).trans (List.sublist_cons_self _ _)).trans (List.sublist_append_right _ _)))
  subst b0 b b1
  have lR2 : R2.length < 2 ^ 40 := by
   have := congrArg List.length eR2
   rw [List.length_map] at this
   have h64 : ¬ 64 < L.length := fun y => by unfold newM at a; rw [if_pos y] at a; cases a
   omega
  refine k2 ⟨m, l, a⟩ pr rr lp2 lc2 R2 h3 eR2 gR2 lR2 ?_
  have q1 : (ringD rr lp2 lc2 R2 ++ (refE pr (layC c s) :: (blk n26 (scnV c a_ b_ c' lp ll lc) :: A))).Perm (refE pr (layC c s) :: (ringD rr lp2 lc2 R2 ++ (blk n26 (scnV c a_ b_ c' lp ll lc) :: A))) := List.perm_middle
  refine (hs.perm q1).sub ?_
  refine List.Sublist.cons_cons _ ?_
  exact (List.Sublist.refl _).append (List.sublist_cons_self _ _)
end
end Go.Proofs.YtaglicdidpgkpaaGreatDoor
end

/- TokenChecks: over any chip, keys, tokens, wishes; no act; without power, too. Own work. -/
section
set_option maxRecDepth 100000
set_option linter.unusedVariables false
namespace Go.Proofs.YtaglicdidpgkpaaGreatDoor
open Go Go.Vc
attribute [local irreducible] macM

structure TkIn (h : H) (key : Int) (id tag : List Int) (cs : List CvM) (ip : Option Addr) (il : Nat) (cp : Option Addr) (cl : Nat) : Prop where
 ri : hsv h ip 1 il (ints .u8 id)
 rb : isBy id
 ii : il + 4096 ≤ 2 ^ 47
 rc : hsv h cp 5 cl (cvsV cs)
 tl : tag.length = 32
 tb : isBy tag
section
variable {h0 h : H} {A : List Ent} {i j p r b s m : Nat} {C : Cm}
end
end Go.Proofs.YtaglicdidpgkpaaGreatDoor
end

/- GateNames, GateChecks. Own work. -/
section
set_option maxRecDepth 100000
set_option linter.unusedVariables false
namespace Go.Proofs.YtaglicdidpgkpaaGreatDoor
open Go Go.Vc
attribute [local irreducible] macM gateM

section
variable {h0 h : H} {A : List Ent} {i j p r b s m : Nat} {C : Cm}
theorem perm3m {α : Type} (a b c : α) (P C : List α) : (P ++ a :: b :: c :: C).Perm (a :: b :: c :: (P ++ C)) := by
 have := (List.perm_append_comm (l₁ := P) (l₂ := [a, b, c])).append_right C
 simpa using this
theorem payRd {h : H} {own : Sl} {bs : List Int} {n : Nat} (rd : hsv h own.1 1 own.2.1 (ints .u8 bs)) (hl : bs.length = 48 + n) : hsv h (subAddr own.1 16 (16 + n) 1) 1 n (ints .u8 ((bs.drop 16).take n)) := by
 have hlen : own.2.1 = 48 + n := by have := rd.1; simp at this; omega
 exact subRd (o := 16) (n := n) (m := 16 + n) rd (by omega) (by omega)
end
end Go.Proofs.YtaglicdidpgkpaaGreatDoor
end

/- The store's laws, plain: what a BumpTo leaves. Own work. -/
section
set_option maxRecDepth 100000
set_option linter.unusedVariables false
namespace Go.Proofs.YtaglicdidpgkpaaGreatDoor
open Go Go.Vc

theorem program_blown (C : Cm) (t q : Int) (x : List Int) : (programM C t q x).1.s.blown = C.s.blown := by
 unfold programM
 split
 ·rfl
 ·show C.act.s.blown = _; rw [act_s]
theorem erase_blown (C : Cm) (t : Int) : (eraseM C t).1.s.blown = C.s.blown := by
 unfold eraseM
 split
 ·rfl
 ·split
  ·rfl
  ·show C.act.s.blown = _; rw [act_s]
theorem layL_blown (C : Cm) (slot n : Int) : (layL C slot n).1.s.blown = C.s.blown := by
 have ep : ∀ (t : Int) (nums : List Int) (m x a : Nat) (D : Cm), (turnP t nums m x a D).1.s.blown = D.s.blown := by
  intro t nums m
  induction m with
  | zero => intro x a D; rfl
  | succ m ih =>
   intro x a D
   unfold turnP
   split
   ·exact ih _ _ _
   ·split
    ·exact program_blown _ _ _ _
    ·exact (ih _ _ _).trans (program_blown _ _ _ _)
 have ea : ∀ (g t : Int) (nums : List Int) (m : Nat) (D : Cm), (turnA g t nums m D).1.s.blown = D.s.blown := by
  intro g t nums m D
  unfold turnA
  split
  ·exact ep _ _ _ _ _ _
  ·exact (program_blown _ _ _ _).trans (ep _ _ _ _ _ _)
 unfold layL
 (repeat' split) <;> first | rfl | exact program_blown _ _ _ _ | skip
 unfold turnL
 split
 ·exact ea _ _ _ _ _
 ·split
  ·exact erase_blown _ _
  ·exact (ea _ _ _ _ _).trans (erase_blown _ _)
theorem blow_pages (C : Cm) (k : Int) : (blowM C k).1.s.pages = C.s.pages ∧ (blowM C k).1.s.erases = C.s.erases ∧ (blowM C k).1.cfg = C.cfg := by
 unfold blowM
 split
 ·exact ⟨rfl, rfl, rfl⟩
 ·dsimp only
  split
  ·exact ⟨rfl, rfl, act_cfg C⟩
  ·rw [act_s]; exact ⟨rfl, rfl, act_cfg C⟩
theorem raise_pages (a f : Nat) (n : Int) : ∀ (m : Nat) (C : Cm), (raiseL a f n m C).1.s.pages = C.s.pages ∧ (raiseL a f n m C).1.cfg = C.cfg
 | 0, C => ⟨rfl, rfl⟩
 | m + 1, C => by
  unfold raiseL
  split
  ·exact ⟨rfl, rfl⟩
  ·split
   ·exact ⟨rfl, rfl⟩
   ·rename_i k _
    have b := blow_pages C k
    split
    ·exact ⟨b.1, b.2.2⟩
    ·have r := raise_pages a f n m (blowM C k).1
     exact ⟨r.1.trans b.1, r.2.trans b.2.2⟩
theorem blow_left {C : Cm} (h : C.left < 0) (k : Int) : (blowM C k).1.left < 0 := by
 unfold blowM
 split
 ·exact h
 ·dsimp only
  split
  ·exact act_left h
  ·exact act_left h
theorem raise_left (a f : Nat) (n : Int) : ∀ (m : Nat) (C : Cm), C.left < 0 → (raiseL a f n m C).1.left < 0
 | 0, C, h => h
 | m + 1, C, h => by
  unfold raiseL
  split
  ·exact h
  ·split
   ·exact h
   ·rename_i k _
    have b := blow_left h k
    split
    ·exact b
    ·exact raise_left a f n m _ b
theorem snd_of {u : Bool} {C D : Cm} (hc : D.cfg = C.cfg) (hp : D.s.pages = C.s.pages) (hl : C.left < 0 → D.left < 0) (h : sndU u C) : sndU u D := by
 cases u
 ·intro x hx
  have := h x hx
  unfold Cm.pg at this ⊢
  rw [hp, hc]
  exact this
 ·exact hl h
def cntB (C : Cm) (k : Nat) : Nat := cnt C.s.blown (((k : Nat) : Int) * C.cfg.fuses).toNat C.cfg.fuses.toNat
def valB (C : Cm) (k : Nat) : Int := if (cntB C k : Int) * C.cfg.step < numOf C k then numOf C k else (cntB C k : Int) * C.cfg.step
theorem valS_B {C : Cm} (ho : C.out = false) {k : Nat} (hk : (k : Int) < C.cfg.slots) : valS C (k : Int) = valB C k := by
 have e : countM C (k : Int) = (((cnt C.s.blown (((k : Nat) : Int) * C.cfg.fuses).toNat C.cfg.fuses.toNat : Nat) : Int), 0) := by
  unfold countM
  rw [askedM_in ho (by omega) hk, if_neg (by simp)]
 unfold valS valB cntB
 rw [e, Int.toNat_natCast]
theorem numOf_pages {C D : Cm} (hc : D.cfg = C.cfg) (hp : D.s.pages = C.s.pages) (k : Nat) : numOf D k = numOf C k := by
 have e : ∀ t, pI D t = pI C t := fun t => by unfold pI Cm.pg; rw [hc, hp]
 unfold numOf infoM presM
 rw [e, e, e]
structure Bumped (u : Bool) (C D : Cm) (slot : Nat) (v e : Int) : Prop where
 cfg : D.cfg = C.cfg
 snd : sndU u D
 keys : ∀ q : Nat, C.cfg.slots * C.cfg.fuses ≤ (q : Int) → D.s.blown.getD q false = C.s.blown.getD q false
 other : ∀ k : Nat, (k : Int) < C.cfg.slots → k ≠ slot → valB D k = valB C k
 me : valB D slot = valB C slot ∨ (valB D slot = v ∧ valB C slot < v)
 done : e = 0 → valB D slot = max v (valB C slot)
 bad : e ≠ 0 → e ≠ 8 → D = C
theorem cnt_congr {x y : List Bool} {a : Nat} : ∀ {n : Nat}, (∀ k, a ≤ k → k < a + n → x.getD k false = y.getD k false) → cnt x a n = cnt y a n
 | 0, _ => rfl
 | n + 1, h => by
  unfold cnt
  rw [cnt_congr (n := n) fun k h1 h2 => h k h1 (by omega), h (a + n) (by omega) (by omega)]
theorem bump_law {u : Bool} {C : Cm} (ok : C.ok) (ho : C.out = false) (snd : sndU u C) {slot : Nat} (hs : (slot : Int) < C.cfg.slots) (v : Int) :
  Bumped u C (sBumpTo C (slot : Int) v).1 slot v (sBumpTo C (slot : Int) v).2 := by
 have hms := ok.may.slots
 have hst := ok.may.step
 have hfu := ok.may.fuses
 have hr : sRead C (slot : Int) = (valB C slot, 0) := by
  unfold sRead
  rw [askedM_in ho (by omega) hs, if_neg (by simp), valS_B ho hs]
 have hmv := most_val
 have hlast := lastM_in ok.may
 unfold sBumpTo
 rw [hr]
 dsimp only
 rw [if_neg (by simp)]
 have idle : ∀ e, (e = 0 → v ≤ valB C slot) → Bumped u C C slot v e := fun e he =>
  ⟨rfl, snd, fun _ _ => rfl, fun _ _ _ => rfl, Or.inl rfl, fun y => by have := he y; omega, fun _ _ => rfl⟩
 by_cases g1 : v < 0
 ·rw [if_pos g1]; exact idle 2 (fun y => absurd y (by decide))
 rw [if_neg g1]
 by_cases g2 : v ≤ valB C slot
 ·rw [if_pos g2]; exact idle 0 (fun _ => g2)
 rw [if_neg g2]
 by_cases g3 : lastM C.cfg < v
 ·rw [if_pos g3]; exact idle 10 (fun y => absurd y (by decide))
 rw [if_neg g3]
 have hnum : numOf C slot ≤ valB C slot := by unfold valB; split <;> omega
 have hcnt : (cntB C slot : Int) * C.cfg.step ≤ valB C slot := by unfold valB; split <;> omega
 have hc0 : 0 ≤ (cntB C slot : Int) * C.cfg.step := Int.mul_nonneg (by omega) (by omega)
 obtain ⟨D, e, hL, L⟩ := lay_law (u := u) ok ho snd (slot := slot) (n := v) (by omega) (by omega) (by omega) (by omega)
 have hbl := layL_blown C (slot : Int) v
 rw [hL] at hbl ⊢
 dsimp only at hbl ⊢
 have cD : ∀ k, cntB D k = cntB C k := fun k => by unfold cntB; rw [hbl, L.cfg]
 have vD : ∀ k : Nat, (k : Int) < C.cfg.slots → k ≠ slot → valB D k = valB C k := fun k h1 h2 => by
  unfold valB
  rw [cD, L.cfg, L.other k (by omega) h2]
 by_cases ge : e = 0
 case neg =>
  rw [if_pos ge]
  refine ⟨L.cfg, L.snd, fun q _ => by rw [hbl], vD, ?_, fun y => absurd y ge, fun _ h8 => L.e9 (by have := L.ec; omega)⟩
  rcases L.me with y | y
  ·left; unfold valB; rw [cD, L.cfg, y]
  ·right
   refine ⟨?_, by omega⟩
   unfold valB
   rw [cD, L.cfg, y, if_pos (by omega)]
 rw [if_neg (fun y => y ge)]
 have okD := L.ok
 have hoD := L.out0 ge
 have hn := L.done ge
 have hsD : (slot : Int) < D.cfg.slots := by rw [L.cfg]; exact hs
 obtain ⟨r1, r2, r3, r4, r5, r6⟩ := row_in okD (slot := (slot : Int)) (by omega) hsD
 have hd0 : 0 ≤ v.tdiv C.cfg.step := Int.tdiv_nonneg (by omega) (by omega)
 have hdq : v.tdiv C.cfg.step * C.cfg.step ≤ v := by
  rw [Int.tdiv_eq_ediv_of_nonneg (by omega)]
  exact Int.ediv_mul_le v (by omega)
 have hdf : v.tdiv C.cfg.step ≤ C.cfg.fuses := by
  rw [Int.tdiv_eq_ediv_of_nonneg (by omega)]
  have : v / C.cfg.step < C.cfg.fuses + 1 := Int.ediv_lt_of_lt_mul (by omega) (by
   rw [Int.add_mul, Int.one_mul, Int.mul_comm]
   unfold lastM at g3
   omega)
  omega
 unfold raiseM
 rw [askedM_in hoD (by omega) hsD, if_neg (by simp), if_neg (by omega), if_neg (by rw [L.cfg]; omega)]
 have R := raised ((slot : Int) * D.cfg.fuses).toNat D.cfg.fuses.toNat (v.tdiv C.cfg.step) (by rw [L.cfg]; rw [L.cfg] at r2; omega) D.cfg.fuses.toNat D hoD okD.left r3 (by
  have := Int.natCast_nonneg (cnt D.s.blown ((slot : Int) * D.cfg.fuses).toNat D.cfg.fuses.toNat)
  rw [L.cfg] at r2 ⊢
  omega)
 have P := raise_pages ((slot : Int) * D.cfg.fuses).toNat D.cfg.fuses.toNat (v.tdiv C.cfg.step) D.cfg.fuses.toNat D
 have PL := raise_left ((slot : Int) * D.cfg.fuses).toNat D.cfg.fuses.toNat (v.tdiv C.cfg.step) D.cfg.fuses.toNat D
 generalize raiseL ((slot : Int) * D.cfg.fuses).toNat D.cfg.fuses.toNat (v.tdiv C.cfg.step) D.cfg.fuses.toNat D = X at *
 have cX : X.1.cfg = C.cfg := R.cfg.trans L.cfg
 have nX : ∀ k, numOf X.1 k = numOf D k := fun k => numOf_pages R.cfg P.1 k
 have sX : sndU u X.1 := snd_of R.cfg P.1 PL L.snd
 have hfm : (C.cfg.fuses.toNat : Int) = C.cfg.fuses := by omega
 have cXme : ((cntB X.1 slot : Nat) : Int) * C.cfg.step ≤ v := by
  have := R.le
  have e1 : cnt D.s.blown ((slot : Int) * D.cfg.fuses).toNat D.cfg.fuses.toNat = cntB C slot := (show cntB D slot = _ from cD slot)
  have e2 : cnt X.1.s.blown ((slot : Int) * D.cfg.fuses).toNat D.cfg.fuses.toNat = cntB X.1 slot := by unfold cntB; rw [R.cfg]
  rw [e1, e2] at this
  rcases Int.le_total (v.tdiv C.cfg.step) (cntB C slot : Int) with y | y
  ·have z : ((cntB X.1 slot : Nat) : Int) ≤ (cntB C slot : Int) := by omega
   have := Int.mul_le_mul_of_nonneg_right z (show 0 ≤ C.cfg.step by omega)
   omega
  ·have z : ((cntB X.1 slot : Nat) : Int) ≤ v.tdiv C.cfg.step := by omega
   have := Int.mul_le_mul_of_nonneg_right z (show 0 ≤ C.cfg.step by omega)
   omega
 have vme : valB X.1 slot = v := by
  unfold valB
  rw [nX, hn, cX]
  split <;> omega
 refine ⟨cX, sX, ?_, ?_, Or.inr ⟨vme, by omega⟩, fun _ => by rw [vme]; omega, fun h1 h2 => absurd (R.bad h1).1 h2⟩
 ·intro q hq
  rw [← hbl]
  refine R.same q (Or.inr ?_)
  have : ((slot : Int) + 1) * C.cfg.fuses ≤ C.cfg.slots * C.cfg.fuses := Int.mul_le_mul_of_nonneg_right (by omega) (by omega)
  rw [Int.add_mul, Int.one_mul] at this
  rw [L.cfg] at r1 r2 ⊢
  omega
 ·intro k hk hne
  rw [← vD k hk hne]
  have hce : cntB X.1 k = cntB D k := by
   unfold cntB
   rw [R.cfg]
   refine cnt_congr fun q h1 h2 => R.same q ?_
   rw [L.cfg] at h1 h2 r1 r2 ⊢
   have k0 : 0 ≤ (k : Int) * C.cfg.fuses := Int.mul_nonneg (by omega) (by omega)
   rcases Nat.lt_or_ge k slot with y | y
   ·left
    have : ((k : Int) + 1) * C.cfg.fuses ≤ (slot : Int) * C.cfg.fuses := Int.mul_le_mul_of_nonneg_right (by omega) (by omega)
    rw [Int.add_mul, Int.one_mul] at this
    omega
   ·right
    have : ((slot : Int) + 1) * C.cfg.fuses ≤ (k : Int) * C.cfg.fuses := Int.mul_le_mul_of_nonneg_right (by omega) (by omega)
    rw [Int.add_mul, Int.one_mul] at this
    omega
  unfold valB
  rw [hce, nX, R.cfg]
end Go.Proofs.YtaglicdidpgkpaaGreatDoor
end

/- The store's laws, plain: what a Revoke leaves. Own work. -/
section
set_option maxRecDepth 100000
set_option linter.unusedVariables false
namespace Go.Proofs.YtaglicdidpgkpaaGreatDoor
open Go Go.Vc

def keyB (C : Cm) (k : Nat) : Bool := C.s.blown.getD (C.cfg.slots * C.cfg.fuses + (k : Int)).toNat false
structure RevokedL (u : Bool) (C D : Cm) (key : Nat) (e : Int) : Prop where
 cfg : D.cfg = C.cfg
 snd : sndU u D
 vals : ∀ k : Nat, (k : Int) < C.cfg.slots → valB D k = valB C k
 other : ∀ k : Nat, k ≠ key → keyB D k = keyB C k
 up : keyB C key = true → keyB D key = true
 done : e = 0 → keyB D key = true ∧ D.out = false
 bad : e ≠ 0 → e ≠ 8 → D = C
theorem revoke_law {u : Bool} {C : Cm} (ok : C.ok) (ho : C.out = false) (snd : sndU u C) {key : Nat} (hk : (key : Int) < C.cfg.keys) : RevokedL u C (revokeM C (key : Int)).1 key (revokeM C (key : Int)).2 := by
 have hms := ok.may.slots
 have hfu := ok.may.fuses
 have h0 : 0 ≤ C.cfg.slots * C.cfg.fuses := Int.mul_nonneg (by omega) (by omega)
 have hbl := ok.fits.blown
 have hnf : C.cfg.nf = C.cfg.slots * C.cfg.fuses + C.cfg.keys := rfl
 have er : revokedM C (key : Int) = (keyB C key, 0) := by
  unfold revokedM
  rw [askedM_in ho (by omega) hk, if_neg (by simp)]; rfl
 unfold revokeM
 rw [er]
 dsimp only
 rw [if_neg (by simp)]
 by_cases g : keyB C key = true
 ·rw [if_pos g]
  exact ⟨rfl, snd, fun _ _ => rfl, fun _ _ => rfl, fun y => y, fun _ => ⟨g, ho⟩, fun y => absurd rfl y⟩
 rw [if_neg g]
 obtain ⟨q, hq⟩ : ∃ q : Nat, C.cfg.slots * C.cfg.fuses + (key : Int) = (q : Int) := Int.eq_ofNat_of_zero_le (by omega)
 rw [hq]
 have hql : q < C.s.blown.length := by omega
 have B := blow_pages C (q : Int)
 have BL := fun h => blow_left (C := C) h (q : Int)
 have hb : (blowM C (q : Int)).1.s.blown = C.s.blown ∨ (blowM C (q : Int)).1.s.blown = C.s.blown.set q true := by
  by_cases hl : C.left = 0
  ·exact (blow_cut ho hql hl).2.2
  ·right; rw [blow_good ho hql hl]
 have he : (blowM C (q : Int)).2 = 0 → (blowM C (q : Int)).1.s.blown = C.s.blown.set q true ∧ (blowM C (q : Int)).1.out = false := by
  intro y
  by_cases hl : C.left = 0
  ·rw [(blow_cut ho hql hl).1] at y; exact absurd y (by decide)
  ·rw [blow_good ho hql hl]; exact ⟨rfl, act_out ho hl⟩
 have hbad : (blowM C (q : Int)).2 = 0 ∨ (blowM C (q : Int)).2 = 8 := by
  by_cases hl : C.left = 0
  ·exact Or.inr (blow_cut ho hql hl).1
  ·left; rw [blow_good ho hql hl]
 generalize blowM C (q : Int) = X at *
 obtain ⟨b1, _, b3⟩ := B
 have same : ∀ k, k ≠ q → X.1.s.blown.getD k false = C.s.blown.getD k false := by
  intro k hne
  rcases hb with y | y
  ·rw [y]
  ·rw [y]; simp only [List.getD, List.getElem?_set_ne (Ne.symm hne)]
 refine ⟨b3, snd_of b3 b1 BL snd, ?_, ?_, fun y => absurd y g, ?_, fun h1 h2 => by rcases hbad with y | y; exact absurd y h1; exact absurd y h2⟩
 ·intro k hk2
  have k0 : 0 ≤ (k : Int) * C.cfg.fuses := Int.mul_nonneg (by omega) (by omega)
  have k1 : ((k : Int) + 1) * C.cfg.fuses ≤ C.cfg.slots * C.cfg.fuses := Int.mul_le_mul_of_nonneg_right (by omega) (by omega)
  rw [Int.add_mul, Int.one_mul] at k1
  have hce : cntB X.1 k = cntB C k := by
   unfold cntB
   rw [b3]
   refine cnt_congr fun z h1 h2 => same z ?_
   omega
  unfold valB
  rw [hce, numOf_pages b3 b1, b3]
 ·intro k hne
  unfold keyB
  rw [b3]
  exact same _ (by omega)
 ·intro y
  refine ⟨?_, (he y).2⟩
  unfold keyB
  rw [b3, hq, Int.toNat_natCast, (he y).1]
  simp [List.getD, hql]
end Go.Proofs.YtaglicdidpgkpaaGreatDoor
end

/- The gate, plain: what is handed off once is handed off no more behind a bump or a revocation. Own work. -/
section
set_option maxRecDepth 100000
set_option linter.unusedVariables false
namespace Go.Proofs.YtaglicdidpgkpaaGreatDoor
open Go Go.Vc
attribute [local irreducible] macM

theorem read_on {C : Cm} (ho : C.out = false) {k : Nat} (hk : (k : Int) < C.cfg.slots) : sRead C (k : Int) = (valB C k, 0) := by
 unfold sRead
 rw [askedM_in ho (by omega) hk, if_neg (by simp), valS_B ho hk]
theorem revoked_on {C : Cm} (ho : C.out = false) {k : Nat} (hk : (k : Int) < C.cfg.keys) : revokedM C (k : Int) = (keyB C k, 0) := by
 unfold revokedM
 rw [askedM_in ho (by omega) hk, if_neg (by simp)]; rfl
structure Hands (C : Cm) (L : List Sec) (bs : List Int) (x y : Nat) (s : Sec) : Prop where
 on : C.out = false
 fine : (parseW bs).1 = 0
 slot : bs.getD 5 0 = (x : Int)
 key : bs.getD 6 0 = (y : Int)
 slots : (x : Int) < C.cfg.slots
 keys : (y : Int) < C.cfg.keys
 has : L.find? (fun z => z.1 == (y : Int)) = some s
 may : keyB C y = false
 tag : macM s.2 (bs.take (bs.length - 32)) = (bs.drop (bs.length - 32)).take 32
 low : valB C x ≤ num4 bs 8
 high : num4 bs 8 ≤ lastM C.cfg
theorem hands_of {C : Cm} {L : List Sec} {bs : List Int} (hb : bytesOk bs) (h : gateM C L bs = 0) : ∃ x y s, Hands C L bs x y s := by
 unfold gateM at h
 by_cases ho : C.out = true
 ·rw [if_pos ho] at h; cases h
 rw [if_neg ho] at h
 have ho : C.out = false := by simpa using ho
 by_cases hp : (parseW bs).1 ≠ 0
 ·rw [if_pos hp] at h; exact absurd h hp
 rw [if_neg hp] at h
 by_cases hs : C.cfg.slots ≤ bs.getD 5 0
 ·rw [if_pos hs] at h; cases h
 rw [if_neg hs] at h
 cases hf : L.find? (fun z => z.1 == bs.getD 6 0) with
 | none => rw [hf] at h; cases h
 | some s =>
  rw [hf] at h
  dsimp only at h
  obtain ⟨x, hx⟩ := Int.eq_ofNat_of_zero_le (byte_getD hb 5).1
  obtain ⟨y, hy⟩ := Int.eq_ofNat_of_zero_le (byte_getD hb 6).1
  rw [hx] at hs h
  rw [hy] at hf h
  by_cases hk : C.cfg.keys ≤ (y : Int)
  ·rw [if_pos hk] at h; cases h
  rw [if_neg hk, revoked_on ho (by omega)] at h
  dsimp only at h
  by_cases hr : keyB C y = true
  ·rw [if_pos hr] at h; cases h
  rw [if_neg hr] at h
  by_cases ht : macM s.2 (bs.take (bs.length - 32)) ≠ (bs.drop (bs.length - 32)).take 32
  ·rw [if_pos ht] at h; cases h
  rw [if_neg ht, read_on ho (by omega)] at h
  dsimp only at h
  by_cases h1 : num4 bs 8 < valB C x
  ·rw [if_pos h1] at h; cases h
  rw [if_neg h1] at h
  by_cases h2 : lastM C.cfg < num4 bs 8
  ·rw [if_pos h2] at h; cases h
  exact ⟨x, y, s, ho, Decidable.not_not.1 hp, hx, hy, by omega, by omega, hf, by simpa using hr, Decidable.not_not.1 ht, by omega, by omega⟩
theorem hands_to {C : Cm} {L : List Sec} {bs : List Int} {x y : Nat} {s : Sec} (H : Hands C L bs x y s) : gateM C L bs = 0 := by
 unfold gateM
 rw [if_neg (by rw [H.on]; decide), if_neg (fun z => z H.fine), H.slot, H.key, if_neg (by have := H.slots; omega), H.has]
 dsimp only
 rw [if_neg (by have := H.keys; omega), revoked_on H.on H.keys]
 dsimp only
 rw [if_neg (by rw [H.may]; decide), if_neg (fun z => z H.tag), read_on H.on H.slots]
 dsimp only
 rw [if_neg (by have := H.low; omega), if_neg (by have := H.high; omega)]
structure Lifted (C D : Cm) : Prop where
 cfg : D.cfg = C.cfg
 vals : ∀ k : Nat, (k : Int) < C.cfg.slots → valB C k ≤ valB D k
 keys : ∀ k : Nat, (k : Int) < C.cfg.keys → keyB C k = true → keyB D k = true
theorem hands_back {C D : Cm} {L : List Sec} {bs : List Int} {x y : Nat} {s : Sec} (l : Lifted C D) (ho : C.out = false) (H : Hands D L bs x y s) : Hands C L bs x y s := by
 have h1 := H.slots
 have h2 := H.keys
 have h3 := H.high
 rw [l.cfg] at h1 h2 h3
 refine ⟨ho, H.fine, H.slot, H.key, h1, h2, H.has, ?_, H.tag, ?_, h3⟩
 ·cases e : keyB C y with
  | false => rfl
  | true => have := l.keys y h2 e; rw [H.may] at this; cases this
 ·have := l.vals x h1
  have := H.low
  omega
theorem lifted_refl (C : Cm) : Lifted C C := ⟨rfl, fun _ _ => Int.le_refl _, fun _ _ h => h⟩
theorem bump_lifted {C : Cm} (ok : C.ok) (ho : C.out = false) (hl : C.left < 0) (slot v : Int) :
  Lifted C (sBumpTo C slot v).1 ∧ (sBumpTo C slot v).1.left < 0 ∧ ((sBumpTo C slot v).2 = 0 → ∀ x : Nat, slot = (x : Int) → (x : Int) < C.cfg.slots → v ≤ valB (sBumpTo C slot v).1 x) := by
 by_cases g : 0 ≤ slot ∧ slot < C.cfg.slots
 case neg =>
  have e : sBumpTo C slot v = (C, 2) := by
   have e2 : (sRead C slot).2 = 2 := by
    unfold sRead
    by_cases g0 : slot < 0
    ·rw [askedM_neg ho g0, if_pos (by decide)]
    ·rw [askedM_hi ho (by omega), if_pos (by decide)]
   unfold sBumpTo
   rw [e2, if_pos (by decide)]
  rw [e]
  exact ⟨lifted_refl C, hl, fun y => absurd (show (2 : Int) = 0 from y) (by decide)⟩
 obtain ⟨z, hz⟩ := Int.eq_ofNat_of_zero_le g.1
 rw [hz] at g ⊢
 have B := bump_law (u := true) ok ho hl g.2 v
 have hms := ok.may.slots
 have hfu := ok.may.fuses
 have hnn : 0 ≤ C.cfg.slots * C.cfg.fuses := Int.mul_nonneg (by omega) (by omega)
 generalize sBumpTo C (z : Int) v = X at *
 refine ⟨⟨B.cfg, fun k hk => ?_, fun k hk y => ?_⟩, B.snd, fun e x hx h2 => ?_⟩
 ·by_cases e : k = z
  ·subst e; rcases B.me with y | y <;> omega
  ·rw [B.other k hk e]; exact Int.le_refl _
 ·unfold keyB at y ⊢
  rw [B.cfg, B.keys _ (by omega)]; exact y
 ·have : x = z := by omega
  subst this
  rw [B.done e]; omega
theorem revoke_lifted {C : Cm} (ok : C.ok) (ho : C.out = false) (hl : C.left < 0) (key : Int) :
  Lifted C (revokeM C key).1 ∧ ((revokeM C key).2 = 0 → (revokeM C key).1.out = false ∧ ∀ x : Nat, key = (x : Int) → (x : Int) < C.cfg.keys → keyB (revokeM C key).1 x = true) := by
 by_cases g : 0 ≤ key ∧ key < C.cfg.keys
 case neg =>
  have e : revokeM C key = (C, 2) := by
   have e2 : revokedM C key = (false, 2) := by
    unfold revokedM
    by_cases g0 : key < 0
    ·rw [askedM_neg ho g0, if_pos (by decide)]
    ·rw [askedM_hi ho (by omega), if_pos (by decide)]
   unfold revokeM
   rw [e2, if_pos (by decide)]
  rw [e]
  exact ⟨lifted_refl C, fun y => absurd (show (2 : Int) = 0 from y) (by decide)⟩
 obtain ⟨z, hz⟩ := Int.eq_ofNat_of_zero_le g.1
 rw [hz] at g ⊢
 have B := revoke_law (u := true) ok ho hl g.2
 generalize revokeM C (z : Int) = X at *
 refine ⟨⟨B.cfg, fun k hk => by rw [B.vals k hk]; exact Int.le_refl _, fun k hk y => ?_⟩, fun e => ⟨(B.done e).2, fun x hx _ => ?_⟩⟩
 ·by_cases e : k = z
  ·subst e; exact B.up y
  ·rw [B.other k e]; exact y
 ·have : x = z := by omega
  subst this
  exact (B.done e).1
theorem gate_revoked {C : Cm} {L : List Sec} {bs : List Int} {x y : Nat} {s : Sec} {D : Cm} (H : Hands C L bs x y s) (hc : D.cfg = C.cfg) (ho : D.out = false) (hk : keyB D y = true) : gateM D L bs = 14 := by
 unfold gateM
 have h1 := H.slots
 have h2 := H.keys
 rw [← hc] at h1 h2
 rw [if_neg (by rw [ho]; decide), if_neg (fun z => z H.fine), H.slot, H.key, if_neg (by omega), H.has]
 dsimp only
 rw [if_neg (by omega), revoked_on ho h2]
 dsimp only
 rw [if_pos hk]
theorem revoke_off {C : Cm} (ho : C.out = true) (key : Int) : revokeM C key = (C, 8) := by
 have e2 : revokedM C key = (false, 8) := by
  unfold revokedM
  rw [show askedM C key C.cfg.keys = 8 by unfold askedM; rw [if_pos ho], if_pos (by decide)]
 unfold revokeM
 rw [e2, if_pos (by decide)]
theorem gate_off {C : Cm} (ho : C.out = true) (L : List Sec) (bs : List Int) : gateM C L bs = 8 := by unfold gateM; rw [if_pos ho]
theorem stays {C D E : Cm} {L : List Sec} {bs : List Int} {slot v key f g : Int} (hb : bytesOk bs) (ok : C.ok) (okD : D.ok) (ho : C.out = false) (hl : C.left < 0) (hf : sBumpTo C slot v = (D, f)) (hg : revokeM D key = (E, g)) :
  (gateM D L bs = 0 → gateM C L bs = 0) ∧ (f = 0 → gateM D L bs = 0 → bs.getD 5 0 = slot → v ≤ num4 bs 8) ∧ (gateM E L bs = 0 → gateM D L bs = 0 ∧ (g = 0 → bs.getD 6 0 ≠ key)) ∧
  (g = 0 → gateM D L bs = 0 → bs.getD 6 0 = key → gateM E L bs = 14) := by
 obtain ⟨b1, b2, b3⟩ := bump_lifted ok ho hl slot v
 rw [hf] at b1 b2 b3
 dsimp only at b1 b2 b3
 refine ⟨fun h => ?_, fun e h hs => ?_, fun h => ?_, fun e h hk => ?_⟩
 ·obtain ⟨x, y, s, H⟩ := hands_of hb h
  exact hands_to (hands_back b1 ho H)
 ·obtain ⟨x, y, s, H⟩ := hands_of hb h
  have h1 := H.slots
  rw [b1.cfg] at h1
  have := b3 e x (by rw [← hs, H.slot]) h1
  have := H.low
  omega
 ·by_cases o : D.out = true
  ·rw [revoke_off o] at hg
   injection hg with hg _
   rw [← hg, gate_off o] at h
   exact absurd h (by decide)
  have o : D.out = false := by simpa using o
  obtain ⟨r1, r2⟩ := revoke_lifted okD o b2 key
  rw [hg] at r1 r2
  dsimp only at r1 r2
  obtain ⟨x, y, s, H⟩ := hands_of hb h
  refine ⟨hands_to (hands_back r1 o H), fun e hk => ?_⟩
  have h2 := H.keys
  rw [r1.cfg] at h2
  have := (r2 e).2 y (by rw [← hk, H.key]) h2
  rw [H.may] at this
  cases this
 ·obtain ⟨x, y, s, H⟩ := hands_of hb h
  obtain ⟨r1, r2⟩ := revoke_lifted okD H.on b2 key
  rw [hg] at r1 r2
  dsimp only at r1 r2
  exact gate_revoked H r1.cfg (r2 e).1 ((r2 e).2 y (by rw [← hk, H.key]) H.keys)
end Go.Proofs.YtaglicdidpgkpaaGreatDoor
end

/- GateStays. Own work. -/
section
set_option maxRecDepth 100000
set_option linter.unusedVariables false
namespace Go.Proofs.YtaglicdidpgkpaaGreatDoor
open Go Go.Vc
attribute [local irreducible] macM gateM

def ImgOf (G : Int) (bs : List Int) (E : Ent) (sl ky vr : Int) (x : Sl) (t : List Int) : Prop :=
 G = 0 → sl = bs.getD 5 0 ∧ ky = bs.getD 6 0 ∧ vr = num4 bs 8 ∧ ∃ (own : Sl) (n : Nat), num4 bs 12 = n ∧ bs.length = 48 + n ∧ x = (subAddr own.1 16 (16 + n) 1, n, n) ∧ t = (bs.drop (16 + n)).take 32 ∧ E = sE own 1 (ints .u8 bs)
section
variable {h0 h : H} {A : List Ent} {i j p r b s m : Nat} {C : Cm}
theorem gateN_sp {K : Nat → Int → H → Prop} {mm rr jm jr : Nat} {bs : List Int} {q : Option Addr} {l c : Nat} {R : List SR} {L : List Sec} (hg : hc h0 ⟨0, 0, none⟩ = some errTypeV) (hs : Sat h0 A h) (ci : At A i (chipE p C)) (cl' : At A j (logE r p)) (st : At A m (storeE s p r))
  (cr : At A jr (blk rr [.map (some mm)])) (cm : At A jm (mapE mm (R.map SR.ent))) (eR : R.map SR.kv = L) (gd : SR.good R) (rR : ∀ x, x ∈ R → ∃ y, At A y x.sl)
  (rd : ∀ h', Sat h0 A h' → hsv h' q 1 l (ints .u8 bs)) (hb : bytesOk bs) (hlc : l ≤ c) (hl : l < 2 ^ 50)
  (k : ∀ nb E sl ky vr x t h', t.length = 32 → ImgOf (gateM C L bs) bs E sl ky vr x t → Sat h0 (blk nb (imgL sl ky vr x t) :: E :: A) h' → K nb (gateM C L bs) h') :
  F_gate_Check ⟨s, 0, none⟩ ⟨rr, 0, none⟩ q l c (fun i1 i2 i3 o n m l e h => ∀ nb h', hnew h nb (.int .i64 0 :: .int .i64 0 :: .int .i64 0 :: .slice none 0 0 :: ints .u8 (zeros 32)) h' → hcan h' ⟨nb, 0, none⟩ 36 ∧ ∀ h'', h'' = hwr h' ⟨nb, 0, none⟩ (.int .i64 i1 :: .int .i64 i2 :: .int .i64 i3 :: .slice o n m :: ints .u8 l) → K nb e h'') h := by
 refine gate_sp (bs := bs) hg hs ci cl' st cr cm gd (fun x hx h' hs' => hs'.sv (rR x hx).choose_spec) rd hb hlc hl ?_ ?_
 ·intro e he hne h5 hs
  rw [eR] at he
  subst he
  replace hs := hs.sl_nil 1 none
  intro n113 _ hn; replace hs := Sat.new hs hn; clear hn
  refine ⟨Sat.can hs (i := 0) .z (by simp [zeros]), ?_⟩
  intro h6 e6
  replace hs := Sat.wra (xs := imgL 0 0 0 (none, 0, 0) (zeros 32)) hs (i := 0) .z e6 rfl
  clear e6
  simp only [put_zero] at hs
  exact k n113 _ 0 0 0 (none, 0, 0) (zeros 32) h6 (zeros_len 32) (fun y => absurd y hne) hs
 ·intro own n hz hp hnn hln h5 hs
  rw [eR] at hz
  have tl32 : ((bs.drop (16 + n)).take 32).length = 32 := by rw [List.length_take, List.length_drop]; omega
  intro n113 _ hn; replace hs := Sat.new hs hn; clear hn
  refine ⟨Sat.can hs (i := 0) .z (by simp [zeros]), ?_⟩
  intro h6 e6
  replace hs := Sat.wra (xs := imgL (bs.getD 5 0) (bs.getD 6 0) (num4 bs 8) (subAddr own.1 16 (16 + n) 1, n, n) ((bs.drop (16 + n)).take 32)) hs (i := 0) .z e6 (by rw [img_len tl32]; rfl)
  clear e6
  simp only [put_zero] at hs
  have := k n113 _ _ _ _ _ _ h6 tl32 (fun _ => ⟨rfl, rfl, rfl, own, n, hnn, hln, rfl, rfl, rfl⟩) hs
  rw [hz] at this
  exact this
theorem GateStays_sp {Q : Bool → H → Prop} (hg : hc h0 ⟨0, 0, none⟩ = some errTypeV) {a_ b_ c' : Sl} {s : St} {X : List SR} {lp q : Option Addr} {ll lc l lc2 : Nat} {bs : List Int} (c : Cfg) (slot v key : Int) (rd0 : RdS h0 a_ b_ c' s) (ty : s.typed) (rl : SecsAt h0 lp ll X) (hll : ll < 2 ^ 47)
  (rb : hsv h0 q 1 l (ints .u8 bs)) (hby : bytesOk bs) (hle : l ≤ lc2) (hlt : l < 2 ^ 50) (k : ∀ h', Sat h0 [] h' → Q true h') :
  F_portcullislaw13_GateStays c.cells c.slots c.fuses c.step c.keys c.erases c.area a_.1 a_.2.1 a_.2.2 b_.1 b_.2.1 b_.2.2 c'.1 c'.2.1 c'.2.2 lp ll lc q l lc2 slot v key Q h0 := by
 unfold F_portcullislaw13_GateStays G_portcullislaw13_GateStays
 try simp only [add_mk, Nat.zero_add, List.append_nil]
 have hs := Sat.init h0
 intro n41 _ hn; replace hs := Sat.new hs hn; clear hn
 replace hs : Sat h0 [blk n41 (scnV c a_ b_ c' lp ll lc)] _ := hs
 refine awake13_sp hg hs ?_
 intro h1 hs
 rw [if_neg (by decide)]
 (repeat first | refine ⟨_, Sat.ld hs (by (repeat (first | exact At.z | apply At.s))) (by rfl), ?_⟩ | refine ⟨_, _, _, Sat.ld hs (by (repeat (first | exact At.z | apply At.s))) (by rfl), ?_⟩ | (intro _ _ hn; replace hs := Sat.new hs hn; clear hn) | refine ⟨Sat.cs hs (by (repeat (first | exact At.z | apply At.s))) (by rfl), ?_⟩ | (refine ⟨Sat.can hs (by (repeat (first | exact At.z | apply At.s))) (by simp), ?_⟩; intro _ e; replace hs := Sat.wr hs (by (repeat (first | exact At.z | apply At.s))) e; clear e; simp only [put, splice, List.set] at hs))
 refine scene13_sp (a_ := a_) (b_ := b_) (c' := c') (s := s) (X := X) c hs (fun h' hs' => rd0.ext hs'.ex) ty rl hll ?_ ?_
 ·intro nok h2 hs
  (repeat first | refine ⟨_, Sat.ld hs (by (repeat (first | exact At.z | apply At.s))) (by rfl), ?_⟩ | refine ⟨_, _, _, Sat.ld hs (by (repeat (first | exact At.z | apply At.s))) (by rfl), ?_⟩ | (intro _ _ hn; replace hs := Sat.new hs hn; clear hn) | refine ⟨Sat.cs hs (by (repeat (first | exact At.z | apply At.s))) (by rfl), ?_⟩ | (refine ⟨Sat.can hs (by (repeat (first | exact At.z | apply At.s))) (by simp), ?_⟩; intro _ e; replace hs := Sat.wr hs (by (repeat (first | exact At.z | apply At.s))) e; clear e; simp only [put, splice, List.set] at hs))
  refine may13_sp (a_ := a_) (b_ := b_) (c' := c') (s := s) (X := X) c hs (fun h' hs' => rd0.ext hs'.ex) ty rl hll ?_ (fun y => absurd y nok)
  intro _ o o' h3 hs
  rw [if_neg (by decide), if_pos (by decide)]
  exact k _ hs.nil
 intro ok pc st lg rp mp R h2 eR gR hs
 obtain ⟨y5, b5⟩ : ∃ x, At (chipE pc (layC c s) :: storeE st pc lg :: logE lg pc :: (ringP rp mp R ++ [blk n41 (scnV c a_ b_ c' lp ll lc)])) x (blk n41 (scnV c a_ b_ c' lp ll lc)) := At.mem (by simp)
 refine ⟨_, hs.ld b5 rfl, _, hs.ld b5 rfl, _, hs.ld b5 rfl, _, hs.ld b5 rfl, _, hs.ld b5 rfl, _, hs.ld b5 rfl, _, hs.ld b5 rfl, _, _, _, hs.ld b5 rfl, _, _, _, hs.ld b5 rfl, _, _, _, hs.ld b5 rfl, _, _, _, hs.ld b5 rfl, ?_⟩
 refine may13_sp (a_ := a_) (b_ := b_) (c' := c') (s := s) (X := X) c hs (fun h' hs' => rd0.ext hs'.ex) ty rl hll (fun nok => absurd ok nok) ?_
 intro _ pr rr lp' lc' R2 h3 eR2 gR2 lR2 hs
 rw [if_neg (by decide), if_neg (by decide)]
 clear b5 y5 ok
 replace hs := hs.perm (((perm3m (chipE pc (layC c s)) (storeE st pc lg) (logE lg pc) (ringD rr lp' lc' R2) (ringP rp mp R ++ [blk n41 (scnV c a_ b_ c' lp ll lc)])).cons (refE pr (layC c s))).trans (List.Perm.swap _ _ _))
 obtain ⟨RR, hRR⟩ : ∃ RR, RR = refE pr (layC c s) :: (storeE st pc lg :: logE lg pc :: (ringD rr lp' lc' R2 ++ (ringP rp mp R ++ [blk n41 (scnV c a_ b_ c' lp ll lc)]))) := ⟨_, rfl⟩
 rw [← hRR] at hs
 obtain ⟨x3, a3⟩ : ∃ x, At RR x (blk rp [.map (some mp)]) := At.mem (by rw [hRR]; simp)
 obtain ⟨x4, a4⟩ : ∃ x, At RR x (mapE mp (R.map SR.ent)) := At.mem (by rw [hRR]; simp)
 have asr : At RR 1 (storeE st pc lg) := by rw [hRR]; exact .s .z
 have al : At RR 2 (logE lg pc) := by rw [hRR]; exact .s (.s .z)
 have r1 : ∀ x, x ∈ R → ∃ y, At RR y x.sl := fun x hx => At.mem (by rw [hRR]; exact List.mem_cons_of_mem _ (List.mem_cons_of_mem _ (List.mem_cons_of_mem _ (List.mem_append_right _ (List.mem_append_left _ (List.mem_cons_of_mem _ (List.mem_cons_of_mem _ (List.mem_map_of_mem hx))))))))
 clear hRR
 have okC := chip_ok hs (i := 0) .z
 obtain ⟨C, hC⟩ : ∃ C, C = layC c s := ⟨_, rfl⟩
 have ho : C.out = false := by rw [hC]; rfl
 have hl : C.left < 0 := by rw [hC]; show (-1 : Int) < 0; decide
 rw [← hC] at hs okC
 clear hC
 obtain ⟨L, hL⟩ : ∃ L, L = R.map SR.kv := ⟨_, rfl⟩
 refine ⟨_, rfl, _, rfl, ?_⟩
 refine gateN_sp (L := L) (bs := bs) hg hs (i := 0) .z al.s asr.s a3.s a4.s hL.symm gR (fun x hx => ⟨_, (r1 x hx).choose_spec.s⟩) (fun h' hs' => hs'.base rb) hby hle hlt ?_
 intro n1 E1 sl1 ky1 vr1 x1 t1 h4 tl1 im1 hs
 refine ⟨_, rfl, ?_⟩
 refine sBumpTo_sp hs (i := 2) (.s (.s .z)) al.s.s.s asr.s.s.s (by decide) (by decide) slot v ?_
 intro h5 hs
 simp only [put_succ, put_zero] at hs
 obtain ⟨D, f, hf⟩ : ∃ D f, sBumpTo C slot v = (D, f) := ⟨_, _, rfl⟩
 rw [hf] at hs ⊢
 dsimp only at hs ⊢
 have okD := chip_ok hs (i := 2) (.s (.s .z))
 refine ⟨_, rfl, ?_⟩
 refine Acts_sp hs (i := 2) (.s (.s .z)) ?_
 refine ⟨_, rfl, _, rfl, ?_⟩
 refine gateN_sp (L := L) (bs := bs) hg hs (i := 2) (.s (.s .z)) al.s.s.s asr.s.s.s a3.s.s.s a4.s.s.s hL.symm gR (fun x hx => ⟨_, (r1 x hx).choose_spec.s.s.s⟩) (fun h' hs' => hs'.base rb) hby hle hlt ?_
 intro n2 E2 sl2 ky2 vr2 x2 t2 h6 tl2 im2 hs
 obtain ⟨E, g, hgk⟩ : ∃ E g, revokeM D key = (E, g) := ⟨_, _, rfl⟩
 obtain ⟨l1, l2, l3, l4⟩ := stays (L := L) hby okC okD ho hl hf hgk
 generalize gateM C L bs = G0 at *
 obtain ⟨G1, hG1⟩ : ∃ G1, G1 = gateM D L bs := ⟨_, rfl⟩
 rw [← hG1] at l1 l2 l3 l4 im2 ⊢
 -- behind all
 intro J125 hJ125
 have go : J125 [] h6 := by
  apply hJ125
  clear hJ125 J125
  intro J127 hJ127
  have fin : ∀ h', Sat h0 (blk n2 (imgL sl2 ky2 vr2 x2 t2) :: E2 :: blk n1 (imgL sl1 ky1 vr1 x1 t1) :: E1 :: chipE pc D :: RR) h' → J127 [] h' := by
   clear hs
   intro h7 hs
   apply hJ127
   clear hJ127 J127
   refine ⟨_, rfl, ?_⟩
   refine sRevoke_sp hs (i := 4) (.s (.s (.s (.s .z)))) asr.s.s.s.s.s key ?_
   intro h8 hs
   simp only [put_succ, put_zero] at hs
   rw [hgk] at hs ⊢
   dsimp only at hs ⊢
   refine ⟨_, rfl, _, rfl, ?_⟩
   refine gateN_sp (L := L) (bs := bs) hg hs (i := 4) (.s (.s (.s (.s .z)))) al.s.s.s.s.s asr.s.s.s.s.s a3.s.s.s.s.s a4.s.s.s.s.s hL.symm gR (fun x hx => ⟨_, (r1 x hx).choose_spec.s.s.s.s.s⟩) (fun h' hs' => hs'.base rb) hby hle hlt ?_
   intro n3 E3 sl3 ky3 vr3 x3 t3 h9 tl3 im3 hs
   generalize gateM E L bs = G2 at *
   intro J148 hJ148
   have end_ : J148 [] h9 := by
    apply hJ148
    by_cases e1 : g = 0
    case neg => rw [if_pos (by simpa using e1)]; exact k _ hs.nil
    rw [if_neg (by simpa using e1)]
    by_cases e2 : G1 = 0
    case neg => rw [if_pos (by simpa using e2)]; exact k _ hs.nil
    rw [if_neg (by simpa using e2)]
    refine ⟨_, hs.ld (i := 2) (.s (.s .z)) rfl, ?_⟩
    by_cases e3 : ky2 = key
    case neg => rw [if_pos (by simpa using e3)]; exact k _ hs.nil
    rw [if_neg (by simpa using e3)]
    have := l4 e1 e2 (by rw [← (im2 e2).2.1]; exact e3)
    rw [this]
    exact k _ hs.nil
   by_cases e0 : G2 = 0
   case neg => rw [if_neg (by simpa using e0)]; exact end_
   rw [if_pos (by simpa using e0)]
   obtain ⟨m1, m2⟩ := l3 e0
   rw [if_neg (by simpa using m1)]
   by_cases e1 : g = 0
   case neg => rw [if_neg (by simpa using e1)]; exact end_
   rw [if_pos (by simpa using e1)]
   refine ⟨_, hs.ld (i := 0) .z rfl, ?_⟩
   rw [if_neg (by have := m2 e1; rw [(im3 e0).2.1]; simpa using this)]
   exact end_
  clear hJ127
  by_cases e2 : G1 = 0
  ·rw [if_pos (by simpa using e2)]
   have e1 := l1 e2
   obtain ⟨q1, q2, q3, own1, m1, q4, q5, q6, q7, q8⟩ := im1 e1
   obtain ⟨w1, w2, w3, own2, m2, w4, w5, w6, w7, w8⟩ := im2 e2
   have em : m2 = m1 := by omega
   subst em
   rw [← q1] at w1
   rw [← q2] at w2
   rw [← q3] at w3
   rw [← q7] at w7
   clear q1 q2 q3
   subst w1 w2 w3 w7 q6 w6 q8 w8
   refine ⟨_, hs.ld (i := 2) (.s (.s .z)) rfl, _, hs.ld (i := 2) (.s (.s .z)) rfl, _, hs.ld (i := 2) (.s (.s .z)) rfl, _, _, _, hs.ld (i := 2) (.s (.s .z)) rfl, _, tl1, img_row hs (.s (.s .z)) tl1, _, hs.ld (i := 0) .z rfl, _, hs.ld (i := 0) .z rfl, _, hs.ld (i := 0) .z rfl, _, _, _, hs.ld (i := 0) .z rfl, _, tl1, img_row hs .z tl1, ?_⟩
   refine same11_sp (pay := (bs.drop 16).take m2) hs tl1 (fun h' hs' => payRd (hs'.sv (i := 3) (.s (.s (.s .z)))) q5) (fun h' hs' => payRd (hs'.sv (i := 1) (.s .z)) q5) ?_
   intro h7 hs
   rw [if_neg (by decide)]
   refine ⟨_, rfl, ?_⟩
   refine Acts_sp hs (i := 4) (.s (.s (.s (.s .z)))) ?_
   rw [if_neg (by simp)]
   exact fin _ hs
  ·rw [if_neg (by simpa using e2)]
   refine ⟨_, rfl, ?_⟩
   refine Acts_sp hs (i := 4) (.s (.s (.s (.s .z)))) ?_
   rw [if_neg (by simp)]
   exact fin _ hs
 clear hJ125
 have two : (if (G1 == 0) = true then if (G0 != 0) = true then Q false h6 else J125 [] h6 else J125 [] h6) := by
  by_cases e2 : G1 = 0
  ·rw [if_pos (by simpa using e2), if_neg (by have := l1 e2; simpa using this)]; exact go
  ·rw [if_neg (by simpa using e2)]; exact go
 by_cases e1 : f = 0
 case neg => rw [if_neg (by simpa using e1)]; exact two
 rw [if_pos (by simpa using e1)]
 by_cases e2 : G1 = 0
 case neg =>
  rw [if_neg (by simpa using e2)]
  exact two
 rw [if_pos (by simpa using e2)]
 refine ⟨_, hs.ld (i := 0) .z rfl, ?_⟩
 by_cases e3 : sl2 = slot
 case neg => rw [if_neg (by simpa using e3)]; exact two
 rw [if_pos (by simpa using e3)]
 refine ⟨_, hs.ld (i := 0) .z rfl, ?_⟩
 rw [ltI_eq, if_neg (by
  have := l2 e1 e2 (by rw [← (im2 e2).1]; exact e3)
  rw [← (im2 e2).2.2.1] at this
  rw [decide_eq_true_iff]; omega)]
 exact two
end
end Go.Proofs.YtaglicdidpgkpaaGreatDoor
end

/- GateStays: once a key is revoked, or a counter raised above a version, an image is handed off no more; for every input. -/
section
set_option maxRecDepth 100000
set_option linter.unusedVariables false
namespace Go.Proofs.YtaglicdidpgkpaaGreatDoor
open Go Go.Vc Go.ChangeShapes Go.WideShapes Go.ChangeAt Go.RowKit

theorem GateStays_calls {D : Type} {enc : TypeId × Value → D} {W : World} {base : Nat} (hg : hc W.heap ⟨0, 0, none⟩ = some errTypeV) (vs : List Value) (h : ArgsOk enc PP W base [31, 32, 3, 2, 3] vs) : CallsTrue PP 9 vs W := by
 obtain ⟨hl, h⟩ := h
 match vs, hl with
 | [v0, v1, v2, v3, v4], _ =>
 obtain ⟨r0, w0⟩ := h 0 _ v0 rfl rfl
 obtain ⟨r1, w1⟩ := h 1 _ v1 rfl rfl
 obtain ⟨r2, w2⟩ := h 2 _ v2 rfl rfl
 obtain ⟨r3, w3⟩ := h 3 _ v3 rfl rfl
 obtain ⟨r4, w4⟩ := h 4 _ v4 rfl rfl
 obtain ⟨c, a, b, c', s, X, lp, ll, lc, rfl, rd, ty, _, rl, hll⟩ := scene_of r0 w0
 obtain ⟨tp, tl, tc, rfl, hs1⟩ := slice24_of (e := 5) (by kernel_rfl) r1 w1
 obtain ⟨bs, b1, b2, b3, b4⟩ := bytes24_of hs1
 obtain ⟨slot, rfl⟩ := int24_of (by kernel_rfl) r2 w2
 obtain ⟨v, rfl⟩ := int24_of (by kernel_rfl) r3 w3
 obtain ⟨key, rfl⟩ := int24_of (by kernel_rfl) r4 w4
 have := R_portcullislaw13_GateStays [.agg [.c (.int .i64 c.cells), .c (.int .i64 c.slots), .c (.int .i64 c.fuses), .c (.int .i64 c.step), .c (.int .i64 c.keys), .c (.int .i64 c.erases), .c (.int .i64 c.area), .c a.v, .c b.v, .c c'.v, .c (.slice lp ll lc)], .one (.slice tp tl tc), .one (.int .i64 slot), .one (.int .i64 v), .one (.int .i64 key)] (fun rs h' => rs = [DV.one (.bool true)] ∧ Ext none_ W.heap h') W.heap (by
  intro x hx
  simp only [List.mem_cons, List.not_mem_nil, or_false] at hx
  rcases hx with rfl | rfl | rfl | rfl | rfl
  ·exact ok_scn c a b c' lp ll lc
  ·rfl
  ·rfl
  ·rfl
  ·rfl) (by
  show F_portcullislaw13_GateStays c.cells c.slots c.fuses c.step c.keys c.erases c.area a.1 a.2.1 a.2.2 b.1 b.2.1 b.2.2 c'.1 c'.2.1 c'.2.2 lp ll lc tp tl tc slot v key (fun b h' => [DV.one (.bool b)] = [DV.one (.bool true)] ∧ Ext none_ W.heap h') W.heap
  exact GateStays_sp hg c slot v key rd ty rl hll b1 b2 b3 (by omega) fun h' x => ⟨rfl, x.ex⟩)
 exact this
theorem GateStays_lifted (os : Os) (started : os.Started) (D : Type) (enc : TypeId × Value → D) :
  ReturnsInHanded {} Tryz.checked os 9 .any (fun w args => (Rows.gateStaysSpec.pre enc Tryz.prog Tryz.f9 [] false w args ∧ laidMetH Tryz.prog laidL w) ∧ sizedMet enc Tryz.prog Tryz.f9 (OpenSpec.ofChange Rows.gateStaysSpec) false w args)
   (Rows.gateStaysSpec.post enc Tryz.prog Tryz.f9 false true false false) := by
 refine returnsInHanded_of_change_and (C := Tryz.checked) (X := fun w _ => laidMetH Tryz.prog laidL w) (fun _ _ _ hh h => h.of_heap hh) Tryz.own started (by kernel_rfl) Tryz.func9
  (ChangeSpec.witness_at (enc := enc) (C := Tryz.checked) (os := os) (X := fun w _ => laidMetH Tryz.prog laidL w) false (laidWorld os) #[.agg #[.int .i64 0, .int .i64 0, .int .i64 0, .int .i64 0, .int .i64 0, .int .i64 0, .int .i64 0, .slice none 0 0, .slice none 0 0, .slice none 0 0, .slice none 0 0], .slice none 0 0, .int .i64 0, .int .i64 0, .int .i64 0] 8 rfl (by kernel_rfl) (by kernel_rfl) (by kernel_rfl) (by kernel_rfl) (by kernel_rfl) (laidWorld_met os _)) ?_
 intro W base args ds gs before hval hW hcnd hsz hL _
 exact law_go (P := Tryz.prog) (fn := Tryz.f9) (s := Rows.gateStaysSpec) [31, 32, 3, 2, 3] (by kernel_rfl) Tryz.laidOut rfl (by kernel_rfl) (by kernel_rfl) Tryz.ubool
  (fun ds hl => match ds, hl with | [d1, d2, d3, d4, d5], _ => rfl) hval hW hsz (GateStays_calls (handle_of_laid hL))

theorem GateStays_k1 : (Rows.gateStaysRow.wf (OpenSpec.ofChange Rows.gateStaysSpec) && laidOutB Tryz.prog && mapsRowed Tryz.prog && Tryz.f9.params.all (Tryz.prog.readableRec ·) && namedTie Tryz.prog Rows.gateStaysRow.named Rows.gateStaysSpec.vars && (Rows.gateStaysRow.stops == []) && (Tryz.prog.stops == []) && (Rows.gateStaysRow.knobs == []) && (Tryz.prog.stopKnobs == [])) = true := by kernel_rfl
theorem GateStays_k2 : (Rows.gateStaysRow.inPlace == Tryz.prog.inPlace 9) = true := by kernel_rfl
theorem GateStays_k3 : (Rows.gateStaysRow.unfollowed == Tryz.prog.unfollowed 9) = true := by kernel_rfl
theorem GateStays_k4 : (Rows.gateStaysRow.recurses == Tryz.prog.recurses 9) = true := by kernel_rfl
theorem GateStays_k5 : (Rows.gateStaysRow.named == Tryz.prog.varsNamed 9) = true := by kernel_rfl
theorem GateStays_k6 : Tryz.prog.stopsHeard = true := by kernel_rfl
theorem GateStays_k7 : Tryz.prog.mayEnter = true := by kernel_rfl
theorem GateStays_k8 : (Rows.gateStaysRow.lifted == Tryz.prog.liftsFinal) = true := by kernel_rfl
theorem GateStays_k9 : (Tryz.prog.make == some Rows.gateStaysRow.make) = true := by kernel_rfl
theorem GateStays_facts : joinedFacts Tryz.pinned.checked.prog 9 Tryz.f9 Rows.gateStaysSpec Rows.gateStaysRow = true := by
 unfold joinedFacts
 exact bool_and (bool_and (bool_and (bool_and (bool_and (bool_and (bool_and (bool_and (bool_and (bool_and (bool_and (bool_and (bool_and (bool_and (bool_and (bool_and (bool_and (bool_and (bool_and (bool_and (bool_and (bool_and (bool_and (GateStays_k1) GateStays_k2) GateStays_k3) GateStays_k4) GateStays_k5) (by kernel_rfl)) (by kernel_rfl)) (by kernel_rfl)) (by kernel_rfl)) (by kernel_rfl)) (by kernel_rfl)) (by kernel_rfl)) (by kernel_rfl)) (by kernel_rfl)) (by kernel_rfl)) (by kernel_rfl)) GateStays_k6) GateStays_k7) GateStays_k8) GateStays_k9) (by kernel_rfl)) (by kernel_rfl)) (by kernel_rfl)) (by kernel_rfl)
theorem GateStays_said : Rows.GateStaysSaid :=
 OpenClaim.holds_of_wide 9 Tryz.f9 rfl rfl rfl rfl rfl rfl rfl ⟨rfl, rfl, rfl, rfl, rfl⟩ rfl rfl rfl rfl rfl (by kernel_rfl) Tryz.func9 GateStays_facts
  (of_decide_eq_true (by kernel_rfl)) (by unfold Func.isWrapper; first | (rw [if_pos (by decide +kernel)]; kernel_rfl) | (rw [if_neg (by decide +kernel)]; exact ⟨rfl, rfl⟩))
  (fun os started H enc _ => GateStays_lifted os started H enc)

theorem GateStays_plain (f : FuncId) (fn : Func) (hf : Tryz.pinned.checked.prog.funcNamed "portcullis/portcullislaw13.GateStays" = some f) (hfn : Tryz.pinned.checked.prog.funcs[f]? = some fn) :
  true = Tryz.pinned.checked.prog.looks [] ∧ ∀ (j : Nat) t, fn.params[j]? = some t → Tryz.pinned.checked.prog.wantsStandIn t = false := by
 obtain rfl : f = 9 := Option.some.inj ((show Tryz.prog.funcNamed "portcullis/portcullislaw13.GateStays" = some 9 by kernel_rfl).symm.trans hf) |>.symm
 obtain rfl : fn = Tryz.f9 := (Option.some.inj (Tryz.func9.symm.trans hfn)).symm
 refine ⟨by kernel_rfl, fun j t ht => ?_⟩
 have hm := Array.mem_of_getElem? ht
 have hm2 : t ∈ ([31, 32, 3, 2, 3] : List Nat) := by
  have : Tryz.f9.params.toList = [31, 32, 3, 2, 3] := by kernel_rfl
  rw [← this]; exact Array.mem_toList_iff.2 hm
 simp only [List.mem_cons, List.not_mem_nil, or_false] at hm2
 rcases hm2 with rfl | rfl | rfl | rfl | rfl <;> (first | kernel_rfl | rfl)

theorem GateStays_holds : Rows.GateStaysCardSaid :=
 Claim7.holds_tied_plain_at .later [] _ _ _ _ GateStays_said (fun _ h => by cases h) (by kernel_rfl) (fun _ h => by cases h) gateStays_row_tie rfl ⟨rfl, rfl⟩ (by kernel_rfl) rfl GateStays_plain (by kernel_rfl)

end Go.Proofs.YtaglicdidpgkpaaGreatDoor
end
