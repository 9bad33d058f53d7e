/- GateNames: what is proved and its parts, laid together by a program of ours: Rs1 Rs2 Rm1 Tm2 Tm3 Tk8 Tm4 To1 Tq1 Ch1 Ch2 Ch3 Cm Ch4 Ch5 Ch6 Ch7 Ch8 Rf3 La2 -/
import Derived.Laws.Closers25b
import Derived.Test.YtaglicdidpgkpaaGreatDoorK6
set_option autoImplicit false
set_option linter.all false
/- SHA-256 as the document has it: words, a piece. Own work. -/
section
set_option maxRecDepth 100000
set_option linter.unusedVariables false
namespace Go.Proofs.YtaglicdidpgkpaaGreatDoor
open Go Go.Vc

def isBy (bs : List Int) : Prop := ∀ n, n ∈ bs → 0 ≤ n ∧ n < 256
theorem isBy_get {bs : List Int} (hb : isBy bs) (x : Nat) : 0 ≤ bs.getD x 0 ∧ bs.getD x 0 < 256 := by
 rw [List.getD_eq_getElem?_getD]
 cases e : bs[x]? with
 | none => exact ⟨by decide, by decide⟩
 | some v => exact hb v (List.mem_iff_getElem?.2 ⟨x, e⟩)
theorem or_comm32 (a b : Int) : bits .or .u32 a b = bits .or .u32 b a := by
 have e : ∀ x y : Int, bits .or .u32 x y = IntKind.u32.wrap ((BitVec.ofInt 32 x ||| BitVec.ofInt 32 y).toNat : Int) := fun _ _ => rfl
 rw [e, e, BitVec.or_comm]
theorem wrapU32 (n : Int) : IntKind.u32.wrap n = n % 4294967296 := by simp [IntKind.wrap, IntKind.signed, IntKind.bits]
theorem or_nat32 {x y : Nat} (hx : x < 2 ^ 32) (hy : y < 2 ^ 32) : bits .or .u32 (x : Int) (y : Int) = ((x ||| y : Nat) : Int) := by
 have : bits .or .u32 (x : Int) (y : Int) = IntKind.u32.wrap ((BitVec.ofInt 32 (x : Int) ||| BitVec.ofInt 32 (y : Int)).toNat : Int) := rfl
 rw [this, BitVec.ofInt_natCast, BitVec.ofInt_natCast, BitVec.toNat_or, BitVec.toNat_ofNat, BitVec.toNat_ofNat, Nat.mod_eq_of_lt hx, Nat.mod_eq_of_lt hy, wrapU32]
 have h3 : x ||| y < 2 ^ 32 := Nat.or_lt_two_pow hx hy
 omega
theorem or_hi {a b k : Nat} (hb : b < 2 ^ k) (h : 2 ^ k * a + b < 2 ^ 32) : bits .or .u32 ((2 ^ k * a : Nat) : Int) (b : Int) = ((2 ^ k * a + b : Nat) : Int) := by
 rw [or_nat32 (by omega) (by omega), ← Nat.two_pow_add_eq_or_of_lt hb]
theorem word4 {a b c d : Int} (ha : 0 ≤ a ∧ a < 256) (hb : 0 ≤ b ∧ b < 256) (hc : 0 ≤ c ∧ c < 256) (hd : 0 ≤ d ∧ d < 256) :
  bits .or .u32 (bits .or .u32 (bits .or .u32 (IntKind.u32.wrap (IntKind.u32.wrap a * 2 ^ 24)) (IntKind.u32.wrap (IntKind.u32.wrap b * 2 ^ 16))) (IntKind.u32.wrap (IntKind.u32.wrap c * 2 ^ 8))) (IntKind.u32.wrap d) = accM [a, b, c, d] 4 := by
 obtain ⟨a, rfl⟩ := Int.eq_ofNat_of_zero_le ha.1
 obtain ⟨b, rfl⟩ := Int.eq_ofNat_of_zero_le hb.1
 obtain ⟨c, rfl⟩ := Int.eq_ofNat_of_zero_le hc.1
 obtain ⟨d, rfl⟩ := Int.eq_ofNat_of_zero_le hd.1
 have wa : IntKind.u32.wrap (a : Int) = (a : Int) := by rw [wrapU32]; omega
 have wb : IntKind.u32.wrap (b : Int) = (b : Int) := by rw [wrapU32]; omega
 have wc : IntKind.u32.wrap (c : Int) = (c : Int) := by rw [wrapU32]; omega
 have wd : IntKind.u32.wrap (d : Int) = (d : Int) := by rw [wrapU32]; omega
 have x24 : IntKind.u32.wrap ((a : Int) * 2 ^ 24) = ((2 ^ 24 * a : Nat) : Int) := by rw [wrapU32]; omega
 have x16 : IntKind.u32.wrap ((b : Int) * 2 ^ 16) = ((2 ^ 16 * b : Nat) : Int) := by rw [wrapU32]; omega
 have x8 : IntKind.u32.wrap ((c : Int) * 2 ^ 8) = ((2 ^ 8 * c : Nat) : Int) := by rw [wrapU32]; omega
 rw [wa, wb, wc, wd, x24, x16, x8]
 rw [or_hi (by omega) (by omega)]
 have e1 : (2 ^ 24 * a + 2 ^ 16 * b : Nat) = 2 ^ 16 * (2 ^ 8 * a + b) := by omega
 rw [e1, or_hi (by omega) (by omega)]
 have e2 : (2 ^ 16 * (2 ^ 8 * a + b) + 2 ^ 8 * c : Nat) = 2 ^ 8 * (2 ^ 16 * a + 2 ^ 8 * b + c) := by omega
 rw [e2, or_hi (by omega) (by omega)]
 have s0 : accM [(a : Int), b, c, d] 1 = ((2 ^ 0 * 0 + a : Nat) : Int) := by
  show bits .or .u32 (IntKind.u32.wrap (0 * 2 ^ 8)) (IntKind.u32.wrap (a : Int)) = _
  rw [wa]
  exact or_hi (k := 8) (a := 0) (b := a) (by omega) (by omega)
 have s1 : accM [(a : Int), b, c, d] 2 = ((2 ^ 8 * a + b : Nat) : Int) := by
  show bits .or .u32 (IntKind.u32.wrap (accM [(a : Int), b, c, d] 1 * 2 ^ 8)) (IntKind.u32.wrap (b : Int)) = _
  rw [s0, wb, show IntKind.u32.wrap (((2 ^ 0 * 0 + a : Nat) : Int) * 2 ^ 8) = ((2 ^ 8 * a : Nat) : Int) by rw [wrapU32]; omega]
  exact or_hi (by omega) (by omega)
 have s2 : accM [(a : Int), b, c, d] 3 = ((2 ^ 8 * (2 ^ 8 * a + b) + c : Nat) : Int) := by
  show bits .or .u32 (IntKind.u32.wrap (accM [(a : Int), b, c, d] 2 * 2 ^ 8)) (IntKind.u32.wrap (c : Int)) = _
  rw [s1, wc, show IntKind.u32.wrap (((2 ^ 8 * a + b : Nat) : Int) * 2 ^ 8) = ((2 ^ 8 * (2 ^ 8 * a + b) : Nat) : Int) by rw [wrapU32]; omega]
  exact or_hi (by omega) (by omega)
 have s3 : accM [(a : Int), b, c, d] 4 = ((2 ^ 8 * (2 ^ 8 * (2 ^ 8 * a + b) + c) + d : Nat) : Int) := by
  show bits .or .u32 (IntKind.u32.wrap (accM [(a : Int), b, c, d] 3 * 2 ^ 8)) (IntKind.u32.wrap (d : Int)) = _
  rw [s2, wd, show IntKind.u32.wrap (((2 ^ 8 * (2 ^ 8 * a + b) + c : Nat) : Int) * 2 ^ 8) = ((2 ^ 8 * (2 ^ 8 * (2 ^ 8 * a + b) + c) : Nat) : Int) by rw [wrapU32]; omega]
  exact or_hi (by omega) (by omega)
 rw [s3]
 congr 1
 omega
theorem take4 {bs : List Int} {o : Nat} (h : o + 4 ≤ bs.length) : (bs.drop o).take 4 = [bs.getD o 0, bs.getD (o + 1) 0, bs.getD (o + 2) 0, bs.getD (o + 3) 0] := by
 apply List.ext_getElem (by simp; omega)
 intro i h1 h2
 simp only [List.length_cons, List.length_nil, Nat.zero_add] at h2
 rw [List.getElem_take, List.getElem_drop]
 have g : ∀ x (hx : x < bs.length), bs.getD x 0 = bs[x] := fun x hx => by rw [List.getD_eq_getElem?_getD, List.getElem?_eq_getElem hx]; rfl
 have : i = 0 ∨ i = 1 ∨ i = 2 ∨ i = 3 := by omega
 rcases this with rfl | rfl | rfl | rfl
 ·exact (g o (by omega)).symm
 ·exact (g (o + 1) (by omega)).symm
 ·exact (g (o + 2) (by omega)).symm
 ·exact (g (o + 3) (by omega)).symm
section
variable {h0 h : H} {A : List Ent} {i d : Nat}
theorem turned_sp {Q : Int → H → Prop} (x : Int) (m : Nat) {mi : Int} (e : mi = (m : Int)) (h1 : 1 ≤ m) (h2 : m < 32) (q : Q (rotM x m) h) : F_portcullisref02_turned x mi Q h := by
 subst e
 unfold F_portcullisref02_turned G_portcullisref02_turned
 have e : IntKind.i64.wrap (32 - (m : Int)) = ((32 - m : Nat) : Int) := by rw [wrap_id (by omega)]; omega
 rw [e]
 refine ⟨by omega, by omega, ?_⟩
 rw [Int.toNat_natCast, Int.toNat_natCast, Nat.min_eq_left (by omega), Nat.min_eq_left (by omega), or_comm32]
 exact q
theorem words_sp {Q : List Int → H → Prop} {bs : List Int} {p : Option Addr} {l c : Nat} (hs : Sat h0 A h) (hb : isBy bs) (hl : 64 ≤ l) (rd : ∀ h', Sat h0 A h' → hsv h' p 1 l (ints .u8 bs)) (k : ∀ h', Sat h0 A h' → Q (wM bs 64) h') : F_portcullisref02_words p l c Q h := by
 unfold F_portcullisref02_words G_portcullisref02_words
 try simp only [add_mk, Nat.zero_add, List.append_nil]
 have hbl : bs.length = l := by have := (rd _ hs).1; simpa using this
 intro rb _ hn; replace hs := Sat.new hs hn; clear hn
 intro wn _ hn; replace hs := Sat.new hs hn; clear hn
 refine ⟨Sat.can hs (i := 0) .z (by simp [zeros]), ?_⟩
 intro h2 e
 replace hs := Sat.wra hs (i := 0) .z e rfl
 clear e
 simp only [put_zero] at hs
 obtain ⟨q, hq, _⟩ := hsvI (rd _ hs.drop.drop) (x := 0) (by omega)
 subst hq
 intro J14 hJ14
 refine loop_up 16 (fun t h => Sat h0 (blk wn (ints .u32 (wM bs t)) :: blk rb (ints .u32 (zeros 64)) :: A) h) ?_ ?_ 0 _ (by omega) hs
 ·intro t h1 ht hs hk
  apply hJ14
  rw [ltI_eq, if_pos (by simp; omega)]
  have e0 : IntKind.i64.wrap (4 * (t : Int)) = ((4 * t : Nat) : Int) := by rw [wrap_id (by omega)]; push_cast; rfl
  have e1 : IntKind.i64.wrap (((4 * t : Nat) : Int) + 1) = ((4 * t + 1 : Nat) : Int) := by rw [wrap_id (by omega)]; push_cast; rfl
  have e2 : IntKind.i64.wrap (((4 * t : Nat) : Int) + 2) = ((4 * t + 2 : Nat) : Int) := by rw [wrap_id (by omega)]; push_cast; rfl
  have e3 : IntKind.i64.wrap (((4 * t : Nat) : Int) + 3) = ((4 * t + 3 : Nat) : Int) := by rw [wrap_id (by omega)]; push_cast; rfl
  rw [e0, e1, e2, e3]
  simp only [Int.toNat_natCast, Nat.mul_one]
  have g : ∀ x, x < l → hc h1 (q.add x) = some (.int .u8 (bs.getD x 0)) := by
   intro x hx
   obtain ⟨q', hq', g⟩ := hsvI (rd _ hs.drop.drop) (x := x) hx
   injection hq' with hq'
   subst hq'
   exact g
  refine ⟨q, rfl, by omega, by omega, _, g _ (by omega), by decide, q, rfl, by omega, by omega, _, g _ (by omega), by decide, q, rfl, by omega, by omega, _, g _ (by omega), by decide, q, rfl, by omega, by omega, _, g _ (by omega), by omega, by omega, ?_⟩
  have hlen := wM_len bs t
  refine ⟨Sat.can hs (i := 0) .z (by simp [hlen]; omega), ?_⟩
  intro h3 e
  replace hs := Sat.wr hs (i := 0) .z e
  clear e
  rw [intsP] at hs
  simp only [put_zero] at hs
  rw [wrap_succ (by omega)]
  refine hk _ ?_
  show Sat h0 (blk wn (ints .u32 ((wM bs t).set t _)) :: blk rb (ints .u32 (zeros 64)) :: A) h3
  rw [if_pos ht, take4 (by omega), ← word4 (isBy_get hb _) (isBy_get hb _) (isBy_get hb _) (isBy_get hb _)]
  exact hs
 ·intro h1 hs
  apply hJ14
  rw [ltI_eq, if_neg (by decide)]
  clear hJ14 J14
  intro J27 hJ27
  refine loop_up 64 (fun t h => 16 ≤ t ∧ Sat h0 (blk wn (ints .u32 (wM bs t)) :: blk rb (ints .u32 (zeros 64)) :: A) h) ?_ ?_ 16 _ (by omega) ⟨by omega, hs⟩
  ·rintro t h2 ht ⟨ht2, hs⟩ hk
   apply hJ27
   rw [ltI_eq, if_pos (by simp; omega)]
   have hlen := wM_len bs t
   have e15 : IntKind.i64.wrap ((t : Int) - 15) = ((t - 15 : Nat) : Int) := by rw [wrap_id (by omega)]; omega
   have e2 : IntKind.i64.wrap ((t : Int) - 2) = ((t - 2 : Nat) : Int) := by rw [wrap_id (by omega)]; omega
   have e16 : IntKind.i64.wrap ((t : Int) - 16) = ((t - 16 : Nat) : Int) := by rw [wrap_id (by omega)]; omega
   have e7 : IntKind.i64.wrap ((t : Int) - 7) = ((t - 7 : Nat) : Int) := by rw [wrap_id (by omega)]; omega
   rw [e15, e2, e16, e7]
   simp only [Int.toNat_natCast, Nat.mul_one]
   have g := fun (x : Nat) (hx : x < 64) => hs.ld (i := 0) (b := wn) .z (intsG (k := .u32) (l := wM bs t) (i := x) (by omega))
   refine ⟨by omega, by omega, _, g _ (by omega), by omega, by omega, _, g _ (by omega), ?_⟩
   refine turned_sp _ 7 rfl (by decide) (by decide) ?_
   refine turned_sp _ 18 rfl (by decide) (by decide) ?_
   refine ⟨by decide, ?_⟩
   refine turned_sp _ 17 rfl (by decide) (by decide) ?_
   refine turned_sp _ 19 rfl (by decide) (by decide) ?_
   refine ⟨by decide, by omega, by omega, _, g _ (by omega), by omega, by omega, _, g _ (by omega), by omega, by omega, ?_⟩
   refine ⟨Sat.can hs (i := 0) .z (by simp [hlen]; omega), ?_⟩
   intro h3 e
   replace hs := Sat.wr hs (i := 0) .z e
   clear e
   rw [intsP] at hs
   simp only [put_zero] at hs
   rw [wrap_succ (by omega)]
   refine hk _ ⟨by omega, ?_⟩
   show Sat h0 (blk wn (ints .u32 ((wM bs t).set t _)) :: blk rb (ints .u32 (zeros 64)) :: A) h3
   rw [if_neg (by omega)]
   exact hs
  ·rintro h2 ⟨_, hs⟩
   apply hJ27
   rw [ltI_eq, if_neg (by decide)]
   refine ⟨_, wM_len bs 64, hs.row0 (i := 0) .z, ?_⟩
   refine ⟨Sat.can hs (i := 1) (.s .z) (by simp [zeros]), ?_⟩
   intro h3 e
   replace hs := Sat.wra hs (i := 1) (.s .z) e (by simp [zeros, wM_len])
   clear e
   simp only [put_succ, put_zero] at hs
   exact ⟨_, wM_len bs 64, hs.row0 (i := 1) (.s .z), k _ hs.drop.drop⟩
theorem piece_sp {Q : List Int → H → Prop} {s bs : List Int} {p : Option Addr} {l c : Nat} (hs : Sat h0 A h) (l1 : s.length = 8) (hb : isBy bs) (hl : 64 ≤ l) (rd : ∀ h', Sat h0 A h' → hsv h' p 1 l (ints .u8 bs)) (k : ∀ h', Sat h0 A h' → Q (pieceM s bs) h') : F_portcullisref02_piece s p l c kM Q h := by
 unfold F_portcullisref02_piece G_portcullisref02_piece
 try simp only [add_mk, Nat.zero_add, List.append_nil]
 intro sb _ hn; replace hs := Sat.new hs hn; clear hn
 intro kb _ hn; replace hs := Sat.new hs hn; clear hn
 intro rb _ hn; replace hs := Sat.new hs hn; clear hn
 refine words_sp hs hb hl (fun h' hs' => rd _ hs'.drop.drop.drop) ?_
 intro h1 hs
 obtain ⟨w, hw⟩ : ∃ w, w = wM bs 64 := ⟨_, rfl⟩
 have hwl : w.length = 64 := by rw [hw]; exact wM_len _ _
 rw [← hw]
 intro wn _ hn; replace hs := Sat.new hs hn; clear hn
 refine ⟨Sat.can hs (i := 0) .z (by simp [zeros]), ?_⟩
 intro h2 e
 replace hs := Sat.wra hs (i := 0) .z e (by simp [zeros, hwl])
 clear e
 simp only [put_zero] at hs
 refine ⟨s, l1, hs.row0 (i := 3) (.s (.s (.s .z))), ?_⟩
 intro sn _ hn; replace hs := Sat.new hs hn; clear hn
 refine ⟨Sat.can hs (i := 0) .z (by simp [zeros]), ?_⟩
 intro h3 e
 replace hs := Sat.wra hs (i := 0) .z e (by simp [zeros, l1])
 clear e
 simp only [put_zero] at hs
 intro J31 hJ31
 refine loop_up 64 (fun t h => Sat h0 (blk sn (ints .u32 (rM w s t)) :: blk wn (ints .u32 w) :: blk rb (ints .u32 (zeros 8)) :: blk kb (ints .u32 kM) :: blk sb (ints .u32 s) :: A) h) ?_ ?_ 0 _ (by omega) hs
 ·intro t h4 ht hs hk
  apply hJ31
  rw [ltI_eq, if_pos (by simp; omega)]
  obtain ⟨a, b, c, dd, e, f, g, hh, hr⟩ := len8 (rM_len w s l1 t)
  rw [hr] at hs
  simp only [Int.toNat_natCast, Nat.mul_one]
  have gk : hc h4 ⟨kb, t, none⟩ = some (.int .u32 (kM.getD t 0)) := hs.ld (i := 3) (.s (.s (.s .z))) (intsG (by rw [kM_len]; omega))
  have gw : hc h4 ⟨wn, t, none⟩ = some (.int .u32 (w.getD t 0)) := hs.ld (i := 1) (.s .z) (intsG (by omega))
  have g0 : hc h4 ⟨sn, 0, none⟩ = some (.int .u32 a) := hs.ld (i := 0) .z rfl
  have g1 : hc h4 ⟨sn, 1, none⟩ = some (.int .u32 b) := hs.ld (i := 0) .z rfl
  have g2 : hc h4 ⟨sn, 2, none⟩ = some (.int .u32 c) := hs.ld (i := 0) .z rfl
  have g3 : hc h4 ⟨sn, 3, none⟩ = some (.int .u32 dd) := hs.ld (i := 0) .z rfl
  have g4 : hc h4 ⟨sn, 4, none⟩ = some (.int .u32 e) := hs.ld (i := 0) .z rfl
  have g5 : hc h4 ⟨sn, 5, none⟩ = some (.int .u32 f) := hs.ld (i := 0) .z rfl
  have g6 : hc h4 ⟨sn, 6, none⟩ = some (.int .u32 g) := hs.ld (i := 0) .z rfl
  have g7 : hc h4 ⟨sn, 7, none⟩ = some (.int .u32 hh) := hs.ld (i := 0) .z rfl
  refine ⟨by decide, by decide, _, g0, by decide, by decide, _, g4, by decide, by decide, _, g7, by decide, by decide, _, g5, by decide, by decide, _, g6, by omega, by omega, _, gk, by omega, by omega, _, gw, ?_⟩
  refine turned_sp _ 6 rfl (by decide) (by decide) ?_
  refine ⟨hcs_one gw, hcs_one gk, hcs_one g6, hcs_one g5, hcs_one g7, ?_⟩
  refine turned_sp _ 11 rfl (by decide) (by decide) ?_
  refine ⟨hcs_one gw, hcs_one gk, hcs_one g6, hcs_one g5, hcs_one g7, ?_⟩
  refine turned_sp _ 25 rfl (by decide) (by decide) ?_
  refine ⟨hcs_one gw, hcs_one gk, hcs_one g6, hcs_one g5, hcs_one g7, ?_⟩
  refine ⟨by decide, by decide, _, g1, by decide, by decide, _, g2, by decide, by decide, _, g1, by decide, by decide, _, g2, ?_⟩
  refine turned_sp _ 2 rfl (by decide) (by decide) ?_
  refine ⟨hcs_one g2, hcs_one g1, hcs_one g2, hcs_one g1, ?_⟩
  refine turned_sp _ 13 rfl (by decide) (by decide) ?_
  refine ⟨hcs_one g2, hcs_one g1, hcs_one g2, hcs_one g1, ?_⟩
  refine turned_sp _ 22 rfl (by decide) (by decide) ?_
  refine ⟨hcs_one g2, hcs_one g1, hcs_one g2, hcs_one g1, ?_⟩
  refine ⟨by decide, by decide, _, g0, by decide, by decide, _, g1, by decide, by decide, _, g2, by decide, by decide, _, g3, by decide, by decide, _, g4, by decide, by decide, _, g5, by decide, by decide, _, g6, ?_⟩
  refine ⟨Sat.can hs (i := 0) .z (by simp), ?_⟩
  intro h5 e5
  replace hs := Sat.wra hs (i := 0) .z e5 (by simp)
  clear e5
  simp only [put_zero] at hs
  rw [wrap_succ (by omega)]
  refine hk _ ?_
  show Sat h0 (blk sn (ints .u32 (shStepM (rM w s t) (kM.getD t 0) (w.getD t 0))) :: blk wn (ints .u32 w) :: blk rb (ints .u32 (zeros 8)) :: blk kb (ints .u32 kM) :: blk sb (ints .u32 s) :: A) h5
  rw [hr]
  exact hs
 ·intro h4 hs
  apply hJ31
  rw [ltI_eq, if_neg (by decide)]
  clear hJ31 J31
  obtain ⟨r, hr⟩ : ∃ r, r = rM w s 64 := ⟨_, rfl⟩
  have hrl : r.length = 8 := by rw [hr]; exact rM_len _ _ l1 _
  rw [← hr] at hs
  intro J66 hJ66
  refine loop_up 8 (fun t h => Sat h0 (blk sn (ints .u32 r) :: blk wn (ints .u32 w) :: blk rb (ints .u32 (zeros 8)) :: blk kb (ints .u32 kM) :: blk sb (ints .u32 (aM s r t)) :: A) h) ?_ ?_ 0 _ (by omega) hs
  ·intro t h5 ht hs hk
   apply hJ66
   rw [ltI_eq, if_pos (by simp; omega)]
   have hal := aM_len s r l1 t
   simp only [Int.toNat_natCast, Nat.mul_one]
   refine ⟨by omega, by omega, _, hs.ld (i := 4) (.s (.s (.s (.s .z)))) (intsG (by omega)), by omega, by omega, _, hs.ld (i := 0) .z (intsG (by omega)), by omega, by omega, ?_⟩
   refine ⟨Sat.can hs (i := 4) (.s (.s (.s (.s .z)))) (by simp [hal]; omega), ?_⟩
   intro h6 e
   replace hs := Sat.wr hs (i := 4) (.s (.s (.s (.s .z)))) e
   clear e
   rw [intsP] at hs
   simp only [put_succ, put_zero] at hs
   rw [wrap_succ (by omega)]
   exact hk _ hs
  ·intro h5 hs
   apply hJ66
   rw [ltI_eq, if_neg (by decide)]
   have hpl : (aM s r 8).length = 8 := aM_len s r l1 8
   refine ⟨_, hpl, hs.row0 (i := 4) (.s (.s (.s (.s .z)))), ?_⟩
   refine ⟨Sat.can hs (i := 2) (.s (.s .z)) (by simp [zeros]), ?_⟩
   intro h6 e
   replace hs := Sat.wra hs (i := 2) (.s (.s .z)) e (by simp [zeros, hpl])
   clear e
   simp only [put_succ, put_zero] at hs
   refine ⟨_, hpl, hs.row0 (i := 2) (.s (.s .z)), ?_⟩
   have := k _ hs.drop.drop.drop.drop.drop
   unfold pieceM at this
   rw [← hw, ← hr] at this
   exact this
end
end Go.Proofs.YtaglicdidpgkpaaGreatDoor
end

/- SHA-256 as the document has it: what comes behind the bytes; the hash. Own work. -/
section
set_option maxRecDepth 100000
set_option linter.unusedVariables false
namespace Go.Proofs.YtaglicdidpgkpaaGreatDoor
open Go Go.Vc

theorem ext_getD24 {a b : List Int} (hl : a.length = b.length) (h : ∀ x, x < a.length → a.getD x 0 = b.getD x 0) : a = b := by
 apply List.ext_getElem hl
 intro i h1 h2
 have := h i h1
 rwa [List.getD_eq_getElem?_getD, List.getD_eq_getElem?_getD, List.getElem?_eq_getElem h1, List.getElem?_eq_getElem h2] at this
theorem zerosD (n x : Nat) : (zeros n).getD x 0 = 0 := by
 unfold zeros
 rw [List.getD_eq_getElem?_getD, List.getElem?_replicate]; split <;> rfl
theorem endM_get (n : Nat) : ∀ t x, t ≤ 8 → x < 73 → (endM n t).getD x 0 = if x = 0 then 128 else if 1 + zM n ≤ x ∧ x < 1 + zM n + t then lenB n (x - 1 - zM n) else 0
 | 0, x, _, hx => by
  show ((zeros 73).set 0 128).getD x 0 = _
  rw [setD]
  by_cases c : x = 0
  ·subst c; rfl
  ·rw [if_neg (by omega), if_neg c, if_neg (by omega), zerosD]
 | t + 1, x, ht, hx => by
  have hz := zM_lt n
  have ih := endM_get n t x (by omega) hx
  show ((endM n t).set (1 + zM n + t) (lenB n t)).getD x 0 = _
  rw [setD, endM_len]
  by_cases c : 1 + zM n + t = x
  ·subst c
   rw [if_pos ⟨rfl, hx⟩, if_neg (by omega), if_pos (by omega), show 1 + zM n + t - 1 - zM n = t by omega]
  ·rw [if_neg (fun y => c y.1), ih]
   by_cases c0 : x = 0
   ·rw [if_pos c0, if_pos c0]
   ·rw [if_neg c0, if_neg c0]
    by_cases c1 : 1 + zM n ≤ x ∧ x < 1 + zM n + t
    ·rw [if_pos c1, if_pos (by omega)]
    ·rw [if_neg c1, if_neg (by omega)]
def lensM (n : Nat) : List Int := (List.range 8).map (lenB n)
theorem lensM_len (n : Nat) : (lensM n).length = 8 := by simp [lensM]
theorem lensM_get (n : Nat) {t : Nat} (ht : t < 8) : (lensM n).getD t 0 = lenB n t := by
 unfold lensM
 rw [List.getD_eq_getElem?_getD, List.getElem?_map, List.getElem?_range ht]; rfl
theorem appD (a b : List Int) (x : Nat) : (a ++ b).getD x 0 = if x < a.length then a.getD x 0 else b.getD (x - a.length) 0 := by
 rw [List.getD_eq_getElem?_getD]
 split
 ·rename_i c; rw [List.getElem?_append_left c, List.getD_eq_getElem?_getD]
 ·rename_i c; rw [List.getElem?_append_right (by omega), List.getD_eq_getElem?_getD]
theorem tailM_eq (n : Nat) : tailM n = [128] ++ zeros (zM n) ++ lensM n := by
 have hz := zM_lt n
 have hzl : (zeros (zM n)).length = zM n := by simp [zeros]
 refine ext_getD24 ?_ ?_
 ·rw [tailM_len, List.length_append, List.length_append, hzl, lensM_len]; simp; omega
 ·intro x hx
  rw [tailM_len] at hx
  have e1 : (tailM n).getD x 0 = (endM n 8).getD x 0 := by
   unfold tailM
   rw [List.getD_eq_getElem?_getD, List.getElem?_take_of_lt hx, List.getD_eq_getElem?_getD]
  rw [e1, endM_get n 8 x (by omega) (by omega), appD, appD]
  simp only [List.length_append, List.length_cons, List.length_nil, hzl, Nat.zero_add]
  by_cases c0 : x = 0
  ·subst c0
   rw [if_pos rfl, if_pos (by omega), if_pos (by omega)]; rfl
  ·rw [if_neg c0]
   by_cases c1 : x < 1 + zM n
   ·rw [if_neg (by omega), if_pos c1, if_neg (by omega), zerosD]
   ·rw [if_pos (by omega), if_neg c1, lensM_get n (by omega), show x - 1 - zM n = x - (1 + zM n) by omega]
theorem fullM_len (ms : List Int) : (fullM ms).length = ms.length + 9 + zM ms.length := by
 unfold fullM; rw [List.length_append, tailM_len]; omega
theorem fullM_64 (ms : List Int) : (fullM ms).length = 64 * ((fullM ms).length / 64) := by
 rw [fullM_len]; unfold zM; omega
theorem isBy_app {a b : List Int} (ha : isBy a) (hb : isBy b) : isBy (a ++ b) := fun v hv => (List.mem_append.1 hv).elim (ha v) (hb v)
theorem isBy_zeros (n : Nat) : isBy (zeros n) := by
 intro v hv
 unfold zeros at hv
 rw [List.mem_replicate] at hv
 omega
theorem isBy_tail (n : Nat) : isBy (tailM n) := by
 rw [tailM_eq]
 refine isBy_app (isBy_app ?_ (isBy_zeros _)) ?_
 ·intro v hv
  simp only [List.mem_cons, List.not_mem_nil, or_false] at hv
  omega
 ·intro v hv
  unfold lensM at hv
  obtain ⟨i, _, rfl⟩ := List.mem_map.1 hv
  unfold lenB
  rw [IntKind.wrap_u8]; omega
theorem isBy_blk {ms : List Int} (hb : isBy ms) (i : Nat) : isBy (blkM ms i) := fun v hv => hb v (List.mem_of_mem_drop (List.mem_of_mem_take hv))
theorem takeS (l : List Int) {t : Nat} (h : t < l.length) : l.take (t + 1) = l.take t ++ [l.getD t 0] := by
 rw [List.take_succ, List.getElem?_eq_getElem h, List.getD_eq_getElem?_getD, List.getElem?_eq_getElem h]; rfl
theorem intsApp (k : IntKind) (a b : List Int) : ints k (a ++ b) = ints k a ++ ints k b := by unfold ints; rw [List.map_append]
theorem loopN {J : List SV → H → Prop} {σ : Type} (N : Nat) (S : Nat → σ → List SV) (Inv : Nat → σ → H → Prop) (step : ∀ i s h, i < N → Inv i s h → (∀ s' h', Inv (i + 1) s' h' → J (S (i + 1) s') h') → J (S i s) h)
  (exit : ∀ s h, Inv N s h → J (S N s) h) (i : Nat) (s : σ) (h : H) (hi : i ≤ N) (inv : Inv i s h) : J (S i s) h := by
 generalize e : N - i = n
 induction n generalizing i s h with
 | zero =>
  have : i = N := by omega
  subst this; exact exit s h inv
 | succ n ih => exact step i s h (by omega) inv fun s' h' inv' => ih (i + 1) s' h' (by omega) inv' (by omega)
theorem capL {h0 h : H} {A : List Ent} (hs : Sat h0 A h) {i : Nat} {p : Option Addr} {l c sz : Nat} {vs : List Value} (m : At A i (slE p l c sz vs)) : l ≤ c := by
 obtain ⟨f, hp, _⟩ := hs.take m
 obtain ⟨bs, o, _⟩ := slE_P.1 hp
 exact o.2.1
section
variable {h0 h : H} {A : List Ent} {i d : Nat}
theorem padded_sp {Q : Option Addr → Nat → Nat → H → Prop} {ms : List Int} {p : Option Addr} {l c : Nat} (hs : Sat h0 A h) (hl : l < 2 ^ 46) (rd : ∀ h', Sat h0 A h' → hsv h' p 1 l (ints .u8 ms))
  (k : ∀ p' c' h', (fullM ms).length ≤ c' → Sat h0 (slE p' (fullM ms).length c' 1 (ints .u8 (fullM ms)) :: A) h' → Q p' (fullM ms).length c' h') : F_portcullisref02_padded p l c Q h := by
 unfold F_portcullisref02_padded G_portcullisref02_padded
 have hml : ms.length = l := by have := (rd _ hs).1; simpa using this
 have hz := zM_lt l
 refine ⟨_, rd _ hs, ?_⟩
 refine Sat.app_new hs (by simp [hml]) rfl (ints_one _ _) (by omega) ?_
 intro p1 c1 h1 hs
 intro b _ hn; replace hs := Sat.new hs hn; clear hn
 refine ⟨_, hs.bv (i := 0) (l := 1) .z rfl (ints_one .u8 [128]), ?_⟩
 refine Sat.app hs (i := 1) (vs := ints .u8 [128]) (.s .z) rfl rfl (ints_one _ _) (by omega) ?_
 intro p2 c2 h2 hs
 simp only [put_succ, put_zero] at hs
 rw [← intsApp] at hs
 replace hs := hs.drop
 intro J18 hJ18
 refine loopN (zM l) (fun t (s : Option Addr × Nat) => [.dv (.one (.slice s.1 (l + 1 + t) s.2))]) (fun t s h => Sat h0 (slE s.1 (l + 1 + t) s.2 1 (ints .u8 (ms ++ [128] ++ zeros t)) :: A) h) ?_ ?_ 0 (p2, c2) _ (by omega) (by simpa [zeros] using hs)
 ·rintro t ⟨p3, c3⟩ h3 ht hs hk
  dsimp only at hs hk ⊢
  apply hJ18
  refine ⟨by decide, ?_⟩
  have em : (((l + 1 + t : Nat) : Int)).tmod 64 = (((l + 1 + t) % 64 : Nat) : Int) := by rw [Int.tmod_eq_emod_of_nonneg (by omega)]; omega
  rw [em, if_pos (by
   rw [bne_iff_ne]
   intro y
   unfold zM at ht
   omega)]
  intro b _ hn; replace hs := Sat.new hs hn; clear hn
  refine ⟨_, hs.bv (i := 0) (l := 1) .z rfl (ints_one .u8 [0]), ?_⟩
  refine Sat.app hs (i := 1) (vs := ints .u8 [0]) (.s .z) rfl rfl (ints_one _ _) (by omega) ?_
  intro p4 c4 h4 hs
  simp only [put_succ, put_zero] at hs
  rw [← intsApp] at hs
  refine hk (p4, c4) h4 ?_
  have ez : ms ++ [128] ++ zeros (t + 1) = ms ++ [128] ++ zeros t ++ [0] := by
   unfold zeros
   rw [List.replicate_succ', List.append_assoc, List.append_assoc, List.append_assoc]
  dsimp only
  rw [ez]
  exact hs.drop
 ·rintro ⟨p3, c3⟩ h3 hs
  dsimp only at hs ⊢
  apply hJ18
  clear hJ18
  refine ⟨by decide, ?_⟩
  have em : (((l + 1 + zM l : Nat) : Int)).tmod 64 = 56 := by
   rw [Int.tmod_eq_emod_of_nonneg (by omega)]
   unfold zM
   omega
  rw [em, if_neg (by decide)]
  have ew : IntKind.u64.wrap (8 * IntKind.u64.wrap (l : Int)) = IntKind.u64.wrap (8 * (l : Int)) := by rw [wrapU64 (l : Int), wrapU64, wrapU64]; omega
  rw [ew]
  intro J31 hJ31
  refine loopN 8 (fun t (s : Option Addr × Nat) => [.dv (.one (.slice s.1 (l + 1 + zM l + t) s.2)), .dv (.one (.int .i64 (7 - (t : Int))))]) (fun t s h => Sat h0 (slE s.1 (l + 1 + zM l + t) s.2 1 (ints .u8 (ms ++ [128] ++ zeros (zM l) ++ (lensM l).take t)) :: A) h) ?_ ?_ 0 (p3, c3) _ (by omega) (by simpa using hs)
  ·rintro t ⟨p4, c4⟩ h4 ht hs hk
   dsimp only at hs hk ⊢
   apply hJ31
   rw [leI_eq, if_pos (by rw [decide_eq_true_iff]; omega)]
   have e8 : IntKind.i64.wrap (8 * (7 - (t : Int))) = ((56 - 8 * t : Nat) : Int) := by rw [wrap_id (by omega)]; omega
   rw [e8]
   simp only [Int.toNat_natCast]
   refine ⟨by omega, ?_⟩
   intro b _ hn; replace hs := Sat.new hs hn; clear hn
   refine ⟨_, hs.bv (i := 0) (l := 1) .z rfl (ints_one .u8 [lenB l t]), ?_⟩
   refine Sat.app hs (i := 1) (vs := ints .u8 [lenB l t]) (.s .z) rfl rfl (ints_one _ _) (by omega) ?_
   intro p5 c5 h5 hs
   simp only [put_succ, put_zero] at hs
   rw [← intsApp] at hs
   have e1 : IntKind.i64.wrap (7 - (t : Int) - 1) = 7 - ((t + 1 : Nat) : Int) := by rw [wrap_id (by omega)]; omega
   rw [e1]
   refine hk (p5, c5) h5 ?_
   dsimp only
   rw [takeS _ (by rw [lensM_len]; exact ht), lensM_get l ht, ← List.append_assoc]
   exact hs.drop
  ·rintro ⟨p4, c4⟩ h4 hs
   dsimp only at hs ⊢
   apply hJ31
   rw [leI_eq, if_neg (by decide)]
   rw [List.take_of_length_le (by rw [lensM_len]; exact Nat.le_refl _)] at hs
   have ef : ms ++ [128] ++ zeros (zM l) ++ lensM l = fullM ms := by
    unfold fullM
    rw [tailM_eq, hml, List.append_assoc, List.append_assoc, List.append_assoc]
   have efl : (fullM ms).length = l + 1 + zM l + 8 := by rw [fullM_len, hml]; omega
   rw [ef] at hs
   have K := k p4 c4 h4
   rw [efl] at K
   exact K (capL hs (i := 0) .z) hs
theorem rof_sp {Q : List Int → H → Prop} {ms : List Int} {p : Option Addr} {l c : Nat} (hs : Sat h0 A h) (hb : isBy ms) (hl : l < 2 ^ 46) (rd : ∀ h', Sat h0 A h' → hsv h' p 1 l (ints .u8 ms)) (k : ∀ h', Sat h0 A h' → Q (shaM ms) h') : F_portcullisref02_Of p l c Q h := by
 unfold F_portcullisref02_Of G_portcullisref02_Of
 try simp only [add_mk, Nat.zero_add, List.append_nil]
 have hml : ms.length = l := by have := (rd _ hs).1; simpa using this
 intro rb _ hn; replace hs := Sat.new hs hn; clear hn
 refine padded_sp (ms := ms) hs hl (fun h' hs' => rd _ hs'.drop) ?_
 intro p1 c1 h1 hc1 hs
 obtain ⟨F, hF⟩ : ∃ F, F = fullM ms := ⟨_, rfl⟩
 have hbF : isBy F := by rw [hF]; unfold fullM; exact isBy_app hb (isBy_tail _)
 have hFl : F.length < 2 ^ 47 := by rw [hF, fullM_len, hml]; have := zM_lt l; omega
 obtain ⟨N, hN⟩ : ∃ N, N = F.length / 64 := ⟨_, rfl⟩
 have h64 : F.length = 64 * N := by rw [hN, hF]; exact fullM_64 ms
 rw [← hF] at hs hc1 ⊢
 rw [h64] at hs hc1 ⊢
 unfold F_portcullisref02_begins G_portcullisref02_begins
 try simp only [add_mk, Nat.zero_add, List.append_nil]
 intro bb _ hn; replace hs := Sat.new hs hn; clear hn
 refine ⟨Sat.can hs (i := 0) .z (by simp [zeros]), ?_⟩
 intro h2 e
 replace hs := Sat.wra hs (i := 0) .z e (by simp [zeros])
 clear e
 simp only [put_zero] at hs
 refine ⟨sM, rfl, hs.row0 .z, ?_⟩
 replace hs := hs.drop
 intro sb _ hn; replace hs := Sat.new hs hn; clear hn
 refine ⟨Sat.can hs (i := 0) .z (by simp [zeros, sM]), ?_⟩
 intro h3 e
 replace hs := Sat.wra hs (i := 0) .z e (by simp [zeros, sM])
 clear e
 simp only [put_zero] at hs
 unfold F_portcullisref02_rounds G_portcullisref02_rounds
 try simp only [add_mk, Nat.zero_add, List.append_nil]
 intro kb _ hn; replace hs := Sat.new hs hn; clear hn
 refine ⟨Sat.can hs (i := 0) .z (by simp [zeros]), ?_⟩
 intro h4 e
 replace hs := Sat.wra hs (i := 0) .z e (by simp [zeros])
 clear e
 simp only [put_zero] at hs
 refine ⟨kM, rfl, hs.row0 .z, ?_⟩
 replace hs := hs.drop
 intro kc _ hn; replace hs := Sat.new hs hn; clear hn
 refine ⟨Sat.can hs (i := 0) .z (by simp [zeros, kM_len]), ?_⟩
 intro h5 e
 replace hs := Sat.wra hs (i := 0) .z e (by simp [zeros, kM_len])
 clear e
 simp only [put_zero] at hs
 intro J30 hJ30
 refine loopN N (fun t (_ : Unit) => [.dv (.one (.int .i64 ((64 * t : Nat) : Int)))]) (fun t _ h => Sat h0 (blk kc (ints .u32 kM) :: blk sb (ints .u32 (stM F t)) :: slE p1 (64 * N) c1 1 (ints .u8 F) :: blk rb (ints .u8 (zeros 32)) :: A) h) ?_ ?_ 0 () _ (by omega) hs
 ·rintro t _ h6 ht hs hk
  apply hJ30
  rw [ltI_eq, if_pos (by rw [decide_eq_true_iff]; omega)]
  have e64 : IntKind.i64.wrap (((64 * t : Nat) : Int) + 64) = ((64 * (t + 1) : Nat) : Int) := by rw [wrap_id (by omega)]; push_cast; omega
  rw [e64]
  simp only [Int.toNat_natCast]
  have hsl := stM_len F t
  refine ⟨stM F t, hsl, hs.row0 (i := 1) (.s .z), by omega, by omega, by omega, kM, kM_len, hs.row0 (i := 0) .z, ?_⟩
  rw [show 64 * (t + 1) - 64 * t = 64 by omega]
  refine piece_sp (bs := blkM F t) hs hsl (isBy_blk hbF t) (Nat.le_refl _) (fun h' hs' => subRd (o := 64 * t) (n := 64) (m := c1) (hs'.sv (i := 2) (.s (.s .z))) (by omega) (by omega)) ?_
  intro h7 hs
  have hpl : (pieceM (stM F t) (blkM F t)).length = 8 := pieceM_len hsl
  refine ⟨Sat.can hs (i := 1) (.s .z) (by simp [hsl]), ?_⟩
  intro h8 e
  replace hs := Sat.wra hs (i := 1) (.s .z) e (by simp [hsl, hpl])
  clear e
  simp only [put_succ, put_zero] at hs
  exact hk () _ hs
 ·rintro _ h6 hs
  apply hJ30
  clear hJ30
  rw [ltI_eq, if_neg (by rw [decide_eq_true_iff]; omega)]
  obtain ⟨S, hS⟩ : ∃ S, S = stM F N := ⟨_, rfl⟩
  have hSl : S.length = 8 := by rw [hS]; exact stM_len F N
  have hsh : shaM ms = oM S 32 := by unfold shaM; rw [← hF, ← hN, hS]
  rw [← hS] at hs
  intro ob _ hn; replace hs := Sat.new hs hn; clear hn
  refine ⟨Sat.can hs (i := 0) .z (by simp [zeros]), ?_⟩
  intro h7 e
  replace hs := Sat.wra hs (i := 0) .z e rfl
  clear e
  simp only [put_zero] at hs
  intro J44 hJ44
  refine loop_up 32 (fun t h => Sat h0 (blk ob (ints .u8 (oM S t)) :: blk kc (ints .u32 kM) :: blk sb (ints .u32 S) :: slE p1 (64 * N) c1 1 (ints .u8 F) :: blk rb (ints .u8 (zeros 32)) :: A) h) ?_ ?_ 0 _ (by omega) hs
  ·intro t h8 ht hs hk
   apply hJ44
   rw [ltI_eq, if_pos (by simp; omega)]
   have hol := oM_len S t
   have ed : IntKind.i64.wrap ((t : Int).tdiv 4) = ((t / 4 : Nat) : Int) := by
    rw [Int.tdiv_eq_ediv_of_nonneg (by omega), wrap_id (by omega)]; omega
   have em : IntKind.i64.wrap (24 - IntKind.i64.wrap (8 * (t : Int).tmod 4)) = ((24 - 8 * (t % 4) : Nat) : Int) := by
    rw [Int.tmod_eq_emod_of_nonneg (by omega), wrap_id (n := 8 * ((t : Int) % 4)) (by omega), wrap_id (by omega)]; omega
   rw [ed, em]
   simp only [Int.toNat_natCast, Nat.mul_one]
   refine ⟨by decide, by omega, by omega, _, hs.ld (i := 2) (.s (.s .z)) (intsG (by omega)), by decide, by omega, by omega, by omega, ?_⟩
   refine ⟨Sat.can hs (i := 0) .z (by simp [hol]; omega), ?_⟩
   intro h9 e
   replace hs := Sat.wr hs (i := 0) .z e
   clear e
   rw [intsP] at hs
   simp only [put_zero] at hs
   rw [wrap_succ (by omega)]
   exact hk _ hs
  ·intro h8 hs
   apply hJ44
   rw [ltI_eq, if_neg (by decide)]
   rw [← hsh] at hs
   refine ⟨_, shaM_len ms, hs.row0 (i := 0) .z, ?_⟩
   refine ⟨Sat.can hs (i := 4) (.s (.s (.s (.s .z)))) (by simp [zeros]), ?_⟩
   intro h9 e
   replace hs := Sat.wra hs (i := 4) (.s (.s (.s (.s .z)))) e (by simp [zeros, shaM_len])
   clear e
   simp only [put_succ, put_zero] at hs
   exact ⟨_, shaM_len ms, hs.row0 (i := 4) (.s (.s (.s (.s .z)))), k _ hs.drop.drop.drop.drop.drop⟩
end
end Go.Proofs.YtaglicdidpgkpaaGreatDoor
end

/- HMAC as the document has it. Own work. -/
section
set_option maxRecDepth 100000
set_option linter.unusedVariables false
namespace Go.Proofs.YtaglicdidpgkpaaGreatDoor
open Go Go.Vc

def ovM (x : Int) (bs : List Int) : List Int := bs.map fun b => bits .xor .u8 b x
theorem xor_by (a b : Int) : 0 ≤ bits .xor .u8 a b ∧ bits .xor .u8 a b < 256 := by
 have : bits .xor .u8 a b = IntKind.u8.wrap ((BitVec.ofInt 8 a ^^^ BitVec.ofInt 8 b).toNat : Int) := rfl
 rw [this, IntKind.wrap_u8]; omega
theorem isBy_ov (x : Int) (bs : List Int) : isBy (ovM x bs) := by
 intro v hv
 unfold ovM at hv
 obtain ⟨b, _, rfl⟩ := List.mem_map.1 hv
 exact xor_by _ _
theorem xM_get (kb : List Int) (x : Int) : ∀ t j, t ≤ 64 → j < 64 → (xM kb x t).getD j 0 = if j < t then bits .xor .u8 (kb.getD j 0) x else 0
 | 0, j, _, hj => by
  show (zeros 64).getD j 0 = _
  rw [if_neg (by omega), zerosD]
 | t + 1, j, ht, hj => by
  have ih := xM_get kb x t j (by omega) hj
  show ((xM kb x t).set t _).getD j 0 = _
  rw [setD, xM_len, ih]
  by_cases c : t = j
  ·subst c
   rw [if_pos ⟨rfl, hj⟩, if_pos (by omega)]
  ·rw [if_neg (fun y => c y.1)]
   by_cases c1 : j < t
   ·rw [if_pos c1, if_pos (by omega)]
   ·rw [if_neg c1, if_neg (by omega)]
theorem xM_ov {kb : List Int} (x : Int) (h : kb.length = 64) : xM kb x 64 = ovM x kb := by
 refine ext_getD24 (by rw [xM_len]; simp [ovM, h]) ?_
 intro j hj
 rw [xM_len] at hj
 rw [xM_get kb x 64 j (by decide) hj, if_pos hj]
 unfold ovM
 rw [List.getD_eq_getElem?_getD, List.getD_eq_getElem?_getD, List.getElem?_map, List.getElem?_eq_getElem (by omega)]
 rfl
theorem isBy_sha (ms : List Int) : isBy (shaM ms) := by
 have : ∀ s t, isBy (oM s t) := by
  intro s t
  induction t with
  | zero => exact isBy_zeros 32
  | succ t ih =>
   intro v hv
   have hv : v ∈ (oM s t).set t (outB s t) := hv
   rcases List.mem_or_eq_of_mem_set hv with h | h
   ·exact ih v h
   ·rw [h]; unfold outB; rw [IntKind.wrap_u8]; omega
 exact this _ _
theorem isBy_mac (key b : List Int) : isBy (macM key b) := isBy_sha _
section
variable {h0 h : H} {A : List Ent} {i d : Nat}
theorem fill_sp {Q : Option Addr → Nat → Nat → H → Prop} {ms : List Int} {p : Option Addr} {l c : Nat} (hs : Sat h0 (slE p l c 1 (ints .u8 ms) :: A) h) (hl : l ≤ 64)
  (k : ∀ p' c' h', Sat h0 (slE p' 64 c' 1 (ints .u8 (ms ++ zeros (64 - l))) :: A) h' → Q p' 64 c' h') :
  ∀ (J21 : List SV → H → Prop), (∀ (o22 : Option Addr) (n23 n24 : Nat) (h25 : H), (if ltI (n23 : Int) 64 = true then ∀ (n26 : Nat) (h27 : H), hnew h25 n26 [.int .u8 0] h27 → ∃ l29 : List Value, hsv h27 (some ⟨n26, 0, none⟩) 1 1 l29 ∧ pApp h27 1 [.int .u8 0] 1 o22 n23 n24 1 l29 fun o30 n31 n32 h33 => J21 [.dv (.one (.slice o30 n31 n32))] h33
   else Q o22 n23 n24 h25) → J21 [.dv (.one (.slice o22 n23 n24))] h25) → J21 [.dv (.one (.slice p l c))] h := by
 intro J hJ
 refine loopN (64 - l) (fun t (s : Option Addr × Nat) => [.dv (.one (.slice s.1 (l + t) s.2))]) (fun t s h => Sat h0 (slE s.1 (l + t) s.2 1 (ints .u8 (ms ++ zeros t)) :: A) h) ?_ ?_ 0 (p, c) _ (by omega) (by simpa [zeros] using hs)
 ·rintro t ⟨p3, c3⟩ h3 ht hs hk
  dsimp only at hs hk ⊢
  apply hJ
  rw [ltI_eq, if_pos (by rw [decide_eq_true_iff]; omega)]
  intro b _ hn; replace hs := Sat.new hs hn; clear hn
  refine ⟨_, hs.bv (i := 0) (l := 1) .z rfl (ints_one .u8 [0]), ?_⟩
  refine Sat.app hs (i := 1) (vs := ints .u8 [0]) (.s .z) rfl rfl (ints_one _ _) (by omega) ?_
  intro p4 c4 h4 hs
  simp only [put_succ, put_zero] at hs
  rw [← intsApp] at hs
  refine hk (p4, c4) h4 ?_
  have ez : ms ++ zeros (t + 1) = ms ++ zeros t ++ [0] := by
   unfold zeros
   rw [List.replicate_succ', List.append_assoc]
  dsimp only
  rw [ez]
  exact hs.drop
 ·rintro ⟨p3, c3⟩ h3 hs
  dsimp only at hs ⊢
  apply hJ
  have e64 : l + (64 - l) = 64 := by omega
  rw [e64] at hs ⊢
  rw [ltI_eq, if_neg (by decide)]
  exact k _ _ _ hs
theorem block_sp {Q : Option Addr → Nat → Nat → H → Prop} {key : List Int} {p : Option Addr} {l c : Nat} (hs : Sat h0 A h) (hb : isBy key) (hl : l < 2 ^ 46) (rd : ∀ h', Sat h0 A h' → hsv h' p 1 l (ints .u8 key))
  (k : ∀ p' c' h', Sat h0 (slE p' 64 c' 1 (ints .u8 (kbM key)) :: A) h' → Q p' 64 c' h') : F_portcullisref03_block p l c Q h := by
 unfold F_portcullisref03_block G_portcullisref03_block
 try simp only [add_mk, Nat.zero_add, List.append_nil]
 have hkl : key.length = l := by have := (rd _ hs).1; simpa using this
 intro eb _ hn; replace hs := Sat.new hs hn; clear hn
 rw [ltI_eq]
 by_cases g : 64 < l
 ·rw [if_pos (by rw [decide_eq_true_iff]; omega)]
  have ek : keyM key = shaM key := by unfold keyM; rw [if_pos (by omega)]
  have ekb : kbM key = shaM key ++ zeros (64 - 32) := by unfold kbM; rw [ek, shaM_len]
  refine rof_sp (ms := key) hs hb hl (fun h' hs' => rd _ hs'.drop) ?_
  intro h1 hs
  intro hb' _ hn; replace hs := Sat.new hs hn; clear hn
  refine ⟨Sat.can hs (i := 0) .z (by simp [zeros]), ?_⟩
  intro h2 e
  replace hs := Sat.wra hs (i := 0) .z e (by simp [zeros, shaM_len])
  clear e
  simp only [put_zero] at hs
  have sub0 : subAddr (some ⟨hb', 0, none⟩) 0 32 1 = some ⟨hb', 0, none⟩ := by unfold subAddr; simp
  rw [sub0]
  refine ⟨_, hs.bv (i := 0) (l := 32) .z (by simp [shaM_len]) (ints_one _ _), ?_⟩
  refine Sat.app_new hs (by simp [shaM_len]) rfl (ints_one _ _) (by decide) ?_
  intro p3 c3 h3 hs
  refine fill_sp hs (by decide) ?_
  intro p4 c4 h4 hs
  rw [← ekb] at hs
  exact k _ _ _ (hs.sub (by (repeat (first | exact List.Sublist.refl _ | apply List.Sublist.cons_cons | apply List.Sublist.cons))))
 ·rw [if_neg (by rw [decide_eq_true_iff]; omega)]
  have ek : keyM key = key := by unfold keyM; rw [if_neg (by omega)]
  have ekb : kbM key = key ++ zeros (64 - l) := by unfold kbM; rw [ek, hkl]
  refine ⟨_, rd _ hs.drop, ?_⟩
  refine Sat.app_new hs (by simp [hkl]) rfl (ints_one _ _) (by omega) ?_
  intro p3 c3 h3 hs
  refine fill_sp hs (by omega) ?_
  intro p4 c4 h4 hs
  rw [← ekb] at hs
  exact k _ _ _ (hs.sub (by (repeat (first | exact List.Sublist.refl _ | apply List.Sublist.cons_cons | apply List.Sublist.cons))))
theorem over_sp {Q : Option Addr → Nat → Nat → H → Prop} {bs : List Int} {p : Option Addr} {l c : Nat} (x : Int) (hs : Sat h0 A h) (hl : l < 2 ^ 46) (rd : ∀ h', Sat h0 A h' → hsv h' p 1 l (ints .u8 bs))
  (k : ∀ p' c' h', Sat h0 (slE p' l c' 1 (ints .u8 (ovM x bs)) :: A) h' → Q p' l c' h') : F_portcullisref03_over p l c x Q h := by
 unfold F_portcullisref03_over G_portcullisref03_over
 have hbl : bs.length = l := by have := (rd _ hs).1; simpa using this
 intro eb _ hn; replace hs := Sat.new hs hn; clear hn
 intro J hJ
 refine loopN l (fun t (s : Option Addr × Nat) => [.dv (.one (.slice s.1 t s.2)), si t]) (fun t s h => Sat h0 (slE s.1 t s.2 1 (ints .u8 (ovM x (bs.take t))) :: A) h) ?_ ?_ 0 (some ⟨eb, 0, none⟩, 0) _ (by omega) (by simpa [ovM] using hs.drop.sl_nil 1 _)
 ·rintro t ⟨p3, c3⟩ h3 ht hs hk
  dsimp only at hs hk ⊢
  apply hJ
  rw [ltI_eq, if_pos (by rw [decide_eq_true_iff]; omega)]
  obtain ⟨q, hq, g⟩ := hsvI (rd _ hs.drop) (x := t) ht
  refine ⟨q, hq, by omega, by omega, ?_⟩
  simp only [Int.toNat_natCast, Nat.mul_one]
  refine ⟨_, g, ?_⟩
  intro b _ hn; replace hs := Sat.new hs hn; clear hn
  refine ⟨_, hs.bv (i := 0) (l := 1) .z rfl (ints_one .u8 [bits .xor .u8 (bs.getD t 0) x]), ?_⟩
  refine Sat.app hs (i := 1) (vs := ints .u8 [bits .xor .u8 (bs.getD t 0) x]) (.s .z) rfl rfl (ints_one _ _) (by omega) ?_
  intro p4 c4 h4 hs
  simp only [put_succ, put_zero] at hs
  rw [← intsApp] at hs
  rw [wrap_succ (by omega)]
  refine hk (p4, c4) h4 ?_
  dsimp only
  rw [takeS bs (by omega)]
  have : ovM x (bs.take t ++ [bs.getD t 0]) = ovM x (bs.take t) ++ [bits .xor .u8 (bs.getD t 0) x] := by unfold ovM; rw [List.map_append]; rfl
  rw [this]
  exact hs.drop
 ·rintro ⟨p3, c3⟩ h3 hs
  dsimp only at hs ⊢
  apply hJ
  rw [ltI_eq, if_neg (by simp)]
  rw [List.take_of_length_le (by omega)] at hs
  exact k _ _ _ hs
theorem rmac_sp {Q : List Int → H → Prop} {key b : List Int} {kp bp : Option Addr} {kl kc bl bc : Nat} (hs : Sat h0 A h) (hkb : isBy key) (hbb : isBy b) (hk : kl < 2 ^ 45) (hb : bl < 2 ^ 45) (rk : ∀ h', Sat h0 A h' → hsv h' kp 1 kl (ints .u8 key)) (rb : ∀ h', Sat h0 A h' → hsv h' bp 1 bl (ints .u8 b))
  (k : ∀ h', Sat h0 A h' → Q (macM key b) h') : F_portcullisref03_Of kp kl kc bp bl bc Q h := by
 unfold F_portcullisref03_Of G_portcullisref03_Of
 try simp only [add_mk, Nat.zero_add, List.append_nil]
 have hbl : b.length = bl := by have := (rb _ hs).1; simpa using this
 intro ob _ hn; replace hs := Sat.new hs hn; clear hn
 refine block_sp (key := key) hs hkb (by omega) (fun h' hs' => rk _ hs'.drop) ?_
 intro p1 c1 h1 hs
 have hkl := kbM_len key
 refine over_sp 54 hs (by decide) (fun h' hs' => hs'.sv (i := 0) .z) ?_
 intro p2 c2 h2 hs
 rw [← xM_ov 54 hkl] at hs
 refine ⟨_, rb _ hs.drop.drop.drop, ?_⟩
 refine Sat.app hs (i := 0) (vs := ints .u8 b) .z (by simp [hbl]) rfl (ints_one _ _) (by omega) ?_
 intro p3 c3 h3 hs
 simp only [put_zero] at hs
 rw [← intsApp] at hs
 have bi : isBy (xM (kbM key) 54 64) := by rw [xM_ov 54 hkl]; exact isBy_ov _ _
 have bo : isBy (xM (kbM key) 92 64) := by rw [xM_ov 92 hkl]; exact isBy_ov _ _
 refine rof_sp (ms := innerM key ++ b) hs (isBy_app bi hbb) (by omega) (fun h' hs' => hs'.sv (i := 0) .z) ?_
 intro h4 hs
 obtain ⟨I, hI⟩ : ∃ I, I = shaM (innerM key ++ b) := ⟨_, rfl⟩
 have hIl : I.length = 32 := by rw [hI]; exact shaM_len _
 have hIb : isBy I := by rw [hI]; exact isBy_sha _
 rw [← hI]
 intro hb' _ hn; replace hs := Sat.new hs hn; clear hn
 refine ⟨Sat.can hs (i := 0) .z (by simp [zeros]), ?_⟩
 intro h5 e
 replace hs := Sat.wra hs (i := 0) .z e (by simp [zeros, hIl])
 clear e
 simp only [put_zero] at hs
 refine over_sp 92 hs (by decide) (fun h' hs' => hs'.sv (i := 2) (.s (.s .z))) ?_
 intro p6 c6 h6 hs
 rw [← xM_ov 92 hkl] at hs
 refine ⟨_, hs.bv (i := 1) (l := 32) (.s .z) (by simp [hIl]) (ints_one _ _), ?_⟩
 refine Sat.app hs (i := 0) (vs := ints .u8 I) .z (by simp [hIl]) rfl (ints_one _ _) (by decide) ?_
 intro p7 c7 h7 hs
 simp only [put_zero] at hs
 rw [← intsApp] at hs
 refine rof_sp (ms := outerM key ++ I) hs (isBy_app bo hIb) (by decide) (fun h' hs' => hs'.sv (i := 0) .z) ?_
 intro h8 hs
 have em : shaM (outerM key ++ I) = macM key b := by unfold macM; rw [hI]
 rw [em]
 refine ⟨Sat.can hs (i := 4) (.s (.s (.s (.s .z)))) (by simp [zeros]), ?_⟩
 intro h9 e
 replace hs := Sat.wra hs (i := 4) (.s (.s (.s (.s .z)))) e (by simp [zeros, macM_len])
 clear e
 simp only [put_succ, put_zero] at hs
 exact ⟨_, macM_len _ _, hs.row0 (i := 4) (.s (.s (.s (.s .z)))), k _ hs.drop.drop.drop.drop.drop⟩
end
end Go.Proofs.YtaglicdidpgkpaaGreatDoor
end

/- Rings of keys, the program's and the document's. Own work. -/
section
set_option maxRecDepth 100000
set_option linter.unusedVariables false
namespace Go.Proofs.YtaglicdidpgkpaaGreatDoor
open Go Go.Vc

abbrev Sec := Int × List Int
def badM (seen : List Sec) (s : Sec) : Int :=
 if s.1 < 0 then 2 else if 63 < s.1 then 2 else if s.2.length < 1 then 4 else if 256 < s.2.length then 4 else if (seen.find? (fun x => x.1 == s.1)).isSome = true then 18 else 0
def goM (L : List Sec) : Nat → Option (Int × Int)
 | 0 => none
 | k + 1 => if badM (L.take (L.length - (k + 1))) (L.getD (L.length - (k + 1)) (0, [])) = 0 then goM L k else some (badM (L.take (L.length - (k + 1))) (L.getD (L.length - (k + 1)) (0, [])), ((L.length - (k + 1) : Nat) : Int))
def newM (L : List Sec) : Option (Int × Int) := if 64 < L.length then some (3, 64) else goM L L.length
theorem goM_at (L : List Sec) {t : Nat} (ht : t < L.length) : goM L (L.length - t) = if badM (L.take t) L[t] = 0 then goM L (L.length - (t + 1)) else some (badM (L.take t) L[t], (t : Int)) := by
 obtain ⟨k, hk⟩ : ∃ k, L.length - t = k + 1 := ⟨L.length - t - 1, by omega⟩
 rw [hk]
 show (if badM (L.take (L.length - (k + 1))) (L.getD (L.length - (k + 1)) (0, [])) = 0 then _ else _) = _
 rw [show L.length - (k + 1) = t by omega, show L.length - (t + 1) = k by omega]
 have : L.getD t (0, []) = L[t] := by rw [List.getD_eq_getElem?_getD, List.getElem?_eq_getElem ht]; rfl
 rw [this]
structure SR where
 key : Int
 bytes : List Int
 p : Option Addr
 c : Nat
abbrev SR.kv (x : SR) : Sec := (x.key, x.bytes)
abbrev SR.ent (x : SR) : Value × DV := (.int .i64 x.key, .one (.slice x.p x.bytes.length x.c))
abbrev SR.sl (x : SR) : Ent := slE x.p x.bytes.length x.c 1 (ints .u8 x.bytes)
def SR.at_ (R : List SR) (key : Int) : Option SR := R.find? (fun x => x.key == key)
theorem at_kv (R : List SR) (key : Int) : (SR.at_ R key).map SR.kv = (R.map SR.kv).find? (fun x => x.1 == key) := by
 unfold SR.at_
 induction R with
 | nil => rfl
 | cons x r ih =>
  rw [List.map_cons, List.find?_cons, List.find?_cons]
  by_cases c : (x.key == key) = true
  ·rw [c]; simp only [c]; rfl
  ·have c' : (x.key == key) = false := by simpa using c
   rw [c']; simp only [c']; exact ih
theorem mlook_at (R : List SR) (key : Int) (z : DV) : mlook (.int .i64 key) z (R.map SR.ent) = match SR.at_ R key with | some x => some (.one (.slice x.p x.bytes.length x.c), true) | none => some (z, false) := by
 unfold SR.at_
 induction R with
 | nil => rfl
 | cons x r ih =>
  rw [List.map_cons, List.find?_cons]
  unfold mlook
  have e : keyEq (.int .i64 key) (SR.ent x).1 = some (key == x.key) := rfl
  rw [e]
  by_cases c : key = x.key
  ·have c1 : (key == x.key) = true := by simpa using c
   have c2 : (x.key == key) = true := by simpa using c.symm
   rw [c1, c2]
  ·have c1 : (key == x.key) = false := by simpa using c
   have c2 : (x.key == key) = false := by simpa using fun y => c y.symm
   rw [c1, c2]
   exact ih
theorem mins_at (R : List SR) (key : Int) (d : DV) (h : SR.at_ R key = none) : mins (.int .i64 key) d (R.map SR.ent) = some (R.map SR.ent ++ [(.int .i64 key, d)]) := by
 unfold SR.at_ at h
 induction R with
 | nil => rfl
 | cons x r ih =>
  rw [List.find?_cons] at h
  rw [List.map_cons]
  unfold mins
  have e : keyEq (.int .i64 key) (SR.ent x).1 = some (key == x.key) := rfl
  rw [e]
  by_cases c : key = x.key
  ·have c2 : (x.key == key) = true := by simpa using c.symm
   rw [c2] at h; cases h
  ·have c1 : (key == x.key) = false := by simpa using c
   have c2 : (x.key == key) = false := by simpa using fun y => c y.symm
   rw [c2] at h
   rw [c1]
   dsimp only
   rw [ih h]
   rfl
def SecsAt (h : H) (p : Option Addr) (l : Nat) (X : List SR) : Prop := l = X.length ∧ ∀ i (hi : i < X.length), ∃ q, p = some q ∧ hc h (q.add (i * 2)) = some (.int .i64 X[i].key) ∧ hc h ((q.add (i * 2)).add 1) = some (.slice X[i].p X[i].bytes.length X[i].c) ∧ hsv h X[i].p 1 X[i].bytes.length (ints .u8 X[i].bytes) ∧ isBy X[i].bytes ∧ X[i].bytes.length < 2 ^ 47
theorem SecsAt.ext {h0 h : H} {A : List Ent} (hs : Sat h0 A h) {p : Option Addr} {l : Nat} {X : List SR} (s : SecsAt h0 p l X) : SecsAt h p l X := by
 refine ⟨s.1, fun i hi => ?_⟩
 obtain ⟨q, h1, h2, h3, h4, h5, h6⟩ := s.2 i hi
 exact ⟨q, h1, hc_ext hs.ex h2 (fun y => y), hc_ext hs.ex h3 (fun y => y), hs.base h4, h5, h6⟩
theorem takeSec {L : List Sec} {t : Nat} (h : t < L.length) : L.take (t + 1) = L.take t ++ [L[t]] := by rw [List.take_succ, List.getElem?_eq_getElem h]; rfl
abbrev ringP (r m : Nat) (R : List SR) : List Ent := blk r [.map (some m)] :: mapE m (R.map SR.ent) :: R.map SR.sl
def SR.good (R : List SR) : Prop := ∀ x, x ∈ R → x.bytes.length ≤ 256 ∧ x.bytes.length ≤ x.c ∧ isBy x.bytes
section
variable {h0 h : H} {A : List Ent} {i j d r m : Nat}
theorem hasN_sp {Q : Bool → H → Prop} (key : Int) {R : List SR} (hs : Sat h0 A h) (cr : At A i (blk r [.map (some m)])) (cm : At A j (mapE m (R.map SR.ent))) (q : Q (SR.at_ R key).isSome h) : F_keys_Ring_Has ⟨r, 0, none⟩ key Q h := by
 cases e : SR.at_ R key with
 | none => exact has_sp key hs cr cm (b := false) (op := none) (ol := 0) (oc := 0) (by rw [mlook_at, e]) (by rw [e] at q; exact q)
 | some x => exact has_sp key hs cr cm (b := true) (op := x.p) (ol := x.bytes.length) (oc := x.c) (by rw [mlook_at, e]) (by rw [e] at q; exact q)
theorem keysN_sp {Q : Option Addr → Int → Int → H → Prop} {X : List SR} {L : List Sec} {p : Option Addr} {l c : Nat} (hs : Sat h0 A h) (eL : X.map SR.kv = L) (rd : ∀ h', Sat h0 A h' → SecsAt h' p l X) (hl : l < 2 ^ 47)
  (kE : ∀ e i h', newM L = some (e, i) → Sat h0 A h' → Q none e i h')
  (kT : newM L = none → ∀ r m R h', R.map SR.kv = L → SR.good R → Sat h0 (ringP r m R ++ A) h' → Q (some ⟨r, 0, none⟩) 0 0 h') : F_keys_New p l c Q h := by
 unfold F_keys_New G_keys_New
 try simp only [add_mk, Nat.zero_add]
 have hL : l = L.length := by rw [← eL, List.length_map]; exact (rd _ hs).1
 rw [ltI_eq]
 by_cases g : 64 < l
 ·rw [if_pos (by rw [decide_eq_true_iff]; omega)]
  exact kE _ _ _ (by unfold newM; rw [if_pos (by omega)]) hs
 rw [if_neg (by rw [decide_eq_true_iff]; omega)]
 have hn : newM L = goM L L.length := by unfold newM; rw [if_neg (by omega)]
 rw [hn] at kT
 replace kE : ∀ e i h', goM L L.length = some (e, i) → Sat h0 A h' → Q none e i h' := fun e i h' x => kE e i h' (hn.trans x)
 intro m _ hn; replace hs := hs.mapNew hn; clear hn
 intro r _ hn; replace hs := Sat.new hs hn; clear hn
 intro J13 hJ13
 refine loopN L.length (fun t (_ : List SR) => [si t]) (fun t R h => goM L L.length = goM L (L.length - t) ∧ R.map SR.kv = L.take t ∧ SR.good R ∧ Sat h0 (ringP r m R ++ A) h) ?_ ?_ 0 [] _ (by omega) ⟨rfl, rfl, (show SR.good [] from fun x hx => by cases hx), hs⟩
 ·rintro t R h1 ht ⟨hg, hR, hgd, hs⟩ hk
  apply hJ13
  rw [ltI_eq, if_pos (by rw [decide_eq_true_iff]; omega)]
  have rd' : ∀ {B : List Ent} {h' : H}, Sat h0 (B ++ (ringP r m R ++ A)) h' → Sat h0 A h' := fun {B h'} hs' => by
   refine hs'.sub ?_
   exact (List.sublist_append_right _ _).trans (List.sublist_append_right _ _)
  have htX : t < X.length := by rw [← eL, List.length_map] at ht; exact ht
  obtain ⟨q, hq, g0, g1, _, hby, hbl⟩ := (rd _ (rd' (B := []) hs)).2 t htX
  have rdb : ∀ {B : List Ent} {h' : H}, Sat h0 (B ++ (ringP r m R ++ A)) h' → hsv h' X[t].p 1 X[t].bytes.length (ints .u8 X[t].bytes) := fun {B h'} hs' => by
   obtain ⟨_, _, _, _, y, _⟩ := (rd _ (rd' (B := B) hs')).2 t htX
   exact y
  rw [goM_at L ht] at hg
  have hkv : L[t] = (X[t].key, X[t].bytes) := by subst eL; simp
  obtain ⟨key, hkey⟩ : ∃ key, key = X[t].key := ⟨_, rfl⟩
  obtain ⟨bs, hbs⟩ : ∃ bs, bs = X[t].bytes := ⟨_, rfl⟩
  obtain ⟨bp, hbp⟩ : ∃ bp, bp = X[t].p := ⟨_, rfl⟩
  obtain ⟨bc, hbc⟩ : ∃ bc, bc = X[t].c := ⟨_, rfl⟩
  rw [← hkey, ← hbs] at hkv
  rw [← hkey] at g0
  rw [← hbp, ← hbs, ← hbc] at g1
  rw [← hbs] at hby hbl
  have rdb' : ∀ {B : List Ent} {h' : H}, Sat h0 (B ++ (ringP r m R ++ A)) h' → hsv h' bp 1 bs.length (ints .u8 bs) := fun {B h'} hs' => by
   rw [hbp, hbs]; exact rdb (B := B) hs'
  obtain ⟨bl, hbsl⟩ : ∃ bl, bs.length = bl := ⟨_, rfl⟩
  rw [hbsl] at g1 hbl
  rw [hkv] at hg
  refine ⟨q, hq, by omega, by omega, ?_⟩
  simp only [Int.toNat_natCast]
  refine ⟨_, g0, _, _, _, g1, ?_⟩
  intro b _ hn; replace hs := Sat.new hs hn; clear hn
  refine ⟨Sat.can hs (i := 0) .z (by simp), ?_⟩
  intro h2 e
  replace hs := Sat.wra hs (i := 0) .z e rfl
  clear e
  simp only [put_zero] at hs
  have bad : ∀ e, e ≠ 0 → badM (L.take t) (key, bs) = e → ∀ h', Sat h0 A h' → Q none e t h' := by
   intro e he hb h' hs'
   rw [hb, if_neg he] at hg
   exact kE e t h' hg hs'
  intro J26 hJ26
  have no : badM (L.take t) (key, bs) = 2 → J26 [.dv (.one (.bool true))] h2 := by
   intro hb
   apply hJ26
   rw [if_pos rfl]
   exact bad 2 (by decide) hb _ (rd' (B := [_]) hs)
  have way : 0 ≤ key → key < 64 → J26 [.dv (.one (.bool false))] h2 := by
   intro k0 k1
   apply hJ26
   clear hJ26 no
   rw [if_neg (by decide)]
   have bm : badM (L.take t) (key, bs) = if bs.length < 1 then 4 else if 256 < bs.length then 4 else if ((L.take t).find? (fun x => x.1 == key)).isSome = true then 18 else 0 := by
    unfold badM
    dsimp only
    rw [if_neg (by omega), if_neg (by omega)]
   rw [bm] at hg bad
   refine ⟨_, _, _, hs.ld (i := 0) .z rfl, ?_⟩
   rw [ltI_eq]
   by_cases b1 : bl < 1
   ·rw [if_pos (by rw [decide_eq_true_iff]; omega)]
    exact bad 4 (by decide) (by rw [if_pos (by omega)]) _ (rd' (B := [_]) hs)
   rw [if_neg (by rw [decide_eq_true_iff]; omega)]
   rw [if_neg (show ¬ bs.length < 1 by omega)] at hg bad
   refine ⟨_, _, _, hs.ld (i := 0) .z rfl, ?_⟩
   rw [ltI_eq]
   by_cases b2 : 256 < bl
   ·rw [if_pos (by rw [decide_eq_true_iff]; omega)]
    exact bad 4 (by decide) (by rw [if_pos (by omega)]) _ (rd' (B := [_]) hs)
   rw [if_neg (by rw [decide_eq_true_iff]; omega)]
   rw [if_neg (show ¬ 256 < bs.length by omega)] at hg bad
   refine ⟨_, hs.ld (i := 0) .z rfl, ?_⟩
   refine hasN_sp key hs (i := 1) (j := 2) (.s .z) (.s (.s .z)) ?_
   have ekv : (SR.at_ R key).isSome = ((L.take t).find? (fun x => x.1 == key)).isSome := by rw [← hR, ← at_kv]; simp
   rw [ekv]
   by_cases b3 : ((L.take t).find? (fun x => x.1 == key)).isSome = true
   ·rw [if_pos b3]
    exact bad 18 (by decide) (by rw [if_pos b3]) _ (rd' (B := [_]) hs)
   rw [if_neg b3]
   rw [if_neg b3, if_pos rfl] at hg
   clear bad
   have hnone : SR.at_ R key = none := by
    rw [← ekv] at b3
    cases e : SR.at_ R key with
    | none => rfl
    | some x => rw [e] at b3; exact absurd rfl b3
   refine ⟨_, hs.ld (i := 1) (.s .z) rfl, _, hs.ld (i := 0) .z rfl, _, _, _, hs.ld (i := 0) .z rfl, ?_⟩
   refine clone1_sp (vs := ints .u8 bs) hs (by omega) (fun h' hs' => ?_) ?_
   ·rw [← hbsl]; exact rdb' (B := [_]) hs'
   intro p' c' h3 _ hs
   refine ⟨hcs_one (hs.ld (i := 1) (.s .z) rfl), hcs_one (hs.ld (i := 2) (.s (.s .z)) rfl), _, _, _, rfl, hs.mapAt (i := 3) (.s (.s (.s .z))), mins_at R key _ hnone, ?_⟩
   intro h4 e
   replace hs := hs.mapSet (i := 3) (.s (.s (.s .z))) e
   clear e
   simp only [put_succ, put_zero] at hs
   rw [wrap_succ (by omega)]
   have hc' := capS hs (i := 0) .z
   refine hk (R ++ [⟨key, bs, p', c'⟩]) h4 ⟨hg, ?_, ?_, ?_⟩
   ·rw [List.map_append, hR, takeSec ht, hkv]; rfl
   ·intro x hx
    rcases List.mem_append.1 hx with hx | hx
    ·exact hgd x hx
    ·simp only [List.mem_cons, List.not_mem_nil, or_false] at hx
     subst hx
     exact ⟨by dsimp only; omega, by dsimp only; omega, hby⟩
   ·rw [← hbsl] at hs
    have e1 : (R ++ [(⟨key, bs, p', c'⟩ : SR)]).map SR.ent = R.map SR.ent ++ [(.int .i64 key, .one (.slice p' bs.length c'))] := by rw [List.map_append]; rfl
    have e2 : (R ++ [(⟨key, bs, p', c'⟩ : SR)]).map SR.sl = R.map SR.sl ++ [slE p' bs.length c' 1 (ints .u8 bs)] := by rw [List.map_append]; rfl
    unfold ringP
    rw [e1, e2]
    refine Sat.perm (hs.sub (B := slE p' bs.length c' 1 (ints .u8 bs) :: blk r [.map (some m)] :: mapE m (R.map SR.ent ++ [(.int .i64 key, .one (.slice p' bs.length c'))]) :: (R.map SR.sl ++ A)) (by (repeat (first | exact List.Sublist.refl _ | apply List.Sublist.cons_cons | apply List.Sublist.cons)))) ?_
    simp only [List.cons_append, List.append_assoc, List.nil_append]
    refine (List.Perm.swap _ _ _).trans (List.Perm.cons _ ?_)
    refine (List.Perm.swap _ _ _).trans (List.Perm.cons _ ?_)
    exact List.perm_middle.symm
  refine ⟨_, hs.ld (i := 0) .z rfl, ?_⟩
  rw [ltI_eq]
  by_cases k0 : key < 0
  ·rw [if_pos (by rw [decide_eq_true_iff]; omega)]
   exact no (by unfold badM; dsimp only; rw [if_pos k0])
  rw [if_neg (by rw [decide_eq_true_iff]; omega)]
  refine ⟨_, hs.ld (i := 0) .z rfl, ?_⟩
  rw [leI_eq]
  by_cases k1 : 63 < key
  ·rw [decide_eq_true (by omega)]
   exact no (by unfold badM; dsimp only; rw [if_neg k0, if_pos k1])
  ·rw [decide_eq_false (by omega)]
   exact way (by omega) (by omega)
 ·rintro R h1 ⟨hg, hR, hgd, hs⟩
  apply hJ13
  rw [ltI_eq, if_neg (by rw [decide_eq_true_iff]; omega)]
  rw [List.take_of_length_le (Nat.le_refl _)] at hR
  rw [Nat.sub_self] at hg
  exact kT hg r m R h1 hR hgd hs
end
end Go.Proofs.YtaglicdidpgkpaaGreatDoor
end

/- Issue, of the program and the document. Own work. -/
section
set_option maxRecDepth 100000
set_option linter.unusedVariables false
namespace Go.Proofs.YtaglicdidpgkpaaGreatDoor
open Go Go.Vc

structure TkE where
 e : Int
 key : Int
 id : List Int
 tag : List Int
section
variable {h0 h : H} {A : List Ent} {i j d r m : Nat}
end
end Go.Proofs.YtaglicdidpgkpaaGreatDoor
end

/- Tokens: awake; TokenNames. Own work. -/
section
set_option maxRecDepth 1000000
set_option linter.unusedVariables false
namespace Go.Proofs.YtaglicdidpgkpaaGreatDoor
open Go Go.Vc
section
variable {h0 h : H} {A : List Ent} {i j d : Nat}
theorem hsv_nil (h : H) (p : Option Addr) (sz : Nat) : hsv h p sz 0 [] := ⟨by simp, by intro v hv; simp at hv, Or.inl rfl⟩
end
end Go.Proofs.YtaglicdidpgkpaaGreatDoor
end

/- TokenMakes: walked. Own work. -/
section
set_option maxRecDepth 100000
set_option linter.unusedVariables false
namespace Go.Proofs.YtaglicdidpgkpaaGreatDoor
open Go Go.Vc

structure NkE where
 e : Int
 key : Int
 id : List Int
 cs : List CvM
 tag : List Int
section
variable {h0 h : H} {A : List Ent} {i j d r m : Nat}
theorem keysU_sp {Q : Option Addr → Int → Int → H → Prop} {X : List SR} {L : List Sec} {p : Option Addr} {l c : Nat} (hs : Sat h0 A h) (eL : X.map SR.kv = L) (rd : ∀ h', Sat h0 A h' → SecsAt h' p l X) (hl : l < 2 ^ 47)
  (k : ∀ o e i h' B, Sat h0 (B ++ A) h' → (newM L = some (e, i) ∧ o = none) ∨ (newM L = none ∧ e = 0 ∧ ∃ r m R, o = some ⟨r, 0, none⟩ ∧ R.map SR.kv = L ∧ SR.good R ∧ B = ringP r m R) → Q o e i h') : F_keys_New p l c Q h :=
 keysN_sp hs eL rd hl (fun e i h' he hs => k none e i h' [] hs (Or.inl ⟨he, rfl⟩)) (fun hn r m R h' e1 e2 hs => k _ 0 0 h' _ hs (Or.inr ⟨hn, rfl, r, m, R, rfl, e1, e2, rfl⟩))
end
end Go.Proofs.YtaglicdidpgkpaaGreatDoor
end

/- Tokens: the document's pairs on the way to a tag. Own work. -/
section
set_option maxRecDepth 100000
set_option linter.unusedVariables false
namespace Go.Proofs.YtaglicdidpgkpaaGreatDoor
open Go Go.Vc
attribute [local irreducible] macM

structure PrM where
 key : List Int
 b : List Int
 tag : List Int
section
variable {h0 h : H} {A : List Ent} {i j d r m : Nat}
end
end Go.Proofs.YtaglicdidpgkpaaGreatDoor
end

/- Tokens: tags held against each other; whether a token has its right tag. Own work. -/
section
set_option maxRecDepth 100000
set_option linter.unusedVariables false
namespace Go.Proofs.YtaglicdidpgkpaaGreatDoor
open Go Go.Vc
attribute [local irreducible] macM

theorem or_xor0 {a x y : Int} (ha : 0 ≤ a ∧ a < 256) (hx : 0 ≤ x ∧ x < 256) (hy : 0 ≤ y ∧ y < 256) : bits .or .u8 a (bits .xor .u8 x y) = 0 ↔ a = 0 ∧ x = y := by
 obtain ⟨a, rfl⟩ := Int.eq_ofNat_of_zero_le ha.1
 obtain ⟨x, rfl⟩ := Int.eq_ofNat_of_zero_le hx.1
 obtain ⟨y, rfl⟩ := Int.eq_ofNat_of_zero_le hy.1
 have e1 : bits .xor .u8 (x : Int) (y : Int) = ((x ^^^ y : Nat) : Int) := by
  have : bits .xor .u8 (x : Int) (y : Int) = IntKind.u8.wrap ((BitVec.ofInt 8 (x : Int) ^^^ BitVec.ofInt 8 (y : Int)).toNat : Int) := rfl
  rw [this, IntKind.wrap_u8]
  simp only [BitVec.toNat_xor, BitVec.toNat_ofInt]
  have ex : ((x : Int) % ((2 ^ 8 : Nat) : Int)).toNat = x := by omega
  have ey : ((y : Int) % ((2 ^ 8 : Nat) : Int)).toNat = y := by omega
  rw [ex, ey]
  have : x ^^^ y < 2 ^ 8 := Nat.xor_lt_two_pow (by omega) (by omega)
  omega
 have hz : x ^^^ y < 2 ^ 8 := Nat.xor_lt_two_pow (by omega) (by omega)
 rw [e1]
 obtain ⟨z, hzz⟩ : ∃ z, z = x ^^^ y := ⟨_, rfl⟩
 rw [← hzz] at hz ⊢
 have e2 : bits .or .u8 (a : Int) (z : Int) = ((a ||| z : Nat) : Int) := by
  have : bits .or .u8 (a : Int) (z : Int) = IntKind.u8.wrap ((BitVec.ofInt 8 (a : Int) ||| BitVec.ofInt 8 (z : Int)).toNat : Int) := rfl
  rw [this, IntKind.wrap_u8]
  simp only [BitVec.toNat_or, BitVec.toNat_ofInt]
  have ex : ((a : Int) % ((2 ^ 8 : Nat) : Int)).toNat = a := by omega
  have ey : ((z : Int) % ((2 ^ 8 : Nat) : Int)).toNat = z := by omega
  rw [ex, ey]
  have : a ||| z < 2 ^ 8 := Nat.or_lt_two_pow (by omega) hz
  omega
 rw [e2]
 have e3 : ((a ||| z : Nat) : Int) = 0 ↔ a = 0 ∧ z = 0 := by
  rw [Int.natCast_eq_zero, Nat.or_eq_zero_iff]
 have e4 : x ^^^ y = 0 ↔ x = y := by
  constructor
  ·intro g
   have : x = (x ^^^ y) ^^^ y := by rw [Nat.xor_assoc, Nat.xor_self, Nat.xor_zero]
   rw [g, Nat.zero_xor] at this
   exact this
  ·rintro rfl; exact Nat.xor_self x
 rw [e3, hzz, e4]
 omega
section
variable {h0 h : H} {A : List Ent} {i j d r m : Nat}
theorem equal_sp {Q : Bool → H → Prop} {px py : Addr} {c c2 : Nat} {x y : List Int} (hx : isBy x) (hy : isBy y) (lx : x.length = 32) (ly : y.length = 32) (rx : hrow h px .u8 x) (ry : hrow h py .u8 y) (k : Q (decide (x = y)) h) : F_mac_Equal (some px) 32 c (some py) 32 c2 Q h := by
 unfold F_mac_Equal G_mac_Equal
 rw [if_neg (by simp)]
 intro J hJ
 refine loopS 32 (fun t (s : Int) => [.dv (.one (.int .u8 s)), si t]) (fun t s h' => h' = h ∧ (0 ≤ s ∧ s < 256) ∧ (s = 0 ↔ x.take t = y.take t)) ?_ ?_ 0 0 _ (by omega) ⟨rfl, by decide, by simp⟩
 ·rintro t s h1 ht ⟨rfl, hs, he⟩ hk
  apply hJ
  rw [ltI_eq, if_pos (by rw [decide_eq_true_iff]; omega)]
  have tx : t < x.length := by omega
  have ty : t < y.length := by omega
  have gx := rx t (.int .u8 x[t]) (by rw [ints_get, List.getElem?_eq_getElem tx]; rfl)
  have gy := ry t (.int .u8 y[t]) (by rw [ints_get, List.getElem?_eq_getElem ty]; rfl)
  refine ⟨px, rfl, by omega, by omega, x[t], by simpa using gx, py, rfl, by omega, by omega, y[t], by simpa using gy, ?_⟩
  have bx := hx x[t] (List.getElem_mem tx)
  have by_ := hy y[t] (List.getElem_mem ty)
  rw [wrap_succ (by omega)]
  refine hk (bits .or .u8 s (bits .xor .u8 x[t] y[t])) _ ⟨rfl, ?_, ?_⟩
  ·have : bits .or .u8 s (bits .xor .u8 x[t] y[t]) = IntKind.u8.wrap ((BitVec.ofInt 8 s ||| BitVec.ofInt 8 (bits .xor .u8 x[t] y[t])).toNat : Int) := rfl
   rw [this, IntKind.wrap_u8]; omega
  ·rw [or_xor0 hs bx by_, he, take_snoc _ tx, take_snoc _ ty]
   constructor
   ·rintro ⟨a, b⟩; rw [a, b]
   ·intro a
    have := List.append_inj a (by simp; omega)
    exact ⟨this.1, by simpa using this.2⟩
 ·rintro s h1 ⟨rfl, hs, he⟩
  apply hJ
  rw [ltI_eq, if_neg (by decide)]
  rw [List.take_of_length_le (by omega), List.take_of_length_le (by omega)] at he
  have : (s == 0) = decide (x = y) := by
   by_cases c : x = y
   ·rw [decide_eq_true c]; simpa using he.2 c
   ·rw [decide_eq_false c]; simpa using fun y => c (he.1 y)
  rw [this]
  exact k
end
end Go.Proofs.YtaglicdidpgkpaaGreatDoor
end

/- Contracts of the chip's small functions. Own work. -/
section
set_option linter.unusedVariables false
namespace Go.Proofs.YtaglicdidpgkpaaGreatDoor
open Go Go.Vc

structure Cfg where
 cells : Int
 slots : Int
 fuses : Int
 step : Int
 keys : Int
 erases : Int
 area : Int

def Cfg.vals (c : Cfg) : List Value :=
 [.int .i64 c.cells, .int .i64 c.slots, .int .i64 c.fuses, .int .i64 c.step, .int .i64 c.keys, .int .i64 c.erases, .int .i64 c.area]

structure Cfg.may (c : Cfg) : Prop where
 slots : 1 ≤ c.slots ∧ c.slots ≤ 8
 cells : c.slots + 3 ≤ c.cells ∧ c.cells ≤ 256
 fuses : 1 ≤ c.fuses ∧ c.fuses ≤ 64
 step : 1 ≤ c.step ∧ c.step ≤ 65536
 keys : 1 ≤ c.keys ∧ c.keys ≤ 64
 erases : 0 ≤ c.erases ∧ c.erases ≤ 65536
 area : 0 ≤ c.area ∧ c.area ≤ 64

theorem within_iff (n a b : Int) (Q : Bool → H → Prop) (h : H) : F_chip_within n a b Q h = Q (decide (a ≤ n) && decide (n ≤ b)) h := by
 unfold F_chip_within G_chip_within
 by_cases h1 : a ≤ n <;> simp [h1]
open Classical in
theorem May_spec (c : Cfg) (Q : Int → H → Prop) (h : H) (k : ∀ h', Ext none_ h h' → Q (if c.may then 0 else 1) h') :
  F_chip_May c.cells c.slots c.fuses c.step c.keys c.erases c.area Q h := by
 unfold F_chip_May G_chip_May
 intro b h' hn
 have kb := hn.blk
 have kx := k h' hn.ext
 have hc0 := kb.hc
 intro J hJ
 have fin : ∀ r : Bool, (r = true ↔ c.may) → J [SV.dv (DV.one (Value.bool r))] h' := by
  intro r hr
  apply hJ
  by_cases hm : c.may
  ·rw [hr.2 hm]; rw [if_pos hm] at kx; simpa using kx
  ·have : r = false := by cases r; rfl; exact absurd (hr.1 rfl) hm
   rw [this]; rw [if_neg hm] at kx; simpa using kx
 try simp only [add_mk, hc0, Nat.zero_add, List.getElem?_cons_succ, List.getElem?_cons_zero, Option.some.injEq, Value.int.injEq, true_and, exists_eq_left']
 simp only [within_iff, hc0, List.getElem?_cons_succ, List.getElem?_cons_zero, Option.some.injEq, Value.int.injEq, true_and, exists_eq_left', Bool.and_eq_true, decide_eq_true_eq]
 have w3 : 1 ≤ c.slots ∧ c.slots ≤ 8 → IntKind.i64.wrap (c.slots + 3) = c.slots + 3 := by
  intro h1; rw [IntKind.wrap_i64]; omega
 split
 case isFalse h1 => exact fin false (by simp; intro hm; exact h1 hm.slots)
 rename_i h1
 rw [w3 h1]
 split
 case isFalse h2 => exact fin false (by simp; intro hm; exact h2 hm.cells)
 rename_i h2
 split
 case isFalse h3 => exact fin false (by simp; intro hm; exact h3 hm.fuses)
 rename_i h3
 split
 case isFalse h4 => exact fin false (by simp; intro hm; exact h4 hm.step)
 rename_i h4
 split
 case isFalse h5 => exact fin false (by simp; intro hm; exact h5 hm.keys)
 rename_i h5
 split
 case isFalse h6 => exact fin false (by simp; intro hm; exact h6 hm.erases)
 rename_i h6
 refine fin _ ?_
 simp only [Bool.and_eq_true, decide_eq_true_eq]
 exact ⟨fun h7 => ⟨h1, h2, h3, h4, h5, h6, h7⟩, fun hm => hm.area⟩

theorem pages_spec (c : Cfg) (hm : c.may) (Q : Int → H → Prop) (h : H) (k : ∀ h', Ext none_ h h' → Q (2 + 2 * c.area) h') :
  F_chip_pages c.cells c.slots c.fuses c.step c.keys c.erases c.area Q h := by
 unfold F_chip_pages G_chip_pages
 intro b h' hn
 have kx := k h' hn.ext
 have ha := hm.area
 have e : IntKind.i64.wrap (2 + IntKind.i64.wrap (2 * c.area)) = 2 + 2 * c.area := by simp only [IntKind.wrap_i64]; omega
 simpa [hn.blk.hc, e] using kx

theorem fuses_spec (c : Cfg) (hm : c.may) (Q : Int → H → Prop) (h : H) (k : ∀ h', Ext none_ h h' → Q (c.slots * c.fuses + c.keys) h') :
  F_chip_fuses c.cells c.slots c.fuses c.step c.keys c.erases c.area Q h := by
 unfold F_chip_fuses G_chip_fuses
 intro b h' hn
 have kx := k h' hn.ext
 have h1 := hm.slots; have h2 := hm.fuses; have h3 := hm.keys
 have e1 : 0 ≤ c.slots * c.fuses := Int.mul_nonneg (by omega) (by omega)
 have e2 : c.slots * c.fuses ≤ 8 * 64 := Int.mul_le_mul (by omega) (by omega) (by omega) (by omega)
 have e : IntKind.i64.wrap (IntKind.i64.wrap (c.slots * c.fuses) + c.keys) = c.slots * c.fuses + c.keys := by simp only [IntKind.wrap_i64]; omega
 simpa [hn.blk.hc, e] using kx
end Go.Proofs.YtaglicdidpgkpaaGreatDoor
end

/- Contracts: blank cells, clones. Own work. -/
section
set_option linter.unusedVariables false
namespace Go.Proofs.YtaglicdidpgkpaaGreatDoor
open Go Go.Vc

def blankCell : List Int := List.replicate 32 255
theorem mapTo_const (n : Nat) (v : Int) (ns : List Int) (hl : ns.length = n) : mapTo (fun _ _ => v) n ns = List.replicate n v := by
 apply List.ext_getElem?; intro j
 rw [mapTo_get, List.getElem?_replicate]
 by_cases h : j < n
 ·simp [h, hl]
 ·rw [if_neg h, List.getElem?_eq_none (by omega)]; rfl

theorem blank_spec (Q : List Int → H → Prop) (h : H) (k : ∀ h', Ext none_ h h' → Q blankCell h') : F_chip_blank Q h := by
 unfold F_chip_blank G_chip_blank
 intro b2 h3 n2 b5 h6 n5 J hJ
 have x6 : Ext none_ h h6 := n2.ext.trans n5.ext
 have hb2 : b2 < h6.size := by have := n2.size; have := n5.size; have := n2.b; omega
 have hb2' : h.size ≤ b2 := by rw [n2.b]; exact Nat.le_refl _
 have hb5 : h.size ≤ b5 := by have := n2.size; rw [n5.b]; omega
 have hne : b2 ≠ b5 := by have := n2.size; have := n5.b; have := n2.b; omega
 refine loop_up 32 (fun i h' => Blk h' b5 (ints .u8 (mapTo (fun _ _ => 255) i (zeros 32))) ∧ Blk h' b2 (ints .u8 (zeros 32)) ∧ Ext none_ h h') ?_ ?_ 0 h6 (by omega)
  ⟨by simpa using n5.blk, n5.ext.blk n2.blk (fun x => x), x6⟩
 ·rintro i h' hi ⟨k5, k2, hx⟩ hk
  apply hJ
  rw [ltI_eq, if_pos (by simp; omega)]
  refine ⟨by omega, by omega, ?_, ?_⟩
  ·try simp only [add_mk]; apply k5.can; simp; omega
  ·intro h11 e
   try simp only [add_mk, Int.toNat_natCast, Nat.mul_one, Nat.zero_add] at e
   rw [wrap_succ (by omega)]
   refine hk h11 ?_
   have w := k5.wr i [Value.int .u8 255]
   have w2 := k2.wr_ne (a := ⟨b5, i, none⟩) (xs := [Value.int .u8 255]) hne
   rw [← e] at w w2
   refine ⟨?_, w2, ?_⟩
   ·simp only [splice_cons, splice_nil, ints_set] at w
    have := mapTo_succ (fun _ _ => 255) i (zeros 32) (by simpa using hi)
    rw [this] at w; exact w
   ·rw [e]; exact hx.comp (Ext.wr h' b5 i _) (by rintro x h1 rfl; omega)
 ·rintro h' ⟨k5, k2, hx⟩
  apply hJ
  rw [ltI_eq, if_neg (by simp)]
  rw [mapTo_const 32 255 _ (by simp)] at k5
  refine ⟨blankCell, by simp [blankCell], k5.hrow (by intro i hi; rw [Nat.zero_add, ints_get]; rfl), k2.can (by simp), ?_⟩
  intro h14 e
  have w := k2.wr 0 (ints IntKind.u8 blankCell ++ [])
  rw [splice_all _ _ (by simp [blankCell])] at w
  rw [← e] at w
  refine ⟨blankCell, by simp [blankCell], w.hrow (by intro i hi; simp [ints_get]), k _ ?_⟩
  rw [e]; exact hx.comp (Ext.wr h' b2 0 _) (by rintro x h1 rfl; omega)

end Go.Proofs.YtaglicdidpgkpaaGreatDoor
end

/- Contract: slices.Repeat of one cell. Own work. -/
section
set_option linter.unusedVariables false
namespace Go.Proofs.YtaglicdidpgkpaaGreatDoor
open Go Go.Vc

theorem wrap_u64_id {n : Int} (h : 0 ≤ n ∧ n < 2 ^ 64) : IntKind.u64.wrap n = n := by
 have : IntKind.u64.wrap n = n % 18446744073709551616 := by simp [IntKind.wrap, IntKind.bits, IntKind.signed]
 rw [this]; omega
theorem and32 {n : Int} (h : 0 ≤ n ∧ n < 2 ^ 32) : bits .and .u64 n 4294967295 = n := by
 have := bits_mask .u64 64 (by decide) (fun n h0 h1 => wrap_u64_id ⟨h0, h1⟩) 32 (by decide) n h.1 (by omega)
 have e : (2 : Int) ^ 32 - 1 = 4294967295 := by decide
 rw [e] at this
 rw [this]; omega
theorem fdiv32 {n : Int} (h : 0 ≤ n ∧ n < 2 ^ 32) : n.fdiv (2 ^ 32) = 0 := by
 rw [Int.fdiv_eq_ediv_of_nonneg _ (by decide)]; omega
theorem Mul_one (n : Int) (hn : 0 ≤ n ∧ n < 2 ^ 31) (Q : Int → Int → H → Prop) (h : H) (k : Q 0 n h) : F_math_bits_Mul 1 n Q h := by
 unfold F_math_bits_Mul G_math_bits_Mul F_math_bits_Mul64 G_math_bits_Mul64
 rintro i rfl
 refine ⟨by decide, ?_⟩
 rintro i rfl
 refine ⟨by decide, by decide, ?_⟩
 rintro i rfl
 refine ⟨by decide, by decide, ?_⟩
 have a1 : bits .and .u64 1 4294967295 = 1 := and32 (by decide)
 have a2 : bits .and .u64 n 4294967295 = n := and32 (by omega)
 have f1 : (1 : Int).fdiv (2 ^ 32) = 0 := fdiv32 (by decide)
 have f2 : n.fdiv (2 ^ 32) = 0 := fdiv32 (by omega)
 have w0 : IntKind.u64.wrap 0 = 0 := wrap_u64_id (by decide)
 have wn : IntKind.u64.wrap n = n := wrap_u64_id (by omega)
 have f0 : (0 : Int).fdiv (2 ^ 32) = 0 := fdiv32 (by decide)
 have a0 : bits .and .u64 0 4294967295 = 0 := and32 (by decide)
 simpa only [a1, a2, f1, f2, Int.zero_mul, Int.mul_zero, Int.one_mul, w0, wn, f0, a0, Int.add_zero, Int.zero_add] using k

theorem rep_add {α : Type} (a b : Nat) (X : List α) : (List.replicate (a + b) X).flatten = (List.replicate a X).flatten ++ (List.replicate b X).flatten := by
 rw [← List.replicate_append_replicate, List.flatten_append]

theorem Repeat_spec (p : Option Addr) (c : Nat) (n : Nat) (X : List Value) (hX : X.length = 32) (hn : 1 ≤ n ∧ n ≤ 2 ^ 20) (Q : Option Addr → Nat → Nat → H → Prop) (h : H) (hs : hsv h p 32 1 X)
  (k : ∀ b h', Ext none_ h h' → Blk h' b (List.replicate n X).flatten → h.size ≤ b → Q (some ⟨b, 0, none⟩) n n h') : F_slices_Repeat_api_Cell_api_Cell p 1 c n Q h := by
 unfold F_slices_Repeat_api_Cell_api_Cell G_slices_Repeat_api_Cell_api_Cell
 intro J7 hJ7
 rw [ltI_eq, if_neg (by simp)]
 apply hJ7
 have w1 : IntKind.u64.wrap ((1 : Nat) : Int) = 1 := wrap_u64_id (by decide)
 have wn : IntKind.u64.wrap (n : Int) = n := wrap_u64_id (by omega)
 have wi : IntKind.i64.wrap (n : Int) = n := wrap_id (by omega)
 rw [w1, wn]
 apply Mul_one _ (by omega)
 intro J12 hJ12
 rw [ltI_eq, if_neg (by simp)]
 rintro i rfl
 rw [ltI_eq, if_neg (by simp; omega)]
 apply hJ12
 simp only [wi, Int.toNat_natCast]
 refine ⟨by omega, by omega, by omega, by omega, ?_⟩
 intro b h15 hnw
 have m1 : Nat.min 1 n = 1 := Nat.min_eq_left hn.1
 simp only [m1]
 have hs' := hsv_ext hnw.ext hs (fun _ _ x => x)
 have lenr : ∀ m : Nat, (List.replicate m X).flatten.length = m * 32 := fun m => by rw [flatten_replicate_length, hX]
 refine ⟨X, hs', Or.inr ⟨_, rfl, hnw.blk.can ?_⟩, ?_⟩
 ·rw [flatten_replicate_length]; simp; omega
 intro h19 e19
 intro J hJ
 have hb : h.size ≤ b := by rw [hnw.b]; exact Nat.le_refl _
 -- the block holds i copies, and something
 have main : ∀ d i h', n - i ≤ d → 1 ≤ i → i ≤ n → Ext none_ h h' → (∃ rest, rest.length = (n - i) * 32 ∧ Blk h' b ((List.replicate i X).flatten ++ rest)) → J [SV.dv (DV.one (Value.int IntKind.i64 (i : Int)))] h' := by
  intro d
  induction d with
  | zero =>
   rintro i h' hd h1 h2 hx ⟨rest, hr, kb⟩
   have : i = n := by omega
   subst this
   apply hJ
   rw [ltI_eq, if_neg (by simp)]
   have : rest = [] := List.eq_nil_of_length_eq_zero (by simp [hr])
   subst this
   exact k b h' hx (by simpa using kb) hb
  | succ d ih =>
   rintro i h' hd h1 h2 hx ⟨rest, hr, kb⟩
   apply hJ
   by_cases hin : i < n
   ·rw [ltI_eq, if_pos (by simp; omega)]
    have s0 : subAddr (some (Addr.mk b 0 none)) 0 n 32 = some (Addr.mk b 0 none) := by unfold subAddr; rw [if_neg (by omega)]; simp
    have s1 : subAddr (some (Addr.mk b 0 none)) i n 32 = some (Addr.mk b (i * 32) none) := by unfold subAddr; rw [if_neg (by omega)]; simp
    simp only [Int.toNat_natCast, s0, s1, Nat.sub_zero]
    generalize hm : Nat.min i (n - i) = m
    have hm1 : m ≤ i := by rw [← hm]; exact Nat.min_le_left _ _
    have hm2 : m ≤ n - i := by rw [← hm]; exact Nat.min_le_right _ _
    have hm3 : 1 ≤ m := by rw [← hm]; exact Nat.le_min.2 ⟨h1, by omega⟩
    have spl : (List.replicate i X).flatten = (List.replicate m X).flatten ++ (List.replicate (i - m) X).flatten := by
     rw [← rep_add]; congr 2; omega
    refine ⟨by omega, by omega, by omega, by omega, (List.replicate m X).flatten, ⟨lenr m, ?_, Or.inr ⟨_, rfl, ?_⟩⟩, Or.inr ⟨_, rfl, kb.can ?_⟩, ?_⟩
    ·intro v hv
     obtain ⟨l, hl, hv⟩ := List.mem_flatten.1 hv
     rw [List.eq_of_mem_replicate hl] at hv
     exact hs.2.1 v hv
    ·apply kb.hcs
     intro j hj
     rw [Nat.zero_add, spl, List.append_assoc, List.getElem?_append_left hj]
    ·simp [lenr, hr, hX]
     have : m * 32 ≤ (n - i) * 32 := Nat.mul_le_mul_right _ hm2
     omega
    ·intro h26 e
     have w : IntKind.i64.wrap ((i : Int) + (m : Int)) = ((i + m : Nat) : Int) := by rw [wrap_id (by omega)]; omega
     rw [w]
     refine ih (i + m) h26 (by omega) (by omega) (by omega) ?_ ?_
     ·rw [e]; exact hx.comp (Ext.wr h' b _ _) (by rintro x hlt rfl; omega)
     ·have kw := kb.wr (i * 32) (List.replicate m X).flatten
      have e' : h26 = hwr h' ⟨b, i * 32, none⟩ (List.replicate m X).flatten := e
      rw [← e'] at kw
      refine ⟨rest.drop (m * 32), by simp [hr]; omega, ?_⟩
      have hrr : rest = rest.take (m * 32) ++ rest.drop (m * 32) := by simp
      have : splice ((List.replicate i X).flatten ++ rest) (i * 32) (List.replicate m X).flatten = (List.replicate (i + m) X).flatten ++ rest.drop (m * 32) := by
       rw [hrr, ← List.append_assoc, ← lenr i, splice_append, rep_add]
       ·simp
       ·simp [lenr, hr]
        have : m * 32 ≤ (n - i) * 32 := Nat.mul_le_mul_right _ hm2
        omega
      rw [this] at kw
      exact kw
   ·have : i = n := by omega
    subst this
    rw [ltI_eq, if_neg (by simp)]
    have : rest = [] := List.eq_nil_of_length_eq_zero (by simp [hr])
    subst this
    exact k b h' hx (by simpa using kb) hb
 have e' : h19 = hwr h15 ⟨b, 0, none⟩ X := e19
 have kb := hnw.blk.wr 0 X
 rw [← e'] at kb
 refine main n 1 h19 (by omega) (by omega) hn.1 ?_ ⟨(List.replicate (n - 1) (ints .u8 (zeros 32))).flatten, by simp, ?_⟩
 ·rw [e']; exact hnw.ext.comp (Ext.wr h15 b _ _) (by rintro x hlt rfl; omega)
 ·have : splice (List.replicate n (ints .u8 (zeros 32))).flatten 0 X = (List.replicate 1 X).flatten ++ (List.replicate (n - 1) (ints .u8 (zeros 32))).flatten := by
   have e1 : (List.replicate n (ints .u8 (zeros 32))).flatten = [] ++ ints .u8 (zeros 32) ++ (List.replicate (n - 1) (ints .u8 (zeros 32))).flatten := by
    have : n = 1 + (n - 1) := by omega
    rw [this, rep_add]; simp
   rw [e1]
   have := splice_append [] (ints .u8 (zeros 32)) (List.replicate (n - 1) (ints .u8 (zeros 32))).flatten X (by simp [hX])
   simp only [List.length_nil] at this
   rw [this]; simp
  rw [this] at kb
  exact kb
end Go.Proofs.YtaglicdidpgkpaaGreatDoor
end

/- The chip's model and how it lies in memory (chip.Chip and the document's chip alike). Own work. -/
section
set_option linter.unusedVariables false
namespace Go.Proofs.YtaglicdidpgkpaaGreatDoor
open Go Go.Vc

structure St where
 pages : List (List Int)
 erases : List Int
 blown : List Bool
structure Cm where
 cfg : Cfg
 s : St
 acts : Int
 out : Bool
 left : Int
 mask : List Int

instance (c : Cfg) : Decidable c.may :=
 decidable_of_iff ((1 ≤ c.slots ∧ c.slots ≤ 8) ∧ (c.slots + 3 ≤ c.cells ∧ c.cells ≤ 256) ∧ (1 ≤ c.fuses ∧ c.fuses ≤ 64) ∧ (1 ≤ c.step ∧ c.step ≤ 65536) ∧ (1 ≤ c.keys ∧ c.keys ≤ 64) ∧ (0 ≤ c.erases ∧ c.erases ≤ 65536) ∧ (0 ≤ c.area ∧ c.area ≤ 64))
  ⟨fun ⟨a, b, c, d, e, f, g⟩ => ⟨a, b, c, d, e, f, g⟩, fun ⟨a, b, c, d, e, f, g⟩ => ⟨a, b, c, d, e, f, g⟩⟩
def Cfg.may? (c : Cfg) : Int := if c.may then 0 else 1
def Cfg.np (c : Cfg) : Int := 2 + 2 * c.area
def Cfg.nf (c : Cfg) : Int := c.slots * c.fuses + c.keys
def isByte (n : Int) : Prop := 0 ≤ n ∧ n < 256
def bytesOk (ns : List Int) : Prop := ∀ n, n ∈ ns → isByte n

structure St.fits (c : Cfg) (s : St) : Prop where
 pages : (s.pages.length : Int) = c.np
 cells : ∀ l, l ∈ s.pages → (l.length : Int) = 32 * c.cells
 erases : (s.erases.length : Int) = c.np
 blown : (s.blown.length : Int) = c.nf
structure St.typed (s : St) : Prop where
 bytes : ∀ l, l ∈ s.pages → bytesOk l
 erases : ∀ n, n ∈ s.erases → -(2 ^ 63) ≤ n ∧ n < 2 ^ 63
structure Cm.ok (C : Cm) : Prop where
 may : C.cfg.may
 fits : C.s.fits C.cfg
 typed : C.s.typed
 left : -1 ≤ C.left
 left2 : C.left < 2 ^ 63
 mask : bytesOk C.mask
 acts : -(2 ^ 63) ≤ C.acts ∧ C.acts < 2 ^ 63
 mlen : C.mask.length ≤ 2 ^ 47

structure RdS (h : H) (a b c : Sl) (s : St) : Prop where
 pg : RdM h 32 a s.pages
 er : hsv h b.1 1 b.2.1 (ints .i64 s.erases)
 bl : hsv h c.1 1 c.2.1 (bools s.blown)

def Cm.cells (C : Cm) (a b c m : Sl) : List Value :=
 [.int .i64 C.cfg.cells, .int .i64 C.cfg.slots, .int .i64 C.cfg.fuses, .int .i64 C.cfg.step, .int .i64 C.cfg.keys, .int .i64 C.cfg.erases, .int .i64 C.cfg.area, a.v, b.v, c.v,
  .int .i64 C.acts, .bool C.out, .int .i64 C.left, m.v]
structure Pl where
 a : Sl
 b : Sl
 c : Sl
 m : Sl
abbrev chipL (p : Nat) (C : Cm) (w : Pl) : List Ent := [blk p (C.cells w.a w.b w.c w.m), matE 32 w.a C.s.pages, sE w.b 1 (ints .i64 C.s.erases), sE w.c 1 (bools C.s.blown), sE w.m 1 (ints .u8 C.mask)]
def chipE (p : Nat) (C : Cm) : Ent := exE 2 (fun _ => C.ok) (chipL p C)

theorem RdS.ext {h h' : H} (x : Ext none_ h h') {a b c : Sl} {s : St} (r : RdS h a b c s) : RdS h' a b c s :=
 ⟨r.pg.ext x, hsv_ext x r.er (fun _ _ y => y), hsv_ext x r.bl (fun _ _ y => y)⟩
end Go.Proofs.YtaglicdidpgkpaaGreatDoor
end

/- Contracts: what is copied; a new chip. Own work. -/
section
set_option linter.unusedVariables false
namespace Go.Proofs.YtaglicdidpgkpaaGreatDoor
open Go Go.Vc

theorem May_sp {h0 h : H} {A : List Ent} (c : Cfg) {Q : Int → H → Prop} (hs : Sat h0 A h) (k : ∀ h', Sat h0 A h' → Q c.may? h') :
  F_chip_May c.cells c.slots c.fuses c.step c.keys c.erases c.area Q h := by
 apply May_spec
 intro h' x
 have := k h' (hs.ext x)
 unfold Cfg.may? at this
 by_cases hm : c.may
 ·rw [if_pos hm] at this ⊢; exact this
 ·rw [if_neg hm] at this ⊢; exact this
theorem pages_sp {h0 h : H} {A : List Ent} (c : Cfg) (hm : c.may) {Q : Int → H → Prop} (hs : Sat h0 A h) (k : ∀ h', Sat h0 A h' → Q c.np h') :
  F_chip_pages c.cells c.slots c.fuses c.step c.keys c.erases c.area Q h := pages_spec c hm Q h fun h' x => k h' (hs.ext x)
theorem fuses_sp {h0 h : H} {A : List Ent} (c : Cfg) (hm : c.may) {Q : Int → H → Prop} (hs : Sat h0 A h) (k : ∀ h', Sat h0 A h' → Q c.nf h') :
  F_chip_fuses c.cells c.slots c.fuses c.step c.keys c.erases c.area Q h := fuses_spec c hm Q h fun h' x => k h' (hs.ext x)

theorem Cfg.may.np {c : Cfg} (m : c.may) : 2 ≤ c.np ∧ c.np ≤ 130 := by have := m.area; unfold Cfg.np; omega
theorem Cfg.may.nf {c : Cfg} (m : c.may) : 0 ≤ c.nf ∧ c.nf ≤ 576 := by
 have h1 := m.slots; have h2 := m.fuses; have h3 := m.keys
 have e1 : 0 ≤ c.slots * c.fuses := Int.mul_nonneg (by omega) (by omega)
 have e2 : c.slots * c.fuses ≤ 8 * 64 := Int.mul_le_mul (by omega) (by omega) (by omega) (by omega)
 unfold Cfg.nf; omega

theorem Repeat_sp {h0 h : H} {A : List Ent} (n : Nat) {k : Int} {c i b : Nat} {X : List Int} {Q : Option Addr → Nat → Nat → H → Prop} (hk : k = (n : Int)) (hs : Sat h0 A h) (m : At A i (blk b (ints .u8 X ++ []))) (hX : X.length = 32)
  (hn : 1 ≤ n ∧ n ≤ 2 ^ 20) (kk : ∀ b h', Sat h0 (sE (some ⟨b, 0, none⟩, n, n) 32 (ints .u8 (List.replicate n X).flatten) :: A) h' → Q (some ⟨b, 0, none⟩) n n h') :
  F_slices_Repeat_api_Cell_api_Cell (some ⟨b, 0, none⟩) 1 c k Q h := by
 rw [hk]
 rw [List.append_nil] at m
 refine Repeat_spec _ _ n (ints .u8 X) (by simpa using hX) hn _ _ (hs.bv m (by simpa using hX) (ints_one _ _)) ?_
 intro b' h' x kb hb
 refine kk b' h' ?_
 have e : (List.replicate n (ints .u8 X)).flatten = ints .u8 (List.replicate n X).flatten := by
  simp [ints, List.map_flatten]
 rw [e] at kb
 exact (hs.ofBlk x kb hb).as_sl (.z) (by simp [hX]) (ints_one _ _)
def blankRow (c : Cfg) : List Int := (List.replicate c.cells.toNat blankCell).flatten
def freshSt (c : Cfg) : St := ⟨List.replicate c.np.toNat (blankRow c), zeros c.np.toNat, List.replicate c.nf.toNat false⟩
def freshC (c : Cfg) : Cm := ⟨c, freshSt c, 0, false, -1, []⟩

theorem freshC_ok {c : Cfg} (hm : c.may) : (freshC c).ok := by
 have h1 := hm.np; have h2 := hm.nf; have h3 := hm.cells; have h4 := hm.slots
 refine ⟨hm, ⟨by simp [freshC, freshSt]; omega, ?_, by simp [freshC, freshSt]; omega, by simp [freshC, freshSt]; omega⟩, ⟨?_, ?_⟩, by simp [freshC], by simp [freshC], by intro n hn; simp [freshC] at hn, by simp [freshC], by simp [freshC]⟩
 ·intro l hl
  rw [List.eq_of_mem_replicate hl]
  simp [blankRow, blankCell, freshC]; omega
 ·intro l hl
  rw [List.eq_of_mem_replicate hl]
  intro n hn
  simp only [blankRow, List.mem_flatten, List.mem_replicate] at hn
  obtain ⟨l, ⟨_, rfl⟩, hn⟩ := hn
  have := List.eq_of_mem_replicate hn
  unfold isByte; omega
 ·intro n hn
  have := List.eq_of_mem_replicate hn
  omega
theorem New_sp {h0 h : H} {A : List Ent} (c : Cfg) {Q : Option Addr → Int → H → Prop} (hs : Sat h0 A h)
  (k1 : ¬ c.may → ∀ h', Sat h0 A h' → Q none 1 h')
  (k2 : c.may → ∀ p h', Sat h0 (chipE p (freshC c) :: A) h' → Q (some ⟨p, 0, none⟩) 0 h') :
  F_chip_New c.cells c.slots c.fuses c.step c.keys c.erases c.area Q h := by
 unfold F_chip_New G_chip_New
 try simp only [add_mk, Nat.zero_add]
 intro g _ hn; have hs := Sat.new hs hn; clear hn
 (repeat first | refine ⟨_, Sat.ld hs (by (repeat (first | exact At.z | apply At.s))) (by rfl), ?_⟩ | refine ⟨_, _, _, Sat.ld hs (by (repeat (first | exact At.z | apply At.s))) (by rfl), ?_⟩ | (intro _ _ hn; replace hs := Sat.new hs hn; clear hn) | refine ⟨Sat.cs hs (by (repeat (first | exact At.z | apply At.s))) (by rfl), ?_⟩ | (refine ⟨Sat.can hs (by (repeat (first | exact At.z | apply At.s))) (by simp), ?_⟩; intro _ e; replace hs := Sat.wr hs (by (repeat (first | exact At.z | apply At.s))) e; clear e; simp only [put, splice, List.set] at hs))
 refine May_sp c hs ?_
 intro h1 hs
 unfold Cfg.may?
 by_cases hm : c.may
 case neg =>
  rw [if_neg hm, if_pos (by decide)]
  exact k1 hm _ hs.drop
 rw [if_pos hm, if_neg (by decide)]
 intro J hJ
 have hnp := hm.np
 have hnf := hm.nf
 have fin : ∀ p a b h', Sat h0 (blk g c.vals :: blk b (List.replicate c.nf.toNat [Value.bool false]).flatten :: blk a (List.replicate c.np.toNat [Value.int .i64 0]).flatten ::
   blk p [.slice none 0 0, .slice (some ⟨a, 0, none⟩) c.np.toNat c.np.toNat, .slice (some ⟨b, 0, none⟩) c.nf.toNat c.nf.toNat] :: A) h' → J [SV.dv (DV.addr ⟨p, 0, none⟩)] h' := by
  intro p a b h' hs
  apply hJ
  simp only [Cfg.vals] at hs
  (repeat first | refine ⟨_, Sat.ld hs (by (repeat (first | exact At.z | apply At.s))) (by rfl), ?_⟩ | refine ⟨_, _, _, Sat.ld hs (by (repeat (first | exact At.z | apply At.s))) (by rfl), ?_⟩ | (intro _ _ hn; replace hs := Sat.new hs hn; clear hn) | refine ⟨Sat.cs hs (by (repeat (first | exact At.z | apply At.s))) (by rfl), ?_⟩ | (refine ⟨Sat.can hs (by (repeat (first | exact At.z | apply At.s))) (by simp), ?_⟩; intro _ e; replace hs := Sat.wr hs (by (repeat (first | exact At.z | apply At.s))) e; clear e; simp only [put, splice, List.set] at hs))
  refine pages_sp c hm hs ?_
  intro _ hs J38 hJ38
  have hs := hs.mat_nil 32 none
  refine loop_up c.np.toNat (fun i h => ∃ hd : Sl, hd.2.1 = i ∧ Sat h0 (matE 32 hd (List.replicate i (blankRow c)) :: blk g c.vals :: blk b (List.replicate c.nf.toNat [Value.bool false]).flatten :: blk a (List.replicate c.np.toNat [Value.int .i64 0]).flatten ::
   blk p [hd.v, .slice (some ⟨a, 0, none⟩) c.np.toNat c.np.toNat, .slice (some ⟨b, 0, none⟩) c.nf.toNat c.nf.toNat] :: A) h) ?_ ?_ 0 _ (by omega) ⟨_, rfl, hs⟩
  ·rintro i h1 hi ⟨⟨hp, hl, hc⟩, e, hs⟩ hk
   simp only at e; subst e
   apply hJ38
   rw [ltI_eq, if_pos (by simp; omega)]
   simp only [Cfg.vals] at hs
   (repeat first | refine ⟨_, Sat.ld hs (by (repeat (first | exact At.z | apply At.s))) (by rfl), ?_⟩ | refine ⟨_, _, _, Sat.ld hs (by (repeat (first | exact At.z | apply At.s))) (by rfl), ?_⟩ | (intro _ _ hn; replace hs := Sat.new hs hn; clear hn) | refine ⟨Sat.cs hs (by (repeat (first | exact At.z | apply At.s))) (by rfl), ?_⟩ | (refine ⟨Sat.can hs (by (repeat (first | exact At.z | apply At.s))) (by simp), ?_⟩; intro _ e; replace hs := Sat.wr hs (by (repeat (first | exact At.z | apply At.s))) e; clear e; simp only [put, splice, List.set] at hs))
   refine blank_spec _ _ fun h2 x2 => ?_
   have hs := hs.ext x2
   (repeat first | refine ⟨_, Sat.ld hs (by (repeat (first | exact At.z | apply At.s))) (by rfl), ?_⟩ | refine ⟨_, _, _, Sat.ld hs (by (repeat (first | exact At.z | apply At.s))) (by rfl), ?_⟩ | (intro _ _ hn; replace hs := Sat.new hs hn; clear hn) | refine ⟨Sat.cs hs (by (repeat (first | exact At.z | apply At.s))) (by rfl), ?_⟩ | (refine ⟨Sat.can hs (by (repeat (first | exact At.z | apply At.s))) (by simp), ?_⟩; intro _ e; replace hs := Sat.wr hs (by (repeat (first | exact At.z | apply At.s))) e; clear e; simp only [put, splice, List.set] at hs))
   have hc' := hm.cells
   have hc'' := hm.slots
   refine Repeat_sp c.cells.toNat ?_ hs (.z) rfl ?_ ?_
   ·omega
   ·omega
   intro b2 h3 hs
   (repeat first | refine ⟨_, Sat.ld hs (by (repeat (first | exact At.z | apply At.s))) (by rfl), ?_⟩ | refine ⟨_, _, _, Sat.ld hs (by (repeat (first | exact At.z | apply At.s))) (by rfl), ?_⟩ | (intro _ _ hn; replace hs := Sat.new hs hn; clear hn) | refine ⟨Sat.cs hs (by (repeat (first | exact At.z | apply At.s))) (by rfl), ?_⟩ | (refine ⟨Sat.can hs (by (repeat (first | exact At.z | apply At.s))) (by simp), ?_⟩; intro _ e; replace hs := Sat.wr hs (by (repeat (first | exact At.z | apply At.s))) e; clear e; simp only [put, splice, List.set] at hs))
   refine ⟨_, Sat.bv hs (.z) (by simp) (by simp), ?_⟩
   replace hs := Sat.front hs (e := sE (some ⟨b2, 0, none⟩, _, _) 32 _) (by (repeat (first | exact At.z | apply At.s)))
   refine Sat.app_row hs (by (repeat (first | exact At.z | apply At.s))) (by dsimp only; omega) ?_
   intro p' c' h4 hs
   simp only [put, del] at hs
   (repeat first | refine ⟨_, Sat.ld hs (by (repeat (first | exact At.z | apply At.s))) (by rfl), ?_⟩ | refine ⟨_, _, _, Sat.ld hs (by (repeat (first | exact At.z | apply At.s))) (by rfl), ?_⟩ | (intro _ _ hn; replace hs := Sat.new hs hn; clear hn) | refine ⟨Sat.cs hs (by (repeat (first | exact At.z | apply At.s))) (by rfl), ?_⟩ | (refine ⟨Sat.can hs (by (repeat (first | exact At.z | apply At.s))) (by simp), ?_⟩; intro _ e; replace hs := Sat.wr hs (by (repeat (first | exact At.z | apply At.s))) e; clear e; simp only [put, splice, List.set] at hs))
   rw [wrap_succ (by omega)]
   refine hk _ ⟨(p', hl + 1, c'), rfl, ?_⟩
   replace hs := Sat.front hs (e := blk p _) (by (repeat (first | exact At.z | apply At.s)))
   replace hs := Sat.front hs (e := blk a _) (by (repeat (first | exact At.z | apply At.s)))
   replace hs := Sat.front hs (e := blk b _) (by (repeat (first | exact At.z | apply At.s)))
   replace hs := Sat.front hs (e := blk g _) (by (repeat (first | exact At.z | apply At.s)))
   replace hs := Sat.front hs (e := matE 32 _ _) (by (repeat (first | exact At.z | apply At.s)))
   simp only [del] at hs
   rw [List.replicate_succ']
   exact hs.sub (by (repeat (first | exact List.Sublist.refl _ | apply List.Sublist.cons_cons | apply List.Sublist.cons)))
  ·rintro h1 ⟨⟨hp, hl, hc⟩, e, hs⟩
   apply hJ38
   rw [ltI_eq, if_neg (by simp; omega)]
   simp only [Cfg.vals] at hs
   (repeat first | refine ⟨_, Sat.ld hs (by (repeat (first | exact At.z | apply At.s))) (by rfl), ?_⟩ | refine ⟨_, _, _, Sat.ld hs (by (repeat (first | exact At.z | apply At.s))) (by rfl), ?_⟩ | (intro _ _ hn; replace hs := Sat.new hs hn; clear hn) | refine ⟨Sat.cs hs (by (repeat (first | exact At.z | apply At.s))) (by rfl), ?_⟩ | (refine ⟨Sat.can hs (by (repeat (first | exact At.z | apply At.s))) (by simp), ?_⟩; intro _ e; replace hs := Sat.wr hs (by (repeat (first | exact At.z | apply At.s))) e; clear e; simp only [put, splice, List.set] at hs))
   refine k2 hm _ _ (Sat.close ⟨(hp, hl, hc), (some ⟨a, 0, none⟩, c.np.toNat, c.np.toNat), (some ⟨b, 0, none⟩, c.nf.toNat, c.nf.toNat), (none, 0, 0)⟩ (freshC_ok hm) ?_)
   have eb : (List.replicate c.nf.toNat [Value.bool false]).flatten = bools (freshC c).s.blown := by simp [freshC, freshSt, bools]
   have ea : (List.replicate c.np.toNat [Value.int .i64 0]).flatten = ints .i64 (freshC c).s.erases := by simp [freshC, freshSt, zeros, ints]
   rw [ea, eb] at hs
   replace hs := hs.as_sl (i := 3) (l := c.nf.toNat) (sz := 1) (.s (.s (.s .z))) (by simp [freshC, freshSt]) (bools_one _)
   replace hs := hs.as_sl (i := 4) (l := c.np.toNat) (sz := 1) (.s (.s (.s (.s .z)))) (by simp [freshC, freshSt]) (ints_one _ _)
   replace hs := hs.sl_nil 1 none
   simp only [put] at hs
   replace hs := Sat.front hs (e := slE _ _ _ 1 (bools _)) (by (repeat (first | exact At.z | apply At.s)))
   replace hs := Sat.front hs (e := slE _ _ _ 1 (ints .i64 _)) (by (repeat (first | exact At.z | apply At.s)))
   replace hs := Sat.front hs (e := matE 32 _ _) (by (repeat (first | exact At.z | apply At.s)))
   replace hs := Sat.front hs (e := blk _ [_, _, _, _, _, _, _, _, _, _, _, _, _, _]) (by (repeat (first | exact At.z | apply At.s)))
   simp only [del] at hs
   exact hs.sub (by (repeat (first | exact List.Sublist.refl _ | apply List.Sublist.cons_cons | apply List.Sublist.cons)))
 repeat' (first | refine ⟨_, Sat.ld hs (by (repeat (first | exact At.z | apply At.s))) (by rfl), ?_⟩ | (intro _ _ hn; replace hs := Sat.new hs hn; clear hn) | refine ⟨Sat.cs hs (by (repeat (first | exact At.z | apply At.s))) (by rfl), ?_⟩ | (refine ⟨Sat.can hs (by (repeat (first | exact At.z | apply At.s))) (by simp), ?_⟩; intro _ e; replace hs := Sat.wr hs (by (repeat (first | exact At.z | apply At.s))) e; clear e; simp only [put, splice, List.set] at hs) | refine ⟨by omega, ?_⟩ | (refine pages_sp c hm hs ?_; intro _ hs) | (refine fuses_sp c hm hs ?_; intro _ hs) | refine And.intro ?_ ?_)
 all_goals
  replace hs := Sat.front hs (e := blk _ [Value.slice none 0 0, Value.slice (some ⟨_, 0, none⟩) _ _, Value.slice (some ⟨_, 0, none⟩) _ _]) (by (repeat (first | exact At.z | apply At.s)))
  replace hs := Sat.front hs (e := blk _ (List.replicate c.np.toNat [Value.int .i64 0]).flatten) (by (repeat (first | exact At.z | apply At.s)))
  replace hs := Sat.front hs (e := blk _ (List.replicate c.nf.toNat [Value.bool false]).flatten) (by (repeat (first | exact At.z | apply At.s)))
  replace hs := Sat.front hs (e := blk _ c.vals) (by (repeat (first | exact At.z | apply At.s)))
  exact fin _ _ _ _ hs
end Go.Proofs.YtaglicdidpgkpaaGreatDoor
end

/- Contracts of the chip's methods that lay nothing into pages. Own work. -/
section
set_option linter.unusedVariables false
namespace Go.Proofs.YtaglicdidpgkpaaGreatDoor
open Go Go.Vc

def askedM (C : Cm) (i n : Int) : Int := if C.out = true then 8 else if i < 0 then 2 else if n ≤ i then 2 else 0
def asksCellM (C : Cm) (page cell : Int) : Int := if askedM C page C.s.pages.length ≠ 0 then askedM C page C.s.pages.length else askedM C cell C.cfg.cells
def w64 (n : Int) : Int := IntKind.i64.wrap n
def Cm.act (C : Cm) : Cm :=
 if C.left ≠ 0 then { C with acts := w64 (C.acts + 1), left := if C.left - 1 > -1 then C.left - 1 else -1 }
 else { C with acts := w64 (C.acts + 1), out := true, left := -1, mask := [] }
def maskAt (C : Cm) (i : Nat) : Int := if C.left ≠ 0 then 255 else if C.mask = [] then 0 else C.mask.getD (i % C.mask.length) 0
def errM (C : Cm) : Int := if C.left ≠ 0 then 0 else 8

theorem w64_range (n : Int) : -(2 ^ 63) ≤ w64 n ∧ w64 n < 2 ^ 63 := by unfold w64; rw [IntKind.wrap_i64]; omega
theorem Cm.ok.act {C : Cm} (k : C.ok) : C.act.ok := by
 have r := w64_range (C.acts + 1)
 have := k.left
 unfold Cm.act
 split
 ·exact ⟨k.may, k.fits, k.typed, by dsimp only; split <;> omega, by have := k.left2; dsimp only; split <;> omega, k.mask, r, k.mlen⟩
 ·exact ⟨k.may, k.fits, k.typed, by dsimp only; omega, by dsimp only; omega, by intro n hn; simp at hn, r, by simp⟩

theorem chip_close {h0 h : H} {A : List Ent} {i p : Nat} {C C0 : Cm} {a b c m : Sl} (ok : C.ok) (ci : At A i (chipE p C0))
  (hs : Sat h0 (blk p (C.cells a b c m) :: matE 32 a C.s.pages :: sE b 1 (ints .i64 C.s.erases) :: sE c 1 (bools C.s.blown) :: sE m 1 (ints .u8 C.mask) :: del A i) h) : Sat h0 (put A i (chipE p C)) h :=
 Sat.back ci (Sat.close ⟨a, b, c, m⟩ ok hs)
section
variable {h0 h : H} {A : List Ent} {i p : Nat} {C : Cm}
theorem Out_sp {Q : Bool → H → Prop} (hs : Sat h0 A h) (ci : At A i (chipE p C)) (k : Q C.out h) : F_chip_Chip_Out ⟨p, 0, none⟩ Q h := by
 unfold F_chip_Chip_Out G_chip_Chip_Out
 obtain ⟨w, ok, hs⟩ := (hs.front ci).open_; dsimp only [chipL, List.cons_append, List.nil_append, Cm.cells] at hs
 exact ⟨_, hs.ld .z rfl, k⟩
theorem Config_sp {Q : Int → Int → Int → Int → Int → Int → Int → H → Prop} (hs : Sat h0 A h) (ci : At A i (chipE p C))
  (k : ∀ h', Sat h0 A h' → Q C.cfg.cells C.cfg.slots C.cfg.fuses C.cfg.step C.cfg.keys C.cfg.erases C.cfg.area h') : F_chip_Chip_Config ⟨p, 0, none⟩ Q h := by
 unfold F_chip_Chip_Config G_chip_Chip_Config
 obtain ⟨w, ok, hs⟩ := (hs.front ci).open_; dsimp only [chipL, List.cons_append, List.nil_append, Cm.cells] at hs
 try simp only [add_mk, Nat.zero_add]
 (repeat first | refine ⟨_, Sat.ld hs (by (repeat (first | exact At.z | apply At.s))) (by rfl), ?_⟩ | refine ⟨_, _, _, Sat.ld hs (by (repeat (first | exact At.z | apply At.s))) (by rfl), ?_⟩ | (intro _ _ hn; replace hs := Sat.new hs hn; clear hn) | refine ⟨Sat.cs hs (by (repeat (first | exact At.z | apply At.s))) (by rfl), ?_⟩ | (refine ⟨Sat.can hs (by (repeat (first | exact At.z | apply At.s))) (by simp), ?_⟩; intro _ e; replace hs := Sat.wr hs (by (repeat (first | exact At.z | apply At.s))) e; clear e; simp only [put, splice, List.set] at hs))
 refine k _ ?_
 have := chip_close ok ci hs.drop
 rwa [ci.put_self] at this
theorem asked_b {Q : Int → H → Prop} (hs : Sat h0 A h) {a b c m : Sl} (ci : At A i (blk p (C.cells a b c m))) (n j : Int) (k : Q (askedM C j n) h) : F_chip_Chip_asked ⟨p, 0, none⟩ j n Q h := by
 unfold F_chip_Chip_asked G_chip_Chip_asked
 refine ⟨_, hs.ld ci rfl, ?_⟩
 unfold askedM at k
 simp only [ltI_eq, leI_eq, decide_eq_true_eq]
 split
 ·simpa [*] using k
 ·split
  ·simpa [*] using k
  ·split <;> simpa [*] using k
theorem asked_sp {Q : Int → H → Prop} (hs : Sat h0 A h) (ci : At A i (chipE p C)) (n j : Int) (k : Q (askedM C j n) h) : F_chip_Chip_asked ⟨p, 0, none⟩ j n Q h := by
 obtain ⟨w, ok, hs⟩ := (hs.front ci).open_; dsimp only [chipL, List.cons_append, List.nil_append, Cm.cells] at hs
 exact asked_b (C := C) hs .z n j k
theorem asksCell_sp {Q : Int → H → Prop} (hs : Sat h0 A h) (ci : At A i (chipE p C)) (page cell : Int) (k : Q (asksCellM C page cell) h) : F_chip_Chip_asksCell ⟨p, 0, none⟩ page cell Q h := by
 unfold F_chip_Chip_asksCell G_chip_Chip_asksCell
 obtain ⟨w, ok, hs⟩ := (hs.front ci).open_; dsimp only [chipL, List.cons_append, List.nil_append, Cm.cells] at hs
 have hl := (hs.rdM (.s .z)).len
 refine ⟨_, _, _, hs.ld .z rfl, ?_⟩
 unfold asksCellM at k
 rw [hl] at k
 refine asked_b (C := C) hs .z _ _ ?_
 split
 ·rename_i h1; rw [if_pos (by simpa using h1)] at k; exact k
 ·rename_i h1; rw [if_neg (by simpa using h1)] at k
  refine ⟨_, hs.ld .z rfl, asked_b (C := C) hs .z _ _ k⟩

theorem askedM_zero {i n : Int} (e : askedM C i n = 0) : C.out = false ∧ 0 ≤ i ∧ i < n := by
 unfold askedM at e
 split at e
 ·omega
 ·rename_i h1
  split at e
  ·omega
  ·split at e
   ·omega
   ·exact ⟨by simpa using h1, by omega, by omega⟩
def blownM (C : Cm) (i : Int) : Bool × Int := if askedM C i C.s.blown.length ≠ 0 then (false, askedM C i C.s.blown.length) else (C.s.blown.getD i.toNat false, 0)
def erasesM (C : Cm) (i : Int) : Int × Int := if askedM C i C.s.pages.length ≠ 0 then (0, askedM C i C.s.pages.length) else (C.s.erases.getD i.toNat 0, 0)
theorem Blown_sp {Q : Bool → Int → H → Prop} (hs : Sat h0 A h) (ci : At A i (chipE p C)) (j : Int) (k : Q (blownM C j).1 (blownM C j).2 h) : F_chip_Chip_Blown ⟨p, 0, none⟩ j Q h := by
 unfold F_chip_Chip_Blown G_chip_Chip_Blown
 have hs' := hs
 obtain ⟨w, ok, hs⟩ := (hs.front ci).open_; dsimp only [chipL, List.cons_append, List.nil_append, Cm.cells] at hs
 try simp only [add_mk, Nat.zero_add]
 have hl := hs.sl_len (i := 3) (.s (.s (.s .z)))
 simp only [bools_length, Nat.mul_one] at hl
 refine ⟨_, _, _, hs.ld .z rfl, ?_⟩
 rw [← hl]
 refine asked_sp hs' ci _ _ ?_
 unfold blownM at k
 by_cases h1 : askedM C j C.s.blown.length = 0
 ·rw [if_neg (by simpa using h1)]
  rw [if_neg (by simpa using h1)] at k
  obtain ⟨_, h2, h3⟩ := askedM_zero h1
  refine ⟨_, _, _, hs.ld .z rfl, ?_⟩
  obtain ⟨q, hq⟩ := hs.sl_some (i := 3) (.s (.s (.s .z))) (by omega)
  obtain ⟨w1, w2, ⟨cp, cl, cc⟩, w4⟩ := w
  simp only at hq hl
  subst hq
  refine ⟨_, rfl, h2, by simp only; omega, _, ?_, k⟩
  try simp only [add_mk, Nat.zero_add, Nat.mul_one]
  refine hs.sld (i := 3) (.s (.s (.s .z))) ?_
  rw [bools_get, List.getElem?_eq_getElem (by omega)]
  simp [List.getD, List.getElem?_eq_getElem (show j.toNat < C.s.blown.length by omega)]
 ·rw [if_pos (by simpa using h1)]
  rw [if_pos (by simpa using h1)] at k
  exact k
theorem Erases_sp {Q : Int → Int → H → Prop} (hs : Sat h0 A h) (ci : At A i (chipE p C)) (j : Int) (k : Q (erasesM C j).1 (erasesM C j).2 h) : F_chip_Chip_Erases ⟨p, 0, none⟩ j Q h := by
 unfold F_chip_Chip_Erases G_chip_Chip_Erases
 have hs' := hs
 obtain ⟨w, ok, hs⟩ := (hs.front ci).open_; dsimp only [chipL, List.cons_append, List.nil_append, Cm.cells] at hs
 try simp only [add_mk, Nat.zero_add]
 have hl := hs.sl_len (i := 2) (.s (.s .z))
 simp only [ints_length, Nat.mul_one] at hl
 have hl1 := (hs.rdM (.s .z)).len
 have hf := ok.fits
 have hnp := hf.pages
 have hne := hf.erases
 refine ⟨_, _, _, hs.ld .z rfl, ?_⟩
 rw [← hl1]
 refine asked_sp hs' ci _ _ ?_
 unfold erasesM at k
 by_cases h1 : askedM C j C.s.pages.length = 0
 ·rw [if_neg (by simpa using h1)]
  rw [if_neg (by simpa using h1)] at k
  obtain ⟨_, h2, h3⟩ := askedM_zero h1
  refine ⟨_, _, _, hs.ld .z rfl, ?_⟩
  obtain ⟨q, hq⟩ := hs.sl_some (i := 2) (.s (.s .z)) (by omega)
  obtain ⟨w1, ⟨cp, cl, cc⟩, w2, w4⟩ := w
  simp only at hq hl
  subst hq
  refine ⟨_, rfl, h2, by simp only; omega, _, ?_, k⟩
  try simp only [add_mk, Nat.zero_add, Nat.mul_one]
  refine hs.sld (i := 2) (.s (.s .z)) ?_
  rw [ints_get, List.getElem?_eq_getElem (by omega)]
  simp [List.getD, List.getElem?_eq_getElem (show j.toNat < C.s.erases.length by omega)]
 ·rw [if_pos (by simpa using h1)]
  rw [if_pos (by simpa using h1)] at k
  exact k
end
end Go.Proofs.YtaglicdidpgkpaaGreatDoor
end

/- Contracts of the chip's Read, Program, Erase. Own work. -/
section
set_option linter.unusedVariables false
namespace Go.Proofs.YtaglicdidpgkpaaGreatDoor
open Go Go.Vc

section
variable {h0 h : H} {A : List Ent} {i p : Nat} {C : Cm}
theorem asksCellM_zero {page cell : Int} (ok : C.ok) (e : asksCellM C page cell = 0) : C.out = false ∧ 0 ≤ page ∧ page < C.s.pages.length ∧ 0 ≤ cell ∧ cell < C.cfg.cells ∧
  ∃ hj : page.toNat < C.s.pages.length, (C.s.pages[page.toNat].length : Int) = 32 * C.cfg.cells ∧ (cell.toNat + 1) * 32 ≤ C.s.pages[page.toNat].length := by
 unfold asksCellM at e
 split at e
 ·rename_i h1; exact absurd e h1
 ·rename_i h1
  have h1 : askedM C page C.s.pages.length = 0 := by simpa using h1
  obtain ⟨h2, h3, h4⟩ := askedM_zero h1
  obtain ⟨_, h5, h6⟩ := askedM_zero e
  have hj : page.toNat < C.s.pages.length := by omega
  have hl := ok.fits.cells _ (List.getElem_mem hj)
  exact ⟨h2, h3, h4, h5, h6, hj, hl, by omega⟩
def readM (C : Cm) (page cell : Int) : List Int × Int :=
 if asksCellM C page cell ≠ 0 then (zeros 32, asksCellM C page cell) else (cellAt (C.s.pages.getD page.toNat []) cell.toNat, 0)
theorem Read_sp {Q : List Int → Int → H → Prop} (hs : Sat h0 A h) (ci : At A i (chipE p C)) (page cell : Int) (k : ∀ h', Sat h0 A h' → Q (readM C page cell).1 (readM C page cell).2 h') :
  F_chip_Chip_Read ⟨p, 0, none⟩ page cell Q h := by
 unfold F_chip_Chip_Read G_chip_Chip_Read
 try simp only [add_mk, Nat.zero_add, List.append_nil]
 (intro _ _ hn; replace hs := Sat.new hs hn; clear hn)
 refine asksCell_sp hs (ci.s) _ _ ?_
 unfold readM at k
 by_cases h1 : asksCellM C page cell = 0
 case neg =>
  rw [if_pos (by simpa using h1)]
  rw [if_pos (by simpa using h1)] at k
  (refine ⟨Sat.can hs (by (repeat (first | exact At.z | apply At.s))) (by simp), ?_⟩; intro _ e; replace hs := Sat.wra hs (by (repeat (first | exact At.z | apply At.s))) e (by simp [*]); clear e; simp only [put] at hs)
  refine ⟨_, ?_, hs.row0 (by (repeat (first | exact At.z | apply At.s))), ?_⟩
  ·simp
  exact k _ hs.drop
 rw [if_neg (by simpa using h1)]
 rw [if_neg (by simpa using h1)] at k
 have hs' := hs
 obtain ⟨w, ok, hs⟩ := (hs.front ci.s).open_
 obtain ⟨_, h2, h3, h4, h5, hj, hl, hk⟩ := asksCellM_zero ok h1
 dsimp only [chipL, List.cons_append, List.nil_append, Cm.cells] at hs
 refine ⟨_, _, _, hs.ld .z rfl, ?_⟩
 have rd := hs.rdM (.s .z)
 have hlen := rd.len
 obtain ⟨q, x, q', e1, e2, e3, e4, e5⟩ := rd.cell hj hk
 rw [e1]
 refine ⟨_, rfl, h2, by (try dsimp only); omega, ?_⟩
 refine ⟨_, _, _, e2, ?_⟩
 refine ⟨_, e4, h4, by omega, ?_⟩
 refine ⟨_, cellAt_length hk, e5, ?_⟩
 replace hs := hs'
 have hcl := cellAt_length hk
 (refine ⟨Sat.can hs (by (repeat (first | exact At.z | apply At.s))) (by simp), ?_⟩; intro _ e; replace hs := Sat.wra hs (by (repeat (first | exact At.z | apply At.s))) e (by simp [*]); clear e; simp only [put] at hs)
 refine ⟨_, ?_, hs.row0 (by (repeat (first | exact At.z | apply At.s))), ?_⟩
 ·exact hcl
 have : C.s.pages.getD page.toNat [] = C.s.pages[page.toNat] := by simp [List.getD, List.getElem?_eq_getElem hj]
 rw [this] at k
 exact k _ hs.drop

def progCell (old x : List Int) (f : Nat → Int) : List Int := mapTo (fun i now => bits .andNot .u8 now (bits .andNot .u8 (f i) (x.getD i 0))) 32 old
def Cm.setPage (C : Cm) (j : Nat) (row : List Int) : Cm := { C with s := { C.s with pages := C.s.pages.set j row } }
def rowOf (C : Cm) (page : Int) : List Int := C.s.pages.getD page.toNat []
def programM (C : Cm) (page cell : Int) (x : List Int) : Cm × Int :=
 if asksCellM C page cell ≠ 0 then (C, asksCellM C page cell)
 else (C.act.setPage page.toNat (rowSet (rowOf C page) cell.toNat (progCell (cellAt (rowOf C page) cell.toNat) x (maskAt C))), errM C)
theorem act_s (C : Cm) : C.act.s = C.s := by unfold Cm.act; split <;> rfl
theorem act_cfg (C : Cm) : C.act.cfg = C.cfg := by unfold Cm.act; split <;> rfl
theorem byte_bits (op : BinOp) (a b : Int) : isByte (bits op .u8 a b) := by
 have h1 := bits_lo_u8 op a b; have h2 := bits_hi_u8 op a b
 unfold isByte; omega
theorem Cm.ok.setPage {C : Cm} (ok : C.ok) {j : Nat} {row : List Int} (hl : (row.length : Int) = 32 * C.cfg.cells) (hb : bytesOk row) : (C.setPage j row).ok := by
 refine ⟨ok.may, ⟨by simpa [Cm.setPage] using ok.fits.pages, ?_, ok.fits.erases, ok.fits.blown⟩, ⟨?_, ok.typed.erases⟩, ok.left, ok.left2, ok.mask, ok.acts, ok.mlen⟩
 ·intro l hm
  rcases List.mem_or_eq_of_mem_set hm with hm | hm
  ·exact ok.fits.cells l hm
  ·rw [hm]; exact hl
 ·intro l hm
  rcases List.mem_or_eq_of_mem_set hm with hm | hm
  ·exact ok.typed.bytes l hm
  ·rw [hm]; exact hb
theorem cellAt_mem {row : List Int} {k : Nat} {v : Int} (h : v ∈ cellAt row k) : v ∈ row := List.mem_of_mem_drop (List.mem_of_mem_take h)
def eraseRow (row : List Int) (f : Nat → Int) : List Int := mapTo (fun i b => bits .or .u8 b (f i)) row.length row
def Cm.setErase (C : Cm) (j : Nat) (n : Int) : Cm := { C with s := { C.s with erases := C.s.erases.set j n } }
def eraseM (C : Cm) (page : Int) : Cm × Int :=
 if askedM C page C.s.pages.length ≠ 0 then (C, askedM C page C.s.pages.length)
 else if C.cfg.erases ≤ C.s.erases.getD page.toNat 0 then (C, 9)
 else ((C.act.setErase page.toNat (C.s.erases.getD page.toNat 0 + 1)).setPage page.toNat (eraseRow (rowOf C page) (maskAt C)), errM C)
theorem Cm.ok.setErase {C : Cm} (ok : C.ok) {j : Nat} {n : Int} (hn : -(2 ^ 63) ≤ n ∧ n < 2 ^ 63) : (C.setErase j n).ok := by
 refine ⟨ok.may, ⟨ok.fits.pages, ok.fits.cells, by simpa [Cm.setErase] using ok.fits.erases, ok.fits.blown⟩, ⟨ok.typed.bytes, ?_⟩, ok.left, ok.left2, ok.mask, ok.acts, ok.mlen⟩
 intro l hm
 rcases List.mem_or_eq_of_mem_set hm with hm | hm
 ·exact ok.typed.erases l hm
 ·rw [hm]; exact hn
end
end Go.Proofs.YtaglicdidpgkpaaGreatDoor
end

/- Contracts of copies: copied, State, Copy. Own work. -/
section
set_option linter.unusedVariables false
namespace Go.Proofs.YtaglicdidpgkpaaGreatDoor
open Go Go.Vc

structure St.small (s : St) : Prop where
 pages : s.pages.length * 24 + 4096 ≤ 2 ^ 47
 rows : ∀ l, l ∈ s.pages → l.length + 4096 ≤ 2 ^ 47
 erases : s.erases.length * 8 + 4096 ≤ 2 ^ 47
 blown : s.blown.length + 4096 ≤ 2 ^ 47
theorem Cm.ok.small {C : Cm} (ok : C.ok) : C.s.small := by
 have h1 := ok.may.np; have h2 := ok.may.nf; have h3 := ok.fits; have h4 := ok.may.cells
 refine ⟨by have := h3.pages; omega, fun l hl => by have := h3.cells l hl; omega, by have := h3.erases; omega, by have := h3.blown; omega⟩

section
variable {h0 h : H} {A : List Ent} {i p : Nat} {C : Cm}
end
end Go.Proofs.YtaglicdidpgkpaaGreatDoor
end

/- Contract of chip.Lay. Own work. -/
section
set_option linter.unusedVariables false
namespace Go.Proofs.YtaglicdidpgkpaaGreatDoor
open Go Go.Vc

structure St.lays (c : Cfg) (s : St) : Prop where
 fits : s.fits c
 pos : ∀ n, n ∈ s.erases → 0 ≤ n
section
variable {h0 h : H} {A : List Ent} {i p : Nat} {C : Cm}
end
end Go.Proofs.YtaglicdidpgkpaaGreatDoor
end

/- Contracts of the document's chip: configs, copies, new ones. Own work. -/
section
set_option linter.unusedVariables false
namespace Go.Proofs.YtaglicdidpgkpaaGreatDoor
open Go Go.Vc

section
variable {h0 h : H} {A : List Ent} {i p : Nat} {C : Cm}
end
end Go.Proofs.YtaglicdidpgkpaaGreatDoor

/- Contracts of the document's chip: new ones, laid ones, copies. Own work. -/
set_option linter.unusedVariables false
namespace Go.Proofs.YtaglicdidpgkpaaGreatDoor
open Go Go.Vc

section
variable {h0 h : H} {A : List Ent} {i p : Nat} {C : Cm}
end
end Go.Proofs.YtaglicdidpgkpaaGreatDoor

/- Contracts of the document's chip: its methods. Own work. -/
set_option linter.unusedVariables false
namespace Go.Proofs.YtaglicdidpgkpaaGreatDoor
open Go Go.Vc

structure RefW (C : Cm) (w : Pl × List Int) : Prop where
 ok : C.ok
 b : bytesOk w.2
 l : w.2.length ≤ 2 ^ 47
 m : 0 ≤ C.left → w.2 = C.mask
section
variable {h0 h : H} {A : List Ent} {i p : Nat} {C : Cm}
end
end Go.Proofs.YtaglicdidpgkpaaGreatDoor
end

/- Contracts of the chip's statements: a state is written over. Own work. -/
section
set_option linter.unusedVariables false
namespace Go.Proofs.YtaglicdidpgkpaaGreatDoor
open Go Go.Vc

section
variable {h0 h : H} {A : List Ent} {i p : Nat} {C : Cm}
end
end Go.Proofs.YtaglicdidpgkpaaGreatDoor

/- Contracts of the chip's statements: pairs of chips. Own work. -/
set_option maxRecDepth 100000
set_option linter.unusedVariables false
namespace Go.Proofs.YtaglicdidpgkpaaGreatDoor
open Go Go.Vc

section
variable {h0 h : H} {A : List Ent} {i j p r : Nat} {C : Cm}
theorem chip_ok (hs : Sat h0 A h) (ci : At A i (chipE p C)) : C.ok := by
 obtain ⟨w, ok, _⟩ := (hs.front ci).open_
 exact ok
end
end Go.Proofs.YtaglicdidpgkpaaGreatDoor
end
