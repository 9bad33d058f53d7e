/- TokenKeeps: what is proved and its parts, laid together by a program of ours: Rs1 Rs2 Rm1 Tm1 Tm2 Tm3 Tm4 Tp1 -/
import Derived.Test.YtijcpgahmbkijaaGreatDoorK9
set_option autoImplicit false
set_option linter.all false
/- SHA-256 as the document has it: words, a piece. Own work. -/
section
set_option maxRecDepth 100000
set_option linter.unusedVariables false
namespace Go.Proofs.YtijcpgahmbkijaaGreatDoor
open Go Go.Vc

def isBy (bs : List Int) : Prop := ∀ n, n ∈ bs → 0 ≤ n ∧ n < 256
theorem isBy_get {bs : List Int} (hb : isBy bs) (x : Nat) : 0 ≤ bs.getD x 0 ∧ bs.getD x 0 < 256 := by
  rw [List.getD_eq_getElem?_getD]
  cases e : bs[x]? with
  | none => exact ⟨by decide, by decide⟩
  | some v => exact hb v (List.mem_iff_getElem?.2 ⟨x, e⟩)
theorem or_comm32 (a b : Int) : bits .or .u32 a b = bits .or .u32 b a := by
  have e : ∀ x y : Int, bits .or .u32 x y = IntKind.u32.wrap ((BitVec.ofInt 32 x ||| BitVec.ofInt 32 y).toNat : Int) := fun _ _ => rfl
  rw [e, e, BitVec.or_comm]
theorem wrapU32 (n : Int) : IntKind.u32.wrap n = n % 4294967296 := by simp [IntKind.wrap, IntKind.signed, IntKind.bits]
theorem or_nat32 {x y : Nat} (hx : x < 2 ^ 32) (hy : y < 2 ^ 32) : bits .or .u32 (x : Int) (y : Int) = ((x ||| y : Nat) : Int) := by
  have : bits .or .u32 (x : Int) (y : Int) = IntKind.u32.wrap ((BitVec.ofInt 32 (x : Int) ||| BitVec.ofInt 32 (y : Int)).toNat : Int) := rfl
  rw [this, BitVec.ofInt_natCast, BitVec.ofInt_natCast, BitVec.toNat_or, BitVec.toNat_ofNat, BitVec.toNat_ofNat, Nat.mod_eq_of_lt hx, Nat.mod_eq_of_lt hy, wrapU32]
  have h3 : x ||| y < 2 ^ 32 := Nat.or_lt_two_pow hx hy
  omega
/-- Two numbers, one above the other one. -/
theorem or_hi {a b k : Nat} (hb : b < 2 ^ k) (h : 2 ^ k * a + b < 2 ^ 32) : bits .or .u32 ((2 ^ k * a : Nat) : Int) (b : Int) = ((2 ^ k * a + b : Nat) : Int) := by
  rw [or_nat32 (by omega) (by omega), ← Nat.two_pow_add_eq_or_of_lt hb]
theorem word4 {a b c d : Int} (ha : 0 ≤ a ∧ a < 256) (hb : 0 ≤ b ∧ b < 256) (hc : 0 ≤ c ∧ c < 256) (hd : 0 ≤ d ∧ d < 256) :
    bits .or .u32 (bits .or .u32 (bits .or .u32 (IntKind.u32.wrap (IntKind.u32.wrap a * 2 ^ 24)) (IntKind.u32.wrap (IntKind.u32.wrap b * 2 ^ 16))) (IntKind.u32.wrap (IntKind.u32.wrap c * 2 ^ 8))) (IntKind.u32.wrap d) = accM [a, b, c, d] 4 := by
  obtain ⟨a, rfl⟩ := Int.eq_ofNat_of_zero_le ha.1
  obtain ⟨b, rfl⟩ := Int.eq_ofNat_of_zero_le hb.1
  obtain ⟨c, rfl⟩ := Int.eq_ofNat_of_zero_le hc.1
  obtain ⟨d, rfl⟩ := Int.eq_ofNat_of_zero_le hd.1
  have wa : IntKind.u32.wrap (a : Int) = (a : Int) := by rw [wrapU32]; omega
  have wb : IntKind.u32.wrap (b : Int) = (b : Int) := by rw [wrapU32]; omega
  have wc : IntKind.u32.wrap (c : Int) = (c : Int) := by rw [wrapU32]; omega
  have wd : IntKind.u32.wrap (d : Int) = (d : Int) := by rw [wrapU32]; omega
  have x24 : IntKind.u32.wrap ((a : Int) * 2 ^ 24) = ((2 ^ 24 * a : Nat) : Int) := by rw [wrapU32]; omega
  have x16 : IntKind.u32.wrap ((b : Int) * 2 ^ 16) = ((2 ^ 16 * b : Nat) : Int) := by rw [wrapU32]; omega
  have x8 : IntKind.u32.wrap ((c : Int) * 2 ^ 8) = ((2 ^ 8 * c : Nat) : Int) := by rw [wrapU32]; omega
  rw [wa, wb, wc, wd, x24, x16, x8]
  rw [or_hi (by omega) (by omega)]
  have e1 : (2 ^ 24 * a + 2 ^ 16 * b : Nat) = 2 ^ 16 * (2 ^ 8 * a + b) := by omega
  rw [e1, or_hi (by omega) (by omega)]
  have e2 : (2 ^ 16 * (2 ^ 8 * a + b) + 2 ^ 8 * c : Nat) = 2 ^ 8 * (2 ^ 16 * a + 2 ^ 8 * b + c) := by omega
  rw [e2, or_hi (by omega) (by omega)]
  have s0 : accM [(a : Int), b, c, d] 1 = ((2 ^ 0 * 0 + a : Nat) : Int) := by
    show bits .or .u32 (IntKind.u32.wrap (0 * 2 ^ 8)) (IntKind.u32.wrap (a : Int)) = _
    rw [wa]
    exact or_hi (k := 8) (a := 0) (b := a) (by omega) (by omega)
  have s1 : accM [(a : Int), b, c, d] 2 = ((2 ^ 8 * a + b : Nat) : Int) := by
    show bits .or .u32 (IntKind.u32.wrap (accM [(a : Int), b, c, d] 1 * 2 ^ 8)) (IntKind.u32.wrap (b : Int)) = _
    rw [s0, wb, show IntKind.u32.wrap (((2 ^ 0 * 0 + a : Nat) : Int) * 2 ^ 8) = ((2 ^ 8 * a : Nat) : Int) by rw [wrapU32]; omega]
    exact or_hi (by omega) (by omega)
  have s2 : accM [(a : Int), b, c, d] 3 = ((2 ^ 8 * (2 ^ 8 * a + b) + c : Nat) : Int) := by
    show bits .or .u32 (IntKind.u32.wrap (accM [(a : Int), b, c, d] 2 * 2 ^ 8)) (IntKind.u32.wrap (c : Int)) = _
    rw [s1, wc, show IntKind.u32.wrap (((2 ^ 8 * a + b : Nat) : Int) * 2 ^ 8) = ((2 ^ 8 * (2 ^ 8 * a + b) : Nat) : Int) by rw [wrapU32]; omega]
    exact or_hi (by omega) (by omega)
  have s3 : accM [(a : Int), b, c, d] 4 = ((2 ^ 8 * (2 ^ 8 * (2 ^ 8 * a + b) + c) + d : Nat) : Int) := by
    show bits .or .u32 (IntKind.u32.wrap (accM [(a : Int), b, c, d] 3 * 2 ^ 8)) (IntKind.u32.wrap (d : Int)) = _
    rw [s2, wd, show IntKind.u32.wrap (((2 ^ 8 * (2 ^ 8 * a + b) + c : Nat) : Int) * 2 ^ 8) = ((2 ^ 8 * (2 ^ 8 * (2 ^ 8 * a + b) + c) : Nat) : Int) by rw [wrapU32]; omega]
    exact or_hi (by omega) (by omega)
  rw [s3]
  congr 1
  omega
theorem take4 {bs : List Int} {o : Nat} (h : o + 4 ≤ bs.length) : (bs.drop o).take 4 = [bs.getD o 0, bs.getD (o + 1) 0, bs.getD (o + 2) 0, bs.getD (o + 3) 0] := by
  apply List.ext_getElem (by simp; omega)
  intro i h1 h2
  simp only [List.length_cons, List.length_nil, Nat.zero_add] at h2
  rw [List.getElem_take, List.getElem_drop]
  have g : ∀ x (hx : x < bs.length), bs.getD x 0 = bs[x] := fun x hx => by rw [List.getD_eq_getElem?_getD, List.getElem?_eq_getElem hx]; rfl
  have : i = 0 ∨ i = 1 ∨ i = 2 ∨ i = 3 := by omega
  rcases this with rfl | rfl | rfl | rfl
  · exact (g o (by omega)).symm
  · exact (g (o + 1) (by omega)).symm
  · exact (g (o + 2) (by omega)).symm
  · exact (g (o + 3) (by omega)).symm
section
variable {h0 h : H} {A : List Ent} {i d : Nat}
theorem turned_sp {Q : Int → H → Prop} (x : Int) (m : Nat) {mi : Int} (e : mi = (m : Int)) (h1 : 1 ≤ m) (h2 : m < 32) (q : Q (rotM x m) h) : F_portcullisref02_turned x mi Q h := by
  subst e
  unfold F_portcullisref02_turned G_portcullisref02_turned
  have e : IntKind.i64.wrap (32 - (m : Int)) = ((32 - m : Nat) : Int) := by rw [wrap_id (by omega)]; omega
  rw [e]
  refine ⟨by omega, by omega, ?_⟩
  rw [Int.toNat_natCast, Int.toNat_natCast, Nat.min_eq_left (by omega), Nat.min_eq_left (by omega), or_comm32]
  exact q
theorem words_sp {Q : List Int → H → Prop} {bs : List Int} {p : Option Addr} {l c : Nat} (hs : Sat h0 A h) (hb : isBy bs) (hl : 64 ≤ l) (rd : ∀ h', Sat h0 A h' → hsv h' p 1 l (ints .u8 bs)) (k : ∀ h', Sat h0 A h' → Q (wM bs 64) h') : F_portcullisref02_words p l c Q h := by
  unfold F_portcullisref02_words G_portcullisref02_words
  simp only [add_mk, Nat.zero_add, List.append_nil]
  have hbl : bs.length = l := by have := (rd _ hs).1; simpa using this
  intro rb _ hn; replace hs := Sat.new hs hn; clear hn
  intro wn _ hn; replace hs := Sat.new hs hn; clear hn
  refine ⟨Sat.can hs (i := 0) .z (by simp [zeros]), ?_⟩
  intro h2 e
  replace hs := Sat.wra hs (i := 0) .z e rfl
  clear e
  simp only [put_zero] at hs
  obtain ⟨q, hq, _⟩ := hsvI (rd _ hs.drop.drop) (x := 0) (by omega)
  subst hq
  intro J14 hJ14
  refine loop_up 16 (fun t h => Sat h0 (blk wn (ints .u32 (wM bs t)) :: blk rb (ints .u32 (zeros 64)) :: A) h) ?_ ?_ 0 _ (by omega) hs
  · intro t h1 ht hs hk
    apply hJ14
    rw [ltI_eq, if_pos (by simp; omega)]
    have e0 : IntKind.i64.wrap (4 * (t : Int)) = ((4 * t : Nat) : Int) := by rw [wrap_id (by omega)]; push_cast; rfl
    have e1 : IntKind.i64.wrap (((4 * t : Nat) : Int) + 1) = ((4 * t + 1 : Nat) : Int) := by rw [wrap_id (by omega)]; push_cast; rfl
    have e2 : IntKind.i64.wrap (((4 * t : Nat) : Int) + 2) = ((4 * t + 2 : Nat) : Int) := by rw [wrap_id (by omega)]; push_cast; rfl
    have e3 : IntKind.i64.wrap (((4 * t : Nat) : Int) + 3) = ((4 * t + 3 : Nat) : Int) := by rw [wrap_id (by omega)]; push_cast; rfl
    rw [e0, e1, e2, e3]
    simp only [Int.toNat_natCast, Nat.mul_one]
    have g : ∀ x, x < l → hc h1 (q.add x) = some (.int .u8 (bs.getD x 0)) := by
      intro x hx
      obtain ⟨q', hq', g⟩ := hsvI (rd _ hs.drop.drop) (x := x) hx
      injection hq' with hq'
      subst hq'
      exact g
    refine ⟨q, rfl, by omega, by omega, _, g _ (by omega), by decide, q, rfl, by omega, by omega, _, g _ (by omega), by decide, q, rfl, by omega, by omega, _, g _ (by omega), by decide, q, rfl, by omega, by omega, _, g _ (by omega), by omega, by omega, ?_⟩
    have hlen := wM_len bs t
    refine ⟨Sat.can hs (i := 0) .z (by simp [hlen]; omega), ?_⟩
    intro h3 e
    replace hs := Sat.wr hs (i := 0) .z e
    clear e
    rw [intsP] at hs
    simp only [put_zero] at hs
    rw [wrap_succ (by omega)]
    refine hk _ ?_
    show Sat h0 (blk wn (ints .u32 ((wM bs t).set t _)) :: blk rb (ints .u32 (zeros 64)) :: A) h3
    rw [if_pos ht, take4 (by omega), ← word4 (isBy_get hb _) (isBy_get hb _) (isBy_get hb _) (isBy_get hb _)]
    exact hs
  · intro h1 hs
    apply hJ14
    rw [ltI_eq, if_neg (by decide)]
    clear hJ14 J14
    intro J27 hJ27
    refine loop_up 64 (fun t h => 16 ≤ t ∧ Sat h0 (blk wn (ints .u32 (wM bs t)) :: blk rb (ints .u32 (zeros 64)) :: A) h) ?_ ?_ 16 _ (by omega) ⟨by omega, hs⟩
    · rintro t h2 ht ⟨ht2, hs⟩ hk
      apply hJ27
      rw [ltI_eq, if_pos (by simp; omega)]
      have hlen := wM_len bs t
      have e15 : IntKind.i64.wrap ((t : Int) - 15) = ((t - 15 : Nat) : Int) := by rw [wrap_id (by omega)]; omega
      have e2 : IntKind.i64.wrap ((t : Int) - 2) = ((t - 2 : Nat) : Int) := by rw [wrap_id (by omega)]; omega
      have e16 : IntKind.i64.wrap ((t : Int) - 16) = ((t - 16 : Nat) : Int) := by rw [wrap_id (by omega)]; omega
      have e7 : IntKind.i64.wrap ((t : Int) - 7) = ((t - 7 : Nat) : Int) := by rw [wrap_id (by omega)]; omega
      rw [e15, e2, e16, e7]
      simp only [Int.toNat_natCast, Nat.mul_one]
      have g := fun (x : Nat) (hx : x < 64) => hs.ld (i := 0) (b := wn) .z (intsG (k := .u32) (l := wM bs t) (i := x) (by omega))
      refine ⟨by omega, by omega, _, g _ (by omega), by omega, by omega, _, g _ (by omega), ?_⟩
      refine turned_sp _ 7 rfl (by decide) (by decide) ?_
      refine turned_sp _ 18 rfl (by decide) (by decide) ?_
      refine ⟨by decide, ?_⟩
      refine turned_sp _ 17 rfl (by decide) (by decide) ?_
      refine turned_sp _ 19 rfl (by decide) (by decide) ?_
      refine ⟨by decide, by omega, by omega, _, g _ (by omega), by omega, by omega, _, g _ (by omega), by omega, by omega, ?_⟩
      refine ⟨Sat.can hs (i := 0) .z (by simp [hlen]; omega), ?_⟩
      intro h3 e
      replace hs := Sat.wr hs (i := 0) .z e
      clear e
      rw [intsP] at hs
      simp only [put_zero] at hs
      rw [wrap_succ (by omega)]
      refine hk _ ⟨by omega, ?_⟩
      show Sat h0 (blk wn (ints .u32 ((wM bs t).set t _)) :: blk rb (ints .u32 (zeros 64)) :: A) h3
      rw [if_neg (by omega)]
      exact hs
    · rintro h2 ⟨_, hs⟩
      apply hJ27
      rw [ltI_eq, if_neg (by decide)]
      refine ⟨_, wM_len bs 64, hs.row0 (i := 0) .z, ?_⟩
      refine ⟨Sat.can hs (i := 1) (.s .z) (by simp [zeros]), ?_⟩
      intro h3 e
      replace hs := Sat.wra hs (i := 1) (.s .z) e (by simp [zeros, wM_len])
      clear e
      simp only [put_succ, put_zero] at hs
      exact ⟨_, wM_len bs 64, hs.row0 (i := 1) (.s .z), k _ hs.drop.drop⟩
theorem piece_sp {Q : List Int → H → Prop} {s bs : List Int} {p : Option Addr} {l c : Nat} (hs : Sat h0 A h) (l1 : s.length = 8) (hb : isBy bs) (hl : 64 ≤ l) (rd : ∀ h', Sat h0 A h' → hsv h' p 1 l (ints .u8 bs)) (k : ∀ h', Sat h0 A h' → Q (pieceM s bs) h') : F_portcullisref02_piece s p l c kM Q h := by
  unfold F_portcullisref02_piece G_portcullisref02_piece
  simp only [add_mk, Nat.zero_add, List.append_nil]
  intro sb _ hn; replace hs := Sat.new hs hn; clear hn
  intro kb _ hn; replace hs := Sat.new hs hn; clear hn
  intro rb _ hn; replace hs := Sat.new hs hn; clear hn
  refine words_sp hs hb hl (fun h' hs' => rd _ hs'.drop.drop.drop) ?_
  intro h1 hs
  obtain ⟨w, hw⟩ : ∃ w, w = wM bs 64 := ⟨_, rfl⟩
  have hwl : w.length = 64 := by rw [hw]; exact wM_len _ _
  rw [← hw]
  intro wn _ hn; replace hs := Sat.new hs hn; clear hn
  refine ⟨Sat.can hs (i := 0) .z (by simp [zeros]), ?_⟩
  intro h2 e
  replace hs := Sat.wra hs (i := 0) .z e (by simp [zeros, hwl])
  clear e
  simp only [put_zero] at hs
  refine ⟨s, l1, hs.row0 (i := 3) (.s (.s (.s .z))), ?_⟩
  intro sn _ hn; replace hs := Sat.new hs hn; clear hn
  refine ⟨Sat.can hs (i := 0) .z (by simp [zeros]), ?_⟩
  intro h3 e
  replace hs := Sat.wra hs (i := 0) .z e (by simp [zeros, l1])
  clear e
  simp only [put_zero] at hs
  intro J31 hJ31
  refine loop_up 64 (fun t h => Sat h0 (blk sn (ints .u32 (rM w s t)) :: blk wn (ints .u32 w) :: blk rb (ints .u32 (zeros 8)) :: blk kb (ints .u32 kM) :: blk sb (ints .u32 s) :: A) h) ?_ ?_ 0 _ (by omega) hs
  · intro t h4 ht hs hk
    apply hJ31
    rw [ltI_eq, if_pos (by simp; omega)]
    obtain ⟨a, b, c, dd, e, f, g, hh, hr⟩ := len8 (rM_len w s l1 t)
    rw [hr] at hs
    simp only [Int.toNat_natCast, Nat.mul_one]
    have gk : hc h4 ⟨kb, t, none⟩ = some (.int .u32 (kM.getD t 0)) := hs.ld (i := 3) (.s (.s (.s .z))) (intsG (by rw [kM_len]; omega))
    have gw : hc h4 ⟨wn, t, none⟩ = some (.int .u32 (w.getD t 0)) := hs.ld (i := 1) (.s .z) (intsG (by omega))
    have g0 : hc h4 ⟨sn, 0, none⟩ = some (.int .u32 a) := hs.ld (i := 0) .z rfl
    have g1 : hc h4 ⟨sn, 1, none⟩ = some (.int .u32 b) := hs.ld (i := 0) .z rfl
    have g2 : hc h4 ⟨sn, 2, none⟩ = some (.int .u32 c) := hs.ld (i := 0) .z rfl
    have g3 : hc h4 ⟨sn, 3, none⟩ = some (.int .u32 dd) := hs.ld (i := 0) .z rfl
    have g4 : hc h4 ⟨sn, 4, none⟩ = some (.int .u32 e) := hs.ld (i := 0) .z rfl
    have g5 : hc h4 ⟨sn, 5, none⟩ = some (.int .u32 f) := hs.ld (i := 0) .z rfl
    have g6 : hc h4 ⟨sn, 6, none⟩ = some (.int .u32 g) := hs.ld (i := 0) .z rfl
    have g7 : hc h4 ⟨sn, 7, none⟩ = some (.int .u32 hh) := hs.ld (i := 0) .z rfl
    refine ⟨by decide, by decide, _, g0, by decide, by decide, _, g4, by decide, by decide, _, g7, by decide, by decide, _, g5, by decide, by decide, _, g6, by omega, by omega, _, gk, by omega, by omega, _, gw, ?_⟩
    refine turned_sp _ 6 rfl (by decide) (by decide) ?_
    refine ⟨hcs_one gw, hcs_one gk, hcs_one g6, hcs_one g5, hcs_one g7, ?_⟩
    refine turned_sp _ 11 rfl (by decide) (by decide) ?_
    refine ⟨hcs_one gw, hcs_one gk, hcs_one g6, hcs_one g5, hcs_one g7, ?_⟩
    refine turned_sp _ 25 rfl (by decide) (by decide) ?_
    refine ⟨hcs_one gw, hcs_one gk, hcs_one g6, hcs_one g5, hcs_one g7, ?_⟩
    refine ⟨by decide, by decide, _, g1, by decide, by decide, _, g2, by decide, by decide, _, g1, by decide, by decide, _, g2, ?_⟩
    refine turned_sp _ 2 rfl (by decide) (by decide) ?_
    refine ⟨hcs_one g2, hcs_one g1, hcs_one g2, hcs_one g1, ?_⟩
    refine turned_sp _ 13 rfl (by decide) (by decide) ?_
    refine ⟨hcs_one g2, hcs_one g1, hcs_one g2, hcs_one g1, ?_⟩
    refine turned_sp _ 22 rfl (by decide) (by decide) ?_
    refine ⟨hcs_one g2, hcs_one g1, hcs_one g2, hcs_one g1, ?_⟩
    refine ⟨by decide, by decide, _, g0, by decide, by decide, _, g1, by decide, by decide, _, g2, by decide, by decide, _, g3, by decide, by decide, _, g4, by decide, by decide, _, g5, by decide, by decide, _, g6, ?_⟩
    refine ⟨Sat.can hs (i := 0) .z (by simp), ?_⟩
    intro h5 e5
    replace hs := Sat.wra hs (i := 0) .z e5 (by simp)
    clear e5
    simp only [put_zero] at hs
    rw [wrap_succ (by omega)]
    refine hk _ ?_
    show Sat h0 (blk sn (ints .u32 (stepM (rM w s t) (kM.getD t 0) (w.getD t 0))) :: blk wn (ints .u32 w) :: blk rb (ints .u32 (zeros 8)) :: blk kb (ints .u32 kM) :: blk sb (ints .u32 s) :: A) h5
    rw [hr]
    exact hs
  · intro h4 hs
    apply hJ31
    rw [ltI_eq, if_neg (by decide)]
    clear hJ31 J31
    obtain ⟨r, hr⟩ : ∃ r, r = rM w s 64 := ⟨_, rfl⟩
    have hrl : r.length = 8 := by rw [hr]; exact rM_len _ _ l1 _
    rw [← hr] at hs
    intro J66 hJ66
    refine loop_up 8 (fun t h => Sat h0 (blk sn (ints .u32 r) :: blk wn (ints .u32 w) :: blk rb (ints .u32 (zeros 8)) :: blk kb (ints .u32 kM) :: blk sb (ints .u32 (aM s r t)) :: A) h) ?_ ?_ 0 _ (by omega) hs
    · intro t h5 ht hs hk
      apply hJ66
      rw [ltI_eq, if_pos (by simp; omega)]
      have hal := aM_len s r l1 t
      simp only [Int.toNat_natCast, Nat.mul_one]
      refine ⟨by omega, by omega, _, hs.ld (i := 4) (.s (.s (.s (.s .z)))) (intsG (by omega)), by omega, by omega, _, hs.ld (i := 0) .z (intsG (by omega)), by omega, by omega, ?_⟩
      refine ⟨Sat.can hs (i := 4) (.s (.s (.s (.s .z)))) (by simp [hal]; omega), ?_⟩
      intro h6 e
      replace hs := Sat.wr hs (i := 4) (.s (.s (.s (.s .z)))) e
      clear e
      rw [intsP] at hs
      simp only [put_succ, put_zero] at hs
      rw [wrap_succ (by omega)]
      exact hk _ hs
    · intro h5 hs
      apply hJ66
      rw [ltI_eq, if_neg (by decide)]
      have hpl : (aM s r 8).length = 8 := aM_len s r l1 8
      refine ⟨_, hpl, hs.row0 (i := 4) (.s (.s (.s (.s .z)))), ?_⟩
      refine ⟨Sat.can hs (i := 2) (.s (.s .z)) (by simp [zeros]), ?_⟩
      intro h6 e
      replace hs := Sat.wra hs (i := 2) (.s (.s .z)) e (by simp [zeros, hpl])
      clear e
      simp only [put_succ, put_zero] at hs
      refine ⟨_, hpl, hs.row0 (i := 2) (.s (.s .z)), ?_⟩
      have := k _ hs.drop.drop.drop.drop.drop
      unfold pieceM at this
      rw [← hw, ← hr] at this
      exact this
end
end Go.Proofs.YtijcpgahmbkijaaGreatDoor
end

/- SHA-256 as the document has it: what comes behind the bytes; the hash. Own work. -/
section
set_option maxRecDepth 100000
set_option linter.unusedVariables false
namespace Go.Proofs.YtijcpgahmbkijaaGreatDoor
open Go Go.Vc

theorem ext_getD {a b : List Int} (hl : a.length = b.length) (h : ∀ x, x < a.length → a.getD x 0 = b.getD x 0) : a = b := by
  apply List.ext_getElem hl
  intro i h1 h2
  have := h i h1
  rwa [List.getD_eq_getElem?_getD, List.getD_eq_getElem?_getD, List.getElem?_eq_getElem h1, List.getElem?_eq_getElem h2] at this
theorem zerosD (n x : Nat) : (zeros n).getD x 0 = 0 := by
  unfold zeros
  rw [List.getD_eq_getElem?_getD, List.getElem?_replicate]; split <;> rfl
theorem endM_get (n : Nat) : ∀ t x, t ≤ 8 → x < 73 → (endM n t).getD x 0 = if x = 0 then 128 else if 1 + zM n ≤ x ∧ x < 1 + zM n + t then lenB n (x - 1 - zM n) else 0
  | 0, x, _, hx => by
    show ((zeros 73).set 0 128).getD x 0 = _
    rw [setD]
    by_cases c : x = 0
    · subst c; rfl
    · rw [if_neg (by omega), if_neg c, if_neg (by omega), zerosD]
  | t + 1, x, ht, hx => by
    have hz := zM_lt n
    have ih := endM_get n t x (by omega) hx
    show ((endM n t).set (1 + zM n + t) (lenB n t)).getD x 0 = _
    rw [setD, endM_len]
    by_cases c : 1 + zM n + t = x
    · subst c
      rw [if_pos ⟨rfl, hx⟩, if_neg (by omega), if_pos (by omega), show 1 + zM n + t - 1 - zM n = t by omega]
    · rw [if_neg (fun y => c y.1), ih]
      by_cases c0 : x = 0
      · rw [if_pos c0, if_pos c0]
      · rw [if_neg c0, if_neg c0]
        by_cases c1 : 1 + zM n ≤ x ∧ x < 1 + zM n + t
        · rw [if_pos c1, if_pos (by omega)]
        · rw [if_neg c1, if_neg (by omega)]
def lensM (n : Nat) : List Int := (List.range 8).map (lenB n)
theorem lensM_len (n : Nat) : (lensM n).length = 8 := by simp [lensM]
theorem lensM_get (n : Nat) {t : Nat} (ht : t < 8) : (lensM n).getD t 0 = lenB n t := by
  unfold lensM
  rw [List.getD_eq_getElem?_getD, List.getElem?_map, List.getElem?_range ht]; rfl
theorem appD (a b : List Int) (x : Nat) : (a ++ b).getD x 0 = if x < a.length then a.getD x 0 else b.getD (x - a.length) 0 := by
  rw [List.getD_eq_getElem?_getD]
  split
  · rename_i c; rw [List.getElem?_append_left c, List.getD_eq_getElem?_getD]
  · rename_i c; rw [List.getElem?_append_right (by omega), List.getD_eq_getElem?_getD]
/-- What comes behind, in pieces. -/
theorem tailM_eq (n : Nat) : tailM n = [128] ++ zeros (zM n) ++ lensM n := by
  have hz := zM_lt n
  have hzl : (zeros (zM n)).length = zM n := by simp [zeros]
  refine ext_getD ?_ ?_
  · rw [tailM_len, List.length_append, List.length_append, hzl, lensM_len]; simp; omega
  · intro x hx
    rw [tailM_len] at hx
    have e1 : (tailM n).getD x 0 = (endM n 8).getD x 0 := by
      unfold tailM
      rw [List.getD_eq_getElem?_getD, List.getElem?_take_of_lt hx, List.getD_eq_getElem?_getD]
    rw [e1, endM_get n 8 x (by omega) (by omega), appD, appD]
    simp only [List.length_append, List.length_cons, List.length_nil, hzl, Nat.zero_add]
    by_cases c0 : x = 0
    · subst c0
      rw [if_pos rfl, if_pos (by omega), if_pos (by omega)]; rfl
    · rw [if_neg c0]
      by_cases c1 : x < 1 + zM n
      · rw [if_neg (by omega), if_pos c1, if_neg (by omega), zerosD]
      · rw [if_pos (by omega), if_neg c1, lensM_get n (by omega), show x - 1 - zM n = x - (1 + zM n) by omega]
theorem fullM_len (ms : List Int) : (fullM ms).length = ms.length + 9 + zM ms.length := by
  unfold fullM; rw [List.length_append, tailM_len]; omega
theorem fullM_64 (ms : List Int) : (fullM ms).length = 64 * ((fullM ms).length / 64) := by
  rw [fullM_len]; unfold zM; omega
theorem isBy_app {a b : List Int} (ha : isBy a) (hb : isBy b) : isBy (a ++ b) := fun v hv => (List.mem_append.1 hv).elim (ha v) (hb v)
theorem isBy_zeros (n : Nat) : isBy (zeros n) := by
  intro v hv
  unfold zeros at hv
  rw [List.mem_replicate] at hv
  omega
theorem isBy_tail (n : Nat) : isBy (tailM n) := by
  rw [tailM_eq]
  refine isBy_app (isBy_app ?_ (isBy_zeros _)) ?_
  · intro v hv
    simp only [List.mem_cons, List.not_mem_nil, or_false] at hv
    omega
  · intro v hv
    unfold lensM at hv
    obtain ⟨i, _, rfl⟩ := List.mem_map.1 hv
    unfold lenB
    rw [IntKind.wrap_u8]; omega
theorem isBy_blk {ms : List Int} (hb : isBy ms) (i : Nat) : isBy (blkM ms i) := fun v hv => hb v (List.mem_of_mem_drop (List.mem_of_mem_take hv))
theorem takeS (l : List Int) {t : Nat} (h : t < l.length) : l.take (t + 1) = l.take t ++ [l.getD t 0] := by
  rw [List.take_succ, List.getElem?_eq_getElem h, List.getD_eq_getElem?_getD, List.getElem?_eq_getElem h]; rfl
theorem intsApp (k : IntKind) (a b : List Int) : ints k (a ++ b) = ints k a ++ ints k b := by unfold ints; rw [List.map_append]
theorem loopN {J : List SV → H → Prop} {σ : Type} (N : Nat) (S : Nat → σ → List SV) (Inv : Nat → σ → H → Prop) (step : ∀ i s h, i < N → Inv i s h → (∀ s' h', Inv (i + 1) s' h' → J (S (i + 1) s') h') → J (S i s) h)
    (exit : ∀ s h, Inv N s h → J (S N s) h) (i : Nat) (s : σ) (h : H) (hi : i ≤ N) (inv : Inv i s h) : J (S i s) h := by
  generalize e : N - i = n
  induction n generalizing i s h with
  | zero =>
    have : i = N := by omega
    subst this; exact exit s h inv
  | succ n ih => exact step i s h (by omega) inv fun s' h' inv' => ih (i + 1) s' h' (by omega) inv' (by omega)
theorem capL {h0 h : H} {A : List Ent} (hs : Sat h0 A h) {i : Nat} {p : Option Addr} {l c sz : Nat} {vs : List Value} (m : At A i (slE p l c sz vs)) : l ≤ c := by
  obtain ⟨f, hp, _⟩ := hs.take m
  obtain ⟨bs, o, _⟩ := slE_P.1 hp
  exact o.2.1
section
variable {h0 h : H} {A : List Ent} {i d : Nat}
theorem padded_sp {Q : Option Addr → Nat → Nat → H → Prop} {ms : List Int} {p : Option Addr} {l c : Nat} (hs : Sat h0 A h) (hl : l < 2 ^ 46) (rd : ∀ h', Sat h0 A h' → hsv h' p 1 l (ints .u8 ms))
    (k : ∀ p' c' h', (fullM ms).length ≤ c' → Sat h0 (slE p' (fullM ms).length c' 1 (ints .u8 (fullM ms)) :: A) h' → Q p' (fullM ms).length c' h') : F_portcullisref02_padded p l c Q h := by
  unfold F_portcullisref02_padded G_portcullisref02_padded
  have hml : ms.length = l := by have := (rd _ hs).1; simpa using this
  have hz := zM_lt l
  refine ⟨_, rd _ hs, ?_⟩
  refine Sat.app_new hs (by simp [hml]) rfl (ints_one _ _) (by omega) ?_
  intro p1 c1 h1 hs
  intro b _ hn; replace hs := Sat.new hs hn; clear hn
  refine ⟨_, hs.bv (i := 0) (l := 1) .z rfl (ints_one .u8 [128]), ?_⟩
  refine Sat.app hs (i := 1) (vs := ints .u8 [128]) (.s .z) rfl rfl (ints_one _ _) (by omega) ?_
  intro p2 c2 h2 hs
  simp only [put_succ, put_zero] at hs
  rw [← intsApp] at hs
  replace hs := hs.drop
  intro J18 hJ18
  refine loopN (zM l) (fun t (s : Option Addr × Nat) => [.dv (.one (.slice s.1 (l + 1 + t) s.2))]) (fun t s h => Sat h0 (slE s.1 (l + 1 + t) s.2 1 (ints .u8 (ms ++ [128] ++ zeros t)) :: A) h) ?_ ?_ 0 (p2, c2) _ (by omega) (by simpa [zeros] using hs)
  · rintro t ⟨p3, c3⟩ h3 ht hs hk
    dsimp only at hs hk ⊢
    apply hJ18
    refine ⟨by decide, ?_⟩
    have em : (((l + 1 + t : Nat) : Int)).tmod 64 = (((l + 1 + t) % 64 : Nat) : Int) := by rw [Int.tmod_eq_emod_of_nonneg (by omega)]; omega
    rw [em, if_pos (by
      rw [bne_iff_ne]
      intro y
      unfold zM at ht
      omega)]
    intro b _ hn; replace hs := Sat.new hs hn; clear hn
    refine ⟨_, hs.bv (i := 0) (l := 1) .z rfl (ints_one .u8 [0]), ?_⟩
    refine Sat.app hs (i := 1) (vs := ints .u8 [0]) (.s .z) rfl rfl (ints_one _ _) (by omega) ?_
    intro p4 c4 h4 hs
    simp only [put_succ, put_zero] at hs
    rw [← intsApp] at hs
    refine hk (p4, c4) h4 ?_
    have ez : ms ++ [128] ++ zeros (t + 1) = ms ++ [128] ++ zeros t ++ [0] := by
      unfold zeros
      rw [List.replicate_succ', List.append_assoc, List.append_assoc, List.append_assoc]
    dsimp only
    rw [ez]
    exact hs.drop
  · rintro ⟨p3, c3⟩ h3 hs
    dsimp only at hs ⊢
    apply hJ18
    clear hJ18
    refine ⟨by decide, ?_⟩
    have em : (((l + 1 + zM l : Nat) : Int)).tmod 64 = 56 := by
      rw [Int.tmod_eq_emod_of_nonneg (by omega)]
      unfold zM
      omega
    rw [em, if_neg (by decide)]
    have ew : IntKind.u64.wrap (8 * IntKind.u64.wrap (l : Int)) = IntKind.u64.wrap (8 * (l : Int)) := by rw [wrapU64 (l : Int), wrapU64, wrapU64]; omega
    rw [ew]
    intro J31 hJ31
    refine loopN 8 (fun t (s : Option Addr × Nat) => [.dv (.one (.slice s.1 (l + 1 + zM l + t) s.2)), .dv (.one (.int .i64 (7 - (t : Int))))]) (fun t s h => Sat h0 (slE s.1 (l + 1 + zM l + t) s.2 1 (ints .u8 (ms ++ [128] ++ zeros (zM l) ++ (lensM l).take t)) :: A) h) ?_ ?_ 0 (p3, c3) _ (by omega) (by simpa using hs)
    · rintro t ⟨p4, c4⟩ h4 ht hs hk
      dsimp only at hs hk ⊢
      apply hJ31
      rw [leI_eq, if_pos (by rw [decide_eq_true_iff]; omega)]
      have e8 : IntKind.i64.wrap (8 * (7 - (t : Int))) = ((56 - 8 * t : Nat) : Int) := by rw [wrap_id (by omega)]; omega
      rw [e8]
      simp only [Int.toNat_natCast]
      refine ⟨by omega, ?_⟩
      intro b _ hn; replace hs := Sat.new hs hn; clear hn
      refine ⟨_, hs.bv (i := 0) (l := 1) .z rfl (ints_one .u8 [lenB l t]), ?_⟩
      refine Sat.app hs (i := 1) (vs := ints .u8 [lenB l t]) (.s .z) rfl rfl (ints_one _ _) (by omega) ?_
      intro p5 c5 h5 hs
      simp only [put_succ, put_zero] at hs
      rw [← intsApp] at hs
      have e1 : IntKind.i64.wrap (7 - (t : Int) - 1) = 7 - ((t + 1 : Nat) : Int) := by rw [wrap_id (by omega)]; omega
      rw [e1]
      refine hk (p5, c5) h5 ?_
      dsimp only
      rw [takeS _ (by rw [lensM_len]; exact ht), lensM_get l ht, ← List.append_assoc]
      exact hs.drop
    · rintro ⟨p4, c4⟩ h4 hs
      dsimp only at hs ⊢
      apply hJ31
      rw [leI_eq, if_neg (by decide)]
      rw [List.take_of_length_le (by rw [lensM_len]; exact Nat.le_refl _)] at hs
      have ef : ms ++ [128] ++ zeros (zM l) ++ lensM l = fullM ms := by
        unfold fullM
        rw [tailM_eq, hml, List.append_assoc, List.append_assoc, List.append_assoc]
      have efl : (fullM ms).length = l + 1 + zM l + 8 := by rw [fullM_len, hml]; omega
      rw [ef] at hs
      have K := k p4 c4 h4
      rw [efl] at K
      exact K (capL hs (i := 0) .z) hs
theorem rof_sp {Q : List Int → H → Prop} {ms : List Int} {p : Option Addr} {l c : Nat} (hs : Sat h0 A h) (hb : isBy ms) (hl : l < 2 ^ 46) (rd : ∀ h', Sat h0 A h' → hsv h' p 1 l (ints .u8 ms)) (k : ∀ h', Sat h0 A h' → Q (shaM ms) h') : F_portcullisref02_Of p l c Q h := by
  unfold F_portcullisref02_Of G_portcullisref02_Of
  simp only [add_mk, Nat.zero_add, List.append_nil]
  have hml : ms.length = l := by have := (rd _ hs).1; simpa using this
  intro rb _ hn; replace hs := Sat.new hs hn; clear hn
  refine padded_sp (ms := ms) hs hl (fun h' hs' => rd _ hs'.drop) ?_
  intro p1 c1 h1 hc1 hs
  obtain ⟨F, hF⟩ : ∃ F, F = fullM ms := ⟨_, rfl⟩
  have hbF : isBy F := by rw [hF]; unfold fullM; exact isBy_app hb (isBy_tail _)
  have hFl : F.length < 2 ^ 47 := by rw [hF, fullM_len, hml]; have := zM_lt l; omega
  obtain ⟨N, hN⟩ : ∃ N, N = F.length / 64 := ⟨_, rfl⟩
  have h64 : F.length = 64 * N := by rw [hN, hF]; exact fullM_64 ms
  rw [← hF] at hs hc1 ⊢
  rw [h64] at hs hc1 ⊢
  unfold F_portcullisref02_begins G_portcullisref02_begins
  simp only [add_mk, Nat.zero_add, List.append_nil]
  intro bb _ hn; replace hs := Sat.new hs hn; clear hn
  refine ⟨Sat.can hs (i := 0) .z (by simp [zeros]), ?_⟩
  intro h2 e
  replace hs := Sat.wra hs (i := 0) .z e (by simp [zeros])
  clear e
  simp only [put_zero] at hs
  refine ⟨sM, rfl, hs.row0 .z, ?_⟩
  replace hs := hs.drop
  intro sb _ hn; replace hs := Sat.new hs hn; clear hn
  refine ⟨Sat.can hs (i := 0) .z (by simp [zeros, sM]), ?_⟩
  intro h3 e
  replace hs := Sat.wra hs (i := 0) .z e (by simp [zeros, sM])
  clear e
  simp only [put_zero] at hs
  unfold F_portcullisref02_rounds G_portcullisref02_rounds
  simp only [add_mk, Nat.zero_add, List.append_nil]
  intro kb _ hn; replace hs := Sat.new hs hn; clear hn
  refine ⟨Sat.can hs (i := 0) .z (by simp [zeros]), ?_⟩
  intro h4 e
  replace hs := Sat.wra hs (i := 0) .z e (by simp [zeros])
  clear e
  simp only [put_zero] at hs
  refine ⟨kM, rfl, hs.row0 .z, ?_⟩
  replace hs := hs.drop
  intro kc _ hn; replace hs := Sat.new hs hn; clear hn
  refine ⟨Sat.can hs (i := 0) .z (by simp [zeros, kM_len]), ?_⟩
  intro h5 e
  replace hs := Sat.wra hs (i := 0) .z e (by simp [zeros, kM_len])
  clear e
  simp only [put_zero] at hs
  intro J30 hJ30
  refine loopN N (fun t (_ : Unit) => [.dv (.one (.int .i64 ((64 * t : Nat) : Int)))]) (fun t _ h => Sat h0 (blk kc (ints .u32 kM) :: blk sb (ints .u32 (stM F t)) :: slE p1 (64 * N) c1 1 (ints .u8 F) :: blk rb (ints .u8 (zeros 32)) :: A) h) ?_ ?_ 0 () _ (by omega) hs
  · rintro t _ h6 ht hs hk
    apply hJ30
    rw [ltI_eq, if_pos (by rw [decide_eq_true_iff]; omega)]
    have e64 : IntKind.i64.wrap (((64 * t : Nat) : Int) + 64) = ((64 * (t + 1) : Nat) : Int) := by rw [wrap_id (by omega)]; push_cast; omega
    rw [e64]
    simp only [Int.toNat_natCast]
    have hsl := stM_len F t
    refine ⟨stM F t, hsl, hs.row0 (i := 1) (.s .z), by omega, by omega, by omega, kM, kM_len, hs.row0 (i := 0) .z, ?_⟩
    rw [show 64 * (t + 1) - 64 * t = 64 by omega]
    refine piece_sp (bs := blkM F t) hs hsl (isBy_blk hbF t) (Nat.le_refl _) (fun h' hs' => subRd (o := 64 * t) (n := 64) (m := c1) (hs'.sv (i := 2) (.s (.s .z))) (by omega) (by omega)) ?_
    intro h7 hs
    have hpl : (pieceM (stM F t) (blkM F t)).length = 8 := pieceM_len hsl
    refine ⟨Sat.can hs (i := 1) (.s .z) (by simp [hsl]), ?_⟩
    intro h8 e
    replace hs := Sat.wra hs (i := 1) (.s .z) e (by simp [hsl, hpl])
    clear e
    simp only [put_succ, put_zero] at hs
    exact hk () _ hs
  · rintro _ h6 hs
    apply hJ30
    clear hJ30
    rw [ltI_eq, if_neg (by rw [decide_eq_true_iff]; omega)]
    obtain ⟨S, hS⟩ : ∃ S, S = stM F N := ⟨_, rfl⟩
    have hSl : S.length = 8 := by rw [hS]; exact stM_len F N
    have hsh : shaM ms = oM S 32 := by unfold shaM; rw [← hF, ← hN, hS]
    rw [← hS] at hs
    intro ob _ hn; replace hs := Sat.new hs hn; clear hn
    refine ⟨Sat.can hs (i := 0) .z (by simp [zeros]), ?_⟩
    intro h7 e
    replace hs := Sat.wra hs (i := 0) .z e rfl
    clear e
    simp only [put_zero] at hs
    intro J44 hJ44
    refine loop_up 32 (fun t h => Sat h0 (blk ob (ints .u8 (oM S t)) :: blk kc (ints .u32 kM) :: blk sb (ints .u32 S) :: slE p1 (64 * N) c1 1 (ints .u8 F) :: blk rb (ints .u8 (zeros 32)) :: A) h) ?_ ?_ 0 _ (by omega) hs
    · intro t h8 ht hs hk
      apply hJ44
      rw [ltI_eq, if_pos (by simp; omega)]
      have hol := oM_len S t
      have ed : IntKind.i64.wrap ((t : Int).tdiv 4) = ((t / 4 : Nat) : Int) := by
        rw [Int.tdiv_eq_ediv_of_nonneg (by omega), wrap_id (by omega)]; omega
      have em : IntKind.i64.wrap (24 - IntKind.i64.wrap (8 * (t : Int).tmod 4)) = ((24 - 8 * (t % 4) : Nat) : Int) := by
        rw [Int.tmod_eq_emod_of_nonneg (by omega), wrap_id (n := 8 * ((t : Int) % 4)) (by omega), wrap_id (by omega)]; omega
      rw [ed, em]
      simp only [Int.toNat_natCast, Nat.mul_one]
      refine ⟨by decide, by omega, by omega, _, hs.ld (i := 2) (.s (.s .z)) (intsG (by omega)), by decide, by omega, by omega, by omega, ?_⟩
      refine ⟨Sat.can hs (i := 0) .z (by simp [hol]; omega), ?_⟩
      intro h9 e
      replace hs := Sat.wr hs (i := 0) .z e
      clear e
      rw [intsP] at hs
      simp only [put_zero] at hs
      rw [wrap_succ (by omega)]
      exact hk _ hs
    · intro h8 hs
      apply hJ44
      rw [ltI_eq, if_neg (by decide)]
      rw [← hsh] at hs
      refine ⟨_, shaM_len ms, hs.row0 (i := 0) .z, ?_⟩
      refine ⟨Sat.can hs (i := 4) (.s (.s (.s (.s .z)))) (by simp [zeros]), ?_⟩
      intro h9 e
      replace hs := Sat.wra hs (i := 4) (.s (.s (.s (.s .z)))) e (by simp [zeros, shaM_len])
      clear e
      simp only [put_succ, put_zero] at hs
      exact ⟨_, shaM_len ms, hs.row0 (i := 4) (.s (.s (.s (.s .z)))), k _ hs.drop.drop.drop.drop.drop⟩
end
end Go.Proofs.YtijcpgahmbkijaaGreatDoor
end

/- HMAC as the document has it. Own work. -/
section
set_option maxRecDepth 100000
set_option linter.unusedVariables false
namespace Go.Proofs.YtijcpgahmbkijaaGreatDoor
open Go Go.Vc

def ovM (x : Int) (bs : List Int) : List Int := bs.map fun b => bits .xor .u8 b x
theorem xor_by (a b : Int) : 0 ≤ bits .xor .u8 a b ∧ bits .xor .u8 a b < 256 := by
  have : bits .xor .u8 a b = IntKind.u8.wrap ((BitVec.ofInt 8 a ^^^ BitVec.ofInt 8 b).toNat : Int) := rfl
  rw [this, IntKind.wrap_u8]; omega
theorem isBy_ov (x : Int) (bs : List Int) : isBy (ovM x bs) := by
  intro v hv
  unfold ovM at hv
  obtain ⟨b, _, rfl⟩ := List.mem_map.1 hv
  exact xor_by _ _
theorem xM_get (kb : List Int) (x : Int) : ∀ t j, t ≤ 64 → j < 64 → (xM kb x t).getD j 0 = if j < t then bits .xor .u8 (kb.getD j 0) x else 0
  | 0, j, _, hj => by
    show (zeros 64).getD j 0 = _
    rw [if_neg (by omega), zerosD]
  | t + 1, j, ht, hj => by
    have ih := xM_get kb x t j (by omega) hj
    show ((xM kb x t).set t _).getD j 0 = _
    rw [setD, xM_len, ih]
    by_cases c : t = j
    · subst c
      rw [if_pos ⟨rfl, hj⟩, if_pos (by omega)]
    · rw [if_neg (fun y => c y.1)]
      by_cases c1 : j < t
      · rw [if_pos c1, if_pos (by omega)]
      · rw [if_neg c1, if_neg (by omega)]
theorem xM_ov {kb : List Int} (x : Int) (h : kb.length = 64) : xM kb x 64 = ovM x kb := by
  refine ext_getD (by rw [xM_len]; simp [ovM, h]) ?_
  intro j hj
  rw [xM_len] at hj
  rw [xM_get kb x 64 j (by decide) hj, if_pos hj]
  unfold ovM
  rw [List.getD_eq_getElem?_getD, List.getD_eq_getElem?_getD, List.getElem?_map, List.getElem?_eq_getElem (by omega)]
  rfl
theorem isBy_sha (ms : List Int) : isBy (shaM ms) := by
  have : ∀ s t, isBy (oM s t) := by
    intro s t
    induction t with
    | zero => exact isBy_zeros 32
    | succ t ih =>
      intro v hv
      have hv : v ∈ (oM s t).set t (outB s t) := hv
      rcases List.mem_or_eq_of_mem_set hv with h | h
      · exact ih v h
      · rw [h]; unfold outB; rw [IntKind.wrap_u8]; omega
  exact this _ _
theorem isBy_mac (key b : List Int) : isBy (macM key b) := isBy_sha _
section
variable {h0 h : H} {A : List Ent} {i d : Nat}
theorem fill_sp {Q : Option Addr → Nat → Nat → H → Prop} {ms : List Int} {p : Option Addr} {l c : Nat} (hs : Sat h0 (slE p l c 1 (ints .u8 ms) :: A) h) (hl : l ≤ 64)
    (k : ∀ p' c' h', Sat h0 (slE p' 64 c' 1 (ints .u8 (ms ++ zeros (64 - l))) :: A) h' → Q p' 64 c' h') :
    ∀ (J21 : List SV → H → Prop), (∀ (o22 : Option Addr) (n23 n24 : Nat) (h25 : H), (if ltI (n23 : Int) 64 = true then ∀ (n26 : Nat) (h27 : H), hnew h25 n26 [.int .u8 0] h27 → ∃ l29 : List Value, hsv h27 (some ⟨n26, 0, none⟩) 1 1 l29 ∧ pApp h27 1 [.int .u8 0] 1 o22 n23 n24 1 l29 fun o30 n31 n32 h33 => J21 [.dv (.one (.slice o30 n31 n32))] h33
      else Q o22 n23 n24 h25) → J21 [.dv (.one (.slice o22 n23 n24))] h25) → J21 [.dv (.one (.slice p l c))] h := by
  intro J hJ
  refine loopN (64 - l) (fun t (s : Option Addr × Nat) => [.dv (.one (.slice s.1 (l + t) s.2))]) (fun t s h => Sat h0 (slE s.1 (l + t) s.2 1 (ints .u8 (ms ++ zeros t)) :: A) h) ?_ ?_ 0 (p, c) _ (by omega) (by simpa [zeros] using hs)
  · rintro t ⟨p3, c3⟩ h3 ht hs hk
    dsimp only at hs hk ⊢
    apply hJ
    rw [ltI_eq, if_pos (by rw [decide_eq_true_iff]; omega)]
    intro b _ hn; replace hs := Sat.new hs hn; clear hn
    refine ⟨_, hs.bv (i := 0) (l := 1) .z rfl (ints_one .u8 [0]), ?_⟩
    refine Sat.app hs (i := 1) (vs := ints .u8 [0]) (.s .z) rfl rfl (ints_one _ _) (by omega) ?_
    intro p4 c4 h4 hs
    simp only [put_succ, put_zero] at hs
    rw [← intsApp] at hs
    refine hk (p4, c4) h4 ?_
    have ez : ms ++ zeros (t + 1) = ms ++ zeros t ++ [0] := by
      unfold zeros
      rw [List.replicate_succ', List.append_assoc]
    dsimp only
    rw [ez]
    exact hs.drop
  · rintro ⟨p3, c3⟩ h3 hs
    dsimp only at hs ⊢
    apply hJ
    have e64 : l + (64 - l) = 64 := by omega
    rw [e64] at hs ⊢
    rw [ltI_eq, if_neg (by decide)]
    exact k _ _ _ hs
theorem block_sp {Q : Option Addr → Nat → Nat → H → Prop} {key : List Int} {p : Option Addr} {l c : Nat} (hs : Sat h0 A h) (hb : isBy key) (hl : l < 2 ^ 46) (rd : ∀ h', Sat h0 A h' → hsv h' p 1 l (ints .u8 key))
    (k : ∀ p' c' h', Sat h0 (slE p' 64 c' 1 (ints .u8 (kbM key)) :: A) h' → Q p' 64 c' h') : F_portcullisref03_block p l c Q h := by
  unfold F_portcullisref03_block G_portcullisref03_block
  simp only [add_mk, Nat.zero_add, List.append_nil]
  have hkl : key.length = l := by have := (rd _ hs).1; simpa using this
  intro eb _ hn; replace hs := Sat.new hs hn; clear hn
  rw [ltI_eq]
  by_cases g : 64 < l
  · rw [if_pos (by rw [decide_eq_true_iff]; omega)]
    have ek : keyM key = shaM key := by unfold keyM; rw [if_pos (by omega)]
    have ekb : kbM key = shaM key ++ zeros (64 - 32) := by unfold kbM; rw [ek, shaM_len]
    refine rof_sp (ms := key) hs hb hl (fun h' hs' => rd _ hs'.drop) ?_
    intro h1 hs
    intro hb' _ hn; replace hs := Sat.new hs hn; clear hn
    refine ⟨Sat.can hs (i := 0) .z (by simp [zeros]), ?_⟩
    intro h2 e
    replace hs := Sat.wra hs (i := 0) .z e (by simp [zeros, shaM_len])
    clear e
    simp only [put_zero] at hs
    have sub0 : subAddr (some ⟨hb', 0, none⟩) 0 32 1 = some ⟨hb', 0, none⟩ := by unfold subAddr; simp
    rw [sub0]
    refine ⟨_, hs.bv (i := 0) (l := 32) .z (by simp [shaM_len]) (ints_one _ _), ?_⟩
    refine Sat.app_new hs (by simp [shaM_len]) rfl (ints_one _ _) (by decide) ?_
    intro p3 c3 h3 hs
    refine fill_sp hs (by decide) ?_
    intro p4 c4 h4 hs
    rw [← ekb] at hs
    exact k _ _ _ (hs.sub (by (repeat (first | exact List.Sublist.refl _ | apply List.Sublist.cons_cons | apply List.Sublist.cons))))
  · rw [if_neg (by rw [decide_eq_true_iff]; omega)]
    have ek : keyM key = key := by unfold keyM; rw [if_neg (by omega)]
    have ekb : kbM key = key ++ zeros (64 - l) := by unfold kbM; rw [ek, hkl]
    refine ⟨_, rd _ hs.drop, ?_⟩
    refine Sat.app_new hs (by simp [hkl]) rfl (ints_one _ _) (by omega) ?_
    intro p3 c3 h3 hs
    refine fill_sp hs (by omega) ?_
    intro p4 c4 h4 hs
    rw [← ekb] at hs
    exact k _ _ _ (hs.sub (by (repeat (first | exact List.Sublist.refl _ | apply List.Sublist.cons_cons | apply List.Sublist.cons))))
theorem over_sp {Q : Option Addr → Nat → Nat → H → Prop} {bs : List Int} {p : Option Addr} {l c : Nat} (x : Int) (hs : Sat h0 A h) (hl : l < 2 ^ 46) (rd : ∀ h', Sat h0 A h' → hsv h' p 1 l (ints .u8 bs))
    (k : ∀ p' c' h', Sat h0 (slE p' l c' 1 (ints .u8 (ovM x bs)) :: A) h' → Q p' l c' h') : F_portcullisref03_over p l c x Q h := by
  unfold F_portcullisref03_over G_portcullisref03_over
  have hbl : bs.length = l := by have := (rd _ hs).1; simpa using this
  intro eb _ hn; replace hs := Sat.new hs hn; clear hn
  intro J hJ
  refine loopN l (fun t (s : Option Addr × Nat) => [.dv (.one (.slice s.1 t s.2)), si t]) (fun t s h => Sat h0 (slE s.1 t s.2 1 (ints .u8 (ovM x (bs.take t))) :: A) h) ?_ ?_ 0 (some ⟨eb, 0, none⟩, 0) _ (by omega) (by simpa [ovM] using hs.drop.sl_nil 1 _)
  · rintro t ⟨p3, c3⟩ h3 ht hs hk
    dsimp only at hs hk ⊢
    apply hJ
    rw [ltI_eq, if_pos (by rw [decide_eq_true_iff]; omega)]
    obtain ⟨q, hq, g⟩ := hsvI (rd _ hs.drop) (x := t) ht
    refine ⟨q, hq, by omega, by omega, ?_⟩
    simp only [Int.toNat_natCast, Nat.mul_one]
    refine ⟨_, g, ?_⟩
    intro b _ hn; replace hs := Sat.new hs hn; clear hn
    refine ⟨_, hs.bv (i := 0) (l := 1) .z rfl (ints_one .u8 [bits .xor .u8 (bs.getD t 0) x]), ?_⟩
    refine Sat.app hs (i := 1) (vs := ints .u8 [bits .xor .u8 (bs.getD t 0) x]) (.s .z) rfl rfl (ints_one _ _) (by omega) ?_
    intro p4 c4 h4 hs
    simp only [put_succ, put_zero] at hs
    rw [← intsApp] at hs
    rw [wrap_succ (by omega)]
    refine hk (p4, c4) h4 ?_
    dsimp only
    rw [takeS bs (by omega)]
    have : ovM x (bs.take t ++ [bs.getD t 0]) = ovM x (bs.take t) ++ [bits .xor .u8 (bs.getD t 0) x] := by unfold ovM; rw [List.map_append]; rfl
    rw [this]
    exact hs.drop
  · rintro ⟨p3, c3⟩ h3 hs
    dsimp only at hs ⊢
    apply hJ
    rw [ltI_eq, if_neg (by simp)]
    rw [List.take_of_length_le (by omega)] at hs
    exact k _ _ _ hs
theorem rmac_sp {Q : List Int → H → Prop} {key b : List Int} {kp bp : Option Addr} {kl kc bl bc : Nat} (hs : Sat h0 A h) (hkb : isBy key) (hbb : isBy b) (hk : kl < 2 ^ 45) (hb : bl < 2 ^ 45) (rk : ∀ h', Sat h0 A h' → hsv h' kp 1 kl (ints .u8 key)) (rb : ∀ h', Sat h0 A h' → hsv h' bp 1 bl (ints .u8 b))
    (k : ∀ h', Sat h0 A h' → Q (macM key b) h') : F_portcullisref03_Of kp kl kc bp bl bc Q h := by
  unfold F_portcullisref03_Of G_portcullisref03_Of
  simp only [add_mk, Nat.zero_add, List.append_nil]
  have hbl : b.length = bl := by have := (rb _ hs).1; simpa using this
  intro ob _ hn; replace hs := Sat.new hs hn; clear hn
  refine block_sp (key := key) hs hkb (by omega) (fun h' hs' => rk _ hs'.drop) ?_
  intro p1 c1 h1 hs
  have hkl := kbM_len key
  refine over_sp 54 hs (by decide) (fun h' hs' => hs'.sv (i := 0) .z) ?_
  intro p2 c2 h2 hs
  rw [← xM_ov 54 hkl] at hs
  refine ⟨_, rb _ hs.drop.drop.drop, ?_⟩
  refine Sat.app hs (i := 0) (vs := ints .u8 b) .z (by simp [hbl]) rfl (ints_one _ _) (by omega) ?_
  intro p3 c3 h3 hs
  simp only [put_zero] at hs
  rw [← intsApp] at hs
  have bi : isBy (xM (kbM key) 54 64) := by rw [xM_ov 54 hkl]; exact isBy_ov _ _
  have bo : isBy (xM (kbM key) 92 64) := by rw [xM_ov 92 hkl]; exact isBy_ov _ _
  refine rof_sp (ms := innerM key ++ b) hs (isBy_app bi hbb) (by omega) (fun h' hs' => hs'.sv (i := 0) .z) ?_
  intro h4 hs
  obtain ⟨I, hI⟩ : ∃ I, I = shaM (innerM key ++ b) := ⟨_, rfl⟩
  have hIl : I.length = 32 := by rw [hI]; exact shaM_len _
  have hIb : isBy I := by rw [hI]; exact isBy_sha _
  rw [← hI]
  intro hb' _ hn; replace hs := Sat.new hs hn; clear hn
  refine ⟨Sat.can hs (i := 0) .z (by simp [zeros]), ?_⟩
  intro h5 e
  replace hs := Sat.wra hs (i := 0) .z e (by simp [zeros, hIl])
  clear e
  simp only [put_zero] at hs
  refine over_sp 92 hs (by decide) (fun h' hs' => hs'.sv (i := 2) (.s (.s .z))) ?_
  intro p6 c6 h6 hs
  rw [← xM_ov 92 hkl] at hs
  refine ⟨_, hs.bv (i := 1) (l := 32) (.s .z) (by simp [hIl]) (ints_one _ _), ?_⟩
  refine Sat.app hs (i := 0) (vs := ints .u8 I) .z (by simp [hIl]) rfl (ints_one _ _) (by decide) ?_
  intro p7 c7 h7 hs
  simp only [put_zero] at hs
  rw [← intsApp] at hs
  refine rof_sp (ms := outerM key ++ I) hs (isBy_app bo hIb) (by decide) (fun h' hs' => hs'.sv (i := 0) .z) ?_
  intro h8 hs
  have em : shaM (outerM key ++ I) = macM key b := by unfold macM; rw [hI]
  rw [em]
  refine ⟨Sat.can hs (i := 4) (.s (.s (.s (.s .z)))) (by simp [zeros]), ?_⟩
  intro h9 e
  replace hs := Sat.wra hs (i := 4) (.s (.s (.s (.s .z)))) e (by simp [zeros, macM_len])
  clear e
  simp only [put_succ, put_zero] at hs
  exact ⟨_, macM_len _ _, hs.row0 (i := 4) (.s (.s (.s (.s .z)))), k _ hs.drop.drop.drop.drop.drop⟩
end
end Go.Proofs.YtijcpgahmbkijaaGreatDoor
end

/- Tokens: the document's Narrow, and the message of the first tag. Own work. -/
section
set_option maxRecDepth 100000
set_option linter.unusedVariables false
namespace Go.Proofs.YtijcpgahmbkijaaGreatDoor
open Go Go.Vc
theorem isBy_cb (c : CvM) : isBy (cbM c) := by
  have e : ∀ n t, isBy (eightM n t) := by
    intro n t v hv
    unfold eightM at hv
    obtain ⟨i, _, rfl⟩ := List.mem_map.1 hv
    rw [IntKind.wrap_u8]; omega
  unfold cbM
  refine isBy_app (isBy_app (isBy_app ?_ (e _ _)) (e _ _)) (e _ _)
  intro v hv
  simp only [List.mem_cons, List.not_mem_nil, or_false] at hv
  rcases hv with rfl | rfl <;> (rw [IntKind.wrap_u8]; omega)
section
variable {h0 h : H} {A : List Ent} {i j d : Nat}
theorem rnarrow_sp {Q : Int → Option Addr → Nat → Nat → Option Addr → Nat → Nat → List Int → Int → H → Prop} {key : Int} {id tag : List Int} {cs : List CvM} {ip cp : Option Addr} {il ic cl cc : Nat} (c : CvM) (hs : Sat h0 A h) (ht : tag.length = 32) (htb : isBy tag) (hl : cl < 2 ^ 40) (hi : il < 2 ^ 47)
    (ri : ∀ h', Sat h0 A h' → hsv h' ip 1 il (ints .u8 id)) (rc : ∀ h', Sat h0 A h' → hsv h' cp 5 cl (cvsV cs))
    (k1 : 32 ≤ cs.length → ∀ h', Sat h0 A h' → Q 0 none 0 0 none 0 0 (zeros 32) 3 h')
    (k2 : cs.length < 32 → ¬ c.may → ∀ h', Sat h0 A h' → Q 0 none 0 0 none 0 0 (zeros 32) 1 h')
    (k3 : cs.length < 32 → c.may → ∀ p1 c1 p2 c2 h', Sat h0 (slE p2 (cl + 1) c2 5 (cvsV (cs ++ [c])) :: slE p1 il c1 1 (ints .u8 id) :: A) h' → Q key p1 il c1 p2 (cl + 1) c2 (macM tag (cbM c)) 0 h') :
    F_portcullisref24_Token_Narrow key ip il ic cp cl cc tag c.kind c.slot c.frm c.to c.set Q h := by
  unfold F_portcullisref24_Token_Narrow G_portcullisref24_Token_Narrow
  simp only [add_mk, Nat.zero_add, List.append_nil]
  have hcl : cs.length = cl := by have := (rc _ hs).1; rw [cvsV_len] at this; omega
  have hil : id.length = il := by have := (ri _ hs).1; simpa using this
  intro tb _ hn; replace hs := Sat.new hs hn; clear hn
  intro cb _ hn; replace hs := Sat.new hs hn; clear hn
  intro zb _ hn; replace hs := Sat.new hs hn; clear hn
  replace hs : Sat h0 (blk zb tok0 :: blk cb (cvV c) :: blk tb (tokL key ip il ic cp cl cc tag) :: A) _ := hs
  have bad : ∀ (e : Int) h', Sat h0 (blk zb tok0 :: blk cb (cvV c) :: blk tb (tokL key ip il ic cp cl cc tag) :: A) h' → (∀ h', Sat h0 A h' → Q 0 none 0 0 none 0 0 (zeros 32) e h') →
      hcan h' ⟨zb, 0, none⟩ 35 ∧ ∀ h31 : H, h31 = hwr h' ⟨zb, 0, none⟩ tok0 → ∃ i33 : Int, hc h31 ⟨zb, 0, none⟩ = some (.int .i64 i33) ∧ ∃ (o34 : Option Addr) (n35 n36 : Nat), hc h31 ⟨zb, 1, none⟩ = some (.slice o34 n35 n36) ∧ ∃ (o37 : Option Addr) (n38 n39 : Nat), hc h31 ⟨zb, 2, none⟩ = some (.slice o37 n38 n39) ∧
        ∃ l40 : List Int, l40.length = 32 ∧ hrow h31 ⟨zb, 3, none⟩ .u8 l40 ∧ Q i33 o34 n35 n36 o37 n38 n39 l40 e h31 := by
    intro e h2 hs kk
    refine ⟨Sat.can hs (i := 0) .z (by simp [zeros]), ?_⟩
    intro h3 e3
    replace hs := Sat.wra hs (i := 0) .z e3 rfl
    clear e3
    rw [put_zero] at hs
    exact ⟨_, hs.ld (i := 0) .z rfl, _, _, _, hs.ld (i := 0) .z rfl, _, _, _, hs.ld (i := 0) .z rfl, _, zeros_len 32, tok_row hs (i := 0) .z, kk _ hs.drop.drop.drop⟩
  refine ⟨_, _, _, hs.ld (i := 2) (.s (.s .z)) rfl, ?_⟩
  rw [leI_eq]
  by_cases g : 32 ≤ cl
  · rw [if_pos (by simp; omega)]
    exact bad 3 _ hs (k1 (by omega))
  rw [if_neg (by simp; omega)]
  refine ⟨_, hs.ld (i := 1) (.s .z) rfl, _, hs.ld (i := 1) (.s .z) rfl, _, hs.ld (i := 1) (.s .z) rfl, _, hs.ld (i := 1) (.s .z) rfl, _, hs.ld (i := 1) (.s .z) rfl, ?_⟩
  refine rcmay_sp c hs ?_
  intro h1 hs
  by_cases gm : c.may
  case neg =>
    rw [if_pos (by simp [gm])]
    exact bad 1 _ hs (k2 (by omega) gm)
  rw [if_neg (by simp [gm])]
  have K := k3 (by omega) gm
  clear bad k1 k2 k3
  intro eb _ hn; replace hs := Sat.new hs hn; clear hn
  intro fb _ hn; replace hs := Sat.new hs hn; clear hn
  refine ⟨_, _, _, hs.ld (i := 4) (.s (.s (.s (.s .z)))) rfl, _, rc _ hs.drop.drop.drop.drop.drop, ?_⟩
  refine Sat.app_new hs (by rw [cvsV_len, hcl]) rfl (cvsV_one cs) (by omega) ?_
  intro p2 c2 h2 hs
  replace hs : Sat h0 (slE p2 cl c2 5 (cvsV cs) :: blk zb tok0 :: blk cb (cvV c) :: blk tb (tokL key ip il ic cp cl cc tag) :: A) h2 := hs.sub (by (repeat (first | exact List.Sublist.refl _ | apply List.Sublist.cons_cons | apply List.Sublist.cons)))
  intro J71 hJ71
  have fin : ∀ (nt : Nat) (x : List Value) (p1 : Option Addr) (c1 : Nat) (p2 : Option Addr) (c2 : Nat) (h' : H), x.length = 35 → Sat h0 (blk nt x :: slE p2 (cl + 1) c2 5 (cvsV (cs ++ [c])) :: slE p1 il c1 1 (ints .u8 id) :: blk zb tok0 :: blk cb (cvV c) :: blk tb (tokL key ip il ic cp cl cc tag) :: A) h' →
      hcan h' ⟨nt, 0, none⟩ 35 ∧ ∀ h142 : H, h142 = hwr h' ⟨nt, 0, none⟩ (.int .i64 key :: .slice p1 il c1 :: .slice p2 (cl + 1) c2 :: ints .u8 (zeros 32)) → J71 [.dv (.addr ⟨nt, 0, none⟩)] h142 := by
    intro nt x p1 c1 p2 c2 h3 hx hs
    refine ⟨Sat.can hs (i := 0) .z (by omega), ?_⟩
    intro h4 e
    replace hs := Sat.wra (xs := tokL key p1 il c1 p2 (cl + 1) c2 (zeros 32)) hs (i := 0) .z e (by rw [hx]; simp [zeros])
    clear e
    simp only [put_zero] at hs
    apply hJ71
    refine ⟨_, hs.ld (i := 4) (.s (.s (.s (.s .z)))) rfl, _, hs.ld (i := 4) (.s (.s (.s (.s .z)))) rfl, _, hs.ld (i := 4) (.s (.s (.s (.s .z)))) rfl, _, hs.ld (i := 4) (.s (.s (.s (.s .z)))) rfl, _, hs.ld (i := 4) (.s (.s (.s (.s .z)))) rfl, ?_⟩
    refine rcbytes_sp c hs ?_
    intro p5 c5 h5 hs
    refine rmac_sp (key := tag) (b := cbM c) hs htb (isBy_cb c) (by decide) (by decide) ?_ (fun h' hs' => hs'.sv (i := 0) .z) ?_
    · intro h' hs'
      refine ⟨by simp [ht], ints_one _ _, Or.inr ⟨_, rfl, ?_⟩⟩
      exact tok_row hs' (i := 6) (.s (.s (.s (.s (.s (.s .z))))))
    intro h6 hs
    simp only [add_mk, Nat.zero_add]
    refine ⟨Sat.can hs (i := 1) (.s .z) (by simp [zeros]), ?_⟩
    intro h7 e
    replace hs := Sat.wr hs (i := 1) (.s .z) e
    clear e
    rw [tok_tag (macM_len _ _)] at hs
    simp only [put_succ, put_zero] at hs
    refine ⟨_, hs.ld (i := 1) (.s .z) rfl, _, _, _, hs.ld (i := 1) (.s .z) rfl, _, _, _, hs.ld (i := 1) (.s .z) rfl, _, macM_len _ _, tok_row hs (i := 1) (.s .z), ?_⟩
    refine ⟨Sat.can hs (i := 4) (.s (.s (.s (.s .z)))) (by simp [zeros]), ?_⟩
    intro h8 e
    replace hs := Sat.wra (xs := tokL key p1 il c1 p2 (cl + 1) c2 (macM tag (cbM c))) hs (i := 4) (.s (.s (.s (.s .z)))) e (by simp [zeros, macM_len])
    clear e
    simp only [put_succ, put_zero] at hs
    refine ⟨_, hs.ld (i := 4) (.s (.s (.s (.s .z)))) rfl, _, _, _, hs.ld (i := 4) (.s (.s (.s (.s .z)))) rfl, _, _, _, hs.ld (i := 4) (.s (.s (.s (.s .z)))) rfl, _, macM_len _ _, tok_row hs (i := 4) (.s (.s (.s (.s .z)))), ?_⟩
    exact K _ _ _ _ _ (hs.sub (by (repeat (first | exact List.Sublist.refl _ | apply List.Sublist.cons_cons | apply List.Sublist.cons))))
  clear hJ71
  have t35 : (tok0).length = 35 := by simp [zeros]
  have c0 : ∀ {B : List Ent} {h' : H} {x : Nat}, Sat h0 B h' → At B x (blk tb (tokL key ip il ic cp cl cc tag)) → hcs h' ⟨tb, 0, none⟩ [.int .i64 key] := fun s a => hcs_one (s.ld a rfl)
  have cI : ∀ {B : List Ent} {h' : H} {x : Nat}, Sat h0 B h' → At B x (blk tb (tokL key ip il ic cp cl cc tag)) → hcs h' ⟨tb, 1, none⟩ [.slice ip il ic] := fun s a => hcs_one (s.ld a rfl)
  have cC : ∀ {B : List Ent} {h' : H} {x : Nat}, Sat h0 B h' → At B x (blk cb (cvV c)) → hcs h' ⟨cb, 0, none⟩ (cvV c) := fun s a => s.cs a rfl
  refine ⟨_, hs.ld (i := 3) (.s (.s (.s .z))) rfl, _, _, _, hs.ld (i := 3) (.s (.s (.s .z))) rfl, ?_⟩
  refine ⟨_, hs.ld (i := 2) (.s (.s .z)) rfl, _, hs.ld (i := 2) (.s (.s .z)) rfl, _, hs.ld (i := 2) (.s (.s .z)) rfl, _, hs.ld (i := 2) (.s (.s .z)) rfl, _, hs.ld (i := 2) (.s (.s .z)) rfl, ?_⟩
  refine ⟨?_, ?_⟩
  · skip
    refine ⟨_, ri _ hs.drop.drop.drop.drop, ?_⟩
    refine Sat.app_new hs (by simp [hil]) rfl (ints_one _ _) (by omega) ?_
    intro p1 c1 h3 hs
    refine ⟨cC hs (x := 3) (.s (.s (.s .z))), ?_⟩
    refine ⟨c0 hs (x := 4) (.s (.s (.s (.s .z)))), ?_⟩
    refine ⟨?_, ?_⟩
    · skip
      intro bb _ hn; replace hs := Sat.new hs hn; clear hn
      refine ⟨c0 hs (x := 5) (.s (.s (.s (.s (.s .z))))), ?_⟩
      refine ⟨?_, ?_⟩
      · skip
        refine ⟨_, hs.bv (i := 0) (l := 1) (sz := 5) .z rfl (cv1 c), ?_⟩
        refine Sat.app hs (i := 2) (vs := cvV c) (.s (.s .z)) rfl rfl (cv1 c) (by omega) ?_
        intro p3 c3 h4 hs
        simp only [put_succ, put_zero] at hs
        rw [← cvsV_snoc] at hs
        refine ⟨c0 hs (x := 5) (.s (.s (.s (.s (.s .z))))), ?_⟩
        intro nt _ hn; replace hs := Sat.new hs hn; clear hn
        refine ⟨c0 hs (x := 6) (.s (.s (.s (.s (.s (.s .z)))))), ?_⟩
        replace hs := hs.front (e := blk bb (cvV c)) (i := 1) (.s .z)
        simp only [del] at hs
        replace hs := hs.drop
        replace hs := hs.front (e := slE p1 il c1 1 (ints .u8 id)) (i := 1) (.s .z)
        simp only [del] at hs
        replace hs := hs.front (e := slE p3 (cl + 1) c3 5 (cvsV (cs ++ [c]))) (i := 2) (.s (.s .z))
        simp only [del] at hs
        replace hs := hs.front (e := blk nt tok0) (i := 2) (.s (.s .z))
        simp only [del] at hs
        exact fin nt _ p1 c1 p3 c3 _ t35 hs
      · skip
        intro nt _ hn; replace hs := Sat.new hs hn; clear hn
        refine ⟨c0 hs (x := 6) (.s (.s (.s (.s (.s (.s .z)))))), ?_⟩
        refine ⟨_, hs.bv (i := 1) (l := 1) (sz := 5) (.s .z) rfl (cv1 c), ?_⟩
        refine Sat.app hs (i := 3) (vs := cvV c) (.s (.s (.s .z))) rfl rfl (cv1 c) (by omega) ?_
        intro p3 c3 h4 hs
        simp only [put_succ, put_zero] at hs
        rw [← cvsV_snoc] at hs
        refine ⟨c0 hs (x := 6) (.s (.s (.s (.s (.s (.s .z)))))), ?_⟩
        replace hs := hs.front (e := blk bb (cvV c)) (i := 1) (.s .z)
        simp only [del] at hs
        replace hs := hs.drop
        replace hs := hs.front (e := slE p1 il c1 1 (ints .u8 id)) (i := 1) (.s .z)
        simp only [del] at hs
        replace hs := hs.front (e := slE p3 (cl + 1) c3 5 (cvsV (cs ++ [c]))) (i := 2) (.s (.s .z))
        simp only [del] at hs
        replace hs := hs.front (e := blk nt tok0) (i := 2) (.s (.s .z))
        simp only [del] at hs
        exact fin nt _ p1 c1 p3 c3 _ t35 hs
    · skip
      intro nt _ hn; replace hs := Sat.new hs hn; clear hn
      refine ⟨cC hs (x := 4) (.s (.s (.s (.s .z)))), ?_⟩
      refine ⟨c0 hs (x := 5) (.s (.s (.s (.s (.s .z))))), ?_⟩
      intro bb _ hn; replace hs := Sat.new hs hn; clear hn
      refine ⟨c0 hs (x := 6) (.s (.s (.s (.s (.s (.s .z)))))), ?_⟩
      refine ⟨_, hs.bv (i := 0) (l := 1) (sz := 5) .z rfl (cv1 c), ?_⟩
      refine Sat.app hs (i := 3) (vs := cvV c) (.s (.s (.s .z))) rfl rfl (cv1 c) (by omega) ?_
      intro p3 c3 h4 hs
      simp only [put_succ, put_zero] at hs
      rw [← cvsV_snoc] at hs
      refine ⟨c0 hs (x := 6) (.s (.s (.s (.s (.s (.s .z)))))), ?_⟩
      replace hs := hs.front (e := blk bb (cvV c)) (i := 0) .z
      simp only [del] at hs
      replace hs := hs.drop
      replace hs := hs.front (e := slE p1 il c1 1 (ints .u8 id)) (i := 1) (.s .z)
      simp only [del] at hs
      replace hs := hs.front (e := slE p3 (cl + 1) c3 5 (cvsV (cs ++ [c]))) (i := 2) (.s (.s .z))
      simp only [del] at hs
      replace hs := hs.front (e := blk nt tok0) (i := 2) (.s (.s .z))
      simp only [del] at hs
      exact fin nt _ p1 c1 p3 c3 _ t35 hs
  · skip
    refine ⟨?_, ?_⟩
    · skip
      intro bb _ hn; replace hs := Sat.new hs hn; clear hn
      refine ⟨cI hs (x := 4) (.s (.s (.s (.s .z)))), ?_⟩
      refine ⟨c0 hs (x := 4) (.s (.s (.s (.s .z)))), ?_⟩
      refine ⟨?_, ?_⟩
      · skip
        refine ⟨_, ri _ hs.drop.drop.drop.drop.drop, ?_⟩
        refine Sat.app_new hs (by simp [hil]) rfl (ints_one _ _) (by omega) ?_
        intro p1 c1 h3 hs
        refine ⟨c0 hs (x := 5) (.s (.s (.s (.s (.s .z))))), ?_⟩
        refine ⟨?_, ?_⟩
        · skip
          refine ⟨_, hs.bv (i := 1) (l := 1) (sz := 5) (.s .z) rfl (cv1 c), ?_⟩
          refine Sat.app hs (i := 2) (vs := cvV c) (.s (.s .z)) rfl rfl (cv1 c) (by omega) ?_
          intro p3 c3 h4 hs
          simp only [put_succ, put_zero] at hs
          rw [← cvsV_snoc] at hs
          refine ⟨c0 hs (x := 5) (.s (.s (.s (.s (.s .z))))), ?_⟩
          intro nt _ hn; replace hs := Sat.new hs hn; clear hn
          refine ⟨c0 hs (x := 6) (.s (.s (.s (.s (.s (.s .z)))))), ?_⟩
          replace hs := hs.front (e := blk bb (cvV c)) (i := 2) (.s (.s .z))
          simp only [del] at hs
          replace hs := hs.drop
          replace hs := hs.front (e := slE p1 il c1 1 (ints .u8 id)) (i := 1) (.s .z)
          simp only [del] at hs
          replace hs := hs.front (e := slE p3 (cl + 1) c3 5 (cvsV (cs ++ [c]))) (i := 2) (.s (.s .z))
          simp only [del] at hs
          replace hs := hs.front (e := blk nt tok0) (i := 2) (.s (.s .z))
          simp only [del] at hs
          exact fin nt _ p1 c1 p3 c3 _ t35 hs
        · skip
          intro nt _ hn; replace hs := Sat.new hs hn; clear hn
          refine ⟨c0 hs (x := 6) (.s (.s (.s (.s (.s (.s .z)))))), ?_⟩
          refine ⟨_, hs.bv (i := 2) (l := 1) (sz := 5) (.s (.s .z)) rfl (cv1 c), ?_⟩
          refine Sat.app hs (i := 3) (vs := cvV c) (.s (.s (.s .z))) rfl rfl (cv1 c) (by omega) ?_
          intro p3 c3 h4 hs
          simp only [put_succ, put_zero] at hs
          rw [← cvsV_snoc] at hs
          refine ⟨c0 hs (x := 6) (.s (.s (.s (.s (.s (.s .z)))))), ?_⟩
          replace hs := hs.front (e := blk bb (cvV c)) (i := 2) (.s (.s .z))
          simp only [del] at hs
          replace hs := hs.drop
          replace hs := hs.front (e := slE p1 il c1 1 (ints .u8 id)) (i := 1) (.s .z)
          simp only [del] at hs
          replace hs := hs.front (e := slE p3 (cl + 1) c3 5 (cvsV (cs ++ [c]))) (i := 2) (.s (.s .z))
          simp only [del] at hs
          replace hs := hs.front (e := blk nt tok0) (i := 2) (.s (.s .z))
          simp only [del] at hs
          exact fin nt _ p1 c1 p3 c3 _ t35 hs
      · skip
        intro nt _ hn; replace hs := Sat.new hs hn; clear hn
        refine ⟨cI hs (x := 5) (.s (.s (.s (.s (.s .z))))), ?_⟩
        refine ⟨c0 hs (x := 5) (.s (.s (.s (.s (.s .z))))), ?_⟩
        refine ⟨_, ri _ hs.drop.drop.drop.drop.drop.drop, ?_⟩
        refine Sat.app_new hs (by simp [hil]) rfl (ints_one _ _) (by omega) ?_
        intro p1 c1 h3 hs
        refine ⟨c0 hs (x := 6) (.s (.s (.s (.s (.s (.s .z)))))), ?_⟩
        refine ⟨_, hs.bv (i := 2) (l := 1) (sz := 5) (.s (.s .z)) rfl (cv1 c), ?_⟩
        refine Sat.app hs (i := 3) (vs := cvV c) (.s (.s (.s .z))) rfl rfl (cv1 c) (by omega) ?_
        intro p3 c3 h4 hs
        simp only [put_succ, put_zero] at hs
        rw [← cvsV_snoc] at hs
        refine ⟨c0 hs (x := 6) (.s (.s (.s (.s (.s (.s .z)))))), ?_⟩
        replace hs := hs.front (e := blk bb (cvV c)) (i := 2) (.s (.s .z))
        simp only [del] at hs
        replace hs := hs.drop
        replace hs := hs.front (e := slE p1 il c1 1 (ints .u8 id)) (i := 0) .z
        simp only [del] at hs
        replace hs := hs.front (e := slE p3 (cl + 1) c3 5 (cvsV (cs ++ [c]))) (i := 2) (.s (.s .z))
        simp only [del] at hs
        replace hs := hs.front (e := blk nt tok0) (i := 2) (.s (.s .z))
        simp only [del] at hs
        exact fin nt _ p1 c1 p3 c3 _ t35 hs
    · skip
      intro nt _ hn; replace hs := Sat.new hs hn; clear hn
      refine ⟨cC hs (x := 3) (.s (.s (.s .z))), ?_⟩
      refine ⟨cI hs (x := 4) (.s (.s (.s (.s .z)))), ?_⟩
      refine ⟨c0 hs (x := 4) (.s (.s (.s (.s .z)))), ?_⟩
      refine ⟨?_, ?_⟩
      · skip
        refine ⟨_, ri _ hs.drop.drop.drop.drop.drop, ?_⟩
        refine Sat.app_new hs (by simp [hil]) rfl (ints_one _ _) (by omega) ?_
        intro p1 c1 h3 hs
        refine ⟨cC hs (x := 4) (.s (.s (.s (.s .z)))), ?_⟩
        refine ⟨c0 hs (x := 5) (.s (.s (.s (.s (.s .z))))), ?_⟩
        intro bb _ hn; replace hs := Sat.new hs hn; clear hn
        refine ⟨c0 hs (x := 6) (.s (.s (.s (.s (.s (.s .z)))))), ?_⟩
        refine ⟨_, hs.bv (i := 0) (l := 1) (sz := 5) .z rfl (cv1 c), ?_⟩
        refine Sat.app hs (i := 3) (vs := cvV c) (.s (.s (.s .z))) rfl rfl (cv1 c) (by omega) ?_
        intro p3 c3 h4 hs
        simp only [put_succ, put_zero] at hs
        rw [← cvsV_snoc] at hs
        refine ⟨c0 hs (x := 6) (.s (.s (.s (.s (.s (.s .z)))))), ?_⟩
        replace hs := hs.front (e := blk bb (cvV c)) (i := 0) .z
        simp only [del] at hs
        replace hs := hs.drop
        replace hs := hs.front (e := slE p1 il c1 1 (ints .u8 id)) (i := 0) .z
        simp only [del] at hs
        replace hs := hs.front (e := slE p3 (cl + 1) c3 5 (cvsV (cs ++ [c]))) (i := 2) (.s (.s .z))
        simp only [del] at hs
        replace hs := hs.front (e := blk nt tok0) (i := 2) (.s (.s .z))
        simp only [del] at hs
        exact fin nt _ p1 c1 p3 c3 _ t35 hs
      · skip
        intro bb _ hn; replace hs := Sat.new hs hn; clear hn
        refine ⟨cI hs (x := 5) (.s (.s (.s (.s (.s .z))))), ?_⟩
        refine ⟨c0 hs (x := 5) (.s (.s (.s (.s (.s .z))))), ?_⟩
        refine ⟨_, ri _ hs.drop.drop.drop.drop.drop.drop, ?_⟩
        refine Sat.app_new hs (by simp [hil]) rfl (ints_one _ _) (by omega) ?_
        intro p1 c1 h3 hs
        refine ⟨c0 hs (x := 6) (.s (.s (.s (.s (.s (.s .z)))))), ?_⟩
        refine ⟨_, hs.bv (i := 1) (l := 1) (sz := 5) (.s .z) rfl (cv1 c), ?_⟩
        refine Sat.app hs (i := 3) (vs := cvV c) (.s (.s (.s .z))) rfl rfl (cv1 c) (by omega) ?_
        intro p3 c3 h4 hs
        simp only [put_succ, put_zero] at hs
        rw [← cvsV_snoc] at hs
        refine ⟨c0 hs (x := 6) (.s (.s (.s (.s (.s (.s .z)))))), ?_⟩
        replace hs := hs.front (e := blk bb (cvV c)) (i := 1) (.s .z)
        simp only [del] at hs
        replace hs := hs.drop
        replace hs := hs.front (e := slE p1 il c1 1 (ints .u8 id)) (i := 0) .z
        simp only [del] at hs
        replace hs := hs.front (e := slE p3 (cl + 1) c3 5 (cvsV (cs ++ [c]))) (i := 2) (.s (.s .z))
        simp only [del] at hs
        replace hs := hs.front (e := blk nt tok0) (i := 2) (.s (.s .z))
        simp only [del] at hs
        exact fin nt _ p1 c1 p3 c3 _ t35 hs
end
end Go.Proofs.YtijcpgahmbkijaaGreatDoor
end

/- Rings of keys, the program's and the document's. Own work. -/
section
set_option maxRecDepth 100000
set_option linter.unusedVariables false
namespace Go.Proofs.YtijcpgahmbkijaaGreatDoor
open Go Go.Vc

abbrev Sec := Int × List Int
/-- A secret in memory. -/
structure SR where
  key : Int
  bytes : List Int
  p : Option Addr
  c : Nat
abbrev SR.kv (x : SR) : Sec := (x.key, x.bytes)
abbrev SR.sl (x : SR) : Ent := slE x.p x.bytes.length x.c 1 (ints .u8 x.bytes)
def SR.at_ (R : List SR) (key : Int) : Option SR := R.find? (fun x => x.key == key)
/-- Secrets that came in. -/
def SecsAt (h : H) (p : Option Addr) (l : Nat) (X : List SR) : Prop := l = X.length ∧ ∀ i (hi : i < X.length), ∃ q, p = some q ∧ hc h (q.add (i * 2)) = some (.int .i64 X[i].key) ∧ hc h ((q.add (i * 2)).add 1) = some (.slice X[i].p X[i].bytes.length X[i].c) ∧ hsv h X[i].p 1 X[i].bytes.length (ints .u8 X[i].bytes) ∧ isBy X[i].bytes ∧ X[i].bytes.length < 2 ^ 47
theorem SecsAt.ext {h0 h : H} {A : List Ent} (hs : Sat h0 A h) {p : Option Addr} {l : Nat} {X : List SR} (s : SecsAt h0 p l X) : SecsAt h p l X := by
  refine ⟨s.1, fun i hi => ?_⟩
  obtain ⟨q, h1, h2, h3, h4, h5, h6⟩ := s.2 i hi
  exact ⟨q, h1, hc_ext hs.ex h2 (fun y => y), hc_ext hs.ex h3 (fun y => y), hs.base h4, h5, h6⟩
section
variable {h0 h : H} {A : List Ent} {i j d r m : Nat}
end
end Go.Proofs.YtijcpgahmbkijaaGreatDoor
end

/- Issue, of the program and the document. Own work. -/
section
set_option maxRecDepth 100000
set_option linter.unusedVariables false
namespace Go.Proofs.YtijcpgahmbkijaaGreatDoor
open Go Go.Vc

structure TkE where
  e : Int
  key : Int
  id : List Int
  tag : List Int
section
variable {h0 h : H} {A : List Ent} {i j d r m : Nat}
end
end Go.Proofs.YtijcpgahmbkijaaGreatDoor
end

/- TokenMakes: walked. Own work. -/
section
set_option maxRecDepth 100000
set_option linter.unusedVariables false
namespace Go.Proofs.YtijcpgahmbkijaaGreatDoor
open Go Go.Vc

structure NkE where
  e : Int
  key : Int
  id : List Int
  cs : List CvM
  tag : List Int
def narM (key : Int) (id : List Int) (cs : List CvM) (tag : List Int) (c : CvM) : NkE :=
  if 32 ≤ cs.length then ⟨3, 0, [], [], zeros 32⟩ else if c.may then ⟨0, key, id, cs ++ [c], macM tag (cbM c)⟩ else ⟨1, 0, [], [], zeros 32⟩
theorem narM_tag (key : Int) (id : List Int) (cs : List CvM) (tag : List Int) (c : CvM) : (narM key id cs tag c).tag.length = 32 ∧ isBy (narM key id cs tag c).tag ∧ (narM key id cs tag c).cs.length ≤ 32 ∧ (narM key id cs tag c).id.length ≤ id.length := by
  unfold narM
  by_cases a : 32 ≤ cs.length
  · simp only [if_pos a]; exact ⟨List.length_replicate, isBy_zeros 32, Nat.zero_le _, Nat.zero_le _⟩
  · simp only [if_neg a]
    by_cases b : c.may
    · simp only [if_pos b]; exact ⟨macM_len _ _, isBy_mac _ _, by rw [List.length_append]; simp; omega, Nat.le_refl _⟩
    · simp only [if_neg b]; exact ⟨List.length_replicate, isBy_zeros 32, Nat.zero_le _, Nat.zero_le _⟩
section
variable {h0 h : H} {A : List Ent} {i j d r m : Nat}
theorem nar_sp {Q : Int → Option Addr → Nat → Nat → Option Addr → Nat → Nat → List Int → Int → H → Prop} {key : Int} {id tag : List Int} {cs : List CvM} {ip cp : Option Addr} {il ic cl cc : Nat} (c : CvM) (hs : Sat h0 A h) (ht : tag.length = 32) (hl : cl < 2 ^ 40) (hi : il < 2 ^ 47)
    (ri : ∀ h', Sat h0 A h' → hsv h' ip 1 il (ints .u8 id)) (rc : ∀ h', Sat h0 A h' → hsv h' cp 5 cl (cvsV cs))
    (k : ∀ O, O = narM key id cs tag c → ∀ p1 c1 p2 c2 h', Sat h0 (slE p2 O.cs.length c2 5 (cvsV O.cs) :: slE p1 O.id.length c1 1 (ints .u8 O.id) :: A) h' → Q O.key p1 O.id.length c1 p2 O.cs.length c2 O.tag O.e h') :
    F_token_Token_Narrow key ip il ic cp cl cc tag c.kind c.slot c.frm c.to c.set Q h := by
  have hcl : cs.length = cl := by have := (rc _ hs).1; rw [cvsV_len] at this; omega
  have hil : id.length = il := by have := (ri _ hs).1; simpa using this
  refine narrow_sp c hs ht hl hi ri rc ?_ ?_ ?_
  · intro g h' hs
    exact k ⟨3, 0, [], [], zeros 32⟩ (by unfold narM; rw [if_pos g]) none 0 none 0 h' ((hs.sl_nil 1 none).sl_nil 5 none)
  · intro g b h' hs
    exact k ⟨1, 0, [], [], zeros 32⟩ (by unfold narM; rw [if_neg (by omega), if_neg b]) none 0 none 0 h' ((hs.sl_nil 1 none).sl_nil 5 none)
  · intro g b p1 c1 p2 c2 h' hs
    have K := k ⟨0, key, id, cs ++ [c], macM tag (cbM c)⟩ (by unfold narM; rw [if_neg (by omega), if_pos b]) p1 c1 p2 c2 h'
    dsimp only at K
    rw [List.length_append, hcl, hil] at K
    exact K hs
theorem rnar_sp {Q : Int → Option Addr → Nat → Nat → Option Addr → Nat → Nat → List Int → Int → H → Prop} {key : Int} {id tag : List Int} {cs : List CvM} {ip cp : Option Addr} {il ic cl cc : Nat} (c : CvM) (hs : Sat h0 A h) (ht : tag.length = 32) (htb : isBy tag) (hl : cl < 2 ^ 40) (hi : il < 2 ^ 47)
    (ri : ∀ h', Sat h0 A h' → hsv h' ip 1 il (ints .u8 id)) (rc : ∀ h', Sat h0 A h' → hsv h' cp 5 cl (cvsV cs))
    (k : ∀ O, O = narM key id cs tag c → ∀ p1 c1 p2 c2 h', Sat h0 (slE p2 O.cs.length c2 5 (cvsV O.cs) :: slE p1 O.id.length c1 1 (ints .u8 O.id) :: A) h' → Q O.key p1 O.id.length c1 p2 O.cs.length c2 O.tag O.e h') :
    F_portcullisref24_Token_Narrow key ip il ic cp cl cc tag c.kind c.slot c.frm c.to c.set Q h := by
  have hcl : cs.length = cl := by have := (rc _ hs).1; rw [cvsV_len] at this; omega
  have hil : id.length = il := by have := (ri _ hs).1; simpa using this
  refine rnarrow_sp c hs ht htb hl hi ri rc ?_ ?_ ?_
  · intro g h' hs
    exact k ⟨3, 0, [], [], zeros 32⟩ (by unfold narM; rw [if_pos g]) none 0 none 0 h' ((hs.sl_nil 1 none).sl_nil 5 none)
  · intro g b h' hs
    exact k ⟨1, 0, [], [], zeros 32⟩ (by unfold narM; rw [if_neg (by omega), if_neg b]) none 0 none 0 h' ((hs.sl_nil 1 none).sl_nil 5 none)
  · intro g b p1 c1 p2 c2 h' hs
    have K := k ⟨0, key, id, cs ++ [c], macM tag (cbM c)⟩ (by unfold narM; rw [if_neg (by omega), if_pos b]) p1 c1 p2 c2 h'
    dsimp only at K
    rw [List.length_append, hcl, hil] at K
    exact K hs
end
end Go.Proofs.YtijcpgahmbkijaaGreatDoor
end

/- Tokens: room behind lists; what an append keeps; Get of any bytes. Own work. -/
section
set_option maxRecDepth 100000
set_option linter.unusedVariables false
namespace Go.Proofs.YtijcpgahmbkijaaGreatDoor
open Go Go.Vc
attribute [local irreducible] macM

section
variable {h0 h : H} {A : List Ent} {i j d r m : Nat}
/-- An append into a block that has room. -/
theorem app_blk (hs : Sat h0 A h) {i b l c n sz B : Nat} {cells vs z : List Value} {K : Option Addr → Nat → Nat → H → Prop} (a : At A i (blk b cells)) (hr : l + n ≤ c) (hv : vs.length = n * sz) (hc : (l + n) * sz ≤ cells.length)
    (k : ∀ h', Sat h0 (put A i (blk b (splice cells (l * sz) vs))) h' → K (some ⟨b, 0, none⟩) (l + n) c h') : pApp h sz z B (some ⟨b, 0, none⟩) l c n vs K := by
  unfold pApp
  rw [if_pos hr]
  have e0 : (⟨b, 0, none⟩ : Addr).add (l * sz) = ⟨b, l * sz, none⟩ := by rw [add_mk, Nat.zero_add]
  refine ⟨Or.inr ⟨_, rfl, ?_⟩, ?_⟩
  · rw [e0]
    exact Sat.can hs a (by rw [Nat.add_mul] at hc; exact hc)
  · intro h' e
    refine k h' (Sat.wr hs a ?_)
    have e2 : h' = hwr h ((⟨b, 0, none⟩ : Addr).add (l * sz)) vs := e
    rw [e0] at e2
    exact e2
/-- An append into an owned slice that has room: the slice stays where it is. -/
theorem app_sl (hs : Sat h0 A h) {i l c n sz B : Nat} {p : Option Addr} {old vs z : List Value} {K : Option Addr → Nat → Nat → H → Prop} (a : At A i (slE p l c sz old)) (hr : l + n ≤ c) (hn : 0 < n) (hv : vs.length = n * sz) (h1 : ∀ v, v ∈ vs → v.oneCell' = true)
    (k : ∀ h', Sat h0 (put A i (slE p (l + n) c sz (old ++ vs))) h' → K p (l + n) c h') : pApp h sz z B p l c n vs K := by
  obtain ⟨f, hp, _, hk⟩ := hs.takeK a
  obtain ⟨bs, o, hf⟩ := slE_P.1 hp
  obtain ⟨o1, o2, o3, o4⟩ := o
  rcases o4 with ⟨r1, r2, _⟩ | ⟨b, rest, rfl, rfl, kb, hrest⟩
  · omega
  unfold pApp
  rw [if_pos hr]
  have e0 : (⟨b, 0, none⟩ : Addr).add (l * sz) = ⟨b, l * sz, none⟩ := by rw [add_mk, Nat.zero_add]
  have hroom : n * sz ≤ rest.length := by
    have : n * sz ≤ (c - l) * sz := Nat.mul_le_mul_right _ (by omega)
    omega
  refine ⟨Or.inr ⟨_, rfl, ?_⟩, ?_⟩
  · rw [e0]
    exact kb.can (by rw [List.length_append, o1]; omega)
  · intro h' e
    have e2 : h' = hwr h ((⟨b, 0, none⟩ : Addr).add (l * sz)) vs := e
    rw [e0] at e2
    subst e2
    have kw := kb.wr (l * sz) vs
    have es : splice (old ++ rest) (l * sz) vs = old ++ vs ++ rest.drop (n * sz) := by
      have := splice_append old (rest.take (n * sz)) (rest.drop (n * sz)) vs (by rw [List.length_take, hv]; omega)
      rw [List.append_assoc, List.take_append_drop, o1] at this
      exact this
    rw [es] at kw
    refine k _ (hk _ _ f (slE_P.2 ⟨[b], ⟨by rw [List.length_append, o1, hv, Nat.add_mul], hr, ?_, Or.inr ⟨b, rest.drop (n * sz), rfl, rfl, kw, ?_⟩⟩, hf⟩) (fun _ => Or.inl) ((Ext.wr h b _ _).mono fun x _ hx => (hf x).2 (by simp [hx])))
    · intro v hvv
      rcases List.mem_append.1 hvv with y | y
      · exact o3 v y
      · exact h1 v y
    · rw [List.length_drop, show c - (l + n) = c - l - n by omega, Nat.sub_mul]
      omega
/-- A slice as it was, and as it is behind some appends. -/
def Kept (B : List Ent) (p : Option Addr) (l : Nat) (L : List Value) (p' : Option Addr) (n' sz : Nat) (L' : List Value) : Prop :=
  ∃ c', (B = [slE p' n' c' sz L'] ∧ p' = p ∧ l ≤ n' ∧ L = L'.take (l * sz)) ∨ ∃ c, B = [slE p' n' c' sz L', slE p l c sz L]
theorem Kept.now {B : List Ent} {p p' : Option Addr} {l n' sz : Nat} {L L' : List Value} (k : Kept B p l L p' n' sz L') {h' : H} (hs : Sat h0 B h') : hsv h' p' sz n' L' := by
  obtain ⟨c', ⟨rfl, _⟩ | ⟨c, rfl⟩⟩ := k
  · exact hs.sv (i := 0) .z
  · exact hs.sv (i := 0) .z
theorem Kept.old {B : List Ent} {p p' : Option Addr} {l n' sz : Nat} {L L' : List Value} (k : Kept B p l L p' n' sz L') {h' : H} (hs : Sat h0 B h') : hsv h' p sz l L := by
  obtain ⟨c', ⟨rfl, rfl, hl, rfl⟩ | ⟨c, rfl⟩⟩ := k
  · obtain ⟨x1, x2, x3⟩ := hs.sv (i := 0) .z
    refine ⟨?_, fun v hv => x2 v (List.mem_of_mem_take hv), ?_⟩
    · rw [List.length_take, x1]
      exact Nat.min_eq_left (Nat.mul_le_mul_right _ hl)
    · rcases x3 with x3 | ⟨q, hq, x3⟩
      · left; rw [x3, List.take_nil]
      · right
        refine ⟨q, hq, fun i v hv => x3 i v ?_⟩
        have hi : i < (L'.take (l * sz)).length := (List.getElem?_eq_some_iff.1 hv).1
        rw [List.length_take] at hi
        rwa [List.getElem?_take_of_lt (by omega)] at hv
  · exact hs.sv (i := 1) (.s .z)
/-- One more append. -/
theorem app_kept {B C : List Ent} (hs : Sat h0 (C ++ (B ++ A)) h) {p p' : Option Addr} {l n' c0 sz n Z : Nat} {L L' vs z : List Value} {K : Option Addr → Nat → Nat → H → Prop} (kp : ∃ c', c' = c0 ∧ ((B = [slE p' n' c' sz L'] ∧ p' = p ∧ l ≤ n' ∧ L = L'.take (l * sz)) ∨ ∃ c, B = [slE p' n' c' sz L', slE p l c sz L]))
    (hn : 0 < n) (hv : vs.length = n * sz) (hz : z.length = sz) (h1 : ∀ v, v ∈ vs → v.oneCell' = true) (hb : (n' + n) * Z ≤ 2 ^ 47)
    (k : ∀ p2 c2 B2 h', ((B2 = [slE p2 (n' + n) c2 sz (L' ++ vs)] ∧ p2 = p ∧ l ≤ n' + n ∧ L = (L' ++ vs).take (l * sz)) ∨ ∃ c, B2 = [slE p2 (n' + n) c2 sz (L' ++ vs), slE p l c sz L]) → Sat h0 (C ++ (B2 ++ A)) h' → K p2 (n' + n) c2 h') : pApp h sz z Z p' n' c0 n vs K := by
  obtain ⟨c', rfl, kp⟩ := kp
  have hAt : ∃ x, At (C ++ (B ++ A)) x (slE p' n' c' sz L') := by
    refine At.mem (List.mem_append_right _ (List.mem_append_left _ ?_))
    rcases kp with ⟨rfl, _⟩ | ⟨c, rfl⟩ <;> simp
  obtain ⟨x, ax⟩ := hAt
  have rd := hs.sv ax
  have hlen := rd.1
  by_cases hr : n' + n ≤ c'
  · rcases kp with ⟨rfl, e1, e2, e3⟩ | ⟨c, rfl⟩
    · have hs' : Sat h0 (slE p' n' c' sz L' :: (C ++ A)) h := hs.perm List.perm_middle
      refine app_sl hs' (i := 0) .z hr hn hv h1 ?_
      intro h' hs2
      simp only [put_zero] at hs2
      refine k p' c' [slE p' (n' + n) c' sz (L' ++ vs)] h' (Or.inl ⟨rfl, e1, by omega, ?_⟩) (hs2.perm List.perm_middle.symm)
      rw [List.take_append_of_le_length (by rw [hlen]; exact Nat.mul_le_mul_right _ e2)]
      exact e3
    · have hs' : Sat h0 (slE p' n' c' sz L' :: (C ++ (slE p l c sz L :: A))) h := hs.perm List.perm_middle
      refine app_sl hs' (i := 0) .z hr hn hv h1 ?_
      intro h' hs2
      simp only [put_zero] at hs2
      exact k p' c' [slE p' (n' + n) c' sz (L' ++ vs), slE p l c sz L] h' (Or.inr ⟨c, rfl⟩) (hs2.perm List.perm_middle.symm)
  · refine Sat.app_keep hs rd (by omega) hv hz h1 hb ?_
    intro p2 c2 h' hs2
    rcases kp with ⟨rfl, e1, e2, e3⟩ | ⟨c, rfl⟩
    · subst e1
      refine k p2 c2 [slE p2 (n' + n) c2 sz (L' ++ vs), slE p' l c' sz L] h' (Or.inr ⟨c', rfl⟩) ?_
      have hsh : Sat h0 (slE p2 (n' + n) c2 sz (L' ++ vs) :: (C ++ ([slE p' l c' sz L] ++ A))) h' := by
        obtain ⟨y, ay⟩ : ∃ y, At (slE p2 (n' + n) c2 sz (L' ++ vs) :: (C ++ ([slE p' n' c' sz L'] ++ A))) y (slE p' n' c' sz L') := ⟨_, ax.s⟩
        have hs3 : Sat h0 (slE p' n' c' sz L' :: (slE p2 (n' + n) c2 sz (L' ++ vs) :: (C ++ A))) h' := hs2.perm ((List.Perm.cons _ List.perm_middle).trans (List.Perm.swap _ _ _))
        have hs4 := hs3.as (i := 0) (e' := slE p' l c' sz L) .z ?_
        · simp only [put_zero] at hs4
          exact hs4.perm ((List.Perm.swap _ _ _).trans (List.Perm.cons _ List.perm_middle.symm))
        · intro f hp
          obtain ⟨bs, ⟨o1, o2, o3, o4⟩, hf⟩ := slE_P.1 hp
          refine slE_P.2 ⟨bs, ⟨?_, by omega, ?_, ?_⟩, hf⟩
          · rw [e3, List.length_take, o1]
            exact Nat.min_eq_left (Nat.mul_le_mul_right _ e2)
          · intro v hvv
            rw [e3] at hvv
            exact o3 v (List.mem_of_mem_take hvv)
          · rcases o4 with ⟨r1, r2, r3⟩ | ⟨b, rest, r1, r2, kb, r3⟩
            · exact Or.inl ⟨by omega, r2, r3⟩
            · refine Or.inr ⟨b, L'.drop (l * sz) ++ rest, r1, r2, ?_, ?_⟩
              · rw [e3, ← List.append_assoc, List.take_append_drop]; exact kb
              · rw [List.length_append, List.length_drop, o1]
                have h3 : (c' - l) * sz = (c' - n') * sz + (n' - l) * sz := by rw [← Nat.add_mul]; congr 1; omega
                have h4 : n' * sz - l * sz = (n' - l) * sz := by rw [Nat.sub_mul]
                omega
      exact hsh.perm List.perm_middle.symm
    · refine k p2 c2 [slE p2 (n' + n) c2 sz (L' ++ vs), slE p l c sz L] h' (Or.inr ⟨c, rfl⟩) ?_
      have := hs2.sub (B := slE p2 (n' + n) c2 sz (L' ++ vs) :: (C ++ ([slE p l c sz L] ++ A))) (List.Sublist.cons_cons _ ((List.Sublist.refl C).append (List.Sublist.cons _ (List.Sublist.refl _))))
      exact this.perm List.perm_middle.symm
/-- The token of bytes; without one: none. -/
def getT (bs : List Int) : TkM := match tgetM bs with | .ok T => T | .error _ => ⟨0, [], [], zeros 32⟩
def getE (bs : List Int) : Int × Int := match tgetM bs with | .ok _ => (0, 0) | .error e => e
theorem get1_sp {Q : Int → Option Addr → Nat → Nat → Option Addr → Nat → Nat → List Int → Value → H → Prop} {bs : List Int} {p : Option Addr} {l c : Nat} (hs : Sat h0 A h) (hb : isBytes bs) (hlc : l ≤ c) (hl : l < 2 ^ 47) (rd : ∀ h', Sat h0 A h' → hsv h' p 1 l (ints .u8 bs))
    (k : ∀ T, T = getT bs → T.tag.length = 32 → T.cs.length ≤ 32 → ∀ v p1 c1 p2 c2 h', Sat h0 (slE p2 T.cs.length c2 5 (cvsV T.cs) :: slE p1 T.id.length c1 1 (ints .u8 T.id) :: A) h' → Q T.key p1 T.id.length c1 p2 T.cs.length c2 T.tag v h') : F_token_Get p l c Q h := by
  refine get_sp hs hb hlc hl rd ?_ ?_
  · intro e a he w h' hs
    exact k ⟨0, [], [], zeros 32⟩ (by unfold getT; rw [he]) (zeros_len 32) (by simp) _ none 0 none 0 h' ((hs.drop.sl_nil 1 none).sl_nil 5 none)
  · intro T hT p1 c1 p2 l2 c2 h' hl2 hs ht
    subst hl2
    exact k T (by unfold getT; rw [hT]) ht (tget_few hT) _ p1 c1 p2 c2 h' hs
theorem rget1_sp {Q : Int → Option Addr → Nat → Nat → Option Addr → Nat → Nat → List Int → Int → Int → H → Prop} {bs : List Int} {p : Option Addr} {l c : Nat} (hs : Sat h0 A h) (hb : isBytes bs) (hlc : l ≤ c) (hl : l < 2 ^ 47) (rd : ∀ h', Sat h0 A h' → hsv h' p 1 l (ints .u8 bs))
    (k : ∀ T, T = getT bs → T.tag.length = 32 → ∀ p1 c1 p2 c2 h', Sat h0 (slE p2 T.cs.length c2 5 (cvsV T.cs) :: slE p1 T.id.length c1 1 (ints .u8 T.id) :: A) h' → Q T.key p1 T.id.length c1 p2 T.cs.length c2 T.tag (getE bs).1 (getE bs).2 h') : F_portcullisref24_Get p l c Q h := by
  refine rget_sp hs hb hlc hl rd ?_ ?_
  · intro e a he h' hs
    have eE : getE bs = (e, a) := by unfold getE; rw [he]
    rw [eE] at k
    exact k ⟨0, [], [], zeros 32⟩ (by unfold getT; rw [he]) (zeros_len 32) none 0 none 0 h' ((hs.sl_nil 1 none).sl_nil 5 none)
  · intro T hT p1 c1 p2 l2 c2 h' hl2 hs ht
    have eE : getE bs = (0, 0) := by unfold getE; rw [hT]
    rw [eE] at k
    subst hl2
    exact k T (by unfold getT; rw [hT]) ht p1 c1 p2 c2 h' hs
def cz : CvM := ⟨0, 0, 0, 0, 0⟩
theorem czs (n : Nat) : (List.replicate n [Value.int .i64 0, .int .i64 0, .int .i64 0, .int .i64 0, .int .u64 0]).flatten = cvsV (List.replicate n cz) := by
  induction n with
  | zero => rfl
  | succ n ih => rw [List.replicate_succ, List.flatten_cons, ih, List.replicate_succ]; rfl
/-- A part of a block, read. -/
theorem blk_pre {b l sz : Nat} {xs ys : List Value} (hs : Sat h0 A h) (m : At A i (blk b (xs ++ ys))) (hl : xs.length = l * sz) (h1 : ∀ v, v ∈ xs → v.oneCell' = true) : hsv h (some ⟨b, 0, none⟩) sz l xs := by
  refine ⟨hl, h1, Or.inr ⟨_, rfl, ?_⟩⟩
  refine hs.cs1 m ?_
  intro x hx
  rw [Nat.zero_add, List.getElem?_append_left hx]
end
end Go.Proofs.YtijcpgahmbkijaaGreatDoor
end
