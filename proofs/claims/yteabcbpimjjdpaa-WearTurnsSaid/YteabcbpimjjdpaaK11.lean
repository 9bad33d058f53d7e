/- WearTurns: what is proved and its parts, laid together by a program of ours: Lg1 Ly1 Lg2 Ly2 Ar9 Lw1 Lw2 -/
import Derived.Test.YteabcbpimjjdpaaK10
set_option autoImplicit false
set_option linter.all false
/- The log: what both pages say; which is present. Own work. -/
section
set_option maxRecDepth 100000
set_option linter.unusedVariables false
namespace Go.Proofs.Yteabcbpimjjdpaa
open Go Go.Vc

theorem len9 {l : List Int} (h : l.length = 9) : ∃ a b c d e f g i j, l = [a, b, c, d, e, f, g, i, j] := by
  match l, h with
  | [a, b, c, d, e, f, g, i, j], _ => exact ⟨a, b, c, d, e, f, g, i, j, rfl⟩
abbrev fndI (p q : Inf) (n : Int) : List Value := .int .i64 p.head :: (ints .i64 p.nums ++ .int .i64 p.next :: .bool p.blank :: .int .i64 p.torn :: .int .i64 q.head :: (ints .i64 q.nums ++ [.int .i64 q.next, .bool q.blank, .int .i64 q.torn, .int .i64 n]))
theorem fnd_len {p q : Inf} {n : Int} (hp : p.nums.length = 9) (hq : q.nums.length = 9) : (fndI p q n).length = 27 := by simp [fndI, hp, hq]
structure FndAt (h : H) (b : Nat) (p q : Inf) (n : Int) : Prop where
  a0 : hc h ⟨b, 0, none⟩ = some (.int .i64 p.head)
  a1 : hrow h ⟨b, 1, none⟩ .i64 p.nums
  a10 : hc h ⟨b, 10, none⟩ = some (.int .i64 p.next)
  a11 : hc h ⟨b, 11, none⟩ = some (.bool p.blank)
  a12 : hc h ⟨b, 12, none⟩ = some (.int .i64 p.torn)
  a13 : hc h ⟨b, 13, none⟩ = some (.int .i64 q.head)
  a14 : hrow h ⟨b, 14, none⟩ .i64 q.nums
  a23 : hc h ⟨b, 23, none⟩ = some (.int .i64 q.next)
  a24 : hc h ⟨b, 24, none⟩ = some (.bool q.blank)
  a25 : hc h ⟨b, 25, none⟩ = some (.int .i64 q.torn)
  a26 : hc h ⟨b, 26, none⟩ = some (.int .i64 n)
section
variable {h0 h : H} {A : List Ent} {i j p r b : Nat} {C : Cm}
theorem _root_.Go.Vc.Sat.fnd (hs : Sat h0 A h) {P Q : Inf} {n : Int} (m : At A i (blk b (fndI P Q n))) (hp : P.nums.length = 9) (hq : Q.nums.length = 9) : FndAt h b P Q n := by
  obtain ⟨ph, pn, px, pb, pt⟩ := P
  obtain ⟨qh, qn, qx, qb, qt⟩ := Q
  obtain ⟨a1, a2, a3, a4, a5, a6, a7, a8, a9, rfl⟩ := len9 hp
  obtain ⟨b1, b2, b3, b4, b5, b6, b7, b8, b9, rfl⟩ := len9 hq
  exact ⟨hs.ld m rfl, hs.cs m rfl, hs.ld m rfl, hs.ld m rfl, hs.ld m rfl, hs.ld m rfl, hs.cs m rfl, hs.ld m rfl, hs.ld m rfl, hs.ld m rfl, hs.ld m rfl⟩
theorem fnd_s0 {P Q R : Inf} {n : Int} (hp : P.nums.length = 9) (hr : R.nums.length = 9) : splice (fndI P Q n) 0 (infI R) = fndI R Q n := by
  obtain ⟨ph, pn, px, pb, pt⟩ := P
  obtain ⟨qh, qn, qx, qb, qt⟩ := R
  obtain ⟨a1, a2, a3, a4, a5, a6, a7, a8, a9, rfl⟩ := len9 hp
  obtain ⟨b1, b2, b3, b4, b5, b6, b7, b8, b9, rfl⟩ := len9 hr
  rfl
theorem fnd_s13 {P Q R : Inf} {n : Int} (hp : P.nums.length = 9) (hq : Q.nums.length = 9) (hr : R.nums.length = 9) : splice (fndI P Q n) 13 (infI R) = fndI P R n := by
  obtain ⟨ph, pn, px, pb, pt⟩ := P
  obtain ⟨qh, qn, qx, qb, qt⟩ := Q
  obtain ⟨rh, rn, rx, rb, rt⟩ := R
  obtain ⟨a1, a2, a3, a4, a5, a6, a7, a8, a9, rfl⟩ := len9 hp
  obtain ⟨b1, b2, b3, b4, b5, b6, b7, b8, b9, rfl⟩ := len9 hq
  obtain ⟨c1, c2, c3, c4, c5, c6, c7, c8, c9, rfl⟩ := len9 hr
  rfl
theorem fnd_s26 {P Q : Inf} {n m : Int} (hp : P.nums.length = 9) (hq : Q.nums.length = 9) : splice (fndI P Q n) 26 [.int .i64 m] = fndI P Q m := by
  obtain ⟨ph, pn, px, pb, pt⟩ := P
  obtain ⟨qh, qn, qx, qb, qt⟩ := Q
  obtain ⟨a1, a2, a3, a4, a5, a6, a7, a8, a9, rfl⟩ := len9 hp
  obtain ⟨b1, b2, b3, b4, b5, b6, b7, b8, b9, rfl⟩ := len9 hq
  rfl
theorem _root_.Go.Vc.Sat.infAt (hs : Sat h0 A h) {P : Inf} (m : At A i (blk b (infI P))) (hp : P.nums.length = 9) : hc h ⟨b, 0, none⟩ = some (.int .i64 P.head) ∧ hrow h ⟨b, 1, none⟩ .i64 P.nums ∧ hc h ⟨b, 10, none⟩ = some (.int .i64 P.next) ∧ hc h ⟨b, 11, none⟩ = some (.bool P.blank) ∧ hc h ⟨b, 12, none⟩ = some (.int .i64 P.torn) := by
  obtain ⟨ph, pn, px, pb, pt⟩ := P
  obtain ⟨a1, a2, a3, a4, a5, a6, a7, a8, a9, rfl⟩ := len9 hp
  exact ⟨hs.ld m rfl, hs.cs m rfl, hs.ld m rfl, hs.ld m rfl, hs.ld m rfl⟩

/-! ### What the log says -/
/-- What a page says. -/
def pI (C : Cm) (k : Nat) : Inf := pageI (C.pg k) C.cfg.cells.toNat
theorem pI_len (C : Cm) (k : Nat) : (pI C k).nums.length = 9 := ofM_len _ _
def presH (a b : Int) : Int := if 0 < a ∧ b ≤ a then 0 else if 0 < b then 1 else -1
def presM (C : Cm) : Int := presH (pI C 0).head (pI C 1).head
def infoM (C : Cm) : Inf := if presM C < 0 then inf0 else pI C (presM C).toNat
def tgtM (C : Cm) : Nat := if presM C = 0 then 1 else 0
theorem infoM_len (C : Cm) : (infoM C).nums.length = 9 := by unfold infoM; split; rfl; exact pI_len C _
theorem presM_cases (C : Cm) : presM C = -1 ∨ presM C = 0 ∨ presM C = 1 := by unfold presM presH; (repeat' split) <;> simp
theorem look_pg {C : Cm} (ho : C.out = false) (ok : C.ok) {k : Nat} (hk : k < 2) : lookM C (k : Int) = (pI C k, 0) := by
  have h1 := ok.fits.pages
  have h2 := ok.may.area
  have h3 : C.cfg.np = 2 + 2 * C.cfg.area := rfl
  unfold lookM
  rw [askedM_in ho (by omega) (by omega), if_neg (by simp), Int.toNat_natCast]; rfl
theorem look_out {C : Cm} (ho : C.out = true) (k : Int) : lookM C k = (inf0, 8) := by
  unfold lookM askedM
  rw [if_pos ho, if_pos (by decide)]
/-- What look finds. -/
structure Fnd where
  p : Inf
  q : Inf
  n : Int
def lookF (C : Cm) : Fnd × Int := if C.out = true then (⟨inf0, inf0, 0⟩, 8) else (⟨pI C 0, pI C 1, presM C⟩, 0)
theorem lookF_len (C : Cm) : (lookF C).1.p.nums.length = 9 ∧ (lookF C).1.q.nums.length = 9 := by
  unfold lookF; split
  · exact ⟨rfl, rfl⟩
  · exact ⟨pI_len C 0, pI_len C 1⟩
abbrev logE (l p : Nat) : Ent := blk l [.pointer (some ⟨p, 0, none⟩)]
theorem logLook_sp {Q : Int → List Int → Int → Bool → Int → Int → List Int → Int → Bool → Int → Int → Int → H → Prop} (hs : Sat h0 A h) (ci : At A i (chipE p C)) (cl : At A j (logE r p))
    (k : ∀ h', Sat h0 A h' → Q (lookF C).1.p.head (lookF C).1.p.nums (lookF C).1.p.next (lookF C).1.p.blank (lookF C).1.p.torn (lookF C).1.q.head (lookF C).1.q.nums (lookF C).1.q.next (lookF C).1.q.blank (lookF C).1.q.torn (lookF C).1.n (lookF C).2 h') :
    F_log_Log_look ⟨r, 0, none⟩ Q h := by
  unfold F_log_Log_look G_log_Log_look
  simp only [add_mk, Nat.zero_add]
  have ok := chip_ok hs ci
  have z9 : inf0.nums.length = 9 := rfl
  intro n4 _ hn; replace hs := Sat.new hs hn; clear hn
  intro n7 _ hn; replace hs := Sat.new hs hn; clear hn
  replace hs : Sat h0 (blk n7 (fndI inf0 inf0 0) :: blk n4 (fndI inf0 inf0 0) :: A) _ := hs
  refine ⟨Sat.can hs (i := 0) (by (repeat (first | exact At.z | apply At.s))) (by decide), ?_⟩
  intro h2 e
  replace hs := Sat.wra hs (i := 0) (by (repeat (first | exact At.z | apply At.s))) e (by rfl)
  clear e
  replace hs : Sat h0 (blk n7 (fndI inf0 inf0 (-1)) :: blk n4 (fndI inf0 inf0 0) :: A) _ := hs
  intro J hJ
  obtain ⟨G, hG⟩ : ∃ G : Nat → Inf × Inf, G = fun n => (if 0 < n then pI C 0 else inf0, if 1 < n then pI C 1 else inf0) := ⟨_, rfl⟩
  have hG0 : G 0 = (inf0, inf0) := by rw [hG]; rfl
  have hG2 : G 2 = (pI C 0, pI C 1) := by rw [hG]; rfl
  have hGl : ∀ n, (G n).1.nums.length = 9 ∧ (G n).2.nums.length = 9 := by
    intro n; rw [hG]; dsimp only
    exact ⟨by split; exact pI_len C 0; rfl, by split; exact pI_len C 1; rfl⟩
  have hs1 : Sat h0 (blk n7 (fndI (G 0).1 (G 0).2 (-1)) :: blk n4 (fndI inf0 inf0 0) :: A) h2 := by rw [hG0]; exact hs
  clear hs
  refine loop_up 2 (fun n h => (n ≠ 0 → C.out = false) ∧ Sat h0 (blk n7 (fndI (G n).1 (G n).2 (-1)) :: blk n4 (fndI inf0 inf0 0) :: A) h) ?_ ?_ 0 _ (by omega) ⟨fun y => absurd rfl y, hs1⟩
  · rintro n h3 hn ⟨hno, hs⟩ hk
    apply hJ
    rw [ltI_eq, if_pos (by simp; omega)]
    refine ⟨_, hs.ld cl.s.s rfl, _, rfl, ?_⟩
    refine Look_sp hs ci.s.s (n : Int) ?_
    intro h4 hs
    have hll := lookM_len C (n : Int)
    intro n24 _ hn24; replace hs := Sat.new hs hn24; clear hn24
    refine ⟨Sat.can hs (by (repeat (first | exact At.z | apply At.s))) (by decide), ?_⟩
    intro h5 e
    replace hs := Sat.wra hs (by (repeat (first | exact At.z | apply At.s))) e ((inf_len hll).trans rfl)
    clear e
    simp only [put] at hs
    by_cases ho : C.out = true
    · rw [look_out ho] at hs ⊢
      rw [if_pos (by simp)]
      refine ⟨Sat.can hs (by (repeat (first | exact At.z | apply At.s))) (by decide), ?_⟩
      intro h6 e
      replace hs := Sat.wra hs (i := 2) (by (repeat (first | exact At.z | apply At.s))) e (by rfl)
      clear e
      simp only [put] at hs
      replace hs : Sat h0 (blk n24 (infI inf0) :: blk n7 (fndI (G n).1 (G n).2 (-1)) :: blk n4 (fndI inf0 inf0 0) :: A) h6 := hs
      have L := hs.fnd (i := 2) (by (repeat (first | exact At.z | apply At.s))) z9 z9
      refine ⟨_, L.a0, _, ‹_›, L.a1, _, L.a10, _, L.a11, _, L.a12, _, L.a13, _, ‹_›, L.a14, _, L.a23, _, L.a24, _, L.a25, _, L.a26, ?_⟩
      have e : lookF C = (⟨inf0, inf0, 0⟩, 8) := by unfold lookF; rw [if_pos ho]
      rw [e] at k
      exact k _ hs.drop.drop.drop
    · have ho' : C.out = false := by simpa using ho
      have el := look_pg ho' ok (k := n) hn
      rw [el] at hs ⊢
      rw [if_neg (by simp)]
      have hpl := pI_len C n
      obtain ⟨L0, L1, L10, L11, L12⟩ := hs.infAt (i := 0) (by (repeat (first | exact At.z | apply At.s))) hpl
      refine ⟨_, L0, _, hpl, L1, _, L10, _, L11, _, L12, by omega, by omega, ?_⟩
      rw [Int.toNat_natCast]
      refine ⟨Sat.can hs (i := 1) (by (repeat (first | exact At.z | apply At.s))) (by rw [fnd_len (hGl n).1 (hGl n).2]; omega), ?_⟩
      intro h6 e
      replace hs := Sat.wr hs (i := 1) (by (repeat (first | exact At.z | apply At.s))) e
      clear e
      simp only [put] at hs
      rw [wrap_succ (by omega)]
      refine hk _ ⟨fun _ => ho', ?_⟩
      have hn2 : n = 0 ∨ n = 1 := by omega
      have e2 : splice (fndI (G n).1 (G n).2 (-1)) (n * 13) (infI (pI C n)) = fndI (G (n + 1)).1 (G (n + 1)).2 (-1) := by
        rcases hn2 with rfl | rfl
        · rw [hG0]
          show splice _ 0 _ = _
          rw [fnd_s0 z9 hpl, hG]; rfl
        · have : G 1 = (pI C 0, inf0) := by rw [hG]; rfl
          rw [this]
          show splice _ 13 _ = _
          rw [fnd_s13 (pI_len C 0) z9 hpl, hG]; rfl
      rw [e2] at hs
      exact hs.drop
  · rintro h3 ⟨hno, hs⟩
    have ho : C.out = false := hno (by decide)
    rw [hG2] at hs
    dsimp only at hs
    apply hJ
    rw [ltI_eq, if_neg (by simp)]
    clear hJ J hG0 hG2 hGl hG hs1
    have l0 := pI_len C 0
    have l1 := pI_len C 1
    have L := hs.fnd .z l0 l1
    refine ⟨by decide, by decide, _, L.a0, by decide, by decide, _, L.a13, ?_⟩
    have e : lookF C = (⟨pI C 0, pI C 1, presM C⟩, 0) := by unfold lookF; rw [if_neg (by simp [ho])]
    rw [e] at k
    dsimp only at k
    have pc : presM C = presH (pI C 0).head (pI C 1).head := rfl
    unfold presH at pc
    have w26 : ∀ (m : Int) (h' : H) (A' : List Ent), Sat h0 (blk n7 (splice (fndI (pI C 0) (pI C 1) (-1)) 26 [.int .i64 m]) :: A') h' → Sat h0 (blk n7 (fndI (pI C 0) (pI C 1) m) :: A') h' := fun m h' A' y => by rw [fnd_s26 l0 l1] at y; exact y
    have c26 : ∀ h', Sat h0 (blk n7 (fndI (pI C 0) (pI C 1) (-1)) :: blk n4 (fndI inf0 inf0 0) :: A) h' → hcan h' ⟨n7, 26, none⟩ 1 := fun h' y => Sat.can y .z (by rw [fnd_len l0 l1]; omega)
    by_cases g1 : 0 < (pI C 0).head
    · rw [ltI_eq, if_pos (by simpa using g1)]
      by_cases g2 : (pI C 1).head ≤ (pI C 0).head
      · rw [leI_eq, if_pos (by simpa using g2)]
        refine ⟨c26 _ hs, ?_⟩
        intro h4 e4
        replace hs := Sat.wr hs .z e4
        clear e4
        replace hs := w26 _ _ _ hs
        (have L := hs.fnd .z l0 l1; refine ⟨_, L.a0, _, ‹_›, L.a1, _, L.a10, _, L.a11, _, L.a12, _, L.a13, _, ‹_›, L.a14, _, L.a23, _, L.a24, _, L.a25, _, L.a26, ?_⟩; refine ⟨Sat.can hs (by (repeat (first | exact At.z | apply At.s))) (by decide), ?_⟩; intro h9 e9; replace hs := Sat.wra hs (i := 1) (by (repeat (first | exact At.z | apply At.s))) e9 (by rw [fnd_len z9 z9]; exact (fnd_len (n := 0) l0 l1)); clear e9; simp only [put] at hs; replace hs : Sat h0 (blk n7 (fndI (pI C 0) (pI C 1) (0)) :: blk n4 (fndI (pI C 0) (pI C 1) (0)) :: A) h9 := hs; have L := hs.fnd (i := 1) (.s .z) l0 l1; refine ⟨_, L.a0, _, ‹_›, L.a1, _, L.a10, _, L.a11, _, L.a12, _, L.a13, _, ‹_›, L.a14, _, L.a23, _, L.a24, _, L.a25, _, L.a26, ?_⟩; rw [show presM C = 0 by rw [pc]; simp [*]] at k; exact k _ hs.drop.drop)
      · rw [leI_eq, if_neg (by simpa using g2), ltI_eq, if_pos (by simp; omega)]
        refine ⟨c26 _ hs, ?_⟩
        intro h4 e4
        replace hs := Sat.wr hs .z e4
        clear e4
        replace hs := w26 _ _ _ hs
        have g3 : 0 < (pI C 1).head := by omega
        (have L := hs.fnd .z l0 l1; refine ⟨_, L.a0, _, ‹_›, L.a1, _, L.a10, _, L.a11, _, L.a12, _, L.a13, _, ‹_›, L.a14, _, L.a23, _, L.a24, _, L.a25, _, L.a26, ?_⟩; refine ⟨Sat.can hs (by (repeat (first | exact At.z | apply At.s))) (by decide), ?_⟩; intro h9 e9; replace hs := Sat.wra hs (i := 1) (by (repeat (first | exact At.z | apply At.s))) e9 (by rw [fnd_len z9 z9]; exact (fnd_len (n := 1) l0 l1)); clear e9; simp only [put] at hs; replace hs : Sat h0 (blk n7 (fndI (pI C 0) (pI C 1) (1)) :: blk n4 (fndI (pI C 0) (pI C 1) (1)) :: A) h9 := hs; have L := hs.fnd (i := 1) (.s .z) l0 l1; refine ⟨_, L.a0, _, ‹_›, L.a1, _, L.a10, _, L.a11, _, L.a12, _, L.a13, _, ‹_›, L.a14, _, L.a23, _, L.a24, _, L.a25, _, L.a26, ?_⟩; rw [show presM C = 1 by rw [pc]; simp [*]] at k; exact k _ hs.drop.drop)
    · rw [ltI_eq, if_neg (by simpa using g1)]
      by_cases g3 : 0 < (pI C 1).head
      · rw [ltI_eq, if_pos (by simpa using g3)]
        refine ⟨c26 _ hs, ?_⟩
        intro h4 e4
        replace hs := Sat.wr hs .z e4
        clear e4
        replace hs := w26 _ _ _ hs
        (have L := hs.fnd .z l0 l1; refine ⟨_, L.a0, _, ‹_›, L.a1, _, L.a10, _, L.a11, _, L.a12, _, L.a13, _, ‹_›, L.a14, _, L.a23, _, L.a24, _, L.a25, _, L.a26, ?_⟩; refine ⟨Sat.can hs (by (repeat (first | exact At.z | apply At.s))) (by decide), ?_⟩; intro h9 e9; replace hs := Sat.wra hs (i := 1) (by (repeat (first | exact At.z | apply At.s))) e9 (by rw [fnd_len z9 z9]; exact (fnd_len (n := 1) l0 l1)); clear e9; simp only [put] at hs; replace hs : Sat h0 (blk n7 (fndI (pI C 0) (pI C 1) (1)) :: blk n4 (fndI (pI C 0) (pI C 1) (1)) :: A) h9 := hs; have L := hs.fnd (i := 1) (.s .z) l0 l1; refine ⟨_, L.a0, _, ‹_›, L.a1, _, L.a10, _, L.a11, _, L.a12, _, L.a13, _, ‹_›, L.a14, _, L.a23, _, L.a24, _, L.a25, _, L.a26, ?_⟩; rw [show presM C = 1 by rw [pc]; simp [*]] at k; exact k _ hs.drop.drop)
      · rw [ltI_eq, if_neg (by simpa using g3)]
        (have L := hs.fnd .z l0 l1; refine ⟨_, L.a0, _, ‹_›, L.a1, _, L.a10, _, L.a11, _, L.a12, _, L.a13, _, ‹_›, L.a14, _, L.a23, _, L.a24, _, L.a25, _, L.a26, ?_⟩; refine ⟨Sat.can hs (by (repeat (first | exact At.z | apply At.s))) (by decide), ?_⟩; intro h9 e9; replace hs := Sat.wra hs (i := 1) (by (repeat (first | exact At.z | apply At.s))) e9 (by rw [fnd_len z9 z9]; exact (fnd_len (n := -1) l0 l1)); clear e9; simp only [put] at hs; replace hs : Sat h0 (blk n7 (fndI (pI C 0) (pI C 1) (-1)) :: blk n4 (fndI (pI C 0) (pI C 1) (-1)) :: A) h9 := hs; have L := hs.fnd (i := 1) (.s .z) l0 l1; refine ⟨_, L.a0, _, ‹_›, L.a1, _, L.a10, _, L.a11, _, L.a12, _, L.a13, _, ‹_›, L.a14, _, L.a23, _, L.a24, _, L.a25, _, L.a26, ?_⟩; rw [show presM C = -1 by rw [pc]; simp [*]] at k; exact k _ hs.drop.drop)
def finfo (p q : Inf) (n : Int) : Inf := if n < 0 then inf0 else if n = 0 then p else q
theorem infoM_f (C : Cm) : infoM C = finfo (pI C 0) (pI C 1) (presM C) := by
  unfold infoM finfo
  rcases presM_cases C with e | e | e <;> rw [e] <;> simp
theorem finfo_sp {Q : Int → List Int → Int → Bool → Int → H → Prop} {P R : Inf} {n : Int} (hp : P.nums.length = 9) (hr : R.nums.length = 9) (hn : n < 2) (hs : Sat h0 A h)
    (k : ∀ h', Sat h0 A h' → Q (finfo P R n).head (finfo P R n).nums (finfo P R n).next (finfo P R n).blank (finfo P R n).torn h') : F_log_found_info P.head P.nums P.next P.blank P.torn R.head R.nums R.next R.blank R.torn n Q h := by
  unfold F_log_found_info G_log_found_info
  simp only [add_mk, Nat.zero_add]
  intro n13 _ hn13; replace hs := Sat.new hs hn13; clear hn13
  intro n16 _ hn16; replace hs := Sat.new hs hn16; clear hn16
  replace hs : Sat h0 (blk n16 (infI inf0) :: blk n13 (fndI P R n) :: A) _ := hs
  have z9 : inf0.nums.length = 9 := rfl
  have L := hs.fnd (i := 1) (.s .z) hp hr
  refine ⟨_, L.a26, ?_⟩
  by_cases g : n < 0
  · rw [ltI_eq, if_pos (by simpa using g)]
    refine ⟨Sat.can hs (i := 0) .z (by decide), ?_⟩
    intro h4 e
    replace hs := Sat.wra hs (i := 0) .z e (by rfl)
    clear e
    replace hs : Sat h0 (blk n16 (infI inf0) :: blk n13 (fndI P R n) :: A) _ := hs
    obtain ⟨L0, L1, L10, L11, L12⟩ := hs.infAt .z z9
    refine ⟨_, L0, _, z9, L1, _, L10, _, L11, _, L12, ?_⟩
    have e : finfo P R n = inf0 := by unfold finfo; rw [if_pos g]
    rw [e] at k
    exact k _ hs.drop.drop
  rw [ltI_eq, if_neg (by simpa using g)]
  refine ⟨_, L.a26, by omega, by omega, ?_⟩
  -- either page
  have fin : ∀ (S : Inf), S.nums.length = 9 → finfo P R n = S → ∀ h', Sat h0 (blk n16 (infI inf0) :: blk n13 (fndI P R n) :: A) h' → hcan h' ⟨n16, 0, none⟩ 13 ∧ ∀ h2, h2 = hwr h' ⟨n16, 0, none⟩ (infI S) →
      ∃ i0, hc h2 ⟨n16, 0, none⟩ = some (.int .i64 i0) ∧ ∃ l1 : List Int, l1.length = 9 ∧ hrow h2 ⟨n16, 1, none⟩ .i64 l1 ∧ ∃ i10, hc h2 ⟨n16, 10, none⟩ = some (.int .i64 i10) ∧ ∃ b11, hc h2 ⟨n16, 11, none⟩ = some (.bool b11) ∧ ∃ i12, hc h2 ⟨n16, 12, none⟩ = some (.int .i64 i12) ∧ Q i0 l1 i10 b11 i12 h2 := by
    intro S hS e h' hs
    refine ⟨Sat.can hs (i := 0) .z (by decide), ?_⟩
    intro h4 e4
    replace hs := Sat.wra hs (i := 0) .z e4 ((inf_len hS).trans rfl)
    clear e4
    replace hs : Sat h0 (blk n16 (infI S) :: blk n13 (fndI P R n) :: A) _ := hs
    obtain ⟨L0, L1, L10, L11, L12⟩ := hs.infAt .z hS
    refine ⟨_, L0, _, hS, L1, _, L10, _, L11, _, L12, ?_⟩
    rw [e] at k
    exact k _ hs.drop.drop
  have h01 : n = 0 ∨ n = 1 := by omega
  rcases h01 with rfl | rfl
  · simp only [Int.toNat_zero, Nat.zero_mul, Nat.zero_add]
    exact ⟨_, L.a0, _, hp, L.a1, _, L.a10, _, L.a11, _, L.a12, fin P hp (by unfold finfo; simp) _ hs⟩
  · simp only [Int.toNat_one, Nat.one_mul, Nat.reduceAdd]
    exact ⟨_, L.a13, _, hr, L.a14, _, L.a23, _, L.a24, _, L.a25, fin R hr (by unfold finfo; simp) _ hs⟩
/-- The present page, as it is told. -/
def presT (C : Cm) : Int := if C.out = true then -1 else presM C
def freeT (C : Cm) : Int := if C.out = true then 0 else if presM C < 0 then 0 else C.cfg.cells - (infoM C).next
def genT (C : Cm) : Int := if C.out = true then 0 else (infoM C).head
def wornF (C : Cm) : Bool := (!(pI C (tgtM C)).blank && decide (C.cfg.erases ≤ C.er (tgtM C))) || decide (most ≤ (infoM C).head)
def wornT (C : Cm) : Bool := if C.out = true then false else wornF C
theorem Mount_sp {Q : Option Addr → Int → H → Prop} (hs : Sat h0 A h) (ci : At A i (chipE p C)) (k1 : C.out = true → Q none 8 h) (k2 : C.out = false → ∀ l h', Sat h0 (logE l p :: A) h' → Q (some ⟨l, 0, none⟩) 0 h') : F_log_Mount ⟨p, 0, none⟩ Q h := by
  unfold F_log_Mount G_log_Mount
  refine Out_sp hs ci ?_
  by_cases ho : C.out = true
  · rw [if_pos ho]; exact k1 ho
  · rw [if_neg ho]
    intro l _ hn; replace hs := Sat.new hs hn; clear hn
    exact k2 (by simpa using ho) _ _ hs
theorem Present_sp {Q : Int → H → Prop} (hs : Sat h0 A h) (ci : At A i (chipE p C)) (cl : At A j (logE r p)) (k : ∀ h', Sat h0 A h' → Q (presT C) h') : F_log_Log_Present ⟨r, 0, none⟩ Q h := by
  unfold F_log_Log_Present G_log_Log_Present
  simp only [add_mk, Nat.zero_add]
  refine logLook_sp hs ci cl ?_
  intro h1 hs
  obtain ⟨lp, lq⟩ := lookF_len C
  intro n17 _ hn; replace hs := Sat.new hs hn; clear hn
  refine ⟨Sat.can hs (i := 0) .z (by decide), ?_⟩
  intro h2 e
  replace hs := Sat.wra hs (i := 0) .z e (by rw [fnd_len lp lq]; rfl)
  clear e
  replace hs : Sat h0 (blk n17 (fndI (lookF C).1.p (lookF C).1.q (lookF C).1.n) :: A) h2 := hs
  have L := hs.fnd .z lp lq
  unfold presT at k
  by_cases ho : C.out = true
  · have e : lookF C = (⟨inf0, inf0, 0⟩, 8) := by unfold lookF; rw [if_pos ho]
    rw [if_pos ho] at k
    rw [e, if_pos (by simp)]
    exact k _ hs.drop
  · have e : lookF C = (⟨pI C 0, pI C 1, presM C⟩, 0) := by unfold lookF; rw [if_neg ho]
    rw [if_neg ho] at k
    rw [e] at L ⊢
    rw [if_neg (by simp)]
    exact ⟨_, L.a26, k _ hs.drop⟩
theorem Free_sp {Q : Int → H → Prop} (hs : Sat h0 A h) (ci : At A i (chipE p C)) (cl : At A j (logE r p)) (k : ∀ h', Sat h0 A h' → Q (IntKind.i64.wrap (freeT C)) h') : F_log_Log_Free ⟨r, 0, none⟩ Q h := by
  unfold F_log_Log_Free G_log_Log_Free
  simp only [add_mk, Nat.zero_add]
  refine logLook_sp hs ci cl ?_
  intro h1 hs
  obtain ⟨lp, lq⟩ := lookF_len C
  intro n17 _ hn; replace hs := Sat.new hs hn; clear hn
  refine ⟨Sat.can hs (i := 0) .z (by decide), ?_⟩
  intro h2 e
  replace hs := Sat.wra hs (i := 0) .z e (by rw [fnd_len lp lq]; rfl)
  clear e
  replace hs : Sat h0 (blk n17 (fndI (lookF C).1.p (lookF C).1.q (lookF C).1.n) :: A) h2 := hs
  unfold freeT at k
  by_cases ho : C.out = true
  · have e : lookF C = (⟨inf0, inf0, 0⟩, 8) := by unfold lookF; rw [if_pos ho]
    rw [if_pos ho] at k
    rw [e, if_pos (by simp)]
    exact k _ hs.drop
  · have e : lookF C = (⟨pI C 0, pI C 1, presM C⟩, 0) := by unfold lookF; rw [if_neg ho]
    rw [if_neg ho] at k
    rw [e] at hs lp lq ⊢
    dsimp only at hs lp lq ⊢
    have L := hs.fnd .z lp lq
    rw [if_neg (by simp)]
    refine ⟨_, L.a26, ?_⟩
    by_cases g : presM C < 0
    · rw [if_pos g] at k
      rw [ltI_eq, if_pos (by simpa using g)]
      exact k _ hs.drop
    rw [if_neg g] at k
    rw [ltI_eq, if_neg (by simpa using g)]
    refine ⟨_, hs.ld cl.s rfl, ?_⟩
    refine ⟨_, L.a0, _, ‹_›, L.a1, _, L.a10, _, L.a11, _, L.a12, _, L.a13, _, ‹_›, L.a14, _, L.a23, _, L.a24, _, L.a25, _, L.a26, ?_⟩
    refine ⟨_, rfl, ?_⟩
    refine Config_sp hs ci.s ?_
    intro h3 hs
    refine ⟨Sat.whole hs .z, ?_⟩
    have hc2 := presM_cases C
    refine finfo_sp lp lq (by omega) hs ?_
    intro h4 hs
    rw [← infoM_f]
    exact k _ hs.drop
end
end Go.Proofs.Yteabcbpimjjdpaa
end

/- The log: numbers, turns and lays of the program. Own work. -/
section
set_option maxRecDepth 100000
set_option linter.unusedVariables false
namespace Go.Proofs.Yteabcbpimjjdpaa
open Go Go.Vc

/-- Records of all numbers that are there, laid into a page. -/
def turnP (t : Int) (nums : List Int) : Nat → Nat → Nat → Cm → Cm × Int
  | 0, _, _, C => (C, 0)
  | m + 1, x, at_, C => if nums.getD x 0 = 0 then turnP t nums m (x + 1) at_ C
    else if (programM C t (at_ : Int) (valueM (x : Int) (nums.getD x 0)).1).2 ≠ 0 then programM C t (at_ : Int) (valueM (x : Int) (nums.getD x 0)).1
    else turnP t nums m (x + 1) (at_ + 1) (programM C t (at_ : Int) (valueM (x : Int) (nums.getD x 0)).1).1
/-- Behind the erase. -/
def turnA (g : Int) (t : Int) (nums : List Int) (m : Nat) (C : Cm) : Cm × Int :=
  if (turnP t nums m 0 1 C).2 ≠ 0 then turnP t nums m 0 1 C else programM (turnP t nums m 0 1 C).1 t 0 (headM (g + 1)).1
def turnL (C : Cm) (slot : Nat) (n : Int) : Cm × Int :=
  if (pI C (tgtM C)).blank = true then turnA (infoM C).head (tgtM C : Int) ((infoM C).nums.set slot n) (C.cfg.slots + 1).toNat C
  else if (eraseM C (tgtM C : Int)).2 ≠ 0 then eraseM C (tgtM C : Int)
  else turnA (infoM C).head (tgtM C : Int) ((infoM C).nums.set slot n) (C.cfg.slots + 1).toNat (eraseM C (tgtM C : Int)).1
def layL (C : Cm) (slot n : Int) : Cm × Int :=
  if C.out = true then (C, 8)
  else if ¬ (0 ≤ slot ∧ slot ≤ C.cfg.slots ∧ 1 ≤ n ∧ n ≤ most) then (C, 2)
  else if n ≤ (infoM C).nums.getD slot.toNat 0 then (C, 11)
  else if 0 ≤ presM C ∧ (infoM C).next < C.cfg.cells then programM C (presM C) (infoM C).next (valueM slot n).1
  else if wornF C = true then (C, 9)
  else turnL C slot.toNat n
def numberM (C : Cm) (slot : Int) : Int × Int := if C.out = true then (0, 8) else if ¬ (0 ≤ slot ∧ slot ≤ C.cfg.slots) then (0, 2) else ((infoM C).nums.getD slot.toNat 0, 0)
section
variable {h0 h : H} {A : List Ent} {i j p r b : Nat} {C : Cm}
theorem slot_sp {Q : Bool → H → Prop} (hs : Sat h0 A h) (ci : At A i (chipE p C)) (cl : At A j (logE r p)) (n : Int) (k : ∀ h', Sat h0 A h' → Q (decide (0 ≤ n ∧ n ≤ C.cfg.slots)) h') : F_log_Log_slot ⟨r, 0, none⟩ n Q h := by
  unfold F_log_Log_slot G_log_Log_slot
  by_cases g : 0 ≤ n
  · rw [leI_eq, if_pos (by simpa using g)]
    refine ⟨_, hs.ld cl rfl, _, rfl, ?_⟩
    refine Config_sp hs ci ?_
    intro h1 hs
    have := k _ hs
    rw [leI_eq]
    simpa [g] using this
  · rw [leI_eq, if_neg (by simpa using g)]
    have := k _ hs
    simpa [g] using this
theorem target_sp {Q : Int → H → Prop} {P R : Inf} {n : Int} (hp : P.nums.length = 9) (hr : R.nums.length = 9) (hs : Sat h0 A h) (k : ∀ h', Sat h0 A h' → Q (if n = 0 then 1 else 0) h') :
    F_log_found_target P.head P.nums P.next P.blank P.torn R.head R.nums R.next R.blank R.torn n Q h := by
  unfold F_log_found_target G_log_found_target
  simp only [add_mk, Nat.zero_add]
  intro n13 _ hn13; replace hs := Sat.new hs hn13; clear hn13
  replace hs : Sat h0 (blk n13 (fndI P R n) :: A) _ := hs
  have L := hs.fnd (i := 0) .z hp hr
  refine ⟨_, L.a26, ?_⟩
  by_cases g : n = 0
  · rw [if_pos g] at k; rw [if_pos (by simpa using g)]; exact k _ hs.drop
  · rw [if_neg g] at k; rw [if_neg (by simpa using g)]; exact k _ hs.drop
theorem tgt_eq (C : Cm) : (if presM C = 0 then (1 : Int) else 0) = (tgtM C : Int) := by unfold tgtM; split <;> rfl
theorem blank_at (hs : Sat h0 A h) {P R : Inf} {n : Int} (m : At A i (blk b (fndI P R n))) (hp : P.nums.length = 9) (hq : R.nums.length = 9) {t : Nat} (ht : t < 2) : hc h ⟨b, t * 13 + 11, none⟩ = some (.bool (if t = 0 then P.blank else R.blank)) := by
  have L := hs.fnd m hp hq
  have : t = 0 ∨ t = 1 := by omega
  rcases this with rfl | rfl
  · exact L.a11
  · exact L.a24
theorem pI_tgt (C : Cm) : (if tgtM C = 0 then (pI C 0).blank else (pI C 1).blank) = (pI C (tgtM C)).blank := by unfold tgtM; split <;> simp
theorem tgt_lt (C : Cm) : tgtM C < 2 := by unfold tgtM; split <;> omega
theorem worn9_sp {Q : Bool → H → Prop} (hs : Sat h0 A h) (ci : At A i (chipE p C)) (cl : At A j (logE r p)) (ho : C.out = false) (k : ∀ h', Sat h0 A h' → Q (wornF C) h') :
    F_log_Log_worn ⟨r, 0, none⟩ (pI C 0).head (pI C 0).nums (pI C 0).next (pI C 0).blank (pI C 0).torn (pI C 1).head (pI C 1).nums (pI C 1).next (pI C 1).blank (pI C 1).torn (presM C) Q h := by
  unfold F_log_Log_worn G_log_Log_worn
  simp only [add_mk, Nat.zero_add]
  have ok := chip_ok hs ci
  have l0 := pI_len C 0
  have l1 := pI_len C 1
  have hc2 := presM_cases C
  have ht := tgt_lt C
  intro n18 _ hn; replace hs := Sat.new hs hn; clear hn
  replace hs : Sat h0 (blk n18 (fndI (pI C 0) (pI C 1) (presM C)) :: A) _ := hs
  have L := hs.fnd (i := 0) .z l0 l1
  refine ⟨_, hs.ld cl.s rfl, ?_⟩
  refine ⟨_, L.a0, _, ‹_›, L.a1, _, L.a10, _, L.a11, _, L.a12, _, L.a13, _, ‹_›, L.a14, _, L.a23, _, L.a24, _, L.a25, _, L.a26, ?_⟩
  refine target_sp l0 l1 hs ?_
  intro h1 hs
  rw [tgt_eq]
  refine ⟨hcs_one (hs.ld cl.s rfl), _, rfl, ?_⟩
  refine Erases_sp hs ci.s (tgtM C : Int) ?_
  have ee : erasesM C (tgtM C : Int) = (C.er (tgtM C), 0) := by
    have := (ok.fits.pages); have h2 := ok.may.area; have h3 : C.cfg.np = 2 + 2 * C.cfg.area := rfl
    unfold erasesM; rw [askedM_in ho (by omega) (by omega), if_neg (by simp), Int.toNat_natCast]; rfl
  rw [ee]
  have L := hs.fnd (i := 0) .z l0 l1
  refine ⟨_, L.a0, _, ‹_›, L.a1, _, L.a10, _, L.a11, _, L.a12, _, L.a13, _, ‹_›, L.a14, _, L.a23, _, L.a24, _, L.a25, _, L.a26, ?_⟩
  refine target_sp l0 l1 hs ?_
  intro h2 hs
  rw [tgt_eq, Int.toNat_natCast]
  refine ⟨by omega, by omega, _, blank_at hs .z l0 l1 ht, ?_⟩
  rw [pI_tgt]
  unfold wornF at k
  have fin : ∀ h', Sat h0 (blk n18 (fndI (pI C 0) (pI C 1) (presM C)) :: A) h' → ((!(pI C (tgtM C)).blank && decide (C.cfg.erases ≤ C.er (tgtM C))) = false) → ∃ i63, hc h' ⟨n18, 0, none⟩ = some (.int .i64 i63) ∧ ∃ l64 : List Int, l64.length = 9 ∧ hrow h' ⟨n18, 1, none⟩ .i64 l64 ∧ ∃ i65, hc h' ⟨n18, 10, none⟩ = some (.int .i64 i65) ∧ ∃ b66, hc h' ⟨n18, 11, none⟩ = some (.bool b66) ∧ ∃ i67, hc h' ⟨n18, 12, none⟩ = some (.int .i64 i67) ∧
      ∃ i68, hc h' ⟨n18, 13, none⟩ = some (.int .i64 i68) ∧ ∃ l69 : List Int, l69.length = 9 ∧ hrow h' ⟨n18, 14, none⟩ .i64 l69 ∧ ∃ i70, hc h' ⟨n18, 23, none⟩ = some (.int .i64 i70) ∧ ∃ b71, hc h' ⟨n18, 24, none⟩ = some (.bool b71) ∧ ∃ i72, hc h' ⟨n18, 25, none⟩ = some (.int .i64 i72) ∧ ∃ i73, hc h' ⟨n18, 26, none⟩ = some (.int .i64 i73) ∧
      F_log_found_info i63 l64 i65 b66 i67 i68 l69 i70 b71 i72 i73 (fun i74 l75 i76 b77 i78 h79 => ∀ i80 : Int, i80 = 4611686018427387904 → Q (leI i80 i74) h79) h' := by
    intro h' hs e
    have L := hs.fnd (i := 0) .z l0 l1
    refine ⟨_, L.a0, _, ‹_›, L.a1, _, L.a10, _, L.a11, _, L.a12, _, L.a13, _, ‹_›, L.a14, _, L.a23, _, L.a24, _, L.a25, _, L.a26, ?_⟩
    refine finfo_sp l0 l1 (by omega) hs ?_
    intro h3 hs i80 hi80
    rw [← infoM_f]
    rw [e, Bool.false_or] at k
    subst hi80
    rw [leI_eq]
    exact k _ hs.drop
  by_cases g : (pI C (tgtM C)).blank = true
  · rw [if_neg (by rw [g]; decide)]
    exact fin _ hs (by rw [g]; rfl)
  · have g' : (pI C (tgtM C)).blank = false := by simpa using g
    rw [if_pos (by rw [g']; decide)]
    refine ⟨_, hs.ld cl.s rfl, _, rfl, ?_⟩
    refine Config_sp hs ci.s ?_
    intro h3 hs
    by_cases g2 : C.cfg.erases ≤ C.er (tgtM C)
    · rw [leI_eq, if_pos (by simpa using g2)]
      have := k _ hs.drop
      rw [g', decide_eq_true g2] at this
      exact this
    · rw [leI_eq, if_neg (by simpa using g2)]
      exact fin _ hs (by rw [decide_eq_false g2, Bool.and_false])
theorem Number_sp {Q : Int → Int → H → Prop} (hs : Sat h0 A h) (ci : At A i (chipE p C)) (cl : At A j (logE r p)) (slot : Int) (k : ∀ h', Sat h0 A h' → Q (numberM C slot).1 (numberM C slot).2 h') : F_log_Log_Number ⟨r, 0, none⟩ slot Q h := by
  unfold F_log_Log_Number G_log_Log_Number
  simp only [add_mk, Nat.zero_add]
  have ok := chip_ok hs ci
  refine logLook_sp hs ci cl ?_
  intro h1 hs
  obtain ⟨lp, lq⟩ := lookF_len C
  intro n17 _ hn; replace hs := Sat.new hs hn; clear hn
  refine ⟨Sat.can hs (i := 0) .z (by decide), ?_⟩
  intro h2 e
  replace hs := Sat.wra hs (i := 0) .z e (by rw [fnd_len lp lq]; rfl)
  clear e
  replace hs : Sat h0 (blk n17 (fndI (lookF C).1.p (lookF C).1.q (lookF C).1.n) :: A) h2 := hs
  unfold numberM at k
  by_cases ho : C.out = true
  · have e : lookF C = (⟨inf0, inf0, 0⟩, 8) := by unfold lookF; rw [if_pos ho]
    rw [if_pos ho] at k
    rw [e, if_pos (by simp)]
    exact k _ hs.drop
  have e : lookF C = (⟨pI C 0, pI C 1, presM C⟩, 0) := by unfold lookF; rw [if_neg ho]
  rw [if_neg ho] at k
  rw [e] at hs lp lq ⊢
  dsimp only at hs lp lq ⊢
  rw [if_neg (by simp)]
  refine slot_sp hs ci.s cl.s slot ?_
  intro h3 hs
  by_cases g : 0 ≤ slot ∧ slot ≤ C.cfg.slots
  case neg =>
    rw [if_pos g] at k
    rw [if_pos (by rw [decide_eq_false g]; rfl)]
    exact k _ hs.drop
  rw [if_neg (fun y => y g)] at k
  rw [if_neg (by rw [decide_eq_true g]; decide)]
  have L := hs.fnd .z lp lq
  refine ⟨_, L.a0, _, ‹_›, L.a1, _, L.a10, _, L.a11, _, L.a12, _, L.a13, _, ‹_›, L.a14, _, L.a23, _, L.a24, _, L.a25, _, L.a26, ?_⟩
  have hc2 := presM_cases C
  refine finfo_sp lp lq (by omega) hs ?_
  intro h4 hs
  rw [← infoM_f]
  have := ok.may.slots
  exact ⟨by omega, by omega, k _ hs.drop⟩
theorem Generation_sp {Q : Int → H → Prop} (hs : Sat h0 A h) (ci : At A i (chipE p C)) (cl : At A j (logE r p)) (k : ∀ h', Sat h0 A h' → Q (genT C) h') : F_log_Log_Generation ⟨r, 0, none⟩ Q h := by
  unfold F_log_Log_Generation G_log_Log_Generation
  simp only [add_mk, Nat.zero_add]
  refine logLook_sp hs ci cl ?_
  intro h1 hs
  obtain ⟨lp, lq⟩ := lookF_len C
  intro n17 _ hn; replace hs := Sat.new hs hn; clear hn
  refine ⟨Sat.can hs (i := 0) .z (by decide), ?_⟩
  intro h2 e
  replace hs := Sat.wra hs (i := 0) .z e (by rw [fnd_len lp lq]; rfl)
  clear e
  replace hs : Sat h0 (blk n17 (fndI (lookF C).1.p (lookF C).1.q (lookF C).1.n) :: A) h2 := hs
  unfold genT at k
  by_cases ho : C.out = true
  · have e : lookF C = (⟨inf0, inf0, 0⟩, 8) := by unfold lookF; rw [if_pos ho]
    rw [if_pos ho] at k
    rw [e, if_pos (by simp)]
    exact k _ hs.drop
  have e : lookF C = (⟨pI C 0, pI C 1, presM C⟩, 0) := by unfold lookF; rw [if_neg ho]
  rw [if_neg ho] at k
  rw [e] at hs lp lq ⊢
  dsimp only at hs lp lq ⊢
  rw [if_neg (by simp)]
  have L := hs.fnd .z lp lq
  refine ⟨_, L.a0, _, ‹_›, L.a1, _, L.a10, _, L.a11, _, L.a12, _, L.a13, _, ‹_›, L.a14, _, L.a23, _, L.a24, _, L.a25, _, L.a26, ?_⟩
  have hc2 := presM_cases C
  refine finfo_sp lp lq (by omega) hs ?_
  intro h4 hs
  rw [← infoM_f]
  have kk := k _ hs.drop
  first
    | exact kk
    | (intro n99 _ hn99; skip)
end
end Go.Proofs.Yteabcbpimjjdpaa
end

/- The log: bounds of what pages say; the document's log. Own work. -/
section
set_option maxRecDepth 100000
set_option linter.unusedVariables false
namespace Go.Proofs.Yteabcbpimjjdpaa
open Go Go.Vc

theorem recM_num (x : List Int) : 0 ≤ (recM x).2.2 ∧ (recM x).2.2 ≤ most := by
  unfold recM
  (repeat' split) <;> simp only [most] at * <;> omega
structure InfOk (I : Inf) (l : Nat) : Prop where
  head : 0 ≤ I.head ∧ I.head ≤ most
  next : 0 ≤ I.next ∧ I.next ≤ l
  torn : 0 ≤ I.torn ∧ I.torn ≤ l
  nums : ∀ k, 0 ≤ I.nums.getD k 0 ∧ I.nums.getD k 0 ≤ most
theorem set_getD (l : List Int) (j k : Nat) (v : Int) : (l.set j v).getD k 0 = if j = k ∧ k < l.length then v else l.getD k 0 := by
  rw [List.getD_eq_getElem?_getD, List.getElem?_set]
  by_cases c : j = k
  · subst c
    by_cases d : j < l.length
    · simp [d]
    · simp [d]
  · simp [c]
theorem ofM_ok (row : List Int) (n : Nat) (hn : n < 2 ^ 60) : InfOk (ofM row n) n := by
  induction n with
  | zero =>
    refine ⟨by show (0 : Int) ≤ 0 ∧ (0 : Int) ≤ most; decide, by show (0 : Int) ≤ 0 ∧ (0 : Int) ≤ 0; decide, by show (0 : Int) ≤ 0 ∧ (0 : Int) ≤ 0; decide, fun k => ?_⟩
    show 0 ≤ (zeros 9).getD k 0 ∧ (zeros 9).getD k 0 ≤ most
    have : (zeros 9).getD k 0 = 0 := by
      rw [List.getD_eq_getElem?_getD]
      unfold zeros
      rw [List.getElem?_replicate]; split <;> rfl
    rw [this]; decide
  | succ n ih =>
    obtain ⟨i1, i2, i3, i4⟩ := ih (by omega)
    obtain ⟨r1, r2⟩ := recM_num (cellAt row n)
    have hl := ofM_len row n
    unfold ofM layM
    generalize (recM (cellAt row n)).1 = kind
    generalize (recM (cellAt row n)).2.1 = slot
    generalize (recM (cellAt row n)).2.2 = num at *
    generalize ofM row n = I at *
    have hN : InfOk (nextM I n kind) (n + 1) ∧ (nextM I n kind).torn ≤ n := by
      unfold nextM
      split
      · exact ⟨⟨i1, by dsimp only; rw [wrap_id (by omega)]; omega, by dsimp only; omega, i4⟩, i3.2⟩
      · exact ⟨⟨i1, by omega, by omega, i4⟩, i3.2⟩
    obtain ⟨⟨j1, j2, j3, j4⟩, j5⟩ := hN
    generalize nextM I n kind = J at *
    unfold layN
    split
    · exact ⟨j1, j2, by dsimp only; rw [wrap_id (by omega)]; omega, j4⟩
    · split
      · exact ⟨⟨r1, r2⟩, j2, j3, j4⟩
      · split
        · refine ⟨j1, j2, j3, fun k => ?_⟩
          dsimp only
          rw [set_getD]
          split
          · have := j4 slot.toNat
            split <;> omega
          · exact j4 k
        · exact ⟨j1, j2, j3, j4⟩
theorem pageI_ok (row : List Int) (n : Nat) (hn : n < 2 ^ 60) : InfOk (pageI row n) n := ⟨(ofM_ok row n hn).1, (ofM_ok row n hn).2, (ofM_ok row n hn).3, (ofM_ok row n hn).4⟩
theorem pI_ok {C : Cm} (ok : C.ok) (k : Nat) : InfOk (pI C k) C.cfg.cells.toNat := pageI_ok _ _ (by have := ok.may.cells; omega)
theorem infoM_ok {C : Cm} (ok : C.ok) : InfOk (infoM C) C.cfg.cells.toNat := by
  unfold infoM
  split
  · refine ⟨by decide, ⟨by decide, by show (0 : Int) ≤ _; omega⟩, ⟨by decide, by show (0 : Int) ≤ _; omega⟩, fun k => ?_⟩
    have := (ofM_ok [] 0 (by decide)).nums k
    exact this
  · exact pI_ok ok _
section
variable {h0 h : H} {A : List Ent} {i j p r l b : Nat} {C : Cm}
theorem ok_pages {C : Cm} (ok : C.ok) : (2 : Int) ≤ C.s.pages.length ∧ (2 : Int) ≤ C.s.erases.length := by
  have h1 := ok.fits.pages
  have h4 := ok.fits.erases
  have h2 := ok.may.area
  have h3 : C.cfg.np = 2 + 2 * C.cfg.area := rfl
  omega
theorem freeT_range {C : Cm} (ok : C.ok) : 0 ≤ freeT C ∧ freeT C ≤ 256 := by
  have h1 := (infoM_ok ok).next
  have h2 := ok.may.cells
  have h3 := ok.may.slots
  unfold freeT; (repeat' split) <;> omega
end
end Go.Proofs.Yteabcbpimjjdpaa
end

/- The log: a turn, a lay of the program. Own work. -/
section
set_option maxRecDepth 100000
set_option linter.unusedVariables false
namespace Go.Proofs.Yteabcbpimjjdpaa
open Go Go.Vc

theorem value_ok {x : Nat} {v : Int} (hx : x ≤ 8) (h1 : 1 ≤ v) (h2 : v ≤ most) : (valueM (x : Int) v).2 = 0 := by
  unfold valueM
  rw [if_neg (by omega), if_neg (by omega), if_neg (by omega), if_neg (by omega)]
theorem head_ok {g : Int} (h1 : 1 ≤ g) (h2 : g ≤ most) : (headM g).2 = 0 := by
  unfold headM
  rw [if_neg (by omega), if_neg (by omega)]
theorem most_val : most = 4611686018427387904 := rfl
section
variable {h0 h : H} {A : List Ent} {i j p r b : Nat} {C : Cm}
theorem turn1_sp {Q : Int → H → Prop} {nm nx nt nl nf : Nat} {nv fv : List Value} {x at_ t : Nat} {v : Int} (hx : x ≤ 8) (hv1 : 1 ≤ v) (hv2 : v ≤ most) (hat : at_ < 2 ^ 60)
    (hs : Sat h0 (blk nm nv :: blk nx [.int .i64 (at_ : Int)] :: blk nt [.int .i64 (t : Int)] :: blk nf fv :: blk nl [.pointer (some ⟨r, 0, none⟩)] :: A) h) (ci : At A i (chipE p C)) (cl : At A j (logE r p))
    (k : ∀ h', Sat h0 (blk nm nv :: blk nx [.int .i64 ((at_ + 1 : Nat) : Int)] :: blk nt [.int .i64 (t : Int)] :: blk nf fv :: blk nl [.pointer (some ⟨r, 0, none⟩)] :: put A i (chipE p (programM C (t : Int) (at_ : Int) (valueM (x : Int) v).1).1)) h' → Q (programM C (t : Int) (at_ : Int) (valueM (x : Int) v).1).2 h') :
    F_log_Log_turn_1 (x : Int) v ⟨nx, 0, none⟩ ⟨nl, 0, none⟩ ⟨nt, 0, none⟩ Q h := by
  unfold F_log_Log_turn_1 G_log_Log_turn_1
  simp only [List.append_nil]
  refine Value_sp (x : Int) v hs ?_
  intro h1 hs
  have hl := valueM_length (x : Int) v
  rw [value_ok hx hv1 hv2]
  generalize (valueM (x : Int) v).1 = rec at *
  intro n12 _ hn; replace hs := Sat.new hs hn; clear hn
  refine ⟨Sat.can hs (i := 0) .z (by simp [zeros]), ?_⟩
  intro h2 e2
  replace hs := Sat.wra hs (i := 0) .z e2 (by simp [zeros, hl])
  clear e2
  simp only [put] at hs
  rw [if_neg (by simp)]
  refine ⟨_, Sat.ld hs (by (repeat (first | exact At.z | apply At.s))) (by rfl), ?_⟩
  (refine ⟨Sat.can hs (by (repeat (first | exact At.z | apply At.s))) (by simp), ?_⟩; intro _ e; replace hs := Sat.wr hs (by (repeat (first | exact At.z | apply At.s))) e; clear e; simp only [put, splice, List.set] at hs)
  rw [wrap_succ (by omega)] at hs
  refine ⟨_, Sat.ld hs (by (repeat (first | exact At.z | apply At.s))) (by rfl), ?_⟩
  refine ⟨_, rfl, _, hs.ld cl.s.s.s.s.s.s rfl, ?_⟩
  refine ⟨_, Sat.ld hs (by (repeat (first | exact At.z | apply At.s))) (by rfl), ?_⟩
  refine ⟨_, Sat.ld hs (by (repeat (first | exact At.z | apply At.s))) (by rfl), ?_⟩
  refine ⟨_, hl, hs.row0 (i := 0) .z, _, rfl, ?_⟩
  have ea : IntKind.i64.wrap (((at_ + 1 : Nat) : Int) - 1) = (at_ : Int) := by rw [wrap_id (by omega)]; omega
  rw [ea]
  refine Program_sp hs ci.s.s.s.s.s.s (t : Int) (at_ : Int) rec hl ?_
  intro h3 hs
  simp only [put_succ] at hs
  exact k _ hs.drop
theorem turn_sp {Q : Int → H → Prop} (hs : Sat h0 A h) (ci : At A i (chipE p C)) (cl : At A j (logE r p)) (hij : j ≠ i) (slot : Nat) (n : Int) (hsl : (slot : Int) ≤ C.cfg.slots) (hn1 : 1 ≤ n) (hn2 : n ≤ most) (hg : (infoM C).head < most)
    (k : ∀ h', Sat h0 (put A i (chipE p (turnL C slot n).1)) h' → Q (turnL C slot n).2 h') :
    F_log_Log_turn ⟨r, 0, none⟩ (pI C 0).head (pI C 0).nums (pI C 0).next (pI C 0).blank (pI C 0).torn (pI C 1).head (pI C 1).nums (pI C 1).next (pI C 1).blank (pI C 1).torn (presM C) (slot : Int) n Q h := by
  unfold F_log_Log_turn G_log_Log_turn
  simp only [add_mk, Nat.zero_add, List.append_nil]
  have ok := chip_ok hs ci
  have hslots := ok.may.slots
  have l0 := pI_len C 0
  have l1 := pI_len C 1
  have hc2 := presM_cases C
  have ht := tgt_lt C
  have iok := infoM_ok ok
  have ilen := infoM_len C
  intro n23 _ hn; replace hs := Sat.new hs hn; clear hn
  intro n26 _ hn; replace hs := Sat.new hs hn; clear hn
  replace hs : Sat h0 (blk n26 (fndI (pI C 0) (pI C 1) (presM C)) :: blk n23 [.pointer (some ⟨r, 0, none⟩)] :: A) _ := hs
  have L := hs.fnd (i := 0) .z l0 l1
  refine ⟨_, L.a0, _, ‹_›, L.a1, _, L.a10, _, L.a11, _, L.a12, _, L.a13, _, ‹_›, L.a14, _, L.a23, _, L.a24, _, L.a25, _, L.a26, ?_⟩
  refine target_sp l0 l1 hs ?_
  intro h1 hs
  rw [tgt_eq]
  intro n42 _ hn; replace hs := Sat.new hs hn; clear hn
  (refine ⟨Sat.can hs (by (repeat (first | exact At.z | apply At.s))) (by simp), ?_⟩; intro _ e; replace hs := Sat.wr hs (by (repeat (first | exact At.z | apply At.s))) e; clear e; simp only [put, splice, List.set] at hs)
  obtain ⟨t, htd⟩ : ∃ t, t = tgtM C := ⟨_, rfl⟩
  obtain ⟨nums, hnums⟩ : ∃ nums, nums = (infoM C).nums.set slot n := ⟨_, rfl⟩
  have hnb : ∀ x, 0 ≤ nums.getD x 0 ∧ nums.getD x 0 ≤ most := by
    intro x
    rw [hnums, set_getD]
    split
    · omega
    · exact iok.nums x
  have hnl : nums.length = 9 := by rw [hnums, List.length_set, ilen]
  have kk : turnL C slot n = if (pI C t).blank = true then turnA (infoM C).head (t : Int) nums (C.cfg.slots + 1).toNat C else if (eraseM C (t : Int)).2 ≠ 0 then eraseM C (t : Int) else turnA (infoM C).head (t : Int) nums (C.cfg.slots + 1).toNat (eraseM C (t : Int)).1 := by rw [htd, hnums]; rfl
  rw [kk] at k
  rw [← htd] at hs ht
  clear kk
  intro J47 hJ47
  -- behind the erase
  have way : ∀ (D : Cm) h', D.cfg = C.cfg → Sat h0 (blk n42 [.int .i64 (t : Int)] :: blk n26 (fndI (pI C 0) (pI C 1) (presM C)) :: blk n23 [.pointer (some ⟨r, 0, none⟩)] :: put A i (chipE p D)) h' →
      (∀ h', Sat h0 (put A i (chipE p (turnA (infoM C).head (t : Int) nums (C.cfg.slots + 1).toNat D).1)) h' → Q (turnA (infoM C).head (t : Int) nums (C.cfg.slots + 1).toNat D).2 h') → J47 [] h' := by
    intro D h2 hcf hs k
    apply hJ47
    clear hJ47 J47
    have ci2 := ci.put (chipE p D)
    have cl2 := cl.put_ne hij (chipE p D)
    have pp : ∀ E : Cm, put (put A i (chipE p D)) i (chipE p E) = put A i (chipE p E) := fun E => put_put _ _ _ _
    generalize put A i (chipE p D) = A2 at *
    intro n49 _ hn; replace hs := Sat.new hs hn; clear hn
    (refine ⟨Sat.can hs (by (repeat (first | exact At.z | apply At.s))) (by simp), ?_⟩; intro _ e; replace hs := Sat.wr hs (by (repeat (first | exact At.z | apply At.s))) e; clear e; simp only [put, splice, List.set] at hs)
    have L := hs.fnd (i := 2) (.s (.s .z)) l0 l1
    refine ⟨_, L.a0, _, ‹_›, L.a1, _, L.a10, _, L.a11, _, L.a12, _, L.a13, _, ‹_›, L.a14, _, L.a23, _, L.a24, _, L.a25, _, L.a26, ?_⟩
    refine finfo_sp l0 l1 (by omega) hs ?_
    intro h3 hs
    rw [← infoM_f]
    intro n71 _ hn; replace hs := Sat.new hs hn; clear hn
    refine ⟨Sat.can hs (i := 0) .z (by simp [zeros]), ?_⟩
    intro h4 e4
    replace hs := Sat.wra hs (i := 0) .z e4 (by simp [zeros, ilen])
    clear e4
    simp only [put] at hs
    refine ⟨by omega, by omega, ?_⟩
    rw [Int.toNat_natCast, Nat.mul_one]
    refine ⟨Sat.can hs (i := 0) .z (by simp [ilen]; omega), ?_⟩
    intro h5 e5
    replace hs := Sat.wr hs (i := 0) .z e5
    clear e5
    have e6 : splice (ints .i64 (infoM C).nums) slot [.int .i64 n] = ints .i64 nums := by
      show (ints .i64 (infoM C).nums).set slot (.int .i64 n) = _
      rw [ints_set, hnums]
    rw [e6] at hs
    simp only [put] at hs
    refine ⟨_, hs.ld (i := 4) (.s (.s (.s (.s .z)))) rfl, _, rfl, _, hs.ld cl2.s.s.s.s.s rfl, _, rfl, ?_⟩
    refine Config_sp hs ci2.s.s.s.s.s ?_
    intro h6 hs
    rw [hcf]
    intro J90 hJ90
    obtain ⟨m, hm⟩ : ∃ m, m = (C.cfg.slots + 1).toNat := ⟨_, rfl⟩
    rw [← hm] at k
    have hm9 : m ≤ 9 := by omega
    have em : IntKind.i64.wrap (C.cfg.slots + 1) = (m : Int) := by rw [wrap_id (by omega)]; omega
    rw [em] at hJ90
    obtain ⟨E, hE⟩ : ∃ E, E = turnP (t : Int) nums m 0 1 D := ⟨_, rfl⟩
    have kE : turnA (infoM C).head (t : Int) nums m D = if E.2 ≠ 0 then E else programM E.1 (t : Int) 0 (headM ((infoM C).head + 1)).1 := by unfold turnA; rw [← hE]
    rw [kE] at k
    clear kE
    have hs1 : ∃ (F : Cm) (at_ : Nat), at_ ≤ 0 + 1 ∧ Sat h0 (blk n71 (ints .i64 nums) :: blk n49 [.int .i64 (at_ : Int)] :: blk n42 [.int .i64 (t : Int)] :: blk n26 (fndI (pI C 0) (pI C 1) (presM C)) :: blk n23 [.pointer (some ⟨r, 0, none⟩)] :: put A2 i (chipE p F)) h6 ∧ turnP (t : Int) nums (m - 0) 0 at_ F = E :=
      ⟨D, 1, by omega, by rw [ci2.put_self]; exact hs, hE.symm⟩
    clear hs
    refine loop_up m (fun x h => ∃ (F : Cm) (at_ : Nat), at_ ≤ x + 1 ∧ Sat h0 (blk n71 (ints .i64 nums) :: blk n49 [.int .i64 (at_ : Int)] :: blk n42 [.int .i64 (t : Int)] :: blk n26 (fndI (pI C 0) (pI C 1) (presM C)) :: blk n23 [.pointer (some ⟨r, 0, none⟩)] :: put A2 i (chipE p F)) h ∧ turnP (t : Int) nums (m - x) x at_ F = E) ?_ ?_ 0 _ (by omega) hs1
    · rintro x h7 hx ⟨F, at_, hat, hs, hT⟩ hk
      apply hJ90
      rw [ltI_eq, if_pos (by simp; omega)]
      have g : ∀ h', Sat h0 (blk n71 (ints .i64 nums) :: blk n49 [.int .i64 (at_ : Int)] :: blk n42 [.int .i64 (t : Int)] :: blk n26 (fndI (pI C 0) (pI C 1) (presM C)) :: blk n23 [.pointer (some ⟨r, 0, none⟩)] :: put A2 i (chipE p F)) h' → hc h' ⟨n71, x, none⟩ = some (.int .i64 (nums.getD x 0)) := fun h' hs' => hs'.ld (i := 0) .z (by
        rw [ints_get, List.getElem?_eq_getElem (by omega)]; simp [List.getD, List.getElem?_eq_getElem (show x < nums.length by omega)])
      obtain ⟨m', hm'⟩ : ∃ m', m - x = m' + 1 := ⟨m - x - 1, by omega⟩
      rw [hm'] at hT
      unfold turnP at hT
      rw [wrap_succ (by omega), Int.toNat_natCast, Nat.mul_one]
      refine ⟨by omega, by omega, _, g _ hs, ?_⟩
      by_cases gz : nums.getD x 0 = 0
      · rw [if_pos gz] at hT
        rw [if_pos (by rw [gz]; rfl)]
        exact hk _ ⟨F, at_, by omega, hs, by rw [show m - (x + 1) = m' by omega]; exact hT⟩
      rw [if_neg gz] at hT
      rw [if_neg (by rw [beq_iff_eq]; exact gz)]
      refine ⟨by omega, by omega, _, g _ hs, ?_⟩
      have hb := hnb x
      refine turn1_sp (by omega) (by omega) hb.2 (by omega) hs (ci2.put _) (cl2.put_ne hij _) ?_
      intro h8 hs
      rw [put_put] at hs
      generalize programM F (t : Int) (at_ : Int) (valueM (x : Int) (nums.getD x 0)).1 = X at *
      by_cases ge : X.2 = 0
      · rw [if_neg (by simpa using ge)] at hT
        rw [if_neg (by simpa using ge)]
        exact hk _ ⟨X.1, at_ + 1, by omega, hs, by rw [show m - (x + 1) = m' by omega]; exact hT⟩
      · rw [if_pos (by simpa using ge)] at hT
        rw [if_pos (by simpa using ge)]
        rw [← hT, if_pos ge] at k
        refine k _ ?_
        rw [← pp]
        exact hs.drop.drop.drop.drop.drop
    · rintro h7 ⟨F, at_, hat, hs, hT⟩
      apply hJ90
      rw [ltI_eq, if_neg (by simp)]
      rw [Nat.sub_self] at hT
      unfold turnP at hT
      rw [← hT, if_neg (by simp)] at k
      dsimp only at k
      have L := hs.fnd (i := 3) (.s (.s (.s .z))) l0 l1
      refine ⟨_, L.a0, _, ‹_›, L.a1, _, L.a10, _, L.a11, _, L.a12, _, L.a13, _, ‹_›, L.a14, _, L.a23, _, L.a24, _, L.a25, _, L.a26, ?_⟩
      refine finfo_sp l0 l1 (by omega) hs ?_
      intro h8 hs
      rw [← infoM_f]
      have ih := iok.head
      have hmv := most_val
      rw [wrap_id (by omega)]
      refine Head_sp ((infoM C).head + 1) hs ?_
      intro h9 hs
      rw [head_ok (by omega) (by omega)]
      have hhl := headM_length ((infoM C).head + 1)
      generalize (headM ((infoM C).head + 1)).1 = rec at *
      intro n117 _ hn; replace hs := Sat.new hs hn; clear hn
      refine ⟨Sat.can hs (i := 0) .z (by simp [zeros]), ?_⟩
      intro h10 e10
      replace hs := Sat.wra hs (i := 0) .z e10 (by simp [zeros, hhl])
      clear e10
      simp only [put] at hs
      rw [if_neg (by simp)]
      refine ⟨_, hs.ld (i := 5) (.s (.s (.s (.s (.s .z))))) rfl, _, rfl, _, hs.ld (cl2.put_ne hij (chipE p F)).s.s.s.s.s.s rfl, ?_⟩
      refine ⟨_, Sat.ld hs (by (repeat (first | exact At.z | apply At.s))) (by rfl), ?_⟩
      refine ⟨_, hhl, hs.row0 (i := 0) .z, _, rfl, ?_⟩
      refine Program_sp hs (ci2.put (chipE p F)).s.s.s.s.s.s (t : Int) 0 rec hhl ?_
      intro h11 hs
      simp only [put_succ, put_put] at hs
      refine k _ ?_
      rw [← pp]
      exact hs.drop.drop.drop.drop.drop.drop
  have hbl := blank_at hs (i := 1) (.s .z) l0 l1 ht
  rw [htd, pI_tgt, ← htd] at hbl
  refine ⟨_, hs.ld (i := 0) .z rfl, by omega, by omega, _, hbl, ?_⟩
  by_cases g : (pI C t).blank = true
  · rw [if_pos g] at k
    rw [if_neg (by rw [g]; decide)]
    refine way C _ rfl ?_ k
    rw [ci.put_self]
    exact hs
  · rw [if_neg g] at k
    rw [if_pos (by simpa using g)]
    refine ⟨_, hs.ld (i := 2) (.s (.s .z)) rfl, _, rfl, _, hs.ld cl.s.s.s rfl, ?_⟩
    refine ⟨_, Sat.ld hs (by (repeat (first | exact At.z | apply At.s))) (by rfl), ?_⟩
    refine ⟨_, rfl, ?_⟩
    refine Erase_sp hs ci.s.s.s (t : Int) ?_
    intro h2 hs
    simp only [put_succ] at hs
    have hcf := erase_cfg C (t : Int)
    generalize eraseM C (t : Int) = X at *
    by_cases ge : X.2 = 0
    · rw [if_neg (by simpa using ge)] at k
      rw [if_neg (by simpa using ge)]
      exact way X.1 _ hcf hs k
    · rw [if_pos (by simpa using ge)] at k
      rw [if_pos (by simpa using ge)]
      exact k _ hs.drop.drop.drop
theorem Lay9_sp {Q : Int → H → Prop} (hs : Sat h0 A h) (ci : At A i (chipE p C)) (cl : At A j (logE r p)) (hij : j ≠ i) (slot n : Int)
    (k : ∀ h', Sat h0 (put A i (chipE p (layL C slot n).1)) h' → Q (layL C slot n).2 h') : F_log_Log_Lay ⟨r, 0, none⟩ slot n Q h := by
  unfold F_log_Log_Lay G_log_Log_Lay
  simp only [add_mk, Nat.zero_add, List.append_nil]
  have ok := chip_ok hs ci
  have hslots := ok.may.slots
  refine logLook_sp hs ci cl ?_
  intro h1 hs
  obtain ⟨lp, lq⟩ := lookF_len C
  intro n26 _ hn; replace hs := Sat.new hs hn; clear hn
  refine ⟨Sat.can hs (i := 0) .z (by decide), ?_⟩
  intro h2 e
  replace hs := Sat.wra hs (i := 0) .z e (by rw [fnd_len lp lq]; rfl)
  clear e
  replace hs : Sat h0 (blk n26 (fndI (lookF C).1.p (lookF C).1.q (lookF C).1.n) :: A) h2 := hs
  unfold layL at k
  by_cases ho : C.out = true
  · have e : lookF C = (⟨inf0, inf0, 0⟩, 8) := by unfold lookF; rw [if_pos ho]
    rw [if_pos ho] at k
    rw [e, if_pos (by simp)]
    exact k _ (by rw [ci.put_self]; exact hs.drop)
  have ho' : C.out = false := by simpa using ho
  have e : lookF C = (⟨pI C 0, pI C 1, presM C⟩, 0) := by unfold lookF; rw [if_neg ho]
  rw [if_neg ho] at k
  rw [e] at hs lp lq ⊢
  dsimp only at hs lp lq ⊢
  rw [if_neg (by simp)]
  intro J31 hJ31
  have iok := infoM_ok ok
  have ilen := infoM_len C
  have hc2 := presM_cases C
  have way : ∀ bb : Bool, (bb = true ↔ ¬ (0 ≤ slot ∧ slot ≤ C.cfg.slots ∧ 1 ≤ n ∧ n ≤ most)) → ∀ h3, Sat h0 (blk n26 (fndI (pI C 0) (pI C 1) (presM C)) :: A) h3 → J31 [.dv (.one (.bool bb))] h3 := by
    intro bb hbb h3 hs
    apply hJ31
    clear hJ31 J31
    by_cases gb : bb = true
    · rw [if_pos (hbb.1 gb)] at k
      rw [if_pos gb]
      exact k _ (by rw [ci.put_self]; exact hs.drop)
    have g : 0 ≤ slot ∧ slot ≤ C.cfg.slots ∧ 1 ≤ n ∧ n ≤ most := Classical.byContradiction fun y => gb (hbb.2 y)
    rw [if_neg (fun y => y g)] at k
    rw [if_neg gb]
    obtain ⟨g1, g2, g3, g4⟩ := g
    have L := hs.fnd .z lp lq
    refine ⟨_, L.a0, _, ‹_›, L.a1, _, L.a10, _, L.a11, _, L.a12, _, L.a13, _, ‹_›, L.a14, _, L.a23, _, L.a24, _, L.a25, _, L.a26, ?_⟩
    refine finfo_sp lp lq (by omega) hs ?_
    intro h4 hs
    rw [← infoM_f]
    refine ⟨by omega, by omega, ?_⟩
    by_cases g5 : n ≤ (infoM C).nums.getD slot.toNat 0
    · rw [if_pos g5] at k
      rw [leI_eq, if_pos (by rw [decide_eq_true g5])]
      exact k _ (by rw [ci.put_self]; exact hs.drop)
    rw [if_neg g5] at k
    rw [leI_eq, if_neg (by rw [decide_eq_false g5]; decide)]
    have L := hs.fnd .z lp lq
    refine ⟨_, L.a0, _, ‹_›, L.a1, _, L.a10, _, L.a11, _, L.a12, _, L.a13, _, ‹_›, L.a14, _, L.a23, _, L.a24, _, L.a25, _, L.a26, ?_⟩
    refine finfo_sp lp lq (by omega) hs ?_
    intro h5 hs
    rw [← infoM_f]
    intro n68 _ hn; replace hs := Sat.new hs hn; clear hn
    refine ⟨Sat.can hs (i := 0) .z (by decide), ?_⟩
    intro h6 e6
    replace hs := Sat.wra hs (i := 0) .z e6 ((inf_len ilen).trans rfl)
    clear e6
    replace hs : Sat h0 (blk n68 (infI (infoM C)) :: blk n26 (fndI (pI C 0) (pI C 1) (presM C)) :: A) h6 := hs
    intro J73 hJ73
    have way2 : ∀ bb : Bool, (bb = true ↔ (0 ≤ presM C ∧ (infoM C).next < C.cfg.cells)) → ∀ h7, Sat h0 (blk n68 (infI (infoM C)) :: blk n26 (fndI (pI C 0) (pI C 1) (presM C)) :: A) h7 → J73 [.dv (.one (.bool bb))] h7 := by
      intro bb hbb h7 hs
      apply hJ73
      clear hJ73 J73
      by_cases gb : bb = true
      · rw [if_pos (hbb.1 gb)] at k
        rw [if_pos gb]
        obtain ⟨sl, rfl⟩ := Int.eq_ofNat_of_zero_le g1
        refine Value_sp (sl : Int) n hs ?_
        intro h8 hs
        have hvl := valueM_length (sl : Int) n
        rw [value_ok (by omega) g3 g4]
        generalize (valueM (sl : Int) n).1 = rec at *
        intro n79 _ hn; replace hs := Sat.new hs hn; clear hn
        refine ⟨Sat.can hs (i := 0) .z (by simp [zeros]), ?_⟩
        intro h9 e9
        replace hs := Sat.wra hs (i := 0) .z e9 (by simp [zeros, hvl])
        clear e9
        simp only [put] at hs
        rw [if_neg (by simp)]
        have L := hs.fnd (i := 2) (.s (.s .z)) lp lq
        obtain ⟨L0, L1, L10, L11, L12⟩ := hs.infAt (i := 1) (.s .z) ilen
        refine ⟨_, hs.ld cl.s.s.s rfl, _, L.a26, _, L10, _, hvl, hs.row0 (i := 0) .z, _, rfl, ?_⟩
        refine Program_sp hs ci.s.s.s (presM C) (infoM C).next rec hvl ?_
        intro h10 hs
        simp only [put_succ] at hs
        exact k _ hs.drop.drop.drop
      rw [if_neg (fun y => gb (hbb.2 y))] at k
      rw [if_neg gb]
      have L := hs.fnd (i := 1) (.s .z) lp lq
      refine ⟨_, L.a0, _, ‹_›, L.a1, _, L.a10, _, L.a11, _, L.a12, _, L.a13, _, ‹_›, L.a14, _, L.a23, _, L.a24, _, L.a25, _, L.a26, ?_⟩
      refine worn9_sp hs ci.s.s cl.s.s ho' ?_
      intro h8 hs
      by_cases gw : wornF C = true
      · rw [if_pos gw] at k
        rw [if_pos gw]
        exact k _ (by rw [ci.put_self]; exact hs.drop.drop)
      rw [if_neg gw] at k
      rw [if_neg gw]
      have hgm : (infoM C).head < most := by
        have : ¬ most ≤ (infoM C).head := fun y => gw (by unfold wornF; rw [decide_eq_true y, Bool.or_true])
        omega
      have L := hs.fnd (i := 1) (.s .z) lp lq
      refine ⟨_, L.a0, _, ‹_›, L.a1, _, L.a10, _, L.a11, _, L.a12, _, L.a13, _, ‹_›, L.a14, _, L.a23, _, L.a24, _, L.a25, _, L.a26, ?_⟩
      obtain ⟨sl, rfl⟩ := Int.eq_ofNat_of_zero_le g1
      refine turn_sp hs ci.s.s cl.s.s (by omega) sl n g2 g3 g4 hgm ?_
      intro h9 hs
      simp only [put_succ] at hs
      exact k _ hs.drop.drop
    have L := hs.fnd (i := 1) (.s .z) lp lq
    refine ⟨_, L.a26, ?_⟩
    by_cases gp : 0 ≤ presM C
    · rw [leI_eq, if_pos (by simpa using gp)]
      obtain ⟨L0, L1, L10, L11, L12⟩ := hs.infAt (i := 0) .z ilen
      refine ⟨_, L10, _, hs.ld cl.s.s rfl, _, rfl, ?_⟩
      refine Config_sp hs ci.s.s ?_
      intro h7 hs
      obtain ⟨M0, M1, M10, M11, M12⟩ := hs.infAt (i := 0) .z ilen
      refine ⟨hcs_one M10, ?_⟩
      rw [ltI_eq]
      exact way2 _ (by simp [gp]) _ hs
    · rw [leI_eq, if_neg (by simpa using gp)]
      exact way2 false (by simp [gp]) _ hs
  refine slot_sp hs ci.s cl.s slot ?_
  intro h3 hs
  by_cases gs : 0 ≤ slot ∧ slot ≤ C.cfg.slots
  case neg =>
    rw [if_pos (by rw [decide_eq_false gs]; rfl)]
    exact way true (by constructor; intro _ y; exact gs ⟨y.1, y.2.1⟩; intro _; rfl) _ hs
  rw [if_neg (by rw [decide_eq_true gs]; decide)]
  by_cases gn : n < 1
  · rw [ltI_eq, if_pos (by simpa using gn)]
    exact way true (by constructor; intro _ y; omega; intro _; rfl) _ hs
  rw [ltI_eq, if_neg (by simpa using gn)]
  intro i135 hi
  subst hi
  rw [ltI_eq]
  have hmv := most_val
  refine way _ ?_ _ hs
  rw [decide_eq_true_iff]
  constructor
  · intro y z; omega
  · intro y
    exact Classical.byContradiction fun z => y ⟨gs.1, gs.2, by omega, by omega⟩
end
end Go.Proofs.Yteabcbpimjjdpaa
end

/- AreaWrites: what the programs of a Write leave; laws about numbers alone. Own work. -/
section
set_option maxRecDepth 100000
set_option linter.unusedVariables false
namespace Go.Proofs.Yteabcbpimjjdpaa
open Go Go.Vc

/-- A cell of an area that begins at a page. -/
def cellOf (B cells : Nat) (D : Cm) (x : Nat) : List Int := cellAt (D.pg (B + x / cells)) (x % cells)
theorem prog_step {C : Cm} {P q : Nat} {rec : List Int} (ho : C.out = false) (hP : P < C.s.pages.length) (hq : (q : Int) < C.cfg.cells) (ha : 0 ≤ C.acts ∧ C.acts < 2 ^ 60) :
    ∃ D : Cm, programM C (P : Int) (q : Int) rec = (D, errM C) ∧ D.cfg = C.cfg ∧ D.s.blown = C.s.blown ∧ D.s.pages.length = C.s.pages.length ∧ D.s.erases = C.s.erases ∧ (∀ x, x ≠ P → D.pg x = C.pg x) ∧
      D.acts = C.acts + 1 ∧ D.pg P = rowSet (C.pg P) q (progCell (cellAt (C.pg P) q) rec (maskAt C)) ∧ (C.left ≠ 0 → D.out = false) ∧ (-1 ≤ C.left → -1 ≤ D.left) := by
  have hac : C.act.acts = C.acts + 1 := by
    unfold Cm.act
    have : w64 (C.acts + 1) = C.acts + 1 := by unfold w64; rw [IntKind.wrap_i64]; omega
    split <;> exact this
  have ec : asksCellM C (P : Int) (q : Int) = 0 := by
    unfold asksCellM
    rw [askedM_in ho (by omega) (by omega), if_neg (by simp), askedM_in ho (by omega) hq]
  unfold programM
  rw [ec, if_neg (by simp), Int.toNat_natCast, Int.toNat_natCast]
  refine ⟨_, rfl, act_cfg C, ?_, ?_, ?_, ?_, hac, ?_, ?_, ?_⟩
  · show C.act.s.blown = _; rw [act_s]
  · show (C.act.s.pages.set P _).length = _; rw [List.length_set, act_s]
  · show C.act.s.erases = _; rw [act_s]
  · intro x hx
    show (C.act.s.pages.set P _).getD x [] = C.s.pages.getD x []
    simp only [List.getD, List.getElem?_set_ne (Ne.symm hx), act_s]
  · show (C.act.s.pages.set P _).getD P [] = _
    rw [getD_put _ _ _ _ (by rw [act_s]; exact hP)]
    unfold rowOf
    rw [Int.toNat_natCast]; rfl
  · intro hl
    show C.act.out = false
    exact act_out ho hl
  · intro hl
    show -1 ≤ C.act.left
    unfold Cm.act
    split
    · dsimp only; split <;> omega
    · exact Int.le_refl _
theorem cellOf_step {B cells i : Nat} {C D : Cm} {c : List Int} (hc : 0 < cells) (h1 : ∀ x, x ≠ B + i / cells → D.pg x = C.pg x) (h2 : D.pg (B + i / cells) = rowSet (C.pg (B + i / cells)) (i % cells) c) (hl : (C.pg (B + i / cells)).length = cells * 32) (hcl : c.length = 32) :
    cellOf B cells D i = c ∧ (∀ x, x ≠ i → cellOf B cells D x = cellOf B cells C x) ∧ (D.pg (B + i / cells)).length = cells * 32 := by
  have hm : i % cells < cells := Nat.mod_lt _ hc
  have hb : (i % cells + 1) * 32 ≤ (C.pg (B + i / cells)).length := by rw [hl]; exact Nat.mul_le_mul_right 32 hm
  refine ⟨?_, ?_, ?_⟩
  · unfold cellOf
    rw [h2, rowSet_same hb hcl]
  · intro x hx
    unfold cellOf
    by_cases e : x / cells = i / cells
    · rw [e, h2]
      have hmx : x % cells < cells := Nat.mod_lt _ hc
      refine rowSet_other hb (by rw [hl]; exact Nat.mul_le_mul_right 32 hmx) hcl ?_
      intro e2
      have a1 := Nat.div_add_mod x cells
      have a2 := Nat.div_add_mod i cells
      rw [e, e2] at a1
      omega
    · rw [h1 _ (by omega)]
  · rw [h2, rowSet_length hb hcl, hl]
theorem prog_whole {X : List Int} (hX : X.length = 32) (hb : bytesOk X) : progCell blankCell X (fun _ => 255) = X := by
  have hcl : (progCell blankCell X fun _ => 255).length = 32 := progCell_length _ _ _ (by simp [blankCell])
  refine ext_getD (hcl.trans hX.symm) fun i hi => ?_
  rw [hcl] at hi
  rw [prog_getD _ _ _ hi]
  exact prog_full _ (getD_byte hb _)
theorem cellM_bytes {bs : List Int} (hb : bytesOk bs) (n : Nat) : bytesOk (cellM bs n) := by
  unfold cellM
  refine tab_bytes fun k => ?_
  split
  · exact getD_byte hb _
  · exact ⟨by decide, by decide⟩
def doneP (n k x : Nat) : Prop := (1 ≤ x ∧ x ≤ k ∧ x < n) ∨ (k = n ∧ x = 0 ∧ 0 < n)
instance (n k x : Nat) : Decidable (doneP n k x) := by unfold doneP; infer_instance
theorem done_next {n k : Nat} (hk : k < n) (x : Nat) : doneP n (k + 1) x ↔ (doneP n k x ∨ x = (k + 1) % n) := by
  unfold doneP
  by_cases c : k + 1 = n
  · rw [c, Nat.mod_self]; omega
  · rw [Nat.mod_eq_of_lt (by omega)]; omega
theorem not_done {n k : Nat} (hk : k < n) : ¬ doneP n k ((k + 1) % n) := by
  unfold doneP
  by_cases c : k + 1 = n
  · rw [c, Nat.mod_self]; omega
  · rw [Nat.mod_eq_of_lt (by omega)]; omega
/-- What programs do to an area. -/
structure Pr (B area cells n k : Nat) (bs : List Int) (C D : Cm) (e : Int) : Prop where
  cfg : D.cfg = C.cfg
  bl : D.s.blown = C.s.blown
  np : D.s.pages.length = C.s.pages.length
  es : D.s.erases = C.s.erases
  pg : ∀ x, x < B ∨ B + area ≤ x → D.pg x = C.pg x
  good : e = 0 → D.acts = C.acts + (n - k : Nat) ∧ ∀ x, x < area * cells → cellOf B cells D x = if doneP n n x then cellM bs x else ffs
  bad : e ≠ 0 → e = 8 ∧ ∃ t, k < t ∧ t ≤ n ∧ D.acts = C.acts + (t - k : Nat) ∧ ∀ x, x < area * cells → x ≠ t % n → cellOf B cells D x = if doneP n (t - 1) x then cellM bs x else ffs
theorem programs (B area cells n : Nat) (bs : List Int) (hb : bytesOk bs) (hn : 0 < n) (hN : n ≤ area * cells) (hc : 0 < cells) : ∀ (m k : Nat) (C : Cm), m + k = n → C.out = false → -1 ≤ C.left → (cells : Int) = C.cfg.cells → B + area ≤ C.s.pages.length → (0 ≤ C.acts ∧ C.acts + m < 2 ^ 60) →
    (∀ x, x < area → (C.pg (B + x)).length = cells * 32) → (∀ x, x < area * cells → cellOf B cells C x = if doneP n k x then cellM bs x else ffs) → Pr B area cells n k bs C (progL (B : Int) cells bs n m k C).1 (progL (B : Int) cells bs n m k C).2 := by
  intro m
  induction m with
  | zero =>
    intro k C hk ho hl hcc hp ha hlen hcell
    have : k = n := by omega
    subst this
    unfold progL
    exact ⟨rfl, rfl, rfl, rfl, fun _ _ => rfl, fun _ => ⟨by simp, hcell⟩, fun x => absurd rfl x⟩
  | succ m ih =>
    intro k C hk ho hl hcc hp ha hlen hcell
    unfold progL
    have hin : (k + 1) % n < n := Nat.mod_lt _ hn
    have hnd := not_done (n := n) (k := k) (by omega)
    have hnx := done_next (n := n) (k := k) (by omega)
    generalize hi : (k + 1) % n = i at *
    have hdiv : i / cells < area := (Nat.div_lt_iff_lt_mul hc).2 (by omega)
    have hmod : i % cells < cells := Nat.mod_lt _ hc
    have hBle : B ≤ B + i / cells := Nat.le_add_right _ _
    have hne : ∀ x, x < B ∨ B + area ≤ x → x ≠ B + i / cells := by
      intro x hx
      generalize i / cells = dd at *
      omega
    have eB : (B : Int) + ((i / cells : Nat) : Int) = ((B + i / cells : Nat) : Int) := by simp
    rw [eB]
    obtain ⟨D, hD, d1, d2, d3, d4, d5, d6, d7, d8, d9⟩ := prog_step (C := C) (P := B + i / cells) (q := i % cells) (rec := cellM bs i) ho (by omega) (by omega) ⟨ha.1, by omega⟩
    rw [hD]
    dsimp only
    have hold : cellAt (C.pg (B + i / cells)) (i % cells) = ffs := by
      have := hcell i (by omega)
      rw [if_neg hnd] at this
      exact this
    rw [hold] at d7
    have hclen : ∀ f, (progCell ffs (cellM bs i) f).length = 32 := fun f => progCell_length _ _ _ rfl
    obtain ⟨s1, s2, s3⟩ := cellOf_step (B := B) (i := i) hc (fun x hx => d5 x hx) d7 (hlen _ hdiv) (hclen _)
    have hlen2 : ∀ x, x < area → (D.pg (B + x)).length = cells * 32 := by
      intro x hx
      by_cases e : x = i / cells
      · rw [e]; exact s3
      · rw [d5 _ (by omega)]; exact hlen x hx
    by_cases c : C.left = 0
    · have e8 : errM C = 8 := by unfold errM; rw [if_neg (by simpa using c)]
      rw [e8, if_pos (by simp)]
      refine ⟨d1, d2, d3, d4, fun x hx => d5 x (hne x hx), fun e => by simp at e, fun _ => ⟨rfl, k + 1, by omega, by omega, by rw [d6]; omega, fun x hx hx2 => ?_⟩⟩
      rw [hi] at hx2
      rw [s2 x hx2, Nat.add_sub_cancel]
      exact hcell x hx
    · have e0 : errM C = 0 := by unfold errM; rw [if_pos (by simpa using c)]
      rw [e0, if_neg (by simp)]
      have hmask : maskAt C = fun _ => 255 := by funext q; unfold maskAt; rw [if_pos (by simpa using c)]
      rw [hmask, ← blankCell_ffs, prog_whole (cellM_length bs i) (cellM_bytes hb i)] at s1
      have I := ih (k + 1) D (by omega) (d8 c) (d9 hl) (by rw [d1]; exact hcc) (by rw [d3]; exact hp) ⟨by omega, by omega⟩ hlen2 (fun x hx => by
        by_cases e : x = i
        · rw [e, s1, if_pos ((hnx i).2 (Or.inr rfl))]
        · rw [s2 x e, hcell x hx]
          by_cases dn : doneP n k x
          · rw [if_pos dn, if_pos ((hnx x).2 (Or.inl dn))]
          · rw [if_neg dn, if_neg (fun y => by rcases (hnx x).1 y with y | y; exact dn y; exact e y)])
      generalize progL (B : Int) cells bs n m (k + 1) D = X at *
      refine ⟨I.cfg.trans d1, I.bl.trans d2, I.np.trans d3, I.es.trans d4, fun x hx => (I.pg x hx).trans (d5 x (hne x hx)), fun e => ?_, fun e => ?_⟩
      · obtain ⟨g1, g2⟩ := I.good e
        exact ⟨by rw [g1, d6]; omega, g2⟩
      · obtain ⟨g1, t, g2, g3, g4, g5⟩ := I.bad e
        exact ⟨g1, t, by omega, g3, by rw [g4, d6]; omega, g5⟩
end Go.Proofs.Yteabcbpimjjdpaa
end

/- The log's laws, plain: records, pages, what one program or one erase leaves. Own work. -/
section
set_option maxRecDepth 100000
set_option linter.unusedVariables false
namespace Go.Proofs.Yteabcbpimjjdpaa
open Go Go.Vc

theorem gotI_b (l : List Int) (m : Nat) : ∀ k, (∀ i, i < k → l.getD i 0 = ((m / 2 ^ (8 * i) % 256 : Nat) : Int)) → b64 (gotI l k) = BitVec.ofNat 64 (m % 2 ^ (8 * k))
  | 0, _ => by
    show b64 0 = _
    rw [show m % 2 ^ (8 * 0) = 0 by simp [Nat.mod_one]]; rfl
  | k + 1, h => by
    have ih := gotI_b l m k fun i hi => h i (by omega)
    unfold gotI
    have hb : m / 2 ^ (8 * k) % 256 < 256 := Nat.mod_lt _ (by decide)
    rw [or_i64, ih, wrap_b64i, h k (by omega), wrap_id (by omega)]
    generalize hx : m / 2 ^ (8 * k) % 256 = x at *
    have e1 : b64 ((x : Int) * 2 ^ (8 * k)) = BitVec.ofNat 64 (x * 2 ^ (8 * k)) := by
      have : ((x : Int) * 2 ^ (8 * k)) = ((x * 2 ^ (8 * k) : Nat) : Int) := by push_cast; rfl
      rw [this]
      exact BitVec.ofInt_natCast _ _
    have e2 : m % 2 ^ (8 * (k + 1)) = 2 ^ (8 * k) * x + m % 2 ^ (8 * k) := by
      rw [show 8 * (k + 1) = 8 * k + 8 by omega, Nat.pow_add, Nat.mod_mul, ← hx, Nat.add_comm]
    have hlt : m % 2 ^ (8 * k) < 2 ^ (8 * k) := Nat.mod_lt _ (Nat.pow_pos (by decide))
    rw [e1, e2, Nat.two_pow_add_eq_or_of_lt hlt, BitVec.ofNat_or, BitVec.or_comm, Nat.mul_comm x]
theorem gotI_n {l : List Int} {n : Int} (h0 : 0 ≤ n) (h1 : n ≤ most) (h : ∀ i, i < 8 → l.getD i 0 = byteAt (IntKind.u64.wrap n) i) : gotI l 8 = n := by
  have hm := most_val
  obtain ⟨m, rfl⟩ := Int.eq_ofNat_of_zero_le h0
  have hw : IntKind.u64.wrap (m : Int) = (m : Int) := by rw [wrap_u64']; omega
  have hb := gotI_b l m 8 fun i hi => by
    rw [h i hi, hw]
    unfold byteAt
    have e1 : ((m : Int)).fdiv (2 ^ (8 * i)) = ((m / 2 ^ (8 * i) : Nat) : Int) := by
      rw [Int.fdiv_eq_ediv_of_nonneg _ (Int.le_of_lt (Int.pow_pos (by decide)))]
      push_cast; rfl
    rw [e1, IntKind.wrap_u8]
    omega
  rw [Nat.mod_eq_of_lt (show m < 2 ^ (8 * 8) by simp only [Nat.reduceMul, Nat.reducePow]; omega)] at hb
  have : b64 (gotI l 8) = b64 (m : Int) := hb.trans (BitVec.ofInt_natCast _ _).symm
  have := wrap_of_b64 this
  rw [gotI_range, wrap_id (by omega)] at this
  exact this
theorem laid_n (kind slot : Int) {n : Int} (h0 : 0 ≤ n) (h1 : n ≤ most) : gotI (((laidM kind slot n).drop 4).take 8) 8 = n := by
  refine gotI_n h0 h1 fun i hi => ?_
  have e1 : (((laidM kind slot n).drop 4).take 8).getD i 0 = (laidM kind slot n).getD (4 + i) 0 := by
    simp only [List.getD, List.getElem?_take_of_lt hi, List.getElem?_drop]
  rw [e1, (laid_get kind slot n (4 + i) (by omega)).1]
  unfold bodyM
  rw [if_neg (by omega)]
  unfold bodyF
  rw [if_neg (by omega), if_neg (by omega), if_neg (by omega), if_pos (by omega), show 4 + i - 4 = i by omega]
theorem laid9_0 (kind slot n : Int) : (laidM kind slot n).getD 0 0 = kind := by
  rw [(laid_get kind slot n 0 (by decide)).1]; rfl
theorem laid_1 (kind slot n : Int) : (laidM kind slot n).getD 1 0 = IntKind.u8.wrap slot := by
  rw [(laid_get kind slot n 1 (by decide)).1]; rfl
theorem ffs_0 : ffs.getD 0 0 = 255 := by decide
theorem rec_value {slot n : Int} (s0 : 0 ≤ slot) (s1 : slot ≤ 8) (h0 : 1 ≤ n) (h1 : n ≤ most) : recM (laidM 2 slot n) = (2, slot, n) := by
  unfold recM
  have e := laid_n 2 slot (by omega) h1
  have e0 := laid9_0 2 slot n
  have e1 := laid_1 2 slot n
  rw [wrap_u8_id (by omega)] at e1
  rw [e, e0, e1]
  rw [if_neg (by intro y; have := laid9_0 2 slot n; rw [y, ffs_0] at this; exact absurd this (by decide)), if_neg (by omega), if_neg (by omega), if_neg (by intro y; exact absurd y.1 (by decide)), if_pos ⟨rfl, s1, rfl⟩]
theorem rec_head {n : Int} (h0 : 1 ≤ n) (h1 : n ≤ most) : recM (laidM 1 0 n) = (1, 0, n) := by
  unfold recM
  have e := laid_n 1 0 (by omega) h1
  have e0 := laid9_0 1 0 n
  rw [e, e0]
  rw [if_neg (by intro y; have := laid9_0 1 0 n; rw [y, ffs_0] at this; exact absurd this (by decide)), if_neg (by omega), if_neg (by omega), if_pos ⟨rfl, rfl⟩]
theorem ffs_blank : ffs = blankCell := by decide
theorem rec_blank : recM blankCell = (0, 0, 0) := by unfold recM; rw [if_pos ffs_blank.symm]
theorem rec_zero {x : List Int} (h : (recM x).1 = 0) : x = blankCell := by
  rw [← ffs_blank]
  unfold recM at h
  by_cases e : x = ffs
  · exact e
  · rw [if_neg e] at h
    (repeat' split at h) <;> exact absurd h (by simp)

/-- What a page's cell is. -/
abbrev rk (row : List Int) (k : Nat) : Int × Int × Int := recM (cellAt row k)
theorem ofM_congr {r z : List Int} : ∀ {n : Nat}, (∀ k, k < n → rk r k = rk z k) → ofM r n = ofM z n
  | 0, _ => rfl
  | n + 1, h => by
    have := h n (by omega)
    unfold rk at this
    unfold ofM
    rw [ofM_congr (n := n) fun k hk => h k (by omega), this]
theorem lay_kind0 (I : Inf) (n slot num : Int) : layM I n 0 slot num = I := by
  unfold layM nextM layN
  rw [if_neg (by simp), if_neg (by simp), if_neg (by simp), if_neg (by simp)]
theorem ofM_tail {r : List Int} {m : Nat} : ∀ {n : Nat}, m ≤ n → (∀ k, m ≤ k → k < n → (rk r k).1 = 0) → ofM r n = ofM r m
  | 0, h, _ => by rw [show m = 0 by omega]
  | n + 1, h, hz => by
    by_cases e : m = n + 1
    · rw [e]
    · have := hz n (by omega) (by omega)
      unfold rk at this
      show layM _ _ _ _ _ = _
      rw [this, lay_kind0, ofM_tail (n := n) (by omega) fun k h1 h2 => hz k h1 (by omega)]
theorem ofM_next {r : List Int} : ∀ {n : Nat}, n < 2 ^ 60 → ∀ k : Nat, (ofM r n).next ≤ (k : Int) → k < n → (rk r k).1 = 0
  | 0, _, k, _, h => by omega
  | n + 1, hn, k, h, hk => by
    have hb := (ofM_ok r n (by omega)).next
    unfold ofM at h
    unfold layM at h
    rw [layN_next] at h
    unfold nextM at h
    by_cases c : (recM (cellAt r n)).1 = 0
    · rw [if_neg (by simpa using c)] at h
      by_cases e : k = n
      · rw [e]; exact c
      · exact ofM_next (n := n) (by omega) k h (by omega)
    · rw [if_pos c] at h
      dsimp only at h
      rw [wrap_id (by omega)] at h
      omega
/-- A page whose cells agree but for one, behind which all is blank. -/
theorem ofM_put {r z : List Int} {l q : Nat} (hq : q < l) (he : ∀ k, k < l → k ≠ q → rk z k = rk r k) (hz : ∀ k, q ≤ k → k < l → (rk r k).1 = 0) :
    ofM z l = layM (ofM r l) q (rk z q).1 (rk z q).2.1 (rk z q).2.2 := by
  have e1 : ofM z l = ofM z (q + 1) := ofM_tail (by omega) fun k h1 h2 => by rw [he k h2 (by omega)]; exact hz k (by omega) h2
  have e2 : ofM r l = ofM r q := ofM_tail (by omega) hz
  rw [e1, e2]
  show layM (ofM z q) _ _ _ _ = _
  rw [ofM_congr (n := q) fun k hk => he k (by omega) (by omega)]
theorem ofM_head {r : List Int} : ∀ {n : Nat}, 1 ≤ n → (ofM r n).head = if (rk r 0).1 = 1 then (rk r 0).2.2 else 0
  | 0, h => by omega
  | 1, _ => by
    show (layM inf0 0 (rk r 0).1 (rk r 0).2.1 (rk r 0).2.2).head = _
    generalize rk r 0 = x
    unfold layM
    have e2 : (nextM inf0 0 x.1).head = 0 := by unfold nextM; split <;> rfl
    generalize nextM inf0 0 x.1 = J at *
    unfold layN
    by_cases c : x.1 = 3
    · rw [if_pos c, if_neg (by omega)]; exact e2
    rw [if_neg c]
    by_cases d : x.1 = 1
    · rw [if_pos ⟨d, rfl⟩, if_pos d]
    · rw [if_neg (fun y => d y.1), if_neg (fun y => absurd y.2 (by decide)), if_neg d]
      exact e2
  | n + 2, _ => by
    rw [← ofM_head (n := n + 1) (by omega)]
    show (layM (ofM r (n + 1)) ((n + 1 : Nat) : Int) _ _ _).head = _
    exact lay_head _ _ _ _ _ (by omega)
theorem lay_nums (I J : Inf) (h : I.nums = J.nums) (n kind slot num : Int) : (layM I n kind slot num).nums = (layM J n kind slot num).nums := by
  unfold layM
  have h2 : (nextM I n kind).nums = (nextM J n kind).nums := by rw [nextM_nums, nextM_nums, h]
  generalize nextM I n kind = I at *
  generalize nextM J n kind = J at *
  unfold layN
  by_cases c : kind = 3
  · rw [if_pos c, if_pos c]; exact h2
  rw [if_neg c, if_neg c]
  by_cases d : kind = 1 ∧ n = 0
  · rw [if_pos d, if_pos d]; exact h2
  rw [if_neg d, if_neg d]
  by_cases e : kind = 2 ∧ 0 < n
  · rw [if_pos e, if_pos e, h2]
  · rw [if_neg e, if_neg e]; exact h2
theorem lay_nums0 (I : Inf) (kind slot num : Int) : (layM I 0 kind slot num).nums = I.nums := by
  unfold layM
  have h2 := nextM_nums I 0 kind
  generalize nextM I 0 kind = J at *
  unfold layN
  rw [← h2]
  by_cases c : kind = 3
  · rw [if_pos c]
  rw [if_neg c]
  by_cases d : kind = 1
  · rw [if_pos ⟨d, rfl⟩]
  · rw [if_neg (fun y => d y.1), if_neg (fun y => absurd y.2 (by decide))]
theorem ofM_nums {r z : List Int} : ∀ {n : Nat}, (∀ k, 1 ≤ k → k < n → rk r k = rk z k) → (ofM r n).nums = (ofM z n).nums
  | 0, _ => rfl
  | n + 1, h => by
    have ih := ofM_nums (n := n) fun k h1 h2 => h k h1 (by omega)
    show (layM (ofM r n) _ (rk r n).1 (rk r n).2.1 (rk r n).2.2).nums = (layM (ofM z n) _ (rk z n).1 (rk z n).2.1 (rk z n).2.2).nums
    by_cases e : n = 0
    · subst e
      rw [show ((0 : Nat) : Int) = 0 from rfl, lay_nums0, lay_nums0, ih]
    · rw [h n (by omega) (by omega)]
      exact lay_nums _ _ ih _ _ _ _
theorem lay_value (I : Inf) {q : Int} (hq : 0 < q) (slot num : Int) : (layM I q 2 slot num).nums = I.nums.set slot.toNat (if num > I.nums.getD slot.toNat 0 then num else I.nums.getD slot.toNat 0) := by
  unfold layM
  have h2 := nextM_nums I q 2
  generalize nextM I q 2 = J at *
  unfold layN
  rw [if_neg (by decide), if_neg (fun y => absurd y.1 (by decide)), if_pos ⟨rfl, hq⟩, h2]

/-- Sound pages; or no cut is to come. -/
def sndU (u : Bool) (C : Cm) : Prop :=
  match u with
  | true => C.left < 0
  | false => ∀ x, x < 2 → soundM (C.pg x) C.cfg.cells.toNat
theorem act_left {C : Cm} (h : C.left < 0) : C.act.left < 0 := by
  unfold Cm.act
  rw [if_pos (by omega)]
  show (if C.left - 1 > -1 then C.left - 1 else (-1 : Int)) < 0
  rw [if_neg (by omega)]
  decide
theorem prog_stp {u : Bool} {C : Cm} (ok : C.ok) (ho : C.out = false) {t q : Nat} (ht : t < 2) (hq : q < C.cfg.cells.toNat) {kind slot n : Int} (hk : isByte kind) (snd : sndU u C) (hbl : (rk (C.pg t) q).1 = 0) :
    ∃ D : Cm, programM C (t : Int) (q : Int) (laidM kind slot n) = (D, errM C) ∧ D.ok ∧ D.cfg = C.cfg ∧ D.s.erases = C.s.erases ∧ D.acts = w64 (C.acts + 1) ∧ (∀ x, x ≠ t → D.pg x = C.pg x) ∧ sndU u D ∧
      (∀ k, k < C.cfg.cells.toNat → k ≠ q → rk (D.pg t) k = rk (C.pg t) k) ∧ ((rk (D.pg t) q).1 = 0 ∨ (rk (D.pg t) q).1 = 3 ∨ rk (D.pg t) q = recM (laidM kind slot n)) ∧
      (C.left ≠ 0 → D.out = false ∧ rk (D.pg t) q = recM (laidM kind slot n)) ∧ (C.left = 0 → D.out = true) := by
  obtain ⟨hp2, he2⟩ := ok_pages ok
  have hj : t < C.s.pages.length := by omega
  have epg : C.pg t = C.s.pages[t] := by unfold Cm.pg; simp [List.getD, List.getElem?_eq_getElem hj]
  have hmem : C.pg t ∈ C.s.pages := by rw [epg]; exact List.getElem_mem hj
  have hcells := ok.may.cells
  have hlen : (C.pg t).length = C.cfg.cells.toNat * 32 := by have := ok.fits.cells _ hmem; omega
  have hbytes := ok.typed.bytes _ hmem
  have hXl := laidM_length kind slot n
  have hcb := rec_zero hbl
  have ec : asksCellM C (t : Int) (q : Int) = 0 := by
    unfold asksCellM
    rw [askedM_in ho (by omega) (by omega), if_neg (by simp), askedM_in ho (by omega) (by omega)]
  have hro : rowOf C (t : Int) = C.pg t := by unfold rowOf Cm.pg; rw [Int.toNat_natCast]
  unfold programM
  rw [ec, if_neg (by simp), Int.toNat_natCast, Int.toNat_natCast, hro]
  have half := fun sd : soundM (C.pg t) C.cfg.cells.toNat => half_prog (slot := slot) (n := n) (maskAt C) hk hlen hbytes sd hq hcb
  have full1 : C.left ≠ 0 → maskAt C = fun _ => 255 := fun hl => by funext i; unfold maskAt; rw [if_pos hl]
  have hplq : (q + 1) * 32 ≤ (C.pg t).length := by rw [hlen]; exact Nat.mul_le_mul_right 32 hq
  have hXb : bytesOk (laidM kind slot n) := tab_bytes fun k => by
    split
    · exact bodyM_byte hk _
    · exact byte_bits _ _ _
  have hpc : ∀ f, (progCell (cellAt (C.pg t) q) (laidM kind slot n) f).length = 32 := fun f => progCell_length _ _ _ (by rw [hcb]; simp [blankCell])
  have hfull : rk (rowSet (C.pg t) q (progCell (cellAt (C.pg t) q) (laidM kind slot n) fun _ => 255)) q = recM (laidM kind slot n) := by
    unfold rk
    rw [rowSet_same hplq (hpc _), hcb, prog_whole hXl hXb]
  have hpg : ∀ r, (C.act.setPage t r).pg t = r := fun r => getD_put _ _ _ _ (by rw [act_s]; exact hj)
  have hpgo : ∀ r x, x ≠ t → (C.act.setPage t r).pg x = C.pg x := by
    intro r x hx
    show (C.act.s.pages.set t _).getD x [] = C.s.pages.getD x []
    simp only [List.getD, List.getElem?_set_ne (Ne.symm hx), act_s]
  have hrl := rowSet_length hplq (hpc (maskAt C))
  have hother : ∀ f k, k < C.cfg.cells.toNat → k ≠ q → rk (rowSet (C.pg t) q (progCell (cellAt (C.pg t) q) (laidM kind slot n) f)) k = rk (C.pg t) k := by
    intro f k hk' hne
    unfold rk
    rw [rowSet_other hplq (by rw [hlen]; exact Nat.mul_le_mul_right 32 hk') (hpc _) hne]
  refine ⟨_, rfl, ?_, act_cfg C, ?_, ?_, hpgo _, ?_, ?_, ?_, ?_, ?_⟩
  · refine Cm.ok.setPage ok.act ?_ ?_
    · rw [act_cfg, hrl, hlen]; omega
    · intro v hv
      rcases rowSet_mem hv with h | h
      · exact hbytes v h
      · unfold progCell at h
        exact mapTo_mem (P := isByte) (fun v h => hbytes v (cellAt_mem h)) (fun _ _ _ => byte_bits _ _ _) v h
  · show C.act.s.erases = _; rw [act_s]
  · show C.act.acts = _
    unfold Cm.act; split <;> rfl
  · cases u with
    | true => exact act_left (C := C) snd
    | false =>
      have hc : (C.act.setPage t (rowSet (C.pg t) q (progCell (cellAt (C.pg t) q) (laidM kind slot n) (maskAt C)))).cfg = C.cfg := act_cfg C
      show ∀ x, x < 2 → soundM _ _
      rw [hc]
      intro x hx
      by_cases e : x = t
      · rw [e, hpg]; exact (half (snd t ht)).1
      · rw [hpgo _ _ e]; exact snd x hx
  · intro k h5 h6
    rw [hpg]; exact hother _ k h5 h6
  · rw [hpg]
    cases u with
    | true =>
      have hl : C.left < 0 := snd
      rw [full1 (by omega)]
      exact Or.inr (Or.inr hfull)
    | false =>
      rcases ((half (snd t ht)).2 q hq).2 with h | h | h
      · exact Or.inl h
      · exact Or.inr (Or.inl h)
      · refine Or.inr (Or.inr ?_)
        unfold rk
        rw [h]; exact hfull
  · intro hl
    refine ⟨act_out ho hl, ?_⟩
    rw [hpg, full1 hl]; exact hfull
  · intro hl
    show C.act.out = true
    unfold Cm.act
    rw [if_neg (by simpa using hl)]
theorem erase_stp {u : Bool} {C : Cm} (ok : C.ok) (ho : C.out = false) {t : Nat} (ht : t < 2) (hw : C.er t < C.cfg.erases) (snd : sndU u C) :
    ∃ D : Cm, eraseM C (t : Int) = (D, errM C) ∧ D.ok ∧ D.cfg = C.cfg ∧ D.er t = C.er t + 1 ∧ (∀ x, x ≠ t → D.er x = C.er x) ∧ D.acts = w64 (C.acts + 1) ∧ (∀ x, x ≠ t → D.pg x = C.pg x) ∧ sndU u D ∧
      (∀ k, k < C.cfg.cells.toNat → (rk (D.pg t) k).1 = 0 ∨ (rk (D.pg t) k).1 = 3 ∨ rk (D.pg t) k = rk (C.pg t) k) ∧
      (C.left ≠ 0 → D.out = false ∧ ∀ k, k < C.cfg.cells.toNat → (rk (D.pg t) k).1 = 0) ∧ (C.left = 0 → D.out = true) := by
  obtain ⟨hp2, he2⟩ := ok_pages ok
  have hj : t < C.s.pages.length := by omega
  have hje : t < C.s.erases.length := by omega
  have epg : C.pg t = C.s.pages[t] := by unfold Cm.pg; simp [List.getD, List.getElem?_eq_getElem hj]
  have hmem : C.pg t ∈ C.s.pages := by rw [epg]; exact List.getElem_mem hj
  have hcells := ok.may.cells
  have hlen : (C.pg t).length = C.cfg.cells.toNat * 32 := by have := ok.fits.cells _ hmem; omega
  have hbytes := ok.typed.bytes _ hmem
  have hro : rowOf C (t : Int) = C.pg t := by unfold rowOf Cm.pg; rw [Int.toNat_natCast]
  have hme := ok.may.erases
  have hms := ok.may.slots
  unfold eraseM
  rw [askedM_in ho (by omega) (by omega), if_neg (by simp), Int.toNat_natCast, hro]
  unfold Cm.er at hw
  rw [if_neg (by omega)]
  have full1 : C.left ≠ 0 → maskAt C = fun _ => 255 := fun hl => by funext i; unfold maskAt; rw [if_pos hl]
  have hblank : ∀ k, k < C.cfg.cells.toNat → (rk (eraseRow (C.pg t) fun _ => 255) k).1 = 0 := by
    intro k hk
    have e : cellAt (eraseRow (C.pg t) fun _ => 255) k = ffs := by
      have hl2 : (eraseRow (C.pg t) fun _ => 255).length = C.cfg.cells.toNat * 32 := by unfold eraseRow mapTo; rw [List.length_mapIdx, hlen]
      have hk32 : (k + 1) * 32 ≤ (eraseRow (C.pg t) fun _ => 255).length := by rw [hl2]; exact Nat.mul_le_mul_right 32 hk
      refine ext_getD (by rw [cellAt_length hk32]; rfl) fun i hi => ?_
      rw [cellAt_length hk32] at hi
      rw [cellAt_getD _ _ _ hi]
      unfold eraseRow
      rw [mapTo_getD _ _ _ _ (by omega) (by omega), full_or]
      unfold ffs
      rw [tab_getD _ hi]
    unfold rk
    rw [e, ffs_blank, rec_blank]
  have half := fun sd : soundM (C.pg t) C.cfg.cells.toNat => half_erase (maskAt C) hlen hbytes sd
  have hrange := ok.typed.erases (C.s.erases.getD t 0) (by
    have : C.s.erases.getD t 0 = C.s.erases[t] := by simp [List.getD, List.getElem?_eq_getElem hje]
    rw [this]; exact List.getElem_mem hje)
  have hpg : ∀ n r, ((C.act.setErase t n).setPage t r).pg t = r := fun n r => getD_put _ _ _ _ (by show t < C.act.s.pages.length; rw [act_s]; exact hj)
  have hpgo : ∀ n r x, x ≠ t → ((C.act.setErase t n).setPage t r).pg x = C.pg x := by
    intro n r x hx
    show (C.act.s.pages.set t _).getD x [] = C.s.pages.getD x []
    simp only [List.getD, List.getElem?_set_ne (Ne.symm hx), act_s]
  refine ⟨_, rfl, ?_, act_cfg C, ?_, ?_, ?_, hpgo _ _, ?_, ?_, ?_, ?_⟩
  · refine Cm.ok.setPage (ok.act.setErase (by omega)) ?_ ?_
    · show _ = 32 * C.act.cfg.cells
      rw [act_cfg]
      unfold eraseRow mapTo
      rw [List.length_mapIdx, hlen]; omega
    · intro v hv
      unfold eraseRow at hv
      exact mapTo_mem (P := isByte) (fun v h => hbytes v h) (fun _ _ _ => byte_bits _ _ _) v hv
  · show (C.act.s.erases.set t _).getD t 0 = _
    exact getD_put _ _ _ _ (by rw [act_s]; exact hje)
  · intro x hx
    show (C.act.s.erases.set t _).getD x 0 = C.s.erases.getD x 0
    simp only [List.getD, List.getElem?_set_ne (Ne.symm hx), act_s]
  · show C.act.acts = _
    unfold Cm.act; split <;> rfl
  · cases u with
    | true => exact act_left (C := C) snd
    | false =>
      have hc : ((C.act.setErase t (C.s.erases.getD t 0 + 1)).setPage t (eraseRow (C.pg t) (maskAt C))).cfg = C.cfg := act_cfg C
      show ∀ x, x < 2 → soundM _ _
      rw [hc]
      intro x hx
      by_cases e : x = t
      · rw [e, hpg]; exact (half (snd t ht)).1
      · rw [hpgo _ _ _ e]; exact snd x hx
  · intro k h5
    rw [hpg]
    cases u with
    | true =>
      have hl : C.left < 0 := snd
      rw [full1 (by omega)]
      exact Or.inl (hblank k h5)
    | false => exact (half (snd t ht)).2 k h5
  · intro hl
    refine ⟨act_out ho hl, fun k hk => ?_⟩
    rw [hpg, full1 hl]
    exact hblank k hk
  · intro hl
    show C.act.out = true
    unfold Cm.act
    rw [if_neg (by simpa using hl)]
end Go.Proofs.Yteabcbpimjjdpaa
end

/- The log's laws, plain: a turn, a lay. Own work. -/
section
set_option maxRecDepth 100000
set_option linter.unusedVariables false
namespace Go.Proofs.Yteabcbpimjjdpaa
open Go Go.Vc

abbrev nof (C : Cm) (t k : Nat) : Int := (pI C t).nums.getD k 0
abbrev numOf (C : Cm) (k : Nat) : Int := (infoM C).nums.getD k 0
abbrev lOf (C : Cm) : Nat := C.cfg.cells.toNat
def sndM (C : Cm) : Prop := ∀ x, x < 2 → soundM (C.pg x) C.cfg.cells.toNat
section
variable {u : Bool}
theorem w64_id {n : Int} (h0 : 0 ≤ n) (h1 : n < 2 ^ 61) : w64 n = n := by unfold w64; rw [IntKind.wrap_i64]; omega
theorem errM_cases (C : Cm) : (errM C = 0 ∧ C.left ≠ 0) ∨ (errM C = 8 ∧ C.left = 0) := by
  unfold errM
  by_cases c : C.left ≠ 0
  · rw [if_pos c]; exact Or.inl ⟨rfl, c⟩
  · rw [if_neg c]; exact Or.inr ⟨rfl, by simpa using c⟩
/-- What a part of a turn leaves. -/
structure Part (u : Bool) (C D : Cm) (t m : Nat) (e : Int) : Prop where
  ok : D.ok
  cfg : D.cfg = C.cfg
  pgs : ∀ y, y ≠ t → D.pg y = C.pg y
  snd : sndU u D
  ec : e = 0 ∨ e = 8
  out0 : e = 0 → D.out = false
  out8 : e = 8 → D.out = true
  acts : 0 ≤ C.acts → C.acts + m < 2 ^ 60 → C.acts ≤ D.acts ∧ D.acts ≤ C.acts + m
  un : u = true → e = 0
theorem Part.trans {C D E : Cm} {t m n : Nat} {e : Int} (a : Part u C D t m 0) (b : Part u D E t n e) : Part u C E t (m + n) e :=
  ⟨b.ok, b.cfg.trans a.cfg, fun y h => (b.pgs y h).trans (a.pgs y h), b.snd, b.ec, b.out0, b.out8, fun h1 h2 => by
    have := a.acts h1 (by omega)
    have := b.acts (by omega) (by omega)
    omega, b.un⟩
theorem Part.more {C D : Cm} {t m n : Nat} {e : Int} (a : Part u C D t m e) (h : m ≤ n) : Part u C D t n e :=
  ⟨a.ok, a.cfg, a.pgs, a.snd, a.ec, a.out0, a.out8, fun h1 h2 => by have := a.acts h1 (by omega); omega, a.un⟩
theorem Part.refl {C : Cm} (ok : C.ok) (ho : C.out = false) (snd : sndU u C) (t : Nat) : Part u C C t 0 0 :=
  ⟨ok, rfl, fun _ _ => rfl, snd, Or.inl rfl, fun _ => ho, fun h => absurd h (by decide), fun _ _ => by omega, fun _ => rfl⟩
theorem errM_un {C : Cm} (snd : sndU u C) : u = true → errM C = 0 := by
  intro hu
  subst hu
  have : C.left < 0 := snd
  unfold errM
  rw [if_pos (by omega)]
theorem prog_part {C : Cm} (ok : C.ok) (ho : C.out = false) {t q : Nat} (ht : t < 2) (hq : q < lOf C) {kind slot n : Int} (hk : isByte kind) (snd : sndU u C) (hbl : (rk (C.pg t) q).1 = 0) :
    ∃ D e, programM C (t : Int) (q : Int) (laidM kind slot n) = (D, e) ∧ Part u C D t 1 e ∧ (∀ x, D.er x = C.er x) ∧ (∀ k, k < lOf C → k ≠ q → rk (D.pg t) k = rk (C.pg t) k) ∧
      ((rk (D.pg t) q).1 = 0 ∨ (rk (D.pg t) q).1 = 3 ∨ rk (D.pg t) q = recM (laidM kind slot n)) ∧ (e = 0 → rk (D.pg t) q = recM (laidM kind slot n)) ∧ (0 ≤ C.acts → C.acts < 2 ^ 60 → D.acts = C.acts + 1) := by
  obtain ⟨D, h1, h2, h3, h4, h5, h6, h7, h8, h9, h10, h11⟩ := prog_stp ok ho ht hq (slot := slot) (n := n) hk snd hbl
  have ha : 0 ≤ C.acts → C.acts < 2 ^ 60 → D.acts = C.acts + 1 := fun a b => by rw [h5, w64_id (by omega) (by omega)]
  refine ⟨D, _, h1, ⟨h2, h3, h6, h7, ?_, ?_, ?_, ?_, errM_un snd⟩, fun x => by unfold Cm.er; rw [h4], h8, h9, ?_, ha⟩
  · rcases errM_cases C with ⟨e, _⟩ | ⟨e, _⟩
    · exact Or.inl e
    · exact Or.inr e
  · intro e
    rcases errM_cases C with ⟨_, c⟩ | ⟨e', _⟩
    · exact (h10 c).1
    · rw [e'] at e; exact absurd e (by decide)
  · intro e
    rcases errM_cases C with ⟨e', _⟩ | ⟨_, c⟩
    · rw [e'] at e; exact absurd e (by decide)
    · exact h11 c
  · intro a b
    rw [ha a (by omega)]; omega
  · intro e
    rcases errM_cases C with ⟨_, c⟩ | ⟨e', _⟩
    · exact (h10 c).2
    · rw [e'] at e; exact absurd e (by decide)
theorem value_laid {x : Nat} {v : Int} (hx : x ≤ 8) (h1 : 1 ≤ v) (h2 : v ≤ most) : (valueM (x : Int) v).1 = laidM 2 (x : Int) v := by
  unfold valueM
  rw [if_neg (by omega), if_neg (by omega), if_neg (by omega), if_neg (by omega)]
theorem head_laid {g : Int} (h1 : 1 ≤ g) (h2 : g ≤ most) : (headM g).1 = laidM 1 0 g := by
  unfold headM
  rw [if_neg (by omega), if_neg (by omega)]
/-- A value laid behind all else of a page. -/
theorem put_nums {r z : List Int} {l q x : Nat} {v : Int} (hq : q < l) (hq1 : 1 ≤ q) (he : ∀ k, k < l → k ≠ q → rk z k = rk r k) (hz : ∀ k, q ≤ k → k < l → (rk r k).1 = 0) (hx : x ≤ 8) (h1 : 1 ≤ v) (h2 : v ≤ most)
    (hv : (ofM r l).nums.getD x 0 < v) (hr : (rk z q).1 = 0 ∨ (rk z q).1 = 3 ∨ rk z q = recM (laidM 2 (x : Int) v)) :
    ((ofM z l).nums = (ofM r l).nums ∨ (ofM z l).nums = (ofM r l).nums.set x v) ∧ (rk z q = recM (laidM 2 (x : Int) v) → (ofM z l).nums = (ofM r l).nums.set x v) ∧ (ofM z l).head = (ofM r l).head := by
  have e := ofM_put hq he hz
  have full : rk z q = recM (laidM 2 (x : Int) v) → (ofM z l).nums = (ofM r l).nums.set x v := by
    intro c
    rw [e, c, rec_value (by omega) (by omega) h1 h2]
    rw [lay_value _ (by omega), Int.toNat_natCast, if_pos hv]
  refine ⟨?_, full, ?_⟩
  · rcases hr with h | h | h
    · left; rw [e]; exact (lay_idle _ _ _ _ _ (Or.inl h)).1
    · left; rw [e]; exact (lay_idle _ _ _ _ _ (Or.inr h)).1
    · exact Or.inr (full h)
  · rw [e]; exact lay_head _ _ _ _ _ (by omega)
theorem turnP_law {t : Nat} (ht : t < 2) {nums : List Int} (hnl : nums.length = 9) (hnb : ∀ k, 0 ≤ nums.getD k 0 ∧ nums.getD k 0 ≤ most) : ∀ (m x at_ : Nat) (C : Cm), C.ok → C.out = false → sndU u C → 1 ≤ at_ → at_ + m ≤ lOf C → x + m ≤ 9 →
    (rk (C.pg t) 0).1 = 0 → (∀ k, at_ ≤ k → k < lOf C → (rk (C.pg t) k).1 = 0) → (∀ k, k < x → nof C t k = nums.getD k 0) → (∀ k, x ≤ k → nof C t k = 0) →
    ∃ D e, turnP (t : Int) nums m x at_ C = (D, e) ∧ Part u C D t m e ∧ (∀ y, D.er y = C.er y) ∧ (rk (D.pg t) 0).1 = 0 ∧ (∃ at2, 1 ≤ at2 ∧ at2 ≤ at_ + m ∧ ∀ k, at2 ≤ k → k < lOf C → (rk (D.pg t) k).1 = 0) ∧
      (e = 0 → ∀ k, k < x + m → nof D t k = nums.getD k 0)
  | 0, x, at_, C, ok, ho, snd, h1, h2, h3, h4, h5, h6, h7 => ⟨C, 0, rfl, Part.refl ok ho snd t, fun _ => rfl, h4, ⟨at_, h1, by omega, h5⟩, fun _ => by simpa using h6⟩
  | m + 1, x, at_, C, ok, ho, snd, h1, h2, h3, h4, h5, h6, h7 => by
    unfold turnP
    by_cases gz : nums.getD x 0 = 0
    · rw [if_pos gz]
      obtain ⟨D, e, d1, d2, d3, d4, ⟨a2, d5, d6, d7⟩, d8⟩ := turnP_law ht hnl hnb m (x + 1) at_ C ok ho snd h1 (by omega) (by omega) h4 h5 (by
        intro k hk
        by_cases c : k < x
        · exact h6 k c
        · rw [show k = x by omega, gz]; exact h7 x (by omega)) (fun k hk => h7 k (by omega))
      exact ⟨D, e, d1, d2.more (by omega), d3, d4, ⟨a2, d5, by omega, d7⟩, fun he k hk => d8 he k (by omega)⟩
    rw [if_neg gz]
    have hb := hnb x
    rw [value_laid (by omega) (by omega) hb.2]
    have hat : at_ < lOf C := by omega
    obtain ⟨D, e, p1, p2, p3, p4, p5, p6, _⟩ := prog_part ok ho ht hat (kind := 2) (slot := (x : Int)) (n := nums.getD x 0) ⟨by decide, by decide⟩ snd (h5 at_ (by omega) hat)
    rw [p1]
    have hlo : lOf D = lOf C := by show D.cfg.cells.toNat = _; rw [p2.cfg]
    have hz0 : (rk (D.pg t) 0).1 = 0 := by rw [p4 0 (by omega) (by omega)]; exact h4
    by_cases he : e = 0
    · subst he
      rw [if_neg (by simp)]
      obtain ⟨q1, q2, q3⟩ := put_nums (r := C.pg t) (z := D.pg t) hat h1 p4 h5 (x := x) (by omega) (by omega) hb.2 (by have := h7 x (by omega); have : (ofM (C.pg t) (lOf C)).nums.getD x 0 = 0 := this; omega) p5
      have q4 := q2 (p6 rfl)
      have hnof : ∀ k, nof D t k = if x = k ∧ k < 9 then nums.getD x 0 else nof C t k := by
        intro k
        show (ofM (D.pg t) (lOf D)).nums.getD k 0 = _
        rw [hlo, q4, set_getD, ofM_len]
        rfl
      obtain ⟨E, e2, d1, d2, d3, d4, ⟨a2, d5, d6, d7⟩, d8⟩ := turnP_law ht hnl hnb m (x + 1) (at_ + 1) D p2.ok (p2.out0 rfl) p2.snd (by omega) (by omega) (by omega) hz0
        (fun k k1 k2 => by rw [hlo] at k2; rw [p4 k k2 (by omega)]; exact h5 k (by omega) k2)
        (by
          intro k hk
          rw [hnof]
          by_cases c : x = k
          · rw [if_pos ⟨c, by omega⟩, c]
          · rw [if_neg (fun y => c y.1)]; exact h6 k (by omega))
        (by
          intro k hk
          rw [hnof, if_neg (by omega)]; exact h7 k (by omega))
      exact ⟨E, e2, d1, (p2.trans d2).more (by omega), fun y => (d3 y).trans (p3 y), d4, ⟨a2, d5, by omega, by rw [← hlo]; exact d7⟩, fun he k hk => d8 he k (by omega)⟩
    · rw [if_pos he]
      exact ⟨D, e, rfl, p2.more (by omega), p3, hz0, ⟨at_ + 1, by omega, by omega, fun k k1 k2 => by rw [p4 k k2 (by omega)]; exact h5 k (by omega) k2⟩, fun y => absurd y he⟩
theorem head_of (C : Cm) (t : Nat) (hl : 1 ≤ lOf C) : (pI C t).head = if (rk (C.pg t) 0).1 = 1 then (rk (C.pg t) 0).2.2 else 0 := ofM_head hl
theorem blank_inf {r : List Int} {n : Nat} (h : ∀ k, k < n → (rk r k).1 = 0) : ofM r n = inf0 := by
  have := ofM_tail (r := r) (m := 0) (n := n) (by omega) fun k _ hk => h k hk
  exact this
theorem turnA_law {t : Nat} (ht : t < 2) {nums : List Int} (hnl : nums.length = 9) (hnb : ∀ k, 0 ≤ nums.getD k 0 ∧ nums.getD k 0 ≤ most) {m : Nat} {C : Cm} {g : Int} (ok : C.ok) (ho : C.out = false) (snd : sndU u C) (hm : 1 + m ≤ lOf C) (hm9 : m ≤ 9) (g0 : 0 ≤ g) (g1 : g < most)
    (hbl : ∀ k, k < lOf C → (rk (C.pg t) k).1 = 0) :
    ∃ D e, turnA g (t : Int) nums m C = (D, e) ∧ Part u C D t (m + 1) e ∧ (∀ y, D.er y = C.er y) ∧ ((pI D t).head = 0 ∨ ((pI D t).head = g + 1 ∧ ∀ k, k < m → nof D t k = nums.getD k 0)) ∧ (e = 0 → (pI D t).head = g + 1) ∧
      (∀ k, 1 + m ≤ k → k < lOf C → (rk (D.pg t) k).1 = 0) := by
  have hz : ∀ k, nof C t k = 0 := by
    intro k
    show (ofM (C.pg t) (lOf C)).nums.getD k 0 = 0
    rw [blank_inf hbl]
    show (zeros 9).getD k 0 = 0
    rw [List.getD_eq_getElem?_getD]
    unfold zeros
    rw [List.getElem?_replicate]; split <;> rfl
  obtain ⟨D, e, d1, d2, d3, d4, ⟨a2, d5, d6, d7⟩, d8⟩ := turnP_law ht hnl hnb m 0 1 C ok ho snd (by omega) (by omega) (by omega) (hbl 0 (by omega)) (fun k _ h => hbl k h) (fun k h => absurd h (by omega)) (fun k _ => hz k)
  have hlo : lOf D = lOf C := by show D.cfg.cells.toNat = _; rw [d2.cfg]
  unfold turnA
  rw [d1]
  by_cases he : e = 0
  · subst he
    rw [if_neg (by simp), head_laid (by omega) (by omega)]
    obtain ⟨E, e2, p1, p2, p3, p4, p5, p6, _⟩ := prog_part d2.ok (d2.out0 rfl) ht (q := 0) (by omega) (kind := 1) (slot := 0) (n := g + 1) ⟨by decide, by decide⟩ d2.snd d4
    have hlo2 : lOf E = lOf C := by show E.cfg.cells.toNat = _; rw [p2.cfg]; exact hlo
    have hrec := rec_head (n := g + 1) (by omega) (by omega)
    have hnum : ∀ k, nof E t k = nof D t k := by
      intro k
      show (ofM (E.pg t) (lOf E)).nums.getD k 0 = (ofM (D.pg t) (lOf D)).nums.getD k 0
      rw [hlo2, hlo, ofM_nums (r := E.pg t) (z := D.pg t) fun k h1 h2 => p4 k (by omega) (by omega)]
    have hfull : rk (E.pg t) 0 = recM (laidM 1 0 (g + 1)) → (pI E t).head = g + 1 := by
      intro c
      rw [head_of E t (by omega), c, hrec, if_pos rfl]
    refine ⟨E, e2, p1, d2.trans p2, fun y => (p3 y).trans (d3 y), ?_, fun h => hfull (p6 h), ?_⟩
    · rcases p5 with c | c | c
      · left; rw [head_of E t (by omega), if_neg (by omega)]
      · left; rw [head_of E t (by omega), if_neg (by omega)]
      · right; exact ⟨hfull c, fun k hk => by rw [hnum]; exact d8 rfl k (by omega)⟩
    · intro k k1 k2
      rw [p4 k (by omega) (by omega)]
      exact d7 k (by omega) k2
  · rw [if_pos he]
    refine ⟨D, e, rfl, d2.more (by omega), d3, Or.inl ?_, fun y => absurd y he, fun k k1 k2 => d7 k (by omega) k2⟩
    rw [head_of D t (by omega), if_neg (by omega)]
/-- What a turn leaves. -/
structure Turned (u : Bool) (C D : Cm) (t : Nat) (nums : List Int) (e : Int) : Prop where
  part : Part u C D t (C.cfg.slots.toNat + 3) e
  ero : ∀ y, y ≠ t → D.er y = C.er y
  ert : D.er t = C.er t ∨ (D.er t = C.er t + 1 ∧ C.er t < C.cfg.erases)
  erb : (pI C t).blank = true → D.er t = C.er t
  ern : (pI C t).blank = false → D.er t = C.er t + 1
  head : (pI D t).head = 0 ∨ (pI D t).head = (pI C t).head ∨ ((pI D t).head = (infoM C).head + 1 ∧ ∀ k : Nat, (k : Int) ≤ C.cfg.slots → nof D t k = nums.getD k 0)
  headf : e = 0 → (pI D t).head = (infoM C).head + 1 ∧ ∀ k : Nat, (k : Int) ≤ C.cfg.slots → nof D t k = nums.getD k 0
  free : e = 0 → ∀ k : Nat, C.cfg.slots.toNat + 2 ≤ k → k < lOf C → (rk (D.pg t) k).1 = 0
theorem turn_law {C : Cm} {slot : Nat} {n : Int} (ok : C.ok) (ho : C.out = false) (snd : sndU u C) (hs : (slot : Int) ≤ C.cfg.slots) (hn1 : 1 ≤ n) (hn2 : n ≤ most) (hw : wornF C = false) :
    ∃ D e, turnL C slot n = (D, e) ∧ Turned u C D (tgtM C) ((infoM C).nums.set slot n) e := by
  have ht := tgt_lt C
  have iok := infoM_ok ok
  have ilen := infoM_len C
  have hmay := ok.may.slots
  have hcells := ok.may.cells
  unfold wornF at hw
  rw [Bool.or_eq_false_iff, decide_eq_false_iff_not] at hw
  obtain ⟨w1, w2⟩ := hw
  unfold turnL
  obtain ⟨t, htd⟩ : ∃ t, t = tgtM C := ⟨_, rfl⟩
  rw [← htd] at ht w1 ⊢
  have hnl : ((infoM C).nums.set slot n).length = 9 := by rw [List.length_set, ilen]
  have hnb : ∀ x, 0 ≤ ((infoM C).nums.set slot n).getD x 0 ∧ ((infoM C).nums.set slot n).getD x 0 ≤ most := by
    intro x
    rw [set_getD]
    split
    · omega
    · exact iok.nums x
  generalize (infoM C).nums.set slot n = nums at *
  obtain ⟨m, hm⟩ : ∃ m, m = (C.cfg.slots + 1).toNat := ⟨_, rfl⟩
  have hl : lOf C = C.cfg.cells.toNat := rfl
  rw [← hm]
  by_cases g : (pI C t).blank = true
  · rw [if_pos g]
    have gz : (ofM (C.pg t) (lOf C)).next = 0 := by
      have : decide ((ofM (C.pg t) (lOf C)).next = 0) = true := g
      exact of_decide_eq_true this
    obtain ⟨D, e, d1, d2, d3, d4, d5, d6⟩ := turnA_law ht hnl hnb ok ho snd (m := m) (g := (infoM C).head) (by omega) (by omega) iok.head.1 (by omega) (fun k hk => ofM_next (by omega) k (by omega) hk)
    refine ⟨D, e, d1, d2.more (by omega), fun y _ => d3 y, Or.inl (d3 t), fun _ => d3 t, fun y => absurd (y.symm.trans g) (by decide), ?_, ?_, fun _ k k1 k2 => d6 k (by omega) k2⟩
    · rcases d4 with c | ⟨c, c2⟩
      · exact Or.inl c
      · exact Or.inr (Or.inr ⟨c, fun k hk => c2 k (by omega)⟩)
    · intro h
      have := d5 h
      rcases d4 with c | ⟨c, c2⟩
      · have := iok.head.1; omega
      · exact ⟨c, fun k hk => c2 k (by omega)⟩
  · have g' : (pI C t).blank = false := by simpa using g
    rw [if_neg g]
    have hwe : C.er t < C.cfg.erases := by
      rw [g'] at w1
      simpa using w1
    obtain ⟨D, h1, h2, h3, h4, h5, h6, h7, h8, h9, h10, h11⟩ := erase_stp ok ho ht hwe snd
    have hpart : Part u C D t 1 (errM C) := by
      refine ⟨h2, h3, h7, h8, ?_, ?_, ?_, ?_, errM_un snd⟩
      · rcases errM_cases C with ⟨e, _⟩ | ⟨e, _⟩
        · exact Or.inl e
        · exact Or.inr e
      · intro e
        rcases errM_cases C with ⟨_, c⟩ | ⟨e', _⟩
        · exact (h10 c).1
        · rw [e'] at e; exact absurd e (by decide)
      · intro e
        rcases errM_cases C with ⟨e', _⟩ | ⟨_, c⟩
        · rw [e'] at e; exact absurd e (by decide)
        · exact h11 c
      · intro a b
        rw [h6, w64_id (by omega) (by omega)]; omega
    have hlo : lOf D = lOf C := by show D.cfg.cells.toNat = _; rw [h3]
    rw [h1]
    rcases errM_cases C with ⟨e', hl0⟩ | ⟨e', hl0⟩
    · rw [e'] at hpart ⊢
      rw [if_neg (by simp)]
      obtain ⟨E, e, d1, d2, d3, d4, d5, d6⟩ := turnA_law ht hnl hnb h2 (hpart.out0 rfl) hpart.snd (m := m) (g := (infoM C).head) (by omega) (by omega) iok.head.1 (by omega) (fun k hk => (h10 hl0).2 k (by rw [hlo] at hk; exact hk))
      refine ⟨E, e, d1, (hpart.trans d2).more (by omega), fun y hy => (d3 y).trans (h5 y hy), Or.inr ⟨(d3 t).trans h4, hwe⟩, fun y => absurd y g, fun _ => (d3 t).trans h4, ?_, ?_, fun _ k k1 k2 => d6 k (by omega) (by omega)⟩
      · rcases d4 with c | ⟨c, c2⟩
        · exact Or.inl c
        · exact Or.inr (Or.inr ⟨c, fun k hk => c2 k (by omega)⟩)
      · intro h
        have := d5 h
        rcases d4 with c | ⟨c, c2⟩
        · have := iok.head.1; omega
        · exact ⟨c, fun k hk => c2 k (by omega)⟩
    · rw [e'] at hpart ⊢
      rw [if_pos (by simp)]
      refine ⟨D, 8, rfl, hpart.more (by omega), h5, Or.inr ⟨h4, hwe⟩, fun y => absurd y g, fun _ => h4, ?_, fun y => absurd y (by decide), fun y => absurd y (by decide)⟩
      rw [head_of D t (by omega), head_of C t (by omega)]
      rcases h9 0 (by omega) with c | c | c
      · left; rw [if_neg (by omega)]
      · left; rw [if_neg (by omega)]
      · right; left; rw [c]
end
end Go.Proofs.Yteabcbpimjjdpaa
end
