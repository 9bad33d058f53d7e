/- StreamDoes and its parts, laid together by a program of ours: Lg1 Ly1 Lg2 Ly2 Ar9 Lw1 Lw2 Lw3 St1 Ly3 St4 Sr Tq2 Tq4 Up St5 St6 ScD -/
import Derived.Test.YteedolonhdbieaaGreatDoorRows
import Derived.Test.YteedolonhdbieaaGreatDoorK13
set_option autoImplicit false
set_option linter.all false
section
namespace Go.Proofs.YteedolonhdbieaaGreatDoor
open Go Go.Vc
set_option maxRecDepth 100000
theorem len9 {l : List Int} (h : l.length = 9) : ∃ a b c d e f g i j, l = [a, b, c, d, e, f, g, i, j] := by
 match l, h with
 | [a, b, c, d, e, f, g, i, j], _ => exact ⟨a, b, c, d, e, f, g, i, j, rfl⟩
abbrev fndI (p q : Inf) (n : Int) : List Value := .int .i64 p.head :: (ints .i64 p.nums ++ .int .i64 p.next :: .bool p.blank :: .int .i64 p.torn :: .int .i64 q.head :: (ints .i64 q.nums ++ [.int .i64 q.next, .bool q.blank, .int .i64 q.torn, .int .i64 n]))
theorem fnd_len {p q : Inf} {n : Int} (hp : p.nums.length = 9) (hq : q.nums.length = 9) : (fndI p q n).length = 27 := by simp [fndI, hp, hq]
structure FndAt (h : H) (b : Nat) (p q : Inf) (n : Int) : Prop where
 a0 : hc h ⟨b, 0, none⟩ = some (.int .i64 p.head)
 a1 : hrow h ⟨b, 1, none⟩ .i64 p.nums
 a10 : hc h ⟨b, 10, none⟩ = some (.int .i64 p.next)
 a11 : hc h ⟨b, 11, none⟩ = some (.bool p.blank)
 a12 : hc h ⟨b, 12, none⟩ = some (.int .i64 p.torn)
 a13 : hc h ⟨b, 13, none⟩ = some (.int .i64 q.head)
 a14 : hrow h ⟨b, 14, none⟩ .i64 q.nums
 a23 : hc h ⟨b, 23, none⟩ = some (.int .i64 q.next)
 a24 : hc h ⟨b, 24, none⟩ = some (.bool q.blank)
 a25 : hc h ⟨b, 25, none⟩ = some (.int .i64 q.torn)
 a26 : hc h ⟨b, 26, none⟩ = some (.int .i64 n)
section
variable {h0 h : H} {A : List Ent} {i j p r b : Nat} {C : Cm}
theorem _root_.Go.Vc.Sat.fnd (hs : Sat h0 A h) {P Q : Inf} {n : Int} (m : At A i (blk b (fndI P Q n))) (hp : P.nums.length = 9) (hq : Q.nums.length = 9) : FndAt h b P Q n := by
 obtain ⟨ph, pn, px, pb, pt⟩ := P
 obtain ⟨qh, qn, qx, qb, qt⟩ := Q
 obtain ⟨a1, a2, a3, a4, a5, a6, a7, a8, a9, rfl⟩ := len9 hp
 obtain ⟨b1, b2, b3, b4, b5, b6, b7, b8, b9, rfl⟩ := len9 hq
 exact ⟨hs.ld m rfl, hs.cs m rfl, hs.ld m rfl, hs.ld m rfl, hs.ld m rfl, hs.ld m rfl, hs.cs m rfl, hs.ld m rfl, hs.ld m rfl, hs.ld m rfl, hs.ld m rfl⟩
theorem fnd_s0 {P Q R : Inf} {n : Int} (hp : P.nums.length = 9) (hr : R.nums.length = 9) : splice (fndI P Q n) 0 (infI R) = fndI R Q n := by
 obtain ⟨ph, pn, px, pb, pt⟩ := P
 obtain ⟨qh, qn, qx, qb, qt⟩ := R
 obtain ⟨a1, a2, a3, a4, a5, a6, a7, a8, a9, rfl⟩ := len9 hp
 obtain ⟨b1, b2, b3, b4, b5, b6, b7, b8, b9, rfl⟩ := len9 hr
 rfl
theorem fnd_s13 {P Q R : Inf} {n : Int} (hp : P.nums.length = 9) (hq : Q.nums.length = 9) (hr : R.nums.length = 9) : splice (fndI P Q n) 13 (infI R) = fndI P R n := by
 obtain ⟨ph, pn, px, pb, pt⟩ := P
 obtain ⟨qh, qn, qx, qb, qt⟩ := Q
 obtain ⟨rh, rn, rx, rb, rt⟩ := R
 obtain ⟨a1, a2, a3, a4, a5, a6, a7, a8, a9, rfl⟩ := len9 hp
 obtain ⟨b1, b2, b3, b4, b5, b6, b7, b8, b9, rfl⟩ := len9 hq
 obtain ⟨c1, c2, c3, c4, c5, c6, c7, c8, c9, rfl⟩ := len9 hr
 rfl
theorem fnd_s26 {P Q : Inf} {n m : Int} (hp : P.nums.length = 9) (hq : Q.nums.length = 9) : splice (fndI P Q n) 26 [.int .i64 m] = fndI P Q m := by
 obtain ⟨ph, pn, px, pb, pt⟩ := P
 obtain ⟨qh, qn, qx, qb, qt⟩ := Q
 obtain ⟨a1, a2, a3, a4, a5, a6, a7, a8, a9, rfl⟩ := len9 hp
 obtain ⟨b1, b2, b3, b4, b5, b6, b7, b8, b9, rfl⟩ := len9 hq
 rfl
theorem _root_.Go.Vc.Sat.infAt (hs : Sat h0 A h) {P : Inf} (m : At A i (blk b (infI P))) (hp : P.nums.length = 9) : hc h ⟨b, 0, none⟩ = some (.int .i64 P.head) /\ hrow h ⟨b, 1, none⟩ .i64 P.nums /\ hc h ⟨b, 10, none⟩ = some (.int .i64 P.next) /\ hc h ⟨b, 11, none⟩ = some (.bool P.blank) /\ hc h ⟨b, 12, none⟩ = some (.int .i64 P.torn) := by
 obtain ⟨ph, pn, px, pb, pt⟩ := P
 obtain ⟨a1, a2, a3, a4, a5, a6, a7, a8, a9, rfl⟩ := len9 hp
 exact ⟨hs.ld m rfl, hs.cs m rfl, hs.ld m rfl, hs.ld m rfl, hs.ld m rfl⟩
/-! ### What the log says -/
def pI (C : Cm) (k : Nat) : Inf := pageI (C.pg k) C.cfg.cells.toNat
theorem pI_len (C : Cm) (k : Nat) : (pI C k).nums.length = 9 := ofM_len _ _
def presH (a b : Int) : Int := if 0 < a /\ b ≤ a then 0 else if 0 < b then 1 else -1
def presM (C : Cm) : Int := presH (pI C 0).head (pI C 1).head
def infoM (C : Cm) : Inf := if presM C < 0 then inf0 else pI C (presM C).toNat
def tgtM (C : Cm) : Nat := if presM C = 0 then 1 else 0
theorem infoM_len (C : Cm) : (infoM C).nums.length = 9 := by unfold infoM; split; rfl; exact pI_len C _
theorem presM_cases (C : Cm) : presM C = -1 ∨ presM C = 0 ∨ presM C = 1 := by unfold presM presH; (repeat' split) <;> simp
theorem look_pg {C : Cm} (ho : C.out = false) (ok : C.ok) {k : Nat} (hk : k < 2) : lookM C (k : Int) = (pI C k, 0) := by
 have h1 := ok.fits.pages
 have h2 := ok.may.area
 have h3 : C.cfg.np = 2 + 2 * C.cfg.area := rfl
 unfold lookM
 rw [askedM_in ho (by omega) (by omega), if_neg (by simp), Int.toNat_natCast]; rfl
theorem look_out {C : Cm} (ho : C.out = true) (k : Int) : lookM C k = (inf0, 8) := by
 unfold lookM askedM
 rw [if_pos ho, if_pos (by decide)]
structure Fnd where
 p : Inf
 q : Inf
 n : Int
def lookF (C : Cm) : Fnd × Int := if C.out = true then (⟨inf0, inf0, 0⟩, 8) else (⟨pI C 0, pI C 1, presM C⟩, 0)
theorem lookF_len (C : Cm) : (lookF C).1.p.nums.length = 9 /\ (lookF C).1.q.nums.length = 9 := by
 unfold lookF; split
 ·exact ⟨rfl, rfl⟩
 ·exact ⟨pI_len C 0, pI_len C 1⟩
abbrev logE (l p : Nat) : Ent := blk l [.pointer (some ⟨p, 0, none⟩)]
theorem logLook_sp {Q : Int -> List Int -> Int -> Bool -> Int -> Int -> List Int -> Int -> Bool -> Int -> Int -> Int -> H -> Prop} (hs : Sat h0 A h) (ci : At A i (chipE p C)) (cl : At A j (logE r p))
  (k : ∀ h', Sat h0 A h' -> Q (lookF C).1.p.head (lookF C).1.p.nums (lookF C).1.p.next (lookF C).1.p.blank (lookF C).1.p.torn (lookF C).1.q.head (lookF C).1.q.nums (lookF C).1.q.next (lookF C).1.q.blank (lookF C).1.q.torn (lookF C).1.n (lookF C).2 h') :
  F_log_Log_look ⟨r, 0, none⟩ Q h := by
 unfold F_log_Log_look G_log_Log_look
 try simp only [add_mk, Nat.zero_add]
 have ok := chip_ok hs ci
 have z9 : inf0.nums.length = 9 := rfl
 intro n4 _ hn; replace hs := Sat.new hs hn
 intro n7 _ hn; replace hs := Sat.new hs hn
 replace hs : Sat h0 (blk n7 (fndI inf0 inf0 0) :: blk n4 (fndI inf0 inf0 0) :: A) _ := hs
 refine ⟨Sat.can hs (i := 0) (by repeat constructor) (by decide), ?_⟩
 intro h2 e
 replace hs := Sat.wra hs (i := 0) (by repeat constructor) e (by rfl)
 clear e
 replace hs : Sat h0 (blk n7 (fndI inf0 inf0 (-1)) :: blk n4 (fndI inf0 inf0 0) :: A) _ := hs
 intro J hJ
 obtain ⟨G, hG⟩ : ∃ G : Nat -> Inf × Inf, G = fun n => (if 0 < n then pI C 0 else inf0, if 1 < n then pI C 1 else inf0) := ⟨_, rfl⟩
 have hG0 : G 0 = (inf0, inf0) := by rw [hG]; rfl
 have hG2 : G 2 = (pI C 0, pI C 1) := by rw [hG]; rfl
 have hGl : ∀ n, (G n).1.nums.length = 9 /\ (G n).2.nums.length = 9 := by
  intro n; rw [hG]; dsimp only
  exact ⟨by split; exact pI_len C 0; rfl, by split; exact pI_len C 1; rfl⟩
 have hs1 : Sat h0 (blk n7 (fndI (G 0).1 (G 0).2 (-1)) :: blk n4 (fndI inf0 inf0 0) :: A) h2 := by rw [hG0]; exact hs
 clear hs
 refine loop_up 2 (fun n h => (n ≠ 0 -> C.out = false) /\ Sat h0 (blk n7 (fndI (G n).1 (G n).2 (-1)) :: blk n4 (fndI inf0 inf0 0) :: A) h) ?_ ?_ 0 _ (by omega) ⟨fun y => absurd rfl y, hs1⟩
 ·rintro n h3 hn ⟨hno, hs⟩ hk
  apply hJ
  rw [ltI_eq, if_pos (by simp; omega)]
  refine ⟨_, hs.ld cl.s.s rfl, _, rfl, ?_⟩
  refine Look_sp hs ci.s.s (n : Int) ?_
  intro h4 hs
  have hll := lookM_len C (n : Int)
  intro n24 _ hn24; replace hs := Sat.new hs hn24; clear hn24
  refine ⟨Sat.can hs (by repeat constructor) (by decide), ?_⟩
  intro h5 e
  replace hs := Sat.wra hs (by repeat constructor) e ((inf_len hll).trans rfl)
  clear e
  simp only [put] at hs
  by_cases ho : C.out = true
  ·rw [look_out ho] at hs ⊢
   rw [if_pos (by simp)]
   refine ⟨Sat.can hs (by repeat constructor) (by decide), ?_⟩
   intro h6 e
   replace hs := Sat.wra hs (i := 2) (by repeat constructor) e (by rfl)
   clear e
   simp only [put] at hs
   replace hs : Sat h0 (blk n24 (infI inf0) :: blk n7 (fndI (G n).1 (G n).2 (-1)) :: blk n4 (fndI inf0 inf0 0) :: A) h6 := hs
   have L := hs.fnd (i := 2) (by repeat constructor) z9 z9
   refine ⟨_, L.a0, _, ‹_›, L.a1, _, L.a10, _, L.a11, _, L.a12, _, L.a13, _, ‹_›, L.a14, _, L.a23, _, L.a24, _, L.a25, _, L.a26, ?_⟩
   have e : lookF C = (⟨inf0, inf0, 0⟩, 8) := by unfold lookF; rw [if_pos ho]
   rw [e] at k
   exact k _ hs.drop.drop.drop
  ·have ho' : C.out = false := by simpa using ho
   have el := look_pg ho' ok (k := n) hn
   rw [el] at hs ⊢
   rw [if_neg (by simp)]
   have hpl := pI_len C n
   obtain ⟨L0, L1, L10, L11, L12⟩ := hs.infAt (i := 0) (by repeat constructor) hpl
   refine ⟨_, L0, _, hpl, L1, _, L10, _, L11, _, L12, by omega, by omega, ?_⟩
   rw [Int.toNat_natCast]
   refine ⟨Sat.can hs (i := 1) (by repeat constructor) (by rw [fnd_len (hGl n).1 (hGl n).2]; omega), ?_⟩
   intro h6 e
   replace hs := Sat.wr hs (i := 1) (by repeat constructor) e
   clear e
   simp only [put] at hs
   rw [wrap_succ (by omega)]
   refine hk _ ⟨fun _ => ho', ?_⟩
   have hn2 : n = 0 ∨ n = 1 := by omega
   have e2 : splice (fndI (G n).1 (G n).2 (-1)) (n * 13) (infI (pI C n)) = fndI (G (n + 1)).1 (G (n + 1)).2 (-1) := by
    rcases hn2 with rfl | rfl
    ·rw [hG0]
     show splice _ 0 _ = _
     rw [fnd_s0 z9 hpl, hG]; rfl
    ·have : G 1 = (pI C 0, inf0) := by rw [hG]; rfl
     rw [this]
     show splice _ 13 _ = _
     rw [fnd_s13 (pI_len C 0) z9 hpl, hG]; rfl
   rw [e2] at hs
   exact hs.drop
 ·rintro h3 ⟨hno, hs⟩
  have ho : C.out = false := hno (by decide)
  rw [hG2] at hs
  dsimp only at hs
  apply hJ
  rw [ltI_eq, if_neg (by simp)]
  clear hJ J hG0 hG2 hGl hG hs1
  have l0 := pI_len C 0
  have l1 := pI_len C 1
  have L := hs.fnd .z l0 l1
  refine ⟨by decide, by decide, _, L.a0, by decide, by decide, _, L.a13, ?_⟩
  have e : lookF C = (⟨pI C 0, pI C 1, presM C⟩, 0) := by unfold lookF; rw [if_neg (by simp [ho])]
  rw [e] at k
  dsimp only at k
  have pc : presM C = presH (pI C 0).head (pI C 1).head := rfl
  unfold presH at pc
  have w26 : ∀ (m : Int) (h' : H) (A' : List Ent), Sat h0 (blk n7 (splice (fndI (pI C 0) (pI C 1) (-1)) 26 [.int .i64 m]) :: A') h' -> Sat h0 (blk n7 (fndI (pI C 0) (pI C 1) m) :: A') h' := fun m h' A' y => by rw [fnd_s26 l0 l1] at y; exact y
  have c26 : ∀ h', Sat h0 (blk n7 (fndI (pI C 0) (pI C 1) (-1)) :: blk n4 (fndI inf0 inf0 0) :: A) h' -> hcan h' ⟨n7, 26, none⟩ 1 := fun h' y => Sat.can y .z (by rw [fnd_len l0 l1]; omega)
  by_cases g1 : 0 < (pI C 0).head
  ·rw [ltI_eq, if_pos (by simpa using g1)]
   by_cases g2 : (pI C 1).head ≤ (pI C 0).head
   ·rw [leI_eq, if_pos (by simpa using g2)]
    refine ⟨c26 _ hs, ?_⟩
    intro h4 e4
    replace hs := Sat.wr hs .z e4
    clear e4
    replace hs := w26 _ _ _ hs
    (have L := hs.fnd .z l0 l1; refine ⟨_, L.a0, _, ‹_›, L.a1, _, L.a10, _, L.a11, _, L.a12, _, L.a13, _, ‹_›, L.a14, _, L.a23, _, L.a24, _, L.a25, _, L.a26, ?_⟩; refine ⟨Sat.can hs (by repeat constructor) (by decide), ?_⟩; intro h9 e9; replace hs := Sat.wra hs (i := 1) (by repeat constructor) e9 (by rw [fnd_len z9 z9]; exact (fnd_len (n := 0) l0 l1)); clear e9; simp only [put] at hs; replace hs : Sat h0 (blk n7 (fndI (pI C 0) (pI C 1) (0)) :: blk n4 (fndI (pI C 0) (pI C 1) (0)) :: A) h9 := hs; have L := hs.fnd zs1 l0 l1; refine ⟨_, L.a0, _, ‹_›, L.a1, _, L.a10, _, L.a11, _, L.a12, _, L.a13, _, ‹_›, L.a14, _, L.a23, _, L.a24, _, L.a25, _, L.a26, ?_⟩; rw [show presM C = 0 by rw [pc]; simp [*]] at k; exact k _ hs.drop.drop)
   ·rw [leI_eq, if_neg (by simpa using g2), ltI_eq, if_pos (by simp; omega)]
    refine ⟨c26 _ hs, ?_⟩
    intro h4 e4
    replace hs := Sat.wr hs .z e4
    clear e4
    replace hs := w26 _ _ _ hs
    have g3 : 0 < (pI C 1).head := by omega
    (have L := hs.fnd .z l0 l1; refine ⟨_, L.a0, _, ‹_›, L.a1, _, L.a10, _, L.a11, _, L.a12, _, L.a13, _, ‹_›, L.a14, _, L.a23, _, L.a24, _, L.a25, _, L.a26, ?_⟩; refine ⟨Sat.can hs (by repeat constructor) (by decide), ?_⟩; intro h9 e9; replace hs := Sat.wra hs (i := 1) (by repeat constructor) e9 (by rw [fnd_len z9 z9]; exact (fnd_len (n := 1) l0 l1)); clear e9; simp only [put] at hs; replace hs : Sat h0 (blk n7 (fndI (pI C 0) (pI C 1) (1)) :: blk n4 (fndI (pI C 0) (pI C 1) (1)) :: A) h9 := hs; have L := hs.fnd zs1 l0 l1; refine ⟨_, L.a0, _, ‹_›, L.a1, _, L.a10, _, L.a11, _, L.a12, _, L.a13, _, ‹_›, L.a14, _, L.a23, _, L.a24, _, L.a25, _, L.a26, ?_⟩; rw [show presM C = 1 by rw [pc]; simp [*]] at k; exact k _ hs.drop.drop)
  ·rw [ltI_eq, if_neg (by simpa using g1)]
   by_cases g3 : 0 < (pI C 1).head
   ·rw [ltI_eq, if_pos (by simpa using g3)]
    refine ⟨c26 _ hs, ?_⟩
    intro h4 e4
    replace hs := Sat.wr hs .z e4
    clear e4
    replace hs := w26 _ _ _ hs
    (have L := hs.fnd .z l0 l1; refine ⟨_, L.a0, _, ‹_›, L.a1, _, L.a10, _, L.a11, _, L.a12, _, L.a13, _, ‹_›, L.a14, _, L.a23, _, L.a24, _, L.a25, _, L.a26, ?_⟩; refine ⟨Sat.can hs (by repeat constructor) (by decide), ?_⟩; intro h9 e9; replace hs := Sat.wra hs (i := 1) (by repeat constructor) e9 (by rw [fnd_len z9 z9]; exact (fnd_len (n := 1) l0 l1)); clear e9; simp only [put] at hs; replace hs : Sat h0 (blk n7 (fndI (pI C 0) (pI C 1) (1)) :: blk n4 (fndI (pI C 0) (pI C 1) (1)) :: A) h9 := hs; have L := hs.fnd zs1 l0 l1; refine ⟨_, L.a0, _, ‹_›, L.a1, _, L.a10, _, L.a11, _, L.a12, _, L.a13, _, ‹_›, L.a14, _, L.a23, _, L.a24, _, L.a25, _, L.a26, ?_⟩; rw [show presM C = 1 by rw [pc]; simp [*]] at k; exact k _ hs.drop.drop)
   ·rw [ltI_eq, if_neg (by simpa using g3)]
    (have L := hs.fnd .z l0 l1; refine ⟨_, L.a0, _, ‹_›, L.a1, _, L.a10, _, L.a11, _, L.a12, _, L.a13, _, ‹_›, L.a14, _, L.a23, _, L.a24, _, L.a25, _, L.a26, ?_⟩; refine ⟨Sat.can hs (by repeat constructor) (by decide), ?_⟩; intro h9 e9; replace hs := Sat.wra hs (i := 1) (by repeat constructor) e9 (by rw [fnd_len z9 z9]; exact (fnd_len (n := -1) l0 l1)); clear e9; simp only [put] at hs; replace hs : Sat h0 (blk n7 (fndI (pI C 0) (pI C 1) (-1)) :: blk n4 (fndI (pI C 0) (pI C 1) (-1)) :: A) h9 := hs; have L := hs.fnd zs1 l0 l1; refine ⟨_, L.a0, _, ‹_›, L.a1, _, L.a10, _, L.a11, _, L.a12, _, L.a13, _, ‹_›, L.a14, _, L.a23, _, L.a24, _, L.a25, _, L.a26, ?_⟩; rw [show presM C = -1 by rw [pc]; simp [*]] at k; exact k _ hs.drop.drop)
def finfo (p q : Inf) (n : Int) : Inf := if n < 0 then inf0 else if n = 0 then p else q
theorem infoM_f (C : Cm) : infoM C = finfo (pI C 0) (pI C 1) (presM C) := by
 unfold infoM finfo
 rcases presM_cases C with e | e | e <;> rw [e] <;> simp
theorem finfo_sp {Q : Int -> List Int -> Int -> Bool -> Int -> H -> Prop} {P R : Inf} {n : Int} (hp : P.nums.length = 9) (hr : R.nums.length = 9) (hn : n < 2) (hs : Sat h0 A h)
  (k : ∀ h', Sat h0 A h' -> Q (finfo P R n).head (finfo P R n).nums (finfo P R n).next (finfo P R n).blank (finfo P R n).torn h') : F_log_found_info P.head P.nums P.next P.blank P.torn R.head R.nums R.next R.blank R.torn n Q h := by
 unfold F_log_found_info G_log_found_info
 try simp only [add_mk, Nat.zero_add]
 intro n13 _ hn13; replace hs := Sat.new hs hn13; clear hn13
 intro n16 _ hn16; replace hs := Sat.new hs hn16; clear hn16
 replace hs : Sat h0 (blk n16 (infI inf0) :: blk n13 (fndI P R n) :: A) _ := hs
 have z9 : inf0.nums.length = 9 := rfl
 have L := hs.fnd zs1 hp hr
 refine ⟨_, L.a26, ?_⟩
 by_cases g : n < 0
 ·rw [ltI_eq, if_pos (by simpa using g)]
  refine ⟨Sat.can hs .z (by decide), ?_⟩
  intro h4 e
  replace hs := Sat.wra hs .z e (by rfl)
  clear e
  replace hs : Sat h0 (blk n16 (infI inf0) :: blk n13 (fndI P R n) :: A) _ := hs
  obtain ⟨L0, L1, L10, L11, L12⟩ := hs.infAt .z z9
  refine ⟨_, L0, _, z9, L1, _, L10, _, L11, _, L12, ?_⟩
  have e : finfo P R n = inf0 := by unfold finfo; rw [if_pos g]
  rw [e] at k
  exact k _ hs.drop.drop
 rw [ltI_eq, if_neg (by simpa using g)]
 refine ⟨_, L.a26, by omega, by omega, ?_⟩
 -- either page
 have fin : ∀ (S : Inf), S.nums.length = 9 -> finfo P R n = S -> ∀ h', Sat h0 (blk n16 (infI inf0) :: blk n13 (fndI P R n) :: A) h' -> hcan h' ⟨n16, 0, none⟩ 13 /\ ∀ h2, h2 = hwr h' ⟨n16, 0, none⟩ (infI S) ->
   ∃ i0, hc h2 ⟨n16, 0, none⟩ = some (.int .i64 i0) /\ ∃ l1 : List Int, l1.length = 9 /\ hrow h2 ⟨n16, 1, none⟩ .i64 l1 /\ ∃ i10, hc h2 ⟨n16, 10, none⟩ = some (.int .i64 i10) /\ ∃ b11, hc h2 ⟨n16, 11, none⟩ = some (.bool b11) /\ ∃ i12, hc h2 ⟨n16, 12, none⟩ = some (.int .i64 i12) /\ Q i0 l1 i10 b11 i12 h2 := by
  intro S hS e h' hs
  refine ⟨Sat.can hs .z (by decide), ?_⟩
  intro h4 e4
  replace hs := Sat.wra hs .z e4 ((inf_len hS).trans rfl)
  clear e4
  replace hs : Sat h0 (blk n16 (infI S) :: blk n13 (fndI P R n) :: A) _ := hs
  obtain ⟨L0, L1, L10, L11, L12⟩ := hs.infAt .z hS
  refine ⟨_, L0, _, hS, L1, _, L10, _, L11, _, L12, ?_⟩
  rw [e] at k
  exact k _ hs.drop.drop
 have h01 : n = 0 ∨ n = 1 := by omega
 rcases h01 with rfl | rfl
 ·simp only [Int.toNat_zero, Nat.zero_mul, Nat.zero_add]
  exact ⟨_, L.a0, _, hp, L.a1, _, L.a10, _, L.a11, _, L.a12, fin P hp (by unfold finfo; simp) _ hs⟩
 ·simp only [Int.toNat_one, Nat.one_mul, Nat.reduceAdd]
  exact ⟨_, L.a13, _, hr, L.a14, _, L.a23, _, L.a24, _, L.a25, fin R hr (by unfold finfo; simp) _ hs⟩
def presT (C : Cm) : Int := if C.out = true then -1 else presM C
def freeT (C : Cm) : Int := if C.out = true then 0 else if presM C < 0 then 0 else C.cfg.cells - (infoM C).next
def wornF (C : Cm) : Bool := (!(pI C (tgtM C)).blank && decide (C.cfg.erases ≤ C.er (tgtM C))) || decide (most ≤ (infoM C).head)
def wornT (C : Cm) : Bool := if C.out = true then false else wornF C
theorem Mount_sp {Q : Option Addr -> Int -> H -> Prop} (hs : Sat h0 A h) (ci : At A i (chipE p C)) (k1 : C.out = true -> Q none 8 h) (k2 : C.out = false -> ∀ l h', Sat h0 (logE l p :: A) h' -> Q (some ⟨l, 0, none⟩) 0 h') : F_log_Mount ⟨p, 0, none⟩ Q h := by
 unfold F_log_Mount G_log_Mount
 refine Out_sp hs ci ?_
 by_cases ho : C.out = true
 ·rw [if_pos ho]; exact k1 ho
 ·rw [if_neg ho]
  intro l _ hn; replace hs := Sat.new hs hn
  exact k2 (by simpa using ho) _ _ hs
end
def turnP (t : Int) (nums : List Int) : Nat -> Nat -> Nat -> Cm -> Cm × Int
 | 0, _, _, C => (C, 0)
 | m + 1, x, at_, C => if nums.getD x 0 = 0 then turnP t nums m (x + 1) at_ C
  else if (programM C t (at_ : Int) (valueM (x : Int) (nums.getD x 0)).1).2 ≠ 0 then programM C t (at_ : Int) (valueM (x : Int) (nums.getD x 0)).1
  else turnP t nums m (x + 1) (at_ + 1) (programM C t (at_ : Int) (valueM (x : Int) (nums.getD x 0)).1).1
def turnA (g : Int) (t : Int) (nums : List Int) (m : Nat) (C : Cm) : Cm × Int :=
 if (turnP t nums m 0 1 C).2 ≠ 0 then turnP t nums m 0 1 C else programM (turnP t nums m 0 1 C).1 t 0 (headM (g + 1)).1
def turnL (C : Cm) (slot : Nat) (n : Int) : Cm × Int :=
 if (pI C (tgtM C)).blank = true then turnA (infoM C).head (tgtM C : Int) ((infoM C).nums.set slot n) (C.cfg.slots + 1).toNat C
 else if (eraseM C (tgtM C : Int)).2 ≠ 0 then eraseM C (tgtM C : Int)
 else turnA (infoM C).head (tgtM C : Int) ((infoM C).nums.set slot n) (C.cfg.slots + 1).toNat (eraseM C (tgtM C : Int)).1
def layL (C : Cm) (slot n : Int) : Cm × Int :=
 if C.out = true then (C, 8)
 else if ¬ (0 ≤ slot /\ slot ≤ C.cfg.slots /\ 1 ≤ n /\ n ≤ most) then (C, 2)
 else if n ≤ (infoM C).nums.getD slot.toNat 0 then (C, 11)
 else if 0 ≤ presM C /\ (infoM C).next < C.cfg.cells then programM C (presM C) (infoM C).next (valueM slot n).1
 else if wornF C = true then (C, 9)
 else turnL C slot.toNat n
def numberM (C : Cm) (slot : Int) : Int × Int := if C.out = true then (0, 8) else if ¬ (0 ≤ slot /\ slot ≤ C.cfg.slots) then (0, 2) else ((infoM C).nums.getD slot.toNat 0, 0)
section
variable {h0 h : H} {A : List Ent} {i j p r b : Nat} {C : Cm}
theorem slot_sp {Q : Bool -> H -> Prop} (hs : Sat h0 A h) (ci : At A i (chipE p C)) (cl : At A j (logE r p)) (n : Int) (k : ∀ h', Sat h0 A h' -> Q (decide (0 ≤ n /\ n ≤ C.cfg.slots)) h') : F_log_Log_slot ⟨r, 0, none⟩ n Q h := by
 unfold F_log_Log_slot G_log_Log_slot
 by_cases g : 0 ≤ n
 ·rw [leI_eq, if_pos (by simpa using g)]
  refine ⟨_, hs.ld cl rfl, _, rfl, ?_⟩
  refine Config_sp hs ci ?_
  intro h1 hs
  have := k _ hs
  rw [leI_eq]
  simpa [g] using this
 ·rw [leI_eq, if_neg (by simpa using g)]
  have := k _ hs
  simpa [g] using this
theorem target_sp {Q : Int -> H -> Prop} {P R : Inf} {n : Int} (hp : P.nums.length = 9) (hr : R.nums.length = 9) (hs : Sat h0 A h) (k : ∀ h', Sat h0 A h' -> Q (if n = 0 then 1 else 0) h') :
  F_log_found_target P.head P.nums P.next P.blank P.torn R.head R.nums R.next R.blank R.torn n Q h := by
 unfold F_log_found_target G_log_found_target
 try simp only [add_mk, Nat.zero_add]
 intro n13 _ hn13; replace hs := Sat.new hs hn13; clear hn13
 replace hs : Sat h0 (blk n13 (fndI P R n) :: A) _ := hs
 have L := hs.fnd .z hp hr
 refine ⟨_, L.a26, ?_⟩
 by_cases g : n = 0
 ·rw [if_pos g] at k; rw [if_pos (by simpa using g)]; exact k _ hs.drop
 ·rw [if_neg g] at k; rw [if_neg (by simpa using g)]; exact k _ hs.drop
theorem tgt_eq (C : Cm) : (if presM C = 0 then (1 : Int) else 0) = (tgtM C : Int) := by unfold tgtM; split <;> rfl
theorem blank_at (hs : Sat h0 A h) {P R : Inf} {n : Int} (m : At A i (blk b (fndI P R n))) (hp : P.nums.length = 9) (hq : R.nums.length = 9) {t : Nat} (ht : t < 2) : hc h ⟨b, t * 13 + 11, none⟩ = some (.bool (if t = 0 then P.blank else R.blank)) := by
 have L := hs.fnd m hp hq
 have : t = 0 ∨ t = 1 := by omega
 rcases this with rfl | rfl
 ·exact L.a11
 ·exact L.a24
theorem pI_tgt (C : Cm) : (if tgtM C = 0 then (pI C 0).blank else (pI C 1).blank) = (pI C (tgtM C)).blank := by unfold tgtM; split <;> simp
theorem tgt_lt (C : Cm) : tgtM C < 2 := by unfold tgtM; split <;> omega
theorem worn9_sp {Q : Bool -> H -> Prop} (hs : Sat h0 A h) (ci : At A i (chipE p C)) (cl : At A j (logE r p)) (ho : C.out = false) (k : ∀ h', Sat h0 A h' -> Q (wornF C) h') :
  F_log_Log_worn ⟨r, 0, none⟩ (pI C 0).head (pI C 0).nums (pI C 0).next (pI C 0).blank (pI C 0).torn (pI C 1).head (pI C 1).nums (pI C 1).next (pI C 1).blank (pI C 1).torn (presM C) Q h := by
 unfold F_log_Log_worn G_log_Log_worn
 try simp only [add_mk, Nat.zero_add]
 have ok := chip_ok hs ci
 have l0 := pI_len C 0
 have l1 := pI_len C 1
 have hc2 := presM_cases C
 have ht := tgt_lt C
 intro n18 _ hn; replace hs := Sat.new hs hn
 replace hs : Sat h0 (blk n18 (fndI (pI C 0) (pI C 1) (presM C)) :: A) _ := hs
 have L := hs.fnd .z l0 l1
 refine ⟨_, hs.ld cl.s rfl, ?_⟩
 refine ⟨_, L.a0, _, ‹_›, L.a1, _, L.a10, _, L.a11, _, L.a12, _, L.a13, _, ‹_›, L.a14, _, L.a23, _, L.a24, _, L.a25, _, L.a26, ?_⟩
 refine target_sp l0 l1 hs ?_
 intro h1 hs
 rw [tgt_eq]
 refine ⟨hcs_one (hs.ld cl.s rfl), _, rfl, ?_⟩
 refine Erases_sp hs ci.s (tgtM C : Int) ?_
 have ee : erasesM C (tgtM C : Int) = (C.er (tgtM C), 0) := by
  have := (ok.fits.pages); have h2 := ok.may.area; have h3 : C.cfg.np = 2 + 2 * C.cfg.area := rfl
  unfold erasesM; rw [askedM_in ho (by omega) (by omega), if_neg (by simp), Int.toNat_natCast]; rfl
 rw [ee]
 have L := hs.fnd .z l0 l1
 refine ⟨_, L.a0, _, ‹_›, L.a1, _, L.a10, _, L.a11, _, L.a12, _, L.a13, _, ‹_›, L.a14, _, L.a23, _, L.a24, _, L.a25, _, L.a26, ?_⟩
 refine target_sp l0 l1 hs ?_
 intro h2 hs
 rw [tgt_eq, Int.toNat_natCast]
 refine ⟨by omega, by omega, _, blank_at hs .z l0 l1 ht, ?_⟩
 rw [pI_tgt]
 unfold wornF at k
 have fin : ∀ h', Sat h0 (blk n18 (fndI (pI C 0) (pI C 1) (presM C)) :: A) h' -> ((!(pI C (tgtM C)).blank && decide (C.cfg.erases ≤ C.er (tgtM C))) = false) -> ∃ i63, hc h' ⟨n18, 0, none⟩ = some (.int .i64 i63) /\ ∃ l64 : List Int, l64.length = 9 /\ hrow h' ⟨n18, 1, none⟩ .i64 l64 /\ ∃ i65, hc h' ⟨n18, 10, none⟩ = some (.int .i64 i65) /\ ∃ b66, hc h' ⟨n18, 11, none⟩ = some (.bool b66) /\ ∃ i67, hc h' ⟨n18, 12, none⟩ = some (.int .i64 i67) /\
   ∃ i68, hc h' ⟨n18, 13, none⟩ = some (.int .i64 i68) /\ ∃ l69 : List Int, l69.length = 9 /\ hrow h' ⟨n18, 14, none⟩ .i64 l69 /\ ∃ i70, hc h' ⟨n18, 23, none⟩ = some (.int .i64 i70) /\ ∃ b71, hc h' ⟨n18, 24, none⟩ = some (.bool b71) /\ ∃ i72, hc h' ⟨n18, 25, none⟩ = some (.int .i64 i72) /\ ∃ i73, hc h' ⟨n18, 26, none⟩ = some (.int .i64 i73) /\
   F_log_found_info i63 l64 i65 b66 i67 i68 l69 i70 b71 i72 i73 (fun i74 l75 i76 b77 i78 h79 => ∀ i80 : Int, i80 = 4611686018427387904 -> Q (leI i80 i74) h79) h' := by
  intro h' hs e
  have L := hs.fnd .z l0 l1
  refine ⟨_, L.a0, _, ‹_›, L.a1, _, L.a10, _, L.a11, _, L.a12, _, L.a13, _, ‹_›, L.a14, _, L.a23, _, L.a24, _, L.a25, _, L.a26, ?_⟩
  refine finfo_sp l0 l1 (by omega) hs ?_
  intro h3 hs i80 hi80
  rw [← infoM_f]
  rw [e, Bool.false_or] at k
  subst hi80
  rw [leI_eq]
  exact k _ hs.drop
 by_cases g : (pI C (tgtM C)).blank = true
 ·rw [if_neg (by rw [g]; decide)]
  exact fin _ hs (by rw [g]; rfl)
 ·have g' : (pI C (tgtM C)).blank = false := by simpa using g
  rw [if_pos (by rw [g']; decide)]
  refine ⟨_, hs.ld cl.s rfl, _, rfl, ?_⟩
  refine Config_sp hs ci.s ?_
  intro h3 hs
  by_cases g2 : C.cfg.erases ≤ C.er (tgtM C)
  ·rw [leI_eq, if_pos (by simpa using g2)]
   have := k _ hs.drop
   rw [g', decide_eq_true g2] at this
   exact this
  ·rw [leI_eq, if_neg (by simpa using g2)]
   exact fin _ hs (by rw [decide_eq_false g2, Bool.and_false])
theorem Number_sp {Q : Int -> Int -> H -> Prop} (hs : Sat h0 A h) (ci : At A i (chipE p C)) (cl : At A j (logE r p)) (slot : Int) (k : ∀ h', Sat h0 A h' -> Q (numberM C slot).1 (numberM C slot).2 h') : F_log_Log_Number ⟨r, 0, none⟩ slot Q h := by
 unfold F_log_Log_Number G_log_Log_Number
 try simp only [add_mk, Nat.zero_add]
 have ok := chip_ok hs ci
 refine logLook_sp hs ci cl ?_
 intro h1 hs
 obtain ⟨lp, lq⟩ := lookF_len C
 intro n17 _ hn; replace hs := Sat.new hs hn
 refine ⟨Sat.can hs .z (by decide), ?_⟩
 intro h2 e
 replace hs := Sat.wra hs .z e (by rw [fnd_len lp lq]; rfl)
 clear e
 replace hs : Sat h0 (blk n17 (fndI (lookF C).1.p (lookF C).1.q (lookF C).1.n) :: A) h2 := hs
 unfold numberM at k
 by_cases ho : C.out = true
 ·have e : lookF C = (⟨inf0, inf0, 0⟩, 8) := by unfold lookF; rw [if_pos ho]
  rw [if_pos ho] at k
  rw [e, if_pos (by simp)]
  exact k _ hs.drop
 have e : lookF C = (⟨pI C 0, pI C 1, presM C⟩, 0) := by unfold lookF; rw [if_neg ho]
 rw [if_neg ho] at k
 rw [e] at hs lp lq ⊢
 dsimp only at hs lp lq ⊢
 rw [if_neg (by simp)]
 refine slot_sp hs ci.s cl.s slot ?_
 intro h3 hs
 by_cases g : 0 ≤ slot /\ slot ≤ C.cfg.slots
 case neg =>
  rw [if_pos g] at k
  rw [if_pos (by rw [decide_eq_false g]; rfl)]
  exact k _ hs.drop
 rw [if_neg (fun y => y g)] at k
 rw [if_neg (by rw [decide_eq_true g]; decide)]
 have L := hs.fnd .z lp lq
 refine ⟨_, L.a0, _, ‹_›, L.a1, _, L.a10, _, L.a11, _, L.a12, _, L.a13, _, ‹_›, L.a14, _, L.a23, _, L.a24, _, L.a25, _, L.a26, ?_⟩
 have hc2 := presM_cases C
 refine finfo_sp lp lq (by omega) hs ?_
 intro h4 hs
 rw [← infoM_f]
 have := ok.may.slots
 exact ⟨by omega, by omega, k _ hs.drop⟩
end
theorem recM_num (x : List Int) : 0 ≤ (recM x).2.2 /\ (recM x).2.2 ≤ most := by
 unfold recM
 (repeat' split) <;> simp only [most] at * <;> omega
structure InfOk (I : Inf) (l : Nat) : Prop where
 head : 0 ≤ I.head /\ I.head ≤ most
 next : 0 ≤ I.next /\ I.next ≤ l
 torn : 0 ≤ I.torn /\ I.torn ≤ l
 nums : ∀ k, 0 ≤ I.nums.getD k 0 /\ I.nums.getD k 0 ≤ most
theorem set_getD (l : List Int) (j k : Nat) (v : Int) : (l.set j v).getD k 0 = if j = k /\ k < l.length then v else l.getD k 0 := by
 rw [List.getD_eq_getElem?_getD, List.getElem?_set]
 by_cases c : j = k
 ·subst c
  by_cases d : j < l.length
  ·simp [d]
  ·simp [d]
 ·simp [c]
theorem ofM_ok (row : List Int) (n : Nat) (hn : n < 2 ^ 60) : InfOk (ofM row n) n := by
 induction n with
 | zero =>
  refine ⟨by show (0 : Int) ≤ 0 /\ (0 : Int) ≤ most; decide, by show (0 : Int) ≤ 0 /\ (0 : Int) ≤ 0; decide, by show (0 : Int) ≤ 0 /\ (0 : Int) ≤ 0; decide, fun k => ?_⟩
  show 0 ≤ (zeros 9).getD k 0 /\ (zeros 9).getD k 0 ≤ most
  have : (zeros 9).getD k 0 = 0 := by
   rw [List.getD_eq_getElem?_getD]
   unfold zeros
   rw [List.getElem?_replicate]; split <;> rfl
  rw [this]; decide
 | succ n ih =>
  obtain ⟨i1, i2, i3, i4⟩ := ih (by omega)
  obtain ⟨r1, r2⟩ := recM_num (cellAt row n)
  have hl := ofM_len row n
  unfold ofM layM
  generalize (recM (cellAt row n)).1 = kind
  generalize (recM (cellAt row n)).2.1 = slot
  generalize (recM (cellAt row n)).2.2 = num at *
  generalize ofM row n = I at *
  have hN : InfOk (nextM I n kind) (n + 1) /\ (nextM I n kind).torn ≤ n := by
   unfold nextM
   split
   ·exact ⟨⟨i1, by dsimp only; rw [wrap_id (by omega)]; omega, by dsimp only; omega, i4⟩, i3.2⟩
   ·exact ⟨⟨i1, by omega, by omega, i4⟩, i3.2⟩
  obtain ⟨⟨j1, j2, j3, j4⟩, j5⟩ := hN
  generalize nextM I n kind = J at *
  unfold layN
  split
  ·exact ⟨j1, j2, by dsimp only; rw [wrap_id (by omega)]; omega, j4⟩
  ·split
   ·exact ⟨⟨r1, r2⟩, j2, j3, j4⟩
   ·split
    ·refine ⟨j1, j2, j3, fun k => ?_⟩
     dsimp only
     rw [set_getD]
     split
     ·have := j4 slot.toNat
      split <;> omega
     ·exact j4 k
    ·exact ⟨j1, j2, j3, j4⟩
theorem pageI_ok (row : List Int) (n : Nat) (hn : n < 2 ^ 60) : InfOk (pageI row n) n := ⟨(ofM_ok row n hn).1, (ofM_ok row n hn).2, (ofM_ok row n hn).3, (ofM_ok row n hn).4⟩
theorem pI_ok {C : Cm} (ok : C.ok) (k : Nat) : InfOk (pI C k) C.cfg.cells.toNat := pageI_ok _ _ (by have := ok.may.cells; omega)
theorem infoM_ok {C : Cm} (ok : C.ok) : InfOk (infoM C) C.cfg.cells.toNat := by
 unfold infoM
 split
 ·refine ⟨by decide, ⟨by decide, by show (0 : Int) ≤ _; omega⟩, ⟨by decide, by show (0 : Int) ≤ _; omega⟩, fun k => ?_⟩
  have := (ofM_ok [] 0 (by decide)).nums k
  exact this
 ·exact pI_ok ok _
theorem presH_ref {a b : Int} (ha : 0 ≤ a) (hb : 0 ≤ b) : presH a b = if a = 0 /\ b = 0 then -1 else if a < b then 1 else 0 := by
 unfold presH; (repeat' split) <;> omega
section
variable {h0 h : H} {A : List Ent} {i j p r l b : Nat} {C : Cm}
theorem rPage (hs : Sat h0 A h) (cj : At A j (refE r C)) {k : Nat} (hk : (k : Int) < C.s.pages.length) :
  ∃ (pl pc : Nat) (q : Addr) (xp : Option Addr) (xl xc : Nat), hc h ⟨r, 7, none⟩ = some (.slice (some q) pl pc) /\ (k : Int) < pl /\ hc h (q.add k) = some (.slice xp xl xc) /\ xl = C.cfg.cells.toNat /\ hsv h xp 32 xl (ints .u8 (C.pg k)) /\ bytesOk (C.pg k) /\ xl < 2 ^ 60 := by
 obtain ⟨w, ok, cl, rdm⟩ := ref_pg hs cj
 have hkn : k < C.s.pages.length := by omega
 obtain ⟨q, x, hq, hx, hrd⟩ := rdm.at hkn
 have hl := rdm.len
 have he : C.pg k = C.s.pages[k] := by unfold Cm.pg; simp [List.getD, List.getElem?_eq_getElem hkn]
 have hcl := ok.fits.cells _ (List.getElem_mem hkn)
 have hm := ok.may.cells
 have hxl : x.2.1 * 32 = C.s.pages[k].length := by have := hrd.1; simp at this; omega
 refine ⟨w.a.2.1, w.a.2.2, q, x.1, x.2.1, x.2.2, ?_, by omega, by rw [Nat.mul_one] at hx; exact hx, by omega, by rw [he]; exact hrd, by rw [he]; exact ok.typed.bytes _ (List.getElem_mem hkn), by omega⟩
 have := cl 7 _ rfl
 rw [this]
 obtain ⟨⟨a1, a2, a3⟩, b, c, m⟩ := w
 dsimp only at hq ⊢
 rw [← hq]
theorem ok_pages {C : Cm} (ok : C.ok) : (2 : Int) ≤ C.s.pages.length /\ (2 : Int) ≤ C.s.erases.length := by
 have h1 := ok.fits.pages
 have h4 := ok.fits.erases
 have h2 := ok.may.area
 have h3 : C.cfg.np = 2 + 2 * C.cfg.area := rfl
 omega
theorem ref_ok (hs : Sat h0 A h) (cj : At A j (refE r C)) : C.ok := (ref_pg hs cj).choose_spec.1
theorem ref_cell (hs : Sat h0 A h) (cj : At A j (refE r C)) : ∃ w : Pl, ∀ o v, (C.cells w.a w.b w.c w.m)[o]? = some v -> hc h ⟨r, o, none⟩ = some v := by
 obtain ⟨w, _, cl, _⟩ := ref_pg hs cj
 exact ⟨w, cl⟩
theorem rPresent9_sp {Q : Int -> H -> Prop} (hs : Sat h0 A h) (cj : At A j (refE r C)) (cl : At A i (logE l r)) (k : ∀ h', Sat h0 A h' -> Q (presT C) h') : F_portcullisref09_Log_Present ⟨l, 0, none⟩ Q h := by
 unfold F_portcullisref09_Log_Present G_portcullisref09_Log_Present
 have ok := ref_ok hs cj
 obtain ⟨w, lc⟩ := ref_cell hs cj
 refine ⟨_, hs.ld cl rfl, _, rfl, _, lc 11 _ rfl, ?_⟩
 unfold presT at k
 by_cases ho : C.out = true
 ·rw [if_pos ho] at k ⊢; exact k _ hs
 rw [if_neg ho] at k ⊢
 have h2 := (ok_pages ok).1
 obtain ⟨pl, pc, q, xp, xl, xc, e7, hl, hx, exl, hrd, hb, hl60⟩ := rPage hs cj (k := 0) (by omega)
 refine ⟨_, hs.ld cl rfl, _, rfl, _, _, _, e7, _, rfl, by decide, by omega, _, _, _, by rw [add_zero] at hx; exact hx, ?_⟩
 refine Of_sp (A := []) (Sat.init _) (fun h' hs' => hsv_ext hs'.ex hrd (fun _ _ y => y)) hb hl60 ?_
 intro h1 hs2; replace hs := hs.ext hs2.ex; clear hs2
 subst exl
 obtain ⟨pl, pc, q, xp, xl, xc, e7, hl, hx, exl, hrd, hb, hl60⟩ := rPage hs cj (k := 1) (by omega)
 refine ⟨_, hs.ld cl rfl, _, rfl, _, _, _, e7, _, rfl, by decide, by omega, _, _, _, hx, ?_⟩
 refine Of_sp (A := []) (Sat.init _) (fun h' hs' => hsv_ext hs'.ex hrd (fun _ _ y => y)) hb hl60 ?_
 intro h2 hs2; replace hs := hs.ext hs2.ex; clear hs2
 subst exl
 have o0 := (pI_ok ok 0).head.1
 have o1 := (pI_ok ok 1).head.1
 have e : presM C = presH (pI C 0).head (pI C 1).head := rfl
 rw [presH_ref o0 o1] at e
 rw [e] at k
 show if ((pI C 0).head == 0) = true then _ else _
 by_cases g1 : (pI C 0).head = 0
 ·rw [if_pos (by simpa using g1)]
  show if ((pI C 1).head == 0) = true then _ else _
  by_cases g2 : (pI C 1).head = 0
  ·rw [if_pos ⟨g1, g2⟩] at k
   rw [if_pos (by simpa using g2)]; exact k _ hs
  ·rw [if_neg (fun y => g2 y.2)] at k
   rw [if_neg (by simpa using g2)]
   show if ltI (pI C 0).head (pI C 1).head = true then _ else _
   rw [ltI_eq]
   by_cases g3 : (pI C 0).head < (pI C 1).head
   ·rw [if_pos g3] at k; rw [if_pos (by simpa using g3)]; exact k _ hs
   ·rw [if_neg g3] at k; rw [if_neg (by simpa using g3)]; exact k _ hs
 ·rw [if_neg (fun y => g1 y.1)] at k
  rw [if_neg (by simpa using g1)]
  show if ltI (pI C 0).head (pI C 1).head = true then _ else _
  rw [ltI_eq]
  by_cases g3 : (pI C 0).head < (pI C 1).head
  ·rw [if_pos g3] at k; rw [if_pos (by simpa using g3)]; exact k _ hs
  ·rw [if_neg g3] at k; rw [if_neg (by simpa using g3)]; exact k _ hs
def rinfo (C : Cm) : Inf := if C.out = true then inf0 else infoM C
theorem rInfo9_sp {Q : Int -> List Int -> Int -> Bool -> Int -> H -> Prop} (hs : Sat h0 A h) (cj : At A j (refE r C)) (cl : At A i (logE l r))
  (k : ∀ h', Sat h0 A h' -> Q (rinfo C).head (rinfo C).nums (rinfo C).next (rinfo C).blank (rinfo C).torn h') : F_portcullisref09_Log_info ⟨l, 0, none⟩ Q h := by
 unfold F_portcullisref09_Log_info G_portcullisref09_Log_info
 try simp only [add_mk, Nat.zero_add]
 have ok := ref_ok hs cj
 have h2 := (ok_pages ok).1
 intro n5 _ hn; replace hs := Sat.new hs hn
 replace hs : Sat h0 (blk n5 (infI inf0) :: A) _ := hs
 have z9 : inf0.nums.length = 9 := rfl
 refine rPresent9_sp hs cj.s cl.s ?_
 intro h1 hs
 have e : ∀ {S : Inf}, rinfo C = S -> ∀ h', Sat h0 A h' -> Q S.head S.nums S.next S.blank S.torn h' := fun {S} y => by rw [y] at k; exact k
 by_cases g : presT C < 0
 ·rw [ltI_eq, if_pos (by simpa using g)]
  refine ⟨Sat.can hs .z (by decide), ?_⟩
  intro h4 e4
  replace hs := Sat.wra hs .z e4 (by rfl)
  clear e4
  replace hs : Sat h0 (blk n5 (infI inf0) :: A) _ := hs
  obtain ⟨L0, L1, L10, L11, L12⟩ := hs.infAt .z z9
  refine ⟨_, L0, _, z9, L1, _, L10, _, L11, _, L12, ?_⟩
  refine e ?_ _ hs.drop
  unfold presT at g
  unfold rinfo infoM
  split
  ·rfl
  ·rename_i y; rw [if_neg y] at g; rw [if_pos g]
 ·have ho : ¬ C.out = true := fun y => by unfold presT at g; rw [if_pos y] at g; exact g (by decide)
  have hp : presT C = presM C := by unfold presT; rw [if_neg ho]
  have h01 := presM_cases C
  rw [hp] at g ⊢
  rw [ltI_eq, if_neg (by simpa using g)]
  obtain ⟨pl, pc, q, xp, xl, xc, e7, hl, hx, exl, hrd, hb, hl60⟩ := rPage hs cj.s (k := (presM C).toNat) (by omega)
  refine ⟨_, hs.ld cl.s rfl, _, rfl, _, _, _, e7, _, rfl, by omega, by omega, _, _, _, by rw [Nat.mul_one]; exact hx, ?_⟩
  refine Of_sp (A := []) (Sat.init _) (fun h' hs' => hsv_ext hs'.ex hrd (fun _ _ y => y)) hb hl60 ?_
  intro h2 hs2; replace hs := hs.ext hs2.ex; clear hs2
  subst exl
  have hpl := pI_len C (presM C).toNat
  refine ⟨Sat.can hs .z (by decide), ?_⟩
  intro h4 e4
  replace hs := Sat.wra hs .z e4 ((inf_len hpl).trans rfl)
  clear e4
  replace hs : Sat h0 (blk n5 (infI (pI C (presM C).toNat)) :: A) _ := hs
  obtain ⟨L0, L1, L10, L11, L12⟩ := hs.infAt .z hpl
  refine ⟨_, L0, _, hpl, L1, _, L10, _, L11, _, L12, ?_⟩
  refine e ?_ _ hs.drop
  unfold rinfo infoM
  rw [if_neg ho, if_neg g]
theorem freeT_range {C : Cm} (ok : C.ok) : 0 ≤ freeT C /\ freeT C ≤ 256 := by
 have h1 := (infoM_ok ok).next
 have h2 := ok.may.cells
 have h3 := ok.may.slots
 unfold freeT; (repeat' split) <;> omega
theorem rFree9_sp {Q : Int -> H -> Prop} (hs : Sat h0 A h) (cj : At A j (refE r C)) (cl : At A i (logE l r)) (k : ∀ h', Sat h0 A h' -> Q (freeT C) h') : F_portcullisref09_Log_Free ⟨l, 0, none⟩ Q h := by
 unfold F_portcullisref09_Log_Free G_portcullisref09_Log_Free
 have ok := ref_ok hs cj
 have hfr := freeT_range ok
 refine rPresent9_sp hs cj cl ?_
 intro h1 hs
 by_cases g : presT C < 0
 ·rw [ltI_eq, if_pos (by simpa using g)]
  have e : freeT C = 0 := by
   unfold freeT; unfold presT at g
   split
   ·rfl
   ·rename_i y; rw [if_neg y] at g; rw [if_pos g]
  rw [e] at k; exact k _ hs
 have ho : ¬ C.out = true := fun y => by unfold presT at g; rw [if_pos y] at g; exact g (by decide)
 have hp : presT C = presM C := by unfold presT; rw [if_neg ho]
 rw [ltI_eq, if_neg (by simpa using g)]
 obtain ⟨w, lc⟩ := ref_cell hs cj
 refine ⟨_, hs.ld cl rfl, _, rfl, _, lc 0 _ rfl, ?_⟩
 refine rInfo9_sp hs cj cl ?_
 intro h2 hs
 obtain ⟨w2, lc2⟩ := ref_cell hs cj
 refine ⟨hcs_one (lc2 0 _ rfl), hcs_one (hs.ld cl rfl), ?_⟩
 have e : freeT C = C.cfg.cells - (rinfo C).next := by
  unfold freeT rinfo
  rw [if_neg ho, if_neg (by rw [← hp]; exact g), if_neg ho]
 rw [← e, wrap_id (by omega)]
 exact k _ hs
end
theorem value_ok {x : Nat} {v : Int} (hx : x ≤ 8) (h1 : 1 ≤ v) (h2 : v ≤ most) : (valueM (x : Int) v).2 = 0 := by
 unfold valueM
 rw [if_neg (by omega), if_neg (by omega), if_neg (by omega), if_neg (by omega)]
theorem head_ok {g : Int} (h1 : 1 ≤ g) (h2 : g ≤ most) : (headM g).2 = 0 := by
 unfold headM
 rw [if_neg (by omega), if_neg (by omega)]
theorem most_val : most = 4611686018427387904 := rfl
section
variable {h0 h : H} {A : List Ent} {i j p r b : Nat} {C : Cm}
theorem turn1_sp {Q : Int -> H -> Prop} {nm nx nt nl nf : Nat} {nv fv : List Value} {x at_ t : Nat} {v : Int} (hx : x ≤ 8) (hv1 : 1 ≤ v) (hv2 : v ≤ most) (hat : at_ < 2 ^ 60)
  (hs : Sat h0 (blk nm nv :: blk nx [.int .i64 (at_ : Int)] :: blk nt [.int .i64 (t : Int)] :: blk nf fv :: blk nl [.pointer (some ⟨r, 0, none⟩)] :: A) h) (ci : At A i (chipE p C)) (cl : At A j (logE r p))
  (k : ∀ h', Sat h0 (blk nm nv :: blk nx [.int .i64 ((at_ + 1 : Nat) : Int)] :: blk nt [.int .i64 (t : Int)] :: blk nf fv :: blk nl [.pointer (some ⟨r, 0, none⟩)] :: put A i (chipE p (programM C (t : Int) (at_ : Int) (valueM (x : Int) v).1).1)) h' -> Q (programM C (t : Int) (at_ : Int) (valueM (x : Int) v).1).2 h') :
  F_log_Log_turn_1 (x : Int) v ⟨nx, 0, none⟩ ⟨nl, 0, none⟩ ⟨nt, 0, none⟩ Q h := by
 unfold F_log_Log_turn_1 G_log_Log_turn_1
 simp only [List.append_nil]
 refine Value_sp (x : Int) v hs ?_
 intro h1 hs
 have hl := valueM_length (x : Int) v
 rw [value_ok hx hv1 hv2]
 generalize (valueM (x : Int) v).1 = rec at *
 intro n12 _ hn; replace hs := Sat.new hs hn
 refine ⟨Sat.can hs .z (by simp [zeros]), ?_⟩
 intro h2 e2
 replace hs := Sat.wra hs .z e2 (by simp [zeros, hl])
 clear e2
 simp only [put] at hs
 rw [if_neg (by simp)]
 refine ⟨_, Sat.ld hs (by repeat constructor) (by rfl), ?_⟩
 (refine ⟨Sat.can hs (by repeat constructor) (by simp), ?_⟩; intro _ e; replace hs := Sat.wr hs (by repeat constructor) e; clear e; simp only [put, splice, List.set] at hs)
 rw [wrap_succ (by omega)] at hs
 refine ⟨_, Sat.ld hs (by repeat constructor) (by rfl), ?_⟩
 refine ⟨_, rfl, _, hs.ld cl.s.s.s.s.s.s rfl, ?_⟩
 refine ⟨_, Sat.ld hs (by repeat constructor) (by rfl), ?_⟩
 refine ⟨_, Sat.ld hs (by repeat constructor) (by rfl), ?_⟩
 refine ⟨_, hl, hs.row0 .z, _, rfl, ?_⟩
 have ea : IntKind.i64.wrap (((at_ + 1 : Nat) : Int) - 1) = (at_ : Int) := by rw [wrap_id (by omega)]; omega
 rw [ea]
 refine Program_sp hs ci.s.s.s.s.s.s (t : Int) (at_ : Int) rec hl ?_
 intro h3 hs
 simp only [put_succ] at hs
 exact k _ hs.drop
theorem turn_sp {Q : Int -> H -> Prop} (hs : Sat h0 A h) (ci : At A i (chipE p C)) (cl : At A j (logE r p)) (hij : j ≠ i) (slot : Nat) (n : Int) (hsl : (slot : Int) ≤ C.cfg.slots) (hn1 : 1 ≤ n) (hn2 : n ≤ most) (hg : (infoM C).head < most)
  (k : ∀ h', Sat h0 (put A i (chipE p (turnL C slot n).1)) h' -> Q (turnL C slot n).2 h') :
  F_log_Log_turn ⟨r, 0, none⟩ (pI C 0).head (pI C 0).nums (pI C 0).next (pI C 0).blank (pI C 0).torn (pI C 1).head (pI C 1).nums (pI C 1).next (pI C 1).blank (pI C 1).torn (presM C) (slot : Int) n Q h := by
 unfold F_log_Log_turn G_log_Log_turn
 try simp only [add_mk, Nat.zero_add, List.append_nil]
 have ok := chip_ok hs ci
 have hslots := ok.may.slots
 have l0 := pI_len C 0
 have l1 := pI_len C 1
 have hc2 := presM_cases C
 have ht := tgt_lt C
 have iok := infoM_ok ok
 have ilen := infoM_len C
 intro n23 _ hn; replace hs := Sat.new hs hn
 intro n26 _ hn; replace hs := Sat.new hs hn
 replace hs : Sat h0 (blk n26 (fndI (pI C 0) (pI C 1) (presM C)) :: blk n23 [.pointer (some ⟨r, 0, none⟩)] :: A) _ := hs
 have L := hs.fnd .z l0 l1
 refine ⟨_, L.a0, _, ‹_›, L.a1, _, L.a10, _, L.a11, _, L.a12, _, L.a13, _, ‹_›, L.a14, _, L.a23, _, L.a24, _, L.a25, _, L.a26, ?_⟩
 refine target_sp l0 l1 hs ?_
 intro h1 hs
 rw [tgt_eq]
 intro n42 _ hn; replace hs := Sat.new hs hn
 (refine ⟨Sat.can hs (by repeat constructor) (by simp), ?_⟩; intro _ e; replace hs := Sat.wr hs (by repeat constructor) e; clear e; simp only [put, splice, List.set] at hs)
 obtain ⟨t, htd⟩ : ∃ t, t = tgtM C := ⟨_, rfl⟩
 obtain ⟨nums, hnums⟩ : ∃ nums, nums = (infoM C).nums.set slot n := ⟨_, rfl⟩
 have hnb : ∀ x, 0 ≤ nums.getD x 0 /\ nums.getD x 0 ≤ most := by
  intro x
  rw [hnums, set_getD]
  split
  ·omega
  ·exact iok.nums x
 have hnl : nums.length = 9 := by rw [hnums, List.length_set, ilen]
 have kk : turnL C slot n = if (pI C t).blank = true then turnA (infoM C).head (t : Int) nums (C.cfg.slots + 1).toNat C else if (eraseM C (t : Int)).2 ≠ 0 then eraseM C (t : Int) else turnA (infoM C).head (t : Int) nums (C.cfg.slots + 1).toNat (eraseM C (t : Int)).1 := by rw [htd, hnums]; rfl
 rw [kk] at k
 rw [← htd] at hs ht
 clear kk
 intro J47 hJ47
 -- behind the erase
 have way : ∀ (D : Cm) h', D.cfg = C.cfg -> Sat h0 (blk n42 [.int .i64 (t : Int)] :: blk n26 (fndI (pI C 0) (pI C 1) (presM C)) :: blk n23 [.pointer (some ⟨r, 0, none⟩)] :: put A i (chipE p D)) h' ->
   (∀ h', Sat h0 (put A i (chipE p (turnA (infoM C).head (t : Int) nums (C.cfg.slots + 1).toNat D).1)) h' -> Q (turnA (infoM C).head (t : Int) nums (C.cfg.slots + 1).toNat D).2 h') -> J47 [] h' := by
  intro D h2 hcf hs k
  apply hJ47
  clear hJ47 J47
  have ci2 := ci.put (chipE p D)
  have cl2 := cl.put_ne hij (chipE p D)
  have pp : ∀ E : Cm, put (put A i (chipE p D)) i (chipE p E) = put A i (chipE p E) := fun E => put_put _ _ _ _
  generalize put A i (chipE p D) = A2 at *
  intro n49 _ hn; replace hs := Sat.new hs hn
  (refine ⟨Sat.can hs (by repeat constructor) (by simp), ?_⟩; intro _ e; replace hs := Sat.wr hs (by repeat constructor) e; clear e; simp only [put, splice, List.set] at hs)
  have L := hs.fnd zs2 l0 l1
  refine ⟨_, L.a0, _, ‹_›, L.a1, _, L.a10, _, L.a11, _, L.a12, _, L.a13, _, ‹_›, L.a14, _, L.a23, _, L.a24, _, L.a25, _, L.a26, ?_⟩
  refine finfo_sp l0 l1 (by omega) hs ?_
  intro h3 hs
  rw [← infoM_f]
  intro n71 _ hn; replace hs := Sat.new hs hn
  refine ⟨Sat.can hs .z (by simp [zeros]), ?_⟩
  intro h4 e4
  replace hs := Sat.wra hs .z e4 (by simp [zeros, ilen])
  clear e4
  simp only [put] at hs
  refine ⟨by omega, by omega, ?_⟩
  rw [Int.toNat_natCast, Nat.mul_one]
  refine ⟨Sat.can hs .z (by simp [ilen]; omega), ?_⟩
  intro h5 e5
  replace hs := Sat.wr hs .z e5
  clear e5
  have e6 : splice (ints .i64 (infoM C).nums) slot [.int .i64 n] = ints .i64 nums := by
   show (ints .i64 (infoM C).nums).set slot (.int .i64 n) = _
   rw [ints_set, hnums]
  rw [e6] at hs
  simp only [put] at hs
  refine ⟨_, hs.ld zs4 rfl, _, rfl, _, hs.ld cl2.s.s.s.s.s rfl, _, rfl, ?_⟩
  refine Config_sp hs ci2.s.s.s.s.s ?_
  intro h6 hs
  rw [hcf]
  intro J90 hJ90
  obtain ⟨m, hm⟩ : ∃ m, m = (C.cfg.slots + 1).toNat := ⟨_, rfl⟩
  rw [← hm] at k
  have hm9 : m ≤ 9 := by omega
  have em : IntKind.i64.wrap (C.cfg.slots + 1) = (m : Int) := by rw [wrap_id (by omega)]; omega
  rw [em] at hJ90
  obtain ⟨E, hE⟩ : ∃ E, E = turnP (t : Int) nums m 0 1 D := ⟨_, rfl⟩
  have kE : turnA (infoM C).head (t : Int) nums m D = if E.2 ≠ 0 then E else programM E.1 (t : Int) 0 (headM ((infoM C).head + 1)).1 := by unfold turnA; rw [← hE]
  rw [kE] at k
  clear kE
  have hs1 : ∃ (F : Cm) (at_ : Nat), at_ ≤ 0 + 1 /\ Sat h0 (blk n71 (ints .i64 nums) :: blk n49 [.int .i64 (at_ : Int)] :: blk n42 [.int .i64 (t : Int)] :: blk n26 (fndI (pI C 0) (pI C 1) (presM C)) :: blk n23 [.pointer (some ⟨r, 0, none⟩)] :: put A2 i (chipE p F)) h6 /\ turnP (t : Int) nums (m - 0) 0 at_ F = E :=
   ⟨D, 1, by omega, by rw [ci2.put_self]; exact hs, hE.symm⟩
  clear hs
  refine loop_up m (fun x h => ∃ (F : Cm) (at_ : Nat), at_ ≤ x + 1 /\ Sat h0 (blk n71 (ints .i64 nums) :: blk n49 [.int .i64 (at_ : Int)] :: blk n42 [.int .i64 (t : Int)] :: blk n26 (fndI (pI C 0) (pI C 1) (presM C)) :: blk n23 [.pointer (some ⟨r, 0, none⟩)] :: put A2 i (chipE p F)) h /\ turnP (t : Int) nums (m - x) x at_ F = E) ?_ ?_ 0 _ (by omega) hs1
  ·rintro x h7 hx ⟨F, at_, hat, hs, hT⟩ hk
   apply hJ90
   rw [ltI_eq, if_pos (by simp; omega)]
   have g : ∀ h', Sat h0 (blk n71 (ints .i64 nums) :: blk n49 [.int .i64 (at_ : Int)] :: blk n42 [.int .i64 (t : Int)] :: blk n26 (fndI (pI C 0) (pI C 1) (presM C)) :: blk n23 [.pointer (some ⟨r, 0, none⟩)] :: put A2 i (chipE p F)) h' -> hc h' ⟨n71, x, none⟩ = some (.int .i64 (nums.getD x 0)) := fun h' hs' => hs'.ld .z (by
    rw [ints_get, List.getElem?_eq_getElem (by omega)]; simp [List.getD, List.getElem?_eq_getElem (show x < nums.length by omega)])
   obtain ⟨m', hm'⟩ : ∃ m', m - x = m' + 1 := ⟨m - x - 1, by omega⟩
   rw [hm'] at hT
   unfold turnP at hT
   rw [wrap_succ (by omega), Int.toNat_natCast, Nat.mul_one]
   refine ⟨by omega, by omega, _, g _ hs, ?_⟩
   by_cases gz : nums.getD x 0 = 0
   ·rw [if_pos gz] at hT
    rw [if_pos (by rw [gz]; rfl)]
    exact hk _ ⟨F, at_, by omega, hs, by rw [show m - (x + 1) = m' by omega]; exact hT⟩
   rw [if_neg gz] at hT
   rw [if_neg (by rw [beq_iff_eq]; exact gz)]
   refine ⟨by omega, by omega, _, g _ hs, ?_⟩
   have hb := hnb x
   refine turn1_sp (by omega) (by omega) hb.2 (by omega) hs (ci2.put _) (cl2.put_ne hij _) ?_
   intro h8 hs
   rw [put_put] at hs
   generalize programM F (t : Int) (at_ : Int) (valueM (x : Int) (nums.getD x 0)).1 = X at *
   by_cases ge : X.2 = 0
   ·rw [if_neg (by simpa using ge)] at hT
    rw [if_neg (by simpa using ge)]
    exact hk _ ⟨X.1, at_ + 1, by omega, hs, by rw [show m - (x + 1) = m' by omega]; exact hT⟩
   ·rw [if_pos (by simpa using ge)] at hT
    rw [if_pos (by simpa using ge)]
    rw [← hT, if_pos ge] at k
    refine k _ ?_
    rw [← pp]
    exact hs.drop.drop.drop.drop.drop
  ·rintro h7 ⟨F, at_, hat, hs, hT⟩
   apply hJ90
   rw [ltI_eq, if_neg (by simp)]
   rw [Nat.sub_self] at hT
   unfold turnP at hT
   rw [← hT, if_neg (by simp)] at k
   dsimp only at k
   have L := hs.fnd zs3 l0 l1
   refine ⟨_, L.a0, _, ‹_›, L.a1, _, L.a10, _, L.a11, _, L.a12, _, L.a13, _, ‹_›, L.a14, _, L.a23, _, L.a24, _, L.a25, _, L.a26, ?_⟩
   refine finfo_sp l0 l1 (by omega) hs ?_
   intro h8 hs
   rw [← infoM_f]
   have ih := iok.head
   have hmv := most_val
   rw [wrap_id (by omega)]
   refine Head_sp ((infoM C).head + 1) hs ?_
   intro h9 hs
   rw [head_ok (by omega) (by omega)]
   have hhl := headM_length ((infoM C).head + 1)
   generalize (headM ((infoM C).head + 1)).1 = rec at *
   intro n117 _ hn; replace hs := Sat.new hs hn
   refine ⟨Sat.can hs .z (by simp [zeros]), ?_⟩
   intro h10 e10
   replace hs := Sat.wra hs .z e10 (by simp [zeros, hhl])
   clear e10
   simp only [put] at hs
   rw [if_neg (by simp)]
   refine ⟨_, hs.ld zs5 rfl, _, rfl, _, hs.ld (cl2.put_ne hij (chipE p F)).s.s.s.s.s.s rfl, ?_⟩
   refine ⟨_, Sat.ld hs (by repeat constructor) (by rfl), ?_⟩
   refine ⟨_, hhl, hs.row0 .z, _, rfl, ?_⟩
   refine Program_sp hs (ci2.put (chipE p F)).s.s.s.s.s.s (t : Int) 0 rec hhl ?_
   intro h11 hs
   simp only [put_succ, put_put] at hs
   refine k _ ?_
   rw [← pp]
   exact hs.drop.drop.drop.drop.drop.drop
 have hbl := blank_at hs zs1 l0 l1 ht
 rw [htd, pI_tgt, ← htd] at hbl
 refine ⟨_, hs.ld .z rfl, by omega, by omega, _, hbl, ?_⟩
 by_cases g : (pI C t).blank = true
 ·rw [if_pos g] at k
  rw [if_neg (by rw [g]; decide)]
  refine way C _ rfl ?_ k
  rw [ci.put_self]
  exact hs
 ·rw [if_neg g] at k
  rw [if_pos (by simpa using g)]
  refine ⟨_, hs.ld zs2 rfl, _, rfl, _, hs.ld cl.s.s.s rfl, ?_⟩
  refine ⟨_, Sat.ld hs (by repeat constructor) (by rfl), ?_⟩
  refine ⟨_, rfl, ?_⟩
  refine Erase_sp hs ci.s.s.s (t : Int) ?_
  intro h2 hs
  simp only [put_succ] at hs
  have hcf := erase_cfg C (t : Int)
  generalize eraseM C (t : Int) = X at *
  by_cases ge : X.2 = 0
  ·rw [if_neg (by simpa using ge)] at k
   rw [if_neg (by simpa using ge)]
   exact way X.1 _ hcf hs k
  ·rw [if_pos (by simpa using ge)] at k
   rw [if_pos (by simpa using ge)]
   exact k _ hs.drop.drop.drop
theorem Lay9_sp {Q : Int -> H -> Prop} (hs : Sat h0 A h) (ci : At A i (chipE p C)) (cl : At A j (logE r p)) (hij : j ≠ i) (slot n : Int)
  (k : ∀ h', Sat h0 (put A i (chipE p (layL C slot n).1)) h' -> Q (layL C slot n).2 h') : F_log_Log_Lay ⟨r, 0, none⟩ slot n Q h := by
 unfold F_log_Log_Lay G_log_Log_Lay
 try simp only [add_mk, Nat.zero_add, List.append_nil]
 have ok := chip_ok hs ci
 have hslots := ok.may.slots
 refine logLook_sp hs ci cl ?_
 intro h1 hs
 obtain ⟨lp, lq⟩ := lookF_len C
 intro n26 _ hn; replace hs := Sat.new hs hn
 refine ⟨Sat.can hs .z (by decide), ?_⟩
 intro h2 e
 replace hs := Sat.wra hs .z e (by rw [fnd_len lp lq]; rfl)
 clear e
 replace hs : Sat h0 (blk n26 (fndI (lookF C).1.p (lookF C).1.q (lookF C).1.n) :: A) h2 := hs
 unfold layL at k
 by_cases ho : C.out = true
 ·have e : lookF C = (⟨inf0, inf0, 0⟩, 8) := by unfold lookF; rw [if_pos ho]
  rw [if_pos ho] at k
  rw [e, if_pos (by simp)]
  exact k _ (by rw [ci.put_self]; exact hs.drop)
 have ho' : C.out = false := by simpa using ho
 have e : lookF C = (⟨pI C 0, pI C 1, presM C⟩, 0) := by unfold lookF; rw [if_neg ho]
 rw [if_neg ho] at k
 rw [e] at hs lp lq ⊢
 dsimp only at hs lp lq ⊢
 rw [if_neg (by simp)]
 intro J31 hJ31
 have iok := infoM_ok ok
 have ilen := infoM_len C
 have hc2 := presM_cases C
 have way : ∀ bb : Bool, (bb = true ↔ ¬ (0 ≤ slot /\ slot ≤ C.cfg.slots /\ 1 ≤ n /\ n ≤ most)) -> ∀ h3, Sat h0 (blk n26 (fndI (pI C 0) (pI C 1) (presM C)) :: A) h3 -> J31 [.dv (.one (.bool bb))] h3 := by
  intro bb hbb h3 hs
  apply hJ31
  clear hJ31 J31
  by_cases gb : bb = true
  ·rw [if_pos (hbb.1 gb)] at k
   rw [if_pos gb]
   exact k _ (by rw [ci.put_self]; exact hs.drop)
  have g : 0 ≤ slot /\ slot ≤ C.cfg.slots /\ 1 ≤ n /\ n ≤ most := Classical.byContradiction fun y => gb (hbb.2 y)
  rw [if_neg (fun y => y g)] at k
  rw [if_neg gb]
  obtain ⟨g1, g2, g3, g4⟩ := g
  have L := hs.fnd .z lp lq
  refine ⟨_, L.a0, _, ‹_›, L.a1, _, L.a10, _, L.a11, _, L.a12, _, L.a13, _, ‹_›, L.a14, _, L.a23, _, L.a24, _, L.a25, _, L.a26, ?_⟩
  refine finfo_sp lp lq (by omega) hs ?_
  intro h4 hs
  rw [← infoM_f]
  refine ⟨by omega, by omega, ?_⟩
  by_cases g5 : n ≤ (infoM C).nums.getD slot.toNat 0
  ·rw [if_pos g5] at k
   rw [leI_eq, if_pos (by rw [decide_eq_true g5])]
   exact k _ (by rw [ci.put_self]; exact hs.drop)
  rw [if_neg g5] at k
  rw [leI_eq, if_neg (by rw [decide_eq_false g5]; decide)]
  have L := hs.fnd .z lp lq
  refine ⟨_, L.a0, _, ‹_›, L.a1, _, L.a10, _, L.a11, _, L.a12, _, L.a13, _, ‹_›, L.a14, _, L.a23, _, L.a24, _, L.a25, _, L.a26, ?_⟩
  refine finfo_sp lp lq (by omega) hs ?_
  intro h5 hs
  rw [← infoM_f]
  intro n68 _ hn; replace hs := Sat.new hs hn
  refine ⟨Sat.can hs .z (by decide), ?_⟩
  intro h6 e6
  replace hs := Sat.wra hs .z e6 ((inf_len ilen).trans rfl)
  clear e6
  replace hs : Sat h0 (blk n68 (infI (infoM C)) :: blk n26 (fndI (pI C 0) (pI C 1) (presM C)) :: A) h6 := hs
  intro J73 hJ73
  have way2 : ∀ bb : Bool, (bb = true ↔ (0 ≤ presM C /\ (infoM C).next < C.cfg.cells)) -> ∀ h7, Sat h0 (blk n68 (infI (infoM C)) :: blk n26 (fndI (pI C 0) (pI C 1) (presM C)) :: A) h7 -> J73 [.dv (.one (.bool bb))] h7 := by
   intro bb hbb h7 hs
   apply hJ73
   clear hJ73 J73
   by_cases gb : bb = true
   ·rw [if_pos (hbb.1 gb)] at k
    rw [if_pos gb]
    obtain ⟨sl, rfl⟩ := Int.eq_ofNat_of_zero_le g1
    refine Value_sp (sl : Int) n hs ?_
    intro h8 hs
    have hvl := valueM_length (sl : Int) n
    rw [value_ok (by omega) g3 g4]
    generalize (valueM (sl : Int) n).1 = rec at *
    intro n79 _ hn; replace hs := Sat.new hs hn
    refine ⟨Sat.can hs .z (by simp [zeros]), ?_⟩
    intro h9 e9
    replace hs := Sat.wra hs .z e9 (by simp [zeros, hvl])
    clear e9
    simp only [put] at hs
    rw [if_neg (by simp)]
    have L := hs.fnd zs2 lp lq
    obtain ⟨L0, L1, L10, L11, L12⟩ := hs.infAt zs1 ilen
    refine ⟨_, hs.ld cl.s.s.s rfl, _, L.a26, _, L10, _, hvl, hs.row0 .z, _, rfl, ?_⟩
    refine Program_sp hs ci.s.s.s (presM C) (infoM C).next rec hvl ?_
    intro h10 hs
    simp only [put_succ] at hs
    exact k _ hs.drop.drop.drop
   rw [if_neg (fun y => gb (hbb.2 y))] at k
   rw [if_neg gb]
   have L := hs.fnd zs1 lp lq
   refine ⟨_, L.a0, _, ‹_›, L.a1, _, L.a10, _, L.a11, _, L.a12, _, L.a13, _, ‹_›, L.a14, _, L.a23, _, L.a24, _, L.a25, _, L.a26, ?_⟩
   refine worn9_sp hs ci.s.s cl.s.s ho' ?_
   intro h8 hs
   by_cases gw : wornF C = true
   ·rw [if_pos gw] at k
    rw [if_pos gw]
    exact k _ (by rw [ci.put_self]; exact hs.drop.drop)
   rw [if_neg gw] at k
   rw [if_neg gw]
   have hgm : (infoM C).head < most := by
    have : ¬ most ≤ (infoM C).head := fun y => gw (by unfold wornF; rw [decide_eq_true y, Bool.or_true])
    omega
   have L := hs.fnd zs1 lp lq
   refine ⟨_, L.a0, _, ‹_›, L.a1, _, L.a10, _, L.a11, _, L.a12, _, L.a13, _, ‹_›, L.a14, _, L.a23, _, L.a24, _, L.a25, _, L.a26, ?_⟩
   obtain ⟨sl, rfl⟩ := Int.eq_ofNat_of_zero_le g1
   refine turn_sp hs ci.s.s cl.s.s (by omega) sl n g2 g3 g4 hgm ?_
   intro h9 hs
   simp only [put_succ] at hs
   exact k _ hs.drop.drop
  have L := hs.fnd zs1 lp lq
  refine ⟨_, L.a26, ?_⟩
  by_cases gp : 0 ≤ presM C
  ·rw [leI_eq, if_pos (by simpa using gp)]
   obtain ⟨L0, L1, L10, L11, L12⟩ := hs.infAt .z ilen
   refine ⟨_, L10, _, hs.ld cl.s.s rfl, _, rfl, ?_⟩
   refine Config_sp hs ci.s.s ?_
   intro h7 hs
   obtain ⟨M0, M1, M10, M11, M12⟩ := hs.infAt .z ilen
   refine ⟨hcs_one M10, ?_⟩
   rw [ltI_eq]
   exact way2 _ (by simp [gp]) _ hs
  ·rw [leI_eq, if_neg (by simpa using gp)]
   exact way2 false (by simp [gp]) _ hs
 refine slot_sp hs ci.s cl.s slot ?_
 intro h3 hs
 by_cases gs : 0 ≤ slot /\ slot ≤ C.cfg.slots
 case neg =>
  rw [if_pos (by rw [decide_eq_false gs]; rfl)]
  exact way true (by constructor; intro _ y; exact gs ⟨y.1, y.2.1⟩; intro _; rfl) _ hs
 rw [if_neg (by rw [decide_eq_true gs]; decide)]
 by_cases gn : n < 1
 ·rw [ltI_eq, if_pos (by simpa using gn)]
  exact way true (by constructor; intro _ y; omega; intro _; rfl) _ hs
 rw [ltI_eq, if_neg (by simpa using gn)]
 intro i135 hi
 subst hi
 rw [ltI_eq]
 have hmv := most_val
 refine way _ ?_ _ hs
 rw [decide_eq_true_iff]
 constructor
 ·intro y z; omega
 ·intro y
  exact Classical.byContradiction fun z => y ⟨gs.1, gs.2, by omega, by omega⟩
end
def cellOf (B cells : Nat) (D : Cm) (x : Nat) : List Int := cellAt (D.pg (B + x / cells)) (x % cells)
def doneP (n k x : Nat) : Prop := (1 ≤ x /\ x ≤ k /\ x < n) ∨ (k = n /\ x = 0 /\ 0 < n)
instance (n k x : Nat) : Decidable (doneP n k x) := by unfold doneP; infer_instance
structure Pr (B area cells n k : Nat) (bs : List Int) (C D : Cm) (e : Int) : Prop where
 cfg : D.cfg = C.cfg
 bl : D.s.blown = C.s.blown
 np : D.s.pages.length = C.s.pages.length
 es : D.s.erases = C.s.erases
 pg : ∀ x, x < B ∨ B + area ≤ x -> D.pg x = C.pg x
 good : e = 0 -> D.acts = C.acts + (n - k : Nat) /\ ∀ x, x < area * cells -> cellOf B cells D x = if doneP n n x then cellM bs x else ffs
 bad : e ≠ 0 -> e = 8 /\ ∃ t, k < t /\ t ≤ n /\ D.acts = C.acts + (t - k : Nat) /\ ∀ x, x < area * cells -> x ≠ t % n -> cellOf B cells D x = if doneP n (t - 1) x then cellM bs x else ffs
abbrev rk (row : List Int) (k : Nat) : Int × Int × Int := recM (cellAt row k)
def sndU (u : Bool) (C : Cm) : Prop :=
 match u with
 | true => C.left < 0
 | false => ∀ x, x < 2 -> soundM (C.pg x) C.cfg.cells.toNat
abbrev nof (C : Cm) (t k : Nat) : Int := (pI C t).nums.getD k 0
abbrev numOf (C : Cm) (k : Nat) : Int := (infoM C).nums.getD k 0
abbrev lOf (C : Cm) : Nat := C.cfg.cells.toNat
section
variable {u : Bool}
structure Part (u : Bool) (C D : Cm) (t m : Nat) (e : Int) : Prop where
 ok : D.ok
 cfg : D.cfg = C.cfg
 pgs : ∀ y, y ≠ t -> D.pg y = C.pg y
 snd : sndU u D
 ec : e = 0 ∨ e = 8
 out0 : e = 0 -> D.out = false
 out8 : e = 8 -> D.out = true
 acts : 0 ≤ C.acts -> C.acts + m < 2 ^ 60 -> C.acts ≤ D.acts /\ D.acts ≤ C.acts + m
 un : u = true -> e = 0
theorem Part.trans {C D E : Cm} {t m n : Nat} {e : Int} (a : Part u C D t m 0) (b : Part u D E t n e) : Part u C E t (m + n) e :=
 ⟨b.ok, b.cfg.trans a.cfg, fun y h => (b.pgs y h).trans (a.pgs y h), b.snd, b.ec, b.out0, b.out8, fun h1 h2 => by
  have := a.acts h1 (by omega)
  have := b.acts (by omega) (by omega)
  omega, b.un⟩
theorem Part.refl {C : Cm} (ok : C.ok) (ho : C.out = false) (snd : sndU u C) (t : Nat) : Part u C C t 0 0 :=
 ⟨ok, rfl, fun _ _ => rfl, snd, Or.inl rfl, fun _ => ho, fun h => absurd h (by decide), fun _ _ => by omega, fun _ => rfl⟩
structure Turned (u : Bool) (C D : Cm) (t : Nat) (nums : List Int) (e : Int) : Prop where
 part : Part u C D t (C.cfg.slots.toNat + 3) e
 ero : ∀ y, y ≠ t -> D.er y = C.er y
 ert : D.er t = C.er t ∨ (D.er t = C.er t + 1 /\ C.er t < C.cfg.erases)
 erb : (pI C t).blank = true -> D.er t = C.er t
 ern : (pI C t).blank = false -> D.er t = C.er t + 1
 head : (pI D t).head = 0 ∨ (pI D t).head = (pI C t).head ∨ ((pI D t).head = (infoM C).head + 1 /\ ∀ k : Nat, (k : Int) ≤ C.cfg.slots -> nof D t k = nums.getD k 0)
 headf : e = 0 -> (pI D t).head = (infoM C).head + 1 /\ ∀ k : Nat, (k : Int) ≤ C.cfg.slots -> nof D t k = nums.getD k 0
 free : e = 0 -> ∀ k : Nat, C.cfg.slots.toNat + 2 ≤ k -> k < lOf C -> (rk (D.pg t) k).1 = 0
end
section
variable {u : Bool}
structure Laid (u : Bool) (C D : Cm) (slot : Nat) (n e : Int) : Prop where
 ok : D.ok
 cfg : D.cfg = C.cfg
 snd : sndU u D
 ec : e = 0 ∨ e = 8 ∨ e = 9
 e9 : e = 9 -> D = C
 out0 : e = 0 -> D.out = false
 other : ∀ k : Nat, (k : Int) ≤ C.cfg.slots -> k ≠ slot -> numOf D k = numOf C k
 me : numOf D slot = numOf C slot ∨ numOf D slot = n
 done : e = 0 -> numOf D slot = n
end
abbrev storeE (s p r : Nat) : Ent := blk s [.pointer (some ⟨p, 0, none⟩), .pointer (some ⟨r, 0, none⟩)]
def lastM (c : Cfg) : Int := c.step * c.fuses + c.step - 1
theorem lastM_in {c : Cfg} (m : c.may) : 0 ≤ lastM c /\ lastM c ≤ 4259839 /\ c.step * c.fuses ≤ 4194304 /\ 0 ≤ c.step * c.fuses := by
 have h1 := m.step
 have h2 := m.fuses
 have a : c.step * c.fuses ≤ 65536 * 64 := Int.mul_le_mul h1.2 h2.2 (by omega) (by decide)
 have b : 0 ≤ c.step * c.fuses := Int.mul_nonneg (by omega) (by omega)
 unfold lastM
 omega
def valS (C : Cm) (slot : Int) : Int := if (countM C slot).1 * C.cfg.step < numOf C slot.toNat then numOf C slot.toNat else (countM C slot).1 * C.cfg.step
def sRead (C : Cm) (slot : Int) : Int × Int := if askedM C slot C.cfg.slots ≠ 0 then (0, askedM C slot C.cfg.slots) else (valS C slot, 0)
def sBumpTo (C : Cm) (slot v : Int) : Cm × Int :=
 if (sRead C slot).2 ≠ 0 then (C, (sRead C slot).2) else if v < 0 then (C, 2) else if v ≤ (sRead C slot).1 then (C, 0) else if lastM C.cfg < v then (C, 10)
 else if (layL C slot v).2 ≠ 0 then layL C slot v else raiseM (layL C slot v).1 slot (v.tdiv C.cfg.step)
theorem count_in {C : Cm} (ok : C.ok) (slot : Int) : 0 ≤ (countM C slot).1 /\ (countM C slot).1 ≤ C.cfg.fuses := by
 have h2 := ok.may.fuses
 unfold countM
 split
 ·exact ⟨Int.le_refl 0, by show (0 : Int) ≤ _; omega⟩
 ·have := cnt_le C.s.blown (slot * C.cfg.fuses).toNat C.cfg.fuses.toNat
  dsimp only
  omega
theorem valS_in {C : Cm} (ok : C.ok) (slot : Int) : 0 ≤ (countM C slot).1 * C.cfg.step /\ (countM C slot).1 * C.cfg.step ≤ 4194304 /\ 0 ≤ valS C slot /\ valS C slot ≤ most := by
 have h1 := ok.may.step
 have h2 := ok.may.fuses
 obtain ⟨c0, c1⟩ := count_in ok slot
 have a : (countM C slot).1 * C.cfg.step ≤ 64 * 65536 := Int.mul_le_mul (by omega) h1.2 (by omega) (by decide)
 have b : 0 ≤ (countM C slot).1 * C.cfg.step := Int.mul_nonneg c0 (by omega)
 have d := (infoM_ok ok).nums slot.toNat
 have hm := most_val
 refine ⟨b, by omega, ?_⟩
 unfold valS
 split
 ·exact d
 ·omega
section
variable {h0 h : H} {A : List Ent} {i j p r b s m : Nat} {C : Cm}
theorem sMount_sp {Q : Option Addr -> Int -> H -> Prop} (hs : Sat h0 A h) (ci : At A i (chipE p C)) (k1 : C.out = true -> Q none 8 h) (k2 : C.out = false -> ∀ s l h', Sat h0 (storeE s p l :: logE l p :: A) h' -> Q (some ⟨s, 0, none⟩) 0 h') : F_store_Mount ⟨p, 0, none⟩ Q h := by
 unfold F_store_Mount G_store_Mount
 refine Mount_sp hs ci ?_ ?_
 ·intro ho
  rw [if_pos (by simp)]
  exact k1 ho
 ·intro ho l h1 hs
  rw [if_neg (by simp)]
  intro n7 _ hn; replace hs := Sat.new hs hn
  exact k2 ho n7 l _ hs
theorem sLast_sp {Q : Int -> H -> Prop} (hs : Sat h0 A h) (ci : At A i (chipE p C)) (st : At A m (storeE s p r)) (k : ∀ h', Sat h0 A h' -> Q (lastM C.cfg) h') : F_store_Store_Last ⟨s, 0, none⟩ Q h := by
 unfold F_store_Store_Last G_store_Store_Last
 try simp only [add_mk, Nat.zero_add]
 have ok := chip_ok hs ci
 obtain ⟨l0, l1, l2, l3⟩ := lastM_in ok.may
 have h1 := ok.may.step
 refine ⟨_, hs.ld st rfl, _, rfl, ?_⟩
 refine Config_sp hs ci ?_
 intro h1 hs
 intro n14 _ hn; replace hs := Sat.new hs hn
 refine ⟨Sat.can hs .z (by decide), ?_⟩
 intro h2 e
 replace hs := Sat.wra hs .z e rfl
 clear e
 simp only [put] at hs
 refine ⟨_, hs.ld .z rfl, _, hs.ld .z rfl, _, hs.ld .z rfl, ?_⟩
 rw [wrap_id (n := C.cfg.step * C.cfg.fuses) (by omega), wrap_id (n := C.cfg.step * C.cfg.fuses + C.cfg.step) (by omega), wrap_id (by unfold lastM at l0 l1; omega)]
 exact k _ hs.drop
theorem sAsked_sp {Q : Int -> H -> Prop} (hs : Sat h0 A h) (ci : At A i (chipE p C)) (st : At A m (storeE s p r)) (x n : Int) (k : Q (askedM C x n) h) : F_store_Store_asked ⟨s, 0, none⟩ x n Q h := by
 unfold F_store_Store_asked G_store_Store_asked
 refine ⟨_, hs.ld st rfl, _, rfl, ?_⟩
 refine Out_sp hs ci ?_
 unfold askedM at k
 by_cases ho : C.out = true
 ·rw [if_pos ho] at k; rw [if_pos ho]; exact k
 rw [if_neg ho] at k; rw [if_neg ho]
 by_cases g1 : x < 0
 ·rw [if_pos g1] at k; rw [ltI_eq, if_pos (by simpa using g1)]; exact k
 rw [if_neg g1] at k; rw [ltI_eq, if_neg (by simpa using g1)]
 by_cases g2 : n ≤ x
 ·rw [if_pos g2] at k; rw [leI_eq, if_pos (by simpa using g2)]; exact k
 rw [if_neg g2] at k; rw [leI_eq, if_neg (by simpa using g2)]; exact k
theorem sRead_sp {Q : Int -> Int -> H -> Prop} (hs : Sat h0 A h) (ci : At A i (chipE p C)) (cl : At A j (logE r p)) (st : At A m (storeE s p r)) (slot : Int) (k : ∀ h', Sat h0 A h' -> Q (sRead C slot).1 (sRead C slot).2 h') : F_store_Store_Read ⟨s, 0, none⟩ slot Q h := by
 unfold F_store_Store_Read G_store_Store_Read
 try simp only [add_mk, Nat.zero_add, List.append_nil]
 have ok := chip_ok hs ci
 refine ⟨_, hs.ld st rfl, _, rfl, ?_⟩
 refine Config_sp hs ci ?_
 intro h1 hs
 refine sAsked_sp hs ci st _ _ ?_
 unfold sRead at k
 by_cases ha : askedM C slot C.cfg.slots = 0
 case neg =>
  rw [if_pos (by simpa using ha)]
  rw [if_pos ha] at k
  exact k _ hs
 rw [if_neg (fun y => y ha)] at k
 rw [if_neg (by simpa using ha)]
 obtain ⟨ho, g0, g1⟩ := askedM_zero ha
 refine ⟨_, hs.ld st rfl, _, rfl, ?_⟩
 refine Count_sp hs ci slot ?_
 intro h2 hs
 have ec : (countM C slot).2 = 0 := by unfold countM; rw [if_neg (fun y => y ha)]
 rw [ec, if_neg (by simp)]
 refine ⟨_, hs.ld st rfl, _, rfl, ?_⟩
 refine Number_sp hs ci cl slot ?_
 intro h3 hs
 have en : numberM C slot = (numOf C slot.toNat, 0) := by
  unfold numberM
  rw [if_neg (by simp [ho]), if_neg (fun y => y ⟨g0, by omega⟩)]
 rw [en, if_neg (by simp)]
 refine ⟨_, hs.ld st rfl, _, rfl, ?_⟩
 refine Config_sp hs ci ?_
 intro h4 hs
 obtain ⟨v0, v1, _⟩ := valS_in ok slot
 rw [wrap_id (by omega)]
 intro n40 _ hn; replace hs := Sat.new hs hn
 refine ⟨Sat.can hs .z (by simp [zeros]), ?_⟩
 intro h5 e
 replace hs := Sat.wra hs .z e (by simp [zeros])
 clear e
 simp only [put] at hs
 refine ⟨by decide, by decide, _, hs.ld .z rfl, by decide, by decide, _, hs.ld .z rfl, ?_⟩
 exact k _ hs.drop
theorem sMay_sp {Q : Int -> H -> Prop} {nn ns : Nat} {now v : Int} (hs : Sat h0 A h) (ci : At A i (chipE p C)) (st : At A m (storeE s p r)) {x y : Nat} (tn : At A x (blk nn [.int .i64 now])) (ts : At A y (blk ns [.pointer (some ⟨s, 0, none⟩)]))
  (k : ∀ h', Sat h0 A h' -> Q (if v < 0 then 2 else if now < v then (if lastM C.cfg < v then 10 else 0) else 0) h') : F_store_Store_BumpTo_1 v ⟨nn, 0, none⟩ ⟨ns, 0, none⟩ Q h := by
 unfold F_store_Store_BumpTo_1 G_store_Store_BumpTo_1
 by_cases g1 : v < 0
 ·rw [if_pos g1] at k; rw [ltI_eq, if_pos (by simpa using g1)]; exact k _ hs
 rw [if_neg g1] at k; rw [ltI_eq, if_neg (by simpa using g1)]
 refine ⟨_, hs.ld tn rfl, ?_⟩
 by_cases g2 : now < v
 ·rw [if_pos g2] at k; rw [ltI_eq, if_pos (by simpa using g2)]
  refine ⟨_, hs.ld ts rfl, _, rfl, ?_⟩
  refine sLast_sp hs ci st ?_
  intro h1 hs
  by_cases g3 : lastM C.cfg < v
  ·rw [if_pos g3] at k; rw [ltI_eq, if_pos (by simpa using g3)]; exact k _ hs
  ·rw [if_neg g3] at k; rw [ltI_eq, if_neg (by simpa using g3)]; exact k _ hs
 ·rw [if_neg g2] at k; rw [ltI_eq, if_neg (by simpa using g2)]; exact k _ hs
theorem layL_cfg (ok : C.ok) (slot n : Int) : (layL C slot n).1.cfg = C.cfg := by
 have ep : ∀ (t : Int) (nums : List Int) (m x a : Nat) (D : Cm), (turnP t nums m x a D).1.cfg = D.cfg := by
  intro t nums m
  induction m with
  | zero => intro x a D; rfl
  | succ m ih =>
   intro x a D
   unfold turnP
   split
   ·exact ih _ _ _
   ·split
    ·exact program_cfg _ _ _ _
    ·exact (ih _ _ _).trans (program_cfg _ _ _ _)
 have ea : ∀ (g t : Int) (nums : List Int) (m : Nat) (D : Cm), (turnA g t nums m D).1.cfg = D.cfg := by
  intro g t nums m D
  unfold turnA
  split
  ·exact ep _ _ _ _ _ _
  ·exact (program_cfg _ _ _ _).trans (ep _ _ _ _ _ _)
 unfold layL
 (repeat' split) <;> first | rfl | exact program_cfg _ _ _ _ | skip
 unfold turnL
 split
 ·exact ea _ _ _ _ _
 ·split
  ·exact erase_cfg _ _
  ·exact (ea _ _ _ _ _).trans (erase_cfg _ _)
theorem sBumpTo_sp {Q : Int -> H -> Prop} (hs : Sat h0 A h) (ci : At A i (chipE p C)) (cl : At A j (logE r p)) (st : At A m (storeE s p r)) (hij : j ≠ i) (him : m ≠ i) (slot v : Int)
  (k : ∀ h', Sat h0 (put A i (chipE p (sBumpTo C slot v).1)) h' -> Q (sBumpTo C slot v).2 h') : F_store_Store_BumpTo ⟨s, 0, none⟩ slot v Q h := by
 unfold F_store_Store_BumpTo G_store_Store_BumpTo
 try simp only [add_mk, Nat.zero_add, List.append_nil]
 have ok := chip_ok hs ci
 have hst := ok.may.step
 intro n10 _ hn; replace hs := Sat.new hs hn
 refine ⟨_, hs.ld .z rfl, _, rfl, ?_⟩
 refine sRead_sp hs ci.s cl.s st.s slot ?_
 intro h1 hs
 intro n18 _ hn; replace hs := Sat.new hs hn
 refine ⟨Sat.can hs .z (by decide), ?_⟩
 intro h2 e
 replace hs := Sat.wra hs .z e rfl
 clear e
 simp only [put] at hs
 unfold sBumpTo at k
 by_cases ge : (sRead C slot).2 = 0
 case neg =>
  rw [if_pos ge] at k
  rw [if_pos (by simpa using ge)]
  exact k _ (by rw [ci.put_self]; exact hs.drop.drop)
 rw [if_neg (fun y => y ge)] at k
 rw [if_neg (by simpa using ge)]
 intro J hJ
 refine sMay_sp hs ci.s.s st.s.s (x := 0) .z zs1 ?_
 intro h3 hs
 by_cases g1 : v < 0
 ·rw [if_pos g1] at k
  rw [if_pos g1, if_pos (by simp)]
  exact k _ (by rw [ci.put_self]; exact hs.drop.drop)
 rw [if_neg g1] at k
 rw [if_neg g1]
 by_cases g2 : v ≤ (sRead C slot).1
 ·rw [if_pos g2] at k
  rw [if_neg (show ¬ (sRead C slot).1 < v by omega), if_neg (by simp)]
  refine ⟨_, hs.ld .z rfl, ?_⟩
  rw [leI_eq, if_pos (by simpa using g2)]
  exact k _ (by rw [ci.put_self]; exact hs.drop.drop)
 rw [if_neg g2] at k
 rw [if_pos (show (sRead C slot).1 < v by omega)]
 by_cases g3 : lastM C.cfg < v
 ·rw [if_pos g3] at k
  rw [if_pos g3, if_pos (by simp)]
  exact k _ (by rw [ci.put_self]; exact hs.drop.drop)
 rw [if_neg g3] at k
 rw [if_neg g3, if_neg (by simp)]
 refine ⟨_, hs.ld .z rfl, ?_⟩
 rw [leI_eq, if_neg (by simpa using g2)]
 apply hJ
 clear hJ J
 refine ⟨_, hs.ld zs1 rfl, _, rfl, _, hs.ld st.s.s rfl, _, rfl, ?_⟩
 refine Lay9_sp hs ci.s.s cl.s.s (by omega) slot v ?_
 intro h4 hs
 simp only [put_succ] at hs
 have ecf := layL_cfg ok slot v
 generalize layL C slot v = X at *
 by_cases gx : X.2 = 0
 case neg =>
  rw [if_pos gx] at k
  rw [if_pos (by simpa using gx)]
  exact k _ hs.drop.drop
 rw [if_neg (fun y => y gx)] at k
 rw [if_neg (by simpa using gx)]
 refine ⟨_, hs.ld zs1 rfl, _, rfl, _, hs.ld (st.put_ne him (chipE p X.1)).s.s rfl, _, hs.ld zs1 rfl, _, rfl, _, hs.ld (st.put_ne him (chipE p X.1)).s.s rfl, _, rfl, ?_⟩
 refine Config_sp hs (ci.put (chipE p X.1)).s.s ?_
 intro h5 hs
 rw [ecf]
 refine ⟨hcs_one (hs.ld (st.put_ne him (chipE p X.1)).s.s rfl), hcs_one (hs.ld zs1 rfl), by omega, _, rfl, ?_⟩
 have hl := lastM_in ok.may
 have hd0 : 0 ≤ v.tdiv C.cfg.step := Int.tdiv_nonneg (by omega) (by omega)
 have hd1 : v.tdiv C.cfg.step ≤ v := by
  rw [Int.tdiv_eq_ediv_of_nonneg (by omega)]
  exact Int.ediv_le_self _ (by omega)
 rw [wrap_id (by omega)]
 refine Raise_sp hs (ci.put (chipE p X.1)).s.s slot (v.tdiv C.cfg.step) ?_
 intro h6 hs
 simp only [put_succ, put_put] at hs
 exact k _ hs.drop.drop
theorem sRevoke_sp {Q : Int -> H -> Prop} (hs : Sat h0 A h) (ci : At A i (chipE p C)) (st : At A m (storeE s p r)) (key : Int)
  (k : ∀ h', Sat h0 (put A i (chipE p (revokeM C key).1)) h' -> Q (revokeM C key).2 h') : F_store_Store_Revoke ⟨s, 0, none⟩ key Q h := by
 unfold F_store_Store_Revoke G_store_Store_Revoke
 refine ⟨_, hs.ld st rfl, _, rfl, ?_⟩
 refine Config_sp hs ci ?_
 intro h1 hs
 refine sAsked_sp hs ci st _ _ ?_
 by_cases ha : askedM C key C.cfg.keys = 0
 case neg =>
  rw [if_pos (by simpa using ha)]
  have e : revokeM C key = (C, askedM C key C.cfg.keys) := by
   have e1 : (revokedM C key).2 = askedM C key C.cfg.keys := by unfold revokedM; rw [if_pos ha]
   unfold revokeM
   rw [e1, if_pos ha]
  rw [e] at k
  exact k _ (by rw [ci.put_self]; exact hs)
 rw [if_neg (by simpa using ha)]
 refine ⟨_, hs.ld st rfl, _, rfl, ?_⟩
 exact Revoke_sp hs ci key k
theorem sRevoked_sp {Q : Bool -> Int -> H -> Prop} (hs : Sat h0 A h) (ci : At A i (chipE p C)) (st : At A m (storeE s p r)) (key : Int)
  (k : ∀ h', Sat h0 A h' -> Q (revokedM C key).1 (revokedM C key).2 h') : F_store_Store_Revoked ⟨s, 0, none⟩ key Q h := by
 unfold F_store_Store_Revoked G_store_Store_Revoked
 refine ⟨_, hs.ld st rfl, _, rfl, ?_⟩
 refine Config_sp hs ci ?_
 intro h1 hs
 refine sAsked_sp hs ci st _ _ ?_
 by_cases ha : askedM C key C.cfg.keys = 0
 case neg =>
  rw [if_pos (by simpa using ha)]
  have e1 : revokedM C key = (false, askedM C key C.cfg.keys) := by unfold revokedM; rw [if_pos ha]
  rw [e1] at k
  exact k _ hs
 rw [if_neg (by simpa using ha)]
 refine ⟨_, hs.ld st rfl, _, rfl, ?_⟩
 exact Revoked_sp hs ci key k
end
section
variable {h0 h : H} {A : List Ent} {i j p r l b : Nat} {C : Cm}
theorem ref_er (hs : Sat h0 A h) (cj : At A j (refE r C)) {k : Nat} (hk : (k : Int) < C.s.erases.length) :
  ∃ (q : Nat) (n c : Nat), hc h ⟨r, 8, none⟩ = some (.slice (some ⟨q, 0, none⟩) n c) /\ (k : Int) < n /\ hc h ⟨q, k, none⟩ = some (.int .i64 (C.er k)) := by
 obtain ⟨⟨w, ms⟩, ⟨ok, _, _, _⟩, hs⟩ := (hs.front cj).open_
 dsimp only [refL, List.cons_append, List.nil_append] at hs
 have hl := hs.sl_len zs2
 simp only [ints_length, Nat.mul_one] at hl
 have hkn : k < C.s.erases.length := by omega
 obtain ⟨q, hq⟩ := hs.sl_some zs2 (by omega)
 have e8 := hs.ld .z (o := 8) rfl
 obtain ⟨⟨a1, a2, a3⟩, ⟨b1, b2, b3⟩, c, m⟩ := w
 dsimp only at hq hl hs
 subst hq
 refine ⟨q, b2, b3, e8, by omega, hs.sld zs2 ?_⟩
 rw [ints_get, List.getElem?_eq_getElem hkn]
 unfold Cm.er
 simp [List.getD, List.getElem?_eq_getElem hkn]
theorem rTarget9_sp {Q : Int -> H -> Prop} (hs : Sat h0 A h) (cj : At A j (refE r C)) (cl : At A i (logE l r)) (ho : C.out = false) (k : ∀ h', Sat h0 A h' -> Q (tgtM C : Int) h') : F_portcullisref09_Log_target ⟨l, 0, none⟩ Q h := by
 unfold F_portcullisref09_Log_target G_portcullisref09_Log_target
 refine rPresent9_sp hs cj cl ?_
 intro h1 hs
 have e : presT C = presM C := by unfold presT; rw [if_neg (by simp [ho])]
 rw [e]
 have := k _ hs
 rw [← tgt_eq] at this
 by_cases g : presM C = 0
 ·rw [if_pos g] at this; rw [if_pos (by simpa using g)]; exact this
 ·rw [if_neg g] at this; rw [if_neg (by simpa using g)]; exact this
theorem rinfo_in {C : Cm} (ho : C.out = false) : rinfo C = infoM C := by unfold rinfo; rw [if_neg (by simp [ho])]
theorem rNumber9_sp {Q : Int -> Int -> H -> Prop} (hs : Sat h0 A h) (cj : At A j (refE r C)) (cl : At A i (logE l r)) (slot : Int) (k : ∀ h', Sat h0 A h' -> Q (numberM C slot).1 (numberM C slot).2 h') : F_portcullisref09_Log_Number ⟨l, 0, none⟩ slot Q h := by
 unfold F_portcullisref09_Log_Number G_portcullisref09_Log_Number
 have ok := ref_ok hs cj
 have hm := ok.may.slots
 obtain ⟨w, lc⟩ := ref_cell hs cj
 refine ⟨_, hs.ld cl rfl, _, rfl, _, lc 11 _ rfl, ?_⟩
 unfold numberM at k
 by_cases ho : C.out = true
 ·rw [if_pos ho] at k ⊢; exact k _ hs
 rw [if_neg ho] at k ⊢
 have ho' : C.out = false := by simpa using ho
 by_cases g1 : slot < 0
 ·rw [ltI_eq, if_pos (by simpa using g1)]
  rw [if_pos (by omega)] at k
  exact k _ hs
 rw [ltI_eq, if_neg (by simpa using g1)]
 refine ⟨_, hs.ld cl rfl, _, rfl, _, lc 1 _ rfl, ?_⟩
 by_cases g2 : C.cfg.slots < slot
 ·rw [ltI_eq, if_pos (by simpa using g2)]
  rw [if_pos (by omega)] at k
  exact k _ hs
 rw [ltI_eq, if_neg (by simpa using g2)]
 rw [if_neg (fun y => y ⟨by omega, by omega⟩)] at k
 refine rInfo9_sp hs cj cl ?_
 intro h1 hs
 rw [rinfo_in ho']
 exact ⟨by omega, by omega, k _ hs⟩
theorem rWorn9_sp {Q : Bool -> H -> Prop} (hs : Sat h0 A h) (cj : At A j (refE r C)) (cl : At A i (logE l r)) (k : ∀ h', Sat h0 A h' -> Q (wornT C) h') : F_portcullisref09_Log_Worn ⟨l, 0, none⟩ Q h := by
 unfold F_portcullisref09_Log_Worn G_portcullisref09_Log_Worn
 have ok := ref_ok hs cj
 obtain ⟨w, lc⟩ := ref_cell hs cj
 refine ⟨_, hs.ld cl rfl, _, rfl, _, lc 11 _ rfl, ?_⟩
 unfold wornT at k
 by_cases ho : C.out = true
 ·rw [if_pos ho] at k ⊢; exact k _ hs
 rw [if_neg ho] at k ⊢
 have ho' : C.out = false := by simpa using ho
 refine rTarget9_sp hs cj cl ho' ?_
 intro h1 hs
 have ht := tgt_lt C
 obtain ⟨h2, h3⟩ := ok_pages ok
 obtain ⟨pl, pc, q, xp, xl, xc, e7, hl, hx, exl, hrd, hb, hl60⟩ := rPage hs cj (k := tgtM C) (by omega)
 refine ⟨_, hs.ld cl rfl, _, rfl, _, _, _, e7, _, rfl, by omega, by omega, _, _, _, by rw [Nat.mul_one, Int.toNat_natCast]; exact hx, ?_⟩
 refine Of_sp (A := []) (Sat.init _) (fun h' hs' => hsv_ext hs'.ex hrd (fun _ _ y => y)) hb hl60 ?_
 intro h4 hs2; replace hs := hs.ext hs2.ex; clear hs2
 subst exl
 have fin : ((!(pI C (tgtM C)).blank && decide (C.cfg.erases ≤ C.er (tgtM C))) = false) -> ∀ h', Sat h0 A h' -> F_portcullisref09_Log_info ⟨l, 0, none⟩ (fun i36 l37 i38 b39 i40 h41 => ∀ i42 : Int, i42 = 4611686018427387904 -> Q (leI i42 i36) h41) h' := by
  intro e h' hs
  refine rInfo9_sp hs cj cl ?_
  intro h5 hs i42 hi
  subst hi
  rw [rinfo_in ho', leI_eq]
  have := k _ hs
  unfold wornF at this
  rw [e, Bool.false_or] at this
  exact this
 show if (!(pI C (tgtM C)).blank) = true then _ else _
 by_cases g : (pI C (tgtM C)).blank = true
 ·rw [if_neg (by rw [g]; decide)]
  exact fin (by rw [g]; rfl) _ hs
 ·have g' : (pI C (tgtM C)).blank = false := by simpa using g
  rw [if_pos (by rw [g']; decide)]
  obtain ⟨eq, en, ec, e8, el, ee⟩ := ref_er hs cj (k := tgtM C) (by omega)
  obtain ⟨w, lc⟩ := ref_cell hs cj
  refine ⟨_, hs.ld cl rfl, _, rfl, _, _, _, e8, _, rfl, by omega, by omega, ?_⟩
  rw [Int.toNat_natCast, Nat.mul_one, add_mk, Nat.zero_add]
  refine ⟨_, ee, _, hs.ld cl rfl, _, rfl, _, lc 5 _ rfl, ?_⟩
  by_cases g2 : C.cfg.erases ≤ C.er (tgtM C)
  ·rw [leI_eq, if_pos (by simpa using g2)]
   have := k _ hs
   unfold wornF at this
   rw [g', decide_eq_true g2] at this
   exact this
  ·rw [leI_eq, if_neg (by simpa using g2)]
   exact fin (by rw [decide_eq_false g2, Bool.and_false]) _ hs
theorem rTurn9_sp {Q : Int -> H -> Prop} (hs : Sat h0 A h) (cj : At A j (refE r C)) (cl : At A i (logE l r)) (hij : i ≠ j) (ho : C.out = false) (slot : Nat) (n : Int) (hsl : (slot : Int) ≤ C.cfg.slots) (hn1 : 1 ≤ n) (hn2 : n ≤ most) (hg : (infoM C).head < most)
  (k : ∀ h', Sat h0 (put A j (refE r (turnL C slot n).1)) h' -> Q (turnL C slot n).2 h') : F_portcullisref09_Log_turn ⟨l, 0, none⟩ (slot : Int) n Q h := by
 unfold F_portcullisref09_Log_turn G_portcullisref09_Log_turn
 try simp only [add_mk, Nat.zero_add, List.append_nil]
 have ok := ref_ok hs cj
 have hslots := ok.may.slots
 have hcells := ok.may.cells
 have ht := tgt_lt C
 have iok := infoM_ok ok
 have ilen := infoM_len C
 obtain ⟨hp2, he2⟩ := ok_pages ok
 refine rTarget9_sp hs cj cl ho ?_
 intro h1 hs
 refine rInfo9_sp hs cj cl ?_
 intro h2 hs
 rw [rinfo_in ho]
 intro n20 _ hn; replace hs := Sat.new hs hn
 refine ⟨Sat.can hs .z (by decide), ?_⟩
 intro h3 e3
 replace hs := Sat.wra hs .z e3 ((inf_len ilen).trans rfl)
 clear e3
 replace hs : Sat h0 (blk n20 (infI (infoM C)) :: A) h3 := hs
 obtain ⟨t, htd⟩ : ∃ t, t = tgtM C := ⟨_, rfl⟩
 obtain ⟨nums, hnums⟩ : ∃ nums, nums = (infoM C).nums.set slot n := ⟨_, rfl⟩
 have hnb : ∀ x, 0 ≤ nums.getD x 0 /\ nums.getD x 0 ≤ most := by
  intro x
  rw [hnums, set_getD]
  split
  ·omega
  ·exact iok.nums x
 have hnl : nums.length = 9 := by rw [hnums, List.length_set, ilen]
 have kk : turnL C slot n = if (pI C t).blank = true then turnA (infoM C).head (t : Int) nums (C.cfg.slots + 1).toNat C else if (eraseM C (t : Int)).2 ≠ 0 then eraseM C (t : Int) else turnA (infoM C).head (t : Int) nums (C.cfg.slots + 1).toNat (eraseM C (t : Int)).1 := by rw [htd, hnums]; rfl
 rw [kk] at k
 rw [← htd] at ht ⊢
 clear kk
 obtain ⟨pl, pc, q, xp, xl, xc, e7, hl, hx, exl, hrd, hb, hl60⟩ := rPage hs cj.s (k := t) (by omega)
 refine ⟨_, hs.ld cl.s rfl, _, rfl, _, _, _, e7, _, rfl, by omega, by omega, _, _, _, by rw [Nat.mul_one, Int.toNat_natCast]; exact hx, ?_⟩
 refine Of_sp (A := []) (Sat.init _) (fun h' hs' => hsv_ext hs'.ex hrd (fun _ _ y => y)) hb hl60 ?_
 intro h4 hs2; replace hs := hs.ext hs2.ex; clear hs2
 subst exl
 intro J40 hJ40
 have way : ∀ (D : Cm) h', D.cfg = C.cfg -> Sat h0 (blk n20 (infI (infoM C)) :: put A j (refE r D)) h' ->
   (∀ h', Sat h0 (put A j (refE r (turnA (infoM C).head (t : Int) nums (C.cfg.slots + 1).toNat D).1)) h' -> Q (turnA (infoM C).head (t : Int) nums (C.cfg.slots + 1).toNat D).2 h') -> J40 [] h' := by
  intro D h5 hcf hs k
  apply hJ40
  clear hJ40 J40
  have cj2 := cj.put (refE r D)
  have cl2 := cl.put_ne hij (refE r D)
  have pp : ∀ E : Cm, put (put A j (refE r D)) j (refE r E) = put A j (refE r E) := fun E => put_put _ _ _ _
  generalize put A j (refE r D) = A2 at *
  refine ⟨by omega, by omega, ?_⟩
  rw [Int.toNat_natCast, Nat.mul_one]
  try simp only [add_mk, Nat.zero_add]
  refine ⟨Sat.can hs .z (by rw [inf_len ilen]; omega), ?_⟩
  intro h6 e6
  replace hs := Sat.wr hs .z e6
  clear e6
  rw [inf_sn ilen (by omega), ← hnums] at hs
  simp only [put] at hs
  intro J44 hJ44
  obtain ⟨m, hm⟩ : ∃ m, m = (C.cfg.slots + 1).toNat := ⟨_, rfl⟩
  rw [← hm] at k
  have hm9 : m ≤ 9 := by omega
  obtain ⟨E, hE⟩ : ∃ E, E = turnP (t : Int) nums m 0 1 D := ⟨_, rfl⟩
  have kE : turnA (infoM C).head (t : Int) nums m D = if E.2 ≠ 0 then E else programM E.1 (t : Int) 0 (headM ((infoM C).head + 1)).1 := by unfold turnA; rw [← hE]
  rw [kE] at k
  clear kE
  obtain ⟨I, hI⟩ : ∃ I : Inf, I = { infoM C with nums := nums } := ⟨_, rfl⟩
  have hIl : I.nums.length = 9 := by rw [hI]; exact hnl
  have hIh : I.head = (infoM C).head := by rw [hI]
  have hIn : I.nums = nums := by rw [hI]
  replace hs : Sat h0 (blk n20 (infI I) :: A2) h6 := by rw [hI]; exact hs
  refine loop_st m (fun x (a : Nat) => [.dv (.one (.int .i64 (a : Int))), si x]) (fun x a h => ∃ F : Cm, F.cfg = C.cfg /\ a ≤ x + 1 /\ Sat h0 (blk n20 (infI I) :: put A2 j (refE r F)) h /\ turnP (t : Int) nums (m - x) x a F = E) ?_ ?_ 0 1 _ (by omega)
   ⟨D, hcf, by omega, by rw [cj2.put_self]; exact hs, hE.symm⟩
  ·rintro x a h7 hx ⟨F, ecF, hat, hs, hT⟩ hk
   apply hJ44
   obtain ⟨w, lc⟩ := ref_cell hs (cj2.put (refE r F)).s
   refine ⟨_, hs.ld (cl2.put_ne hij (refE r F)).s rfl, _, rfl, _, lc 1 _ rfl, ?_⟩
   rw [ecF, leI_eq, if_pos (by simp; omega)]
   obtain ⟨m', hm'⟩ : ∃ m', m - x = m' + 1 := ⟨m - x - 1, by omega⟩
   rw [hm'] at hT
   unfold turnP at hT
   have g : hc h7 ⟨n20, 1 + x, none⟩ = some (.int .i64 (nums.getD x 0)) := hs.ld .z (by rw [inf_num hIl (by omega), hIn])
   rw [wrap_succ (i := x) (by omega)]
   refine ⟨by omega, by omega, ?_⟩
   rw [Int.toNat_natCast, Nat.mul_one]
   try simp only [add_mk, Nat.zero_add]
   refine ⟨_, g, ?_⟩
   by_cases gz : nums.getD x 0 = 0
   ·rw [if_pos gz] at hT
    rw [if_pos (by simpa using gz)]
    exact hk a _ ⟨F, ecF, by omega, hs, by rw [show m - (x + 1) = m' by omega]; exact hT⟩
   rw [if_neg gz] at hT
   rw [if_neg (by simpa using gz)]
   refine ⟨by omega, by omega, _, g, ?_⟩
   have hb := hnb x
   refine rValue_sp (x : Int) (nums.getD x 0) hs ?_
   intro h8 hs
   have hl := valueM_length (x : Int) (nums.getD x 0)
   generalize (valueM (x : Int) (nums.getD x 0)).1 = rec at *
   intro n56 _ hn; replace hs := Sat.new hs hn
   refine ⟨Sat.can hs .z (by simp [zeros]), ?_⟩
   intro h9 e9
   replace hs := Sat.wra hs .z e9 (by simp [zeros, hl])
   clear e9
   simp only [put] at hs
   refine ⟨_, hs.ld (cl2.put_ne hij (refE r F)).s.s rfl, _, hl, hs.row0 .z, _, rfl, ?_⟩
   have hcfF := program_cfg F (t : Int) (a : Int) rec
   refine rProgram_sp hs (cj2.put (refE r F)).s.s (t : Int) (a : Int) rec hl ?_
   intro h10 hs
   simp only [put_succ, put_put] at hs
   generalize programM F (t : Int) (a : Int) rec = X at *
   by_cases ge : X.2 = 0
   ·rw [if_neg (by simpa using ge)] at hT
    rw [if_neg (by simpa using ge), wrap_succ (i := a) (by omega)]
    exact hk (a + 1) _ ⟨X.1, hcfF.trans ecF, by omega, hs.drop, by rw [show m - (x + 1) = m' by omega]; exact hT⟩
   ·rw [if_pos (by simpa using ge)] at hT
    rw [if_pos (by simpa using ge)]
    rw [← hT, if_pos ge] at k
    refine k _ ?_
    rw [← pp]
    exact hs.drop.drop
  ·rintro a h7 ⟨F, ecF, hat, hs, hT⟩
   apply hJ44
   obtain ⟨w, lc⟩ := ref_cell hs (cj2.put (refE r F)).s
   refine ⟨_, hs.ld (cl2.put_ne hij (refE r F)).s rfl, _, rfl, _, lc 1 _ rfl, ?_⟩
   rw [ecF, leI_eq, if_neg (by simp; omega)]
   rw [Nat.sub_self] at hT
   unfold turnP at hT
   rw [← hT, if_neg (by simp)] at k
   dsimp only at k
   refine ⟨_, hs.ld .z rfl, ?_⟩
   have ih := iok.head
   have hmv := most_val
   rw [hIh, wrap_id (by omega)]
   refine rHead_sp ((infoM C).head + 1) hs ?_
   intro h8 hs
   have hhl := headM_length ((infoM C).head + 1)
   generalize (headM ((infoM C).head + 1)).1 = rec at *
   intro n70 _ hn; replace hs := Sat.new hs hn
   refine ⟨Sat.can hs .z (by simp [zeros]), ?_⟩
   intro h9 e9
   replace hs := Sat.wra hs .z e9 (by simp [zeros, hhl])
   clear e9
   simp only [put] at hs
   refine ⟨_, hs.ld (cl2.put_ne hij (refE r F)).s.s rfl, _, hhl, hs.row0 .z, _, rfl, ?_⟩
   refine rProgram_sp hs (cj2.put (refE r F)).s.s (t : Int) 0 rec hhl ?_
   intro h10 hs
   simp only [put_succ, put_put] at hs
   refine k _ ?_
   rw [← pp]
   exact hs.drop.drop
 show if (!(pI C t).blank) = true then _ else _
 by_cases g : (pI C t).blank = true
 ·rw [if_pos g] at k
  rw [if_neg (by rw [g]; decide)]
  refine way C _ rfl ?_ k
  rw [cj.put_self]
  exact hs
 ·rw [if_neg g] at k
  rw [if_pos (by simpa using g)]
  refine ⟨_, hs.ld cl.s rfl, _, rfl, ?_⟩
  refine rErase_sp hs cj.s (t : Int) ?_
  intro h5 hs
  simp only [put_succ] at hs
  have hcf := erase_cfg C (t : Int)
  generalize eraseM C (t : Int) = X at *
  by_cases ge : X.2 = 0
  ·rw [if_neg (by simpa using ge)] at k
   rw [if_neg (by simpa using ge)]
   exact way X.1 _ hcf hs k
  ·rw [if_pos (by simpa using ge)] at k
   rw [if_pos (by simpa using ge)]
   exact k _ hs.drop
theorem rLay9_sp {Q : Int -> H -> Prop} (hs : Sat h0 A h) (cj : At A j (refE r C)) (cl : At A i (logE l r)) (hij : i ≠ j) (slot n : Int)
  (k : ∀ h', Sat h0 (put A j (refE r (layL C slot n).1)) h' -> Q (layL C slot n).2 h') : F_portcullisref09_Log_Lay ⟨l, 0, none⟩ slot n Q h := by
 unfold F_portcullisref09_Log_Lay G_portcullisref09_Log_Lay
 try simp only [add_mk, Nat.zero_add, List.append_nil]
 have ok := ref_ok hs cj
 have hslots := ok.may.slots
 have hmv := most_val
 refine rNumber9_sp hs cj cl slot ?_
 intro h1 hs
 have same : put A j (refE r C) = A := cj.put_self
 unfold layL at k
 by_cases ho : C.out = true
 ·have e : numberM C slot = (0, 8) := by unfold numberM; rw [if_pos ho]
  rw [if_pos ho] at k
  rw [e, if_pos (by simp)]
  exact k _ (by rw [same]; exact hs)
 rw [if_neg ho] at k
 have ho' : C.out = false := by simpa using ho
 by_cases gs : 0 ≤ slot /\ slot ≤ C.cfg.slots
 case neg =>
  have e : numberM C slot = (0, 2) := by unfold numberM; rw [if_neg ho, if_pos gs]
  rw [if_pos (fun y => gs ⟨y.1, y.2.1⟩)] at k
  rw [e, if_pos (by simp)]
  exact k _ (by rw [same]; exact hs)
 have e : numberM C slot = ((infoM C).nums.getD slot.toNat 0, 0) := by unfold numberM; rw [if_neg ho, if_neg (fun y => y gs)]
 rw [e, if_neg (by simp)]
 intro J16 hJ16
 by_cases g1 : n < 1
 ·rw [if_pos (fun y => by omega)] at k
  rw [ltI_eq, if_pos (by simpa using g1)]
  exact k _ (by rw [same]; exact hs)
 rw [ltI_eq, if_neg (by simpa using g1)]
 intro i47 hi47
 subst hi47
 by_cases g2 : most < n
 ·rw [if_pos (fun y => by omega)] at k
  rw [ltI_eq, if_pos (by rw [decide_eq_true_iff]; exact g2)]
  exact k _ (by rw [same]; exact hs)
 rw [ltI_eq, if_neg (by rw [decide_eq_true_iff]; exact g2)]
 rw [if_neg (fun y => y ⟨gs.1, gs.2, by omega, by omega⟩)] at k
 apply hJ16
 clear hJ16 J16
 dsimp only
 by_cases g3 : n ≤ (infoM C).nums.getD slot.toNat 0
 ·rw [if_pos g3] at k
  rw [leI_eq, if_pos (by rw [decide_eq_true_iff]; exact g3)]
  exact k _ (by rw [same]; exact hs)
 rw [if_neg g3] at k
 rw [leI_eq, if_neg (by rw [decide_eq_true_iff]; exact g3)]
 refine rFree9_sp hs cj cl ?_
 intro h2 hs
 have hfr : 0 < freeT C ↔ (0 ≤ presM C /\ (infoM C).next < C.cfg.cells) := by
  unfold freeT
  rw [if_neg ho]
  split
  ·constructor <;> intro y <;> omega
  ·constructor <;> intro y <;> omega
 by_cases g4 : 0 < freeT C
 ·rw [if_pos (hfr.1 g4)] at k
  rw [ltI_eq, if_pos (by simpa using g4)]
  obtain ⟨sl, rfl⟩ := Int.eq_ofNat_of_zero_le gs.1
  refine rValue_sp (sl : Int) n hs ?_
  intro h3 hs
  have hl := valueM_length (sl : Int) n
  generalize (valueM (sl : Int) n).1 = rec at *
  intro n23 _ hn; replace hs := Sat.new hs hn
  refine ⟨Sat.can hs .z (by simp [zeros]), ?_⟩
  intro h4 e4
  replace hs := Sat.wra hs .z e4 (by simp [zeros, hl])
  clear e4
  simp only [put] at hs
  refine ⟨_, hs.ld cl.s rfl, _, hl, hs.row0 .z, ?_⟩
  refine rPresent9_sp hs cj.s cl.s ?_
  intro h5 hs
  refine ⟨Sat.whole hs .z, hcs_one (hs.ld cl.s rfl), ?_⟩
  refine rInfo9_sp hs cj.s cl.s ?_
  intro h6 hs
  refine ⟨Sat.whole hs .z, hcs_one (hs.ld cl.s rfl), _, rfl, ?_⟩
  have ep : presT C = presM C := by unfold presT; rw [if_neg ho]
  rw [ep, rinfo_in ho']
  refine rProgram_sp hs cj.s (presM C) (infoM C).next rec hl ?_
  intro h7 hs
  simp only [put_succ] at hs
  exact k _ hs.drop
 ·rw [if_neg (fun y => g4 (hfr.2 y))] at k
  rw [ltI_eq, if_neg (by simpa using g4)]
  refine rWorn9_sp hs cj cl ?_
  intro h3 hs
  have ew : wornT C = wornF C := by unfold wornT; rw [if_neg ho]
  rw [ew]
  by_cases gw : wornF C = true
  ·rw [if_pos gw] at k ⊢
   exact k _ (by rw [same]; exact hs)
  rw [if_neg gw] at k ⊢
  have hgm : (infoM C).head < most := by
   have : ¬ most ≤ (infoM C).head := fun y => gw (by unfold wornF; rw [decide_eq_true y, Bool.or_true])
   omega
  obtain ⟨sl, rfl⟩ := Int.eq_ofNat_of_zero_le gs.1
  exact rTurn9_sp hs cj cl hij ho' sl n gs.2 (by omega) (by omega) hgm k
end
def sActive (C : Cm) : Int × Int := numberM C C.cfg.slots
section
variable {h0 h : H} {A : List Ent} {i j p r b s m : Nat} {C : Cm}
theorem sActive_sp {Q : Int -> Int -> H -> Prop} (hs : Sat h0 A h) (ci : At A i (chipE p C)) (cl : At A j (logE r p)) (st : At A m (storeE s p r)) (k : ∀ h', Sat h0 A h' -> Q (sActive C).1 (sActive C).2 h') : F_store_Store_Active ⟨s, 0, none⟩ Q h := by
 unfold F_store_Store_Active G_store_Store_Active
 try simp only [add_mk, Nat.zero_add]
 refine ⟨_, hs.ld st rfl, _, rfl, ?_⟩
 refine Out_sp hs ci ?_
 by_cases ho : C.out = true
 ·rw [if_pos ho]
  have e : sActive C = (0, 8) := by unfold sActive numberM; rw [if_pos ho]
  rw [e] at k
  exact k _ hs
 rw [if_neg ho]
 refine ⟨_, hs.ld st rfl, _, hs.ld st rfl, _, rfl, ?_⟩
 refine Config_sp hs ci ?_
 intro h1 hs
 refine ⟨hcs_one (hs.ld st rfl), _, rfl, ?_⟩
 refine Number_sp hs ci cl C.cfg.slots ?_
 intro h2 hs
 exact k _ hs
theorem rNumber_sp {Q : Int -> Int -> H -> Prop} (hs : Sat h0 A h) (cj : At A j (refE r C)) (slot : Int) (k : ∀ h', Sat h0 A h' -> Q (numberM C slot).1 (numberM C slot).2 h') : F_portcullisref09_Number ⟨r, 0, none⟩ slot Q h := by
 unfold F_portcullisref09_Number G_portcullisref09_Number
 intro n5 _ hn; replace hs := Sat.new hs hn
 refine rNumber9_sp hs cj.s .z slot ?_
 intro h1 hs
 exact k _ hs.drop
theorem rLay_sp9 {Q : Int -> H -> Prop} (hs : Sat h0 A h) (cj : At A j (refE r C)) (slot n : Int) (k : ∀ h', Sat h0 (put A j (refE r (layL C slot n).1)) h' -> Q (layL C slot n).2 h') : F_portcullisref09_Lay ⟨r, 0, none⟩ slot n Q h := by
 unfold F_portcullisref09_Lay G_portcullisref09_Lay
 intro n5 _ hn; replace hs := Sat.new hs hn
 refine rLay9_sp hs cj.s .z (by omega) slot n ?_
 intro h1 hs
 simp only [put_succ] at hs
 exact k _ hs.drop
theorem rSlot10_sp {Q : Int -> H -> Prop} (hs : Sat h0 A h) (cj : At A j (refE r C)) (slot : Int) (k : Q (askedM C slot C.cfg.slots) h) : F_portcullisref10_Slot ⟨r, 0, none⟩ slot Q h := by
 unfold F_portcullisref10_Slot G_portcullisref10_Slot
 try simp only [add_mk, Nat.zero_add]
 obtain ⟨w, lc⟩ := ref_cell hs cj
 refine ⟨_, lc 11 _ rfl, ?_⟩
 unfold askedM at k
 by_cases ho : C.out = true
 ·rw [if_pos ho] at k ⊢; exact k
 rw [if_neg ho] at k ⊢
 by_cases g1 : slot < 0
 ·rw [if_pos g1] at k; rw [ltI_eq, if_pos (by simpa using g1)]; exact k
 rw [if_neg g1] at k; rw [ltI_eq, if_neg (by simpa using g1)]
 refine ⟨_, lc 1 _ rfl, ?_⟩
 by_cases g2 : C.cfg.slots ≤ slot
 ·rw [if_pos g2] at k; rw [leI_eq, if_pos (by simpa using g2)]; exact k
 rw [if_neg g2] at k; rw [leI_eq, if_neg (by simpa using g2)]; exact k
theorem rRead10_sp {Q : Int -> Int -> H -> Prop} (hs : Sat h0 A h) (cj : At A j (refE r C)) (slot : Int) (k : ∀ h', Sat h0 A h' -> Q (sRead C slot).1 (sRead C slot).2 h') : F_portcullisref10_Read ⟨r, 0, none⟩ slot Q h := by
 unfold F_portcullisref10_Read G_portcullisref10_Read
 try simp only [add_mk, Nat.zero_add]
 have ok := ref_ok hs cj
 refine rSlot10_sp hs cj slot ?_
 unfold sRead at k
 by_cases ha : askedM C slot C.cfg.slots = 0
 case neg =>
  rw [if_pos (by simpa using ha)]
  rw [if_pos ha] at k
  exact k _ hs
 rw [if_neg (fun y => y ha)] at k
 rw [if_neg (by simpa using ha)]
 obtain ⟨ho, g0, g1⟩ := askedM_zero ha
 refine rNumber_sp hs cj slot ?_
 intro h1 hs
 have en : numberM C slot = (numOf C slot.toNat, 0) := by
  unfold numberM
  rw [if_neg (by simp [ho]), if_neg (fun y => y ⟨g0, by omega⟩)]
 rw [en]
 refine rCount_sp hs cj slot ?_
 intro h2 hs
 obtain ⟨w, lc⟩ := ref_cell hs cj
 refine ⟨_, lc 3 _ rfl, ?_⟩
 obtain ⟨v0, v1, _⟩ := valS_in ok slot
 rw [wrap_id (by omega)]
 have e : (if (countM C slot).1 * C.cfg.step > numOf C slot.toNat then (countM C slot).1 * C.cfg.step else numOf C slot.toNat) = valS C slot := by
  unfold valS
  split
  ·rw [if_neg (by omega)]
  ·split <;> omega
 dsimp only
 rw [e]
 exact k _ hs
theorem rLast10_sp {Q : Int -> H -> Prop} {c : Cfg} (hm : c.may) (hs : Sat h0 A h) (k : ∀ h', Sat h0 A h' -> Q (lastM c) h') : F_portcullisref10_Last c.cells c.slots c.fuses c.step c.keys c.erases c.area Q h := by
 unfold F_portcullisref10_Last G_portcullisref10_Last
 try simp only [add_mk, Nat.zero_add]
 obtain ⟨l0, l1, l2, l3⟩ := lastM_in hm
 have h1 := hm.step
 intro n9 _ hn; replace hs := Sat.new hs hn
 refine ⟨_, hs.ld .z rfl, _, hs.ld .z rfl, _, hs.ld .z rfl, ?_⟩
 rw [wrap_id (n := c.step * c.fuses) (by omega), wrap_id (n := c.step * c.fuses + c.step) (by omega), wrap_id (by unfold lastM at l0 l1; omega)]
 exact k _ hs.drop
theorem rBumpTo10_sp {Q : Int -> H -> Prop} (hs : Sat h0 A h) (cj : At A j (refE r C)) (slot v : Int) (k : ∀ h', Sat h0 (put A j (refE r (sBumpTo C slot v).1)) h' -> Q (sBumpTo C slot v).2 h') : F_portcullisref10_BumpTo ⟨r, 0, none⟩ slot v Q h := by
 unfold F_portcullisref10_BumpTo G_portcullisref10_BumpTo
 try simp only [add_mk, Nat.zero_add]
 have ok := ref_ok hs cj
 have hst := ok.may.step
 have hl := lastM_in ok.may
 refine rRead10_sp hs cj slot ?_
 intro h1 hs
 have same : put A j (refE r C) = A := cj.put_self
 unfold sBumpTo at k
 by_cases ge : (sRead C slot).2 = 0
 case neg =>
  rw [if_pos ge] at k
  rw [if_pos (by simpa using ge)]
  exact k _ (by rw [same]; exact hs)
 rw [if_neg (fun y => y ge)] at k
 rw [if_neg (by simpa using ge)]
 by_cases g1 : v < 0
 ·rw [if_pos g1] at k
  rw [ltI_eq, if_pos (by simpa using g1)]
  exact k _ (by rw [same]; exact hs)
 rw [if_neg g1] at k
 rw [ltI_eq, if_neg (by simpa using g1)]
 by_cases g2 : v ≤ (sRead C slot).1
 ·rw [if_pos g2] at k
  rw [leI_eq, if_pos (by simpa using g2)]
  exact k _ (by rw [same]; exact hs)
 rw [if_neg g2] at k
 rw [leI_eq, if_neg (by simpa using g2)]
 obtain ⟨w, lc⟩ := ref_cell hs cj
 refine ⟨_, lc 0 _ rfl, _, lc 1 _ rfl, _, lc 2 _ rfl, _, lc 3 _ rfl, _, lc 4 _ rfl, _, lc 5 _ rfl, _, lc 6 _ rfl, ?_⟩
 refine rLast10_sp ok.may hs ?_
 intro h2 hs
 by_cases g3 : lastM C.cfg < v
 ·rw [if_pos g3] at k
  rw [ltI_eq, if_pos (by simpa using g3)]
  exact k _ (by rw [same]; exact hs)
 rw [if_neg g3] at k
 rw [ltI_eq, if_neg (by simpa using g3)]
 refine rLay_sp9 hs cj slot v ?_
 intro h3 hs
 have ecf := layL_cfg ok slot v
 generalize layL C slot v = X at *
 by_cases gx : X.2 = 0
 case neg =>
  rw [if_pos gx] at k
  rw [if_pos (by simpa using gx)]
  exact k _ hs
 rw [if_neg (fun y => y gx)] at k
 rw [if_neg (by simpa using gx)]
 obtain ⟨w, lc⟩ := ref_cell hs (cj.put (refE r X.1))
 refine ⟨_, lc 3 _ rfl, ?_⟩
 rw [ecf]
 have hd0 : 0 ≤ v.tdiv C.cfg.step := Int.tdiv_nonneg (by omega) (by omega)
 have hd1 : v.tdiv C.cfg.step ≤ v := by
  rw [Int.tdiv_eq_ediv_of_nonneg (by omega)]
  exact Int.ediv_le_self _ (by omega)
 rw [wrap_id (by omega)]
 refine ⟨by omega, ?_⟩
 refine rRaise_sp hs (cj.put (refE r X.1)) slot (v.tdiv C.cfg.step) ?_
 intro h4 hs
 simp only [put_put] at hs
 exact k _ hs
end
theorem at_del {A : List Ent} {i j : Nat} {e : Ent} (a : At A i e) (hj : i ≠ j) : ∃ k, At (del A j) k e := by
 induction a generalizing j with
 | z => cases j with
  | zero => exact absurd rfl hj
  | succ j => exact ⟨0, .z⟩
 | s q ih => cases j with
  | zero => exact ⟨_, q⟩
  | succ j =>
   obtain ⟨k, hk⟩ := ih (j := j) (by omega)
   exact ⟨k + 1, .s hk⟩
theorem at_inj {A : List Ent} {i : Nat} {e e' : Ent} (a : At A i e) (b : At A i e') : e = e' := by
 induction a with
 | z => cases b; rfl
 | s _ ih => cases b with | s b => exact ih b
section
variable {h0 h : H} {A : List Ent} {i j p r : Nat} {C C' : Cm}
theorem chip_refE_ne (ci : At A i (chipE p C)) (cj : At A j (refE r C')) : i ≠ j := by
 intro e
 subst e
 have := congrArg Ent.tag (at_inj ci cj)
 have e2 : Tag.of 2 = Tag.of 4 := this
 injection e2 with e2
 cases e2
theorem ref_ld2 (hs : Sat h0 A h) (cj : At A j (refE r C)) : hc h ⟨r, 10, none⟩ = some (.int .i64 C.acts) /\ hc h ⟨r, 11, none⟩ = some (.bool C.out) := by
 obtain ⟨⟨w, ms⟩, _, hs⟩ := (hs.front cj).open_
 dsimp only [refL, List.cons_append, List.nil_append] at hs
 exact ⟨hs.ld .z rfl, hs.ld .z rfl⟩
end
end Go.Proofs.YteedolonhdbieaaGreatDoor
end
section
namespace Go.Proofs.YteedolonhdbieaaGreatDoor
open Go Go.Vc
set_option maxRecDepth 100000
attribute [local irreducible] macM
structure WiM where
 kind : Int
 slot : Int
 ver : Int
section
variable {h0 h : H} {A : List Ent} {i j p r b s m : Nat} {C : Cm}
theorem sActive_out (ok : C.ok) : (sActive C).2 = if C.out = true then 8 else 0 := by
 have hm := ok.may.slots
 unfold sActive numberM
 by_cases ho : C.out = true
 ·rw [if_pos ho, if_pos ho]
 ·rw [if_neg ho, if_neg ho, if_neg (fun y => y ⟨by omega, Int.le_refl _⟩)]
theorem revoked_err (ho : ¬ C.out = true) {key : Int} (hk : 0 ≤ key) : (revokedM C key).2 = if C.cfg.keys ≤ key then 2 else 0 := by
 have a : askedM C key C.cfg.keys = if C.cfg.keys ≤ key then 2 else 0 := by unfold askedM; rw [if_neg ho, if_neg (by omega)]
 unfold revokedM
 rw [a]
 by_cases g : C.cfg.keys ≤ key
 ·rw [if_pos g, if_pos (by decide)]
 ·rw [if_neg g, if_neg (by decide)]
end
end Go.Proofs.YteedolonhdbieaaGreatDoor
end
section
namespace Go.Proofs.YteedolonhdbieaaGreatDoor
open Go Go.Vc
set_option maxRecDepth 100000
attribute [local irreducible] macM
theorem goM_ne (L : List Sec) : ∀ k e i, goM L k = some (e, i) -> e ≠ 0
 | 0, e, i, h => by cases h
 | k + 1, e, i, h => by
  unfold goM at h
  by_cases c : badM (L.take (L.length - (k + 1))) (L.getD (L.length - (k + 1)) (0, [])) = 0
  ·rw [if_pos c] at h
   exact goM_ne L k e i h
  ·rw [if_neg c] at h
   injection h with h
   injection h with h1 h2
   rw [← h1]; exact c
theorem newM_ne {L : List Sec} {e i : Int} (h : newM L = some (e, i)) : e ≠ 0 := by
 unfold newM at h
 by_cases c : 64 < L.length
 ·rw [if_pos c] at h
  injection h with h
  injection h with h1 h2
  omega
 ·rw [if_neg c] at h
  exact goM_ne L _ _ _ h
section
variable {h0 h : H} {A : List Ent} {i j p r b s m : Nat} {C : Cm}
end
end Go.Proofs.YteedolonhdbieaaGreatDoor
end
section
namespace Go.Proofs.YteedolonhdbieaaGreatDoor
open Go Go.Vc Go.ChangeShapes Go.WideShapes Go.ChangeAt Go.RowKit
set_option maxRecDepth 100000
section
variable {D : Type} {enc : TypeId × Value -> D} {P : Program} {W : World}
theorem bulk_pos (d : DataW D) : 1 ≤ Rows.uptoBulk d := by
 cases d with
 | lit l => cases l <;> simp [Rows.uptoBulk]
 | _ => simp [Rows.uptoBulk]
theorem bulk_len (l : List (DataW D)) : l.length ≤ Rows.uptoBulkAll l := by
 induction l with
 | nil => simp
 | cons d r ih =>
  have := bulk_pos d
  simp only [List.length_cons, Rows.uptoBulkAll]
  omega
def SizOk (P : Program) (N : Nat) (ts : List TypeId) (vs : List Value) : Prop := ∀ (j : Nat) t e p l c, ts[j]? = some t -> P.underlying t = some (.slice e) -> vs[j]? = some (.slice p l c) -> l ≤ N
theorem whole_siz {ts : List TypeId} {vs : List Value} {ds : List (DataW D)} {N : Nat}
  (h : ∃ p, DataW.TrodAll enc P W 0 (fun _ => true) true ts vs ds p) (hz : Rows.uptoBulkAll ds ≤ N) : SizOk P N ts vs := by
 obtain ⟨p, h⟩ := h
 induction ts generalizing vs ds p with
 | nil => intro j t e q l c ht; simp at ht
 | cons t0 ts ih =>
  cases vs with
  | nil => cases h
  | cons v0 vs => cases ds with
   | nil => cases h
   | cons d ds =>
    obtain ⟨a, b, ha, hb', rfl⟩ := h
    simp only [Rows.uptoBulkAll] at hz
    intro j t e q l c ht hu hv
    cases j with
    | zero =>
     simp only [List.getElem?_cons_zero, Option.some.injEq] at ht hv
     subst ht; subst hv
     obtain ⟨fuel, hf⟩ := ha
     rcases DataW.trod_slice hu hf with ⟨hcs, _⟩ | ⟨a', len, cap, elems, rest, n, _, hcs, hd, _, hl, hc, he, _⟩
     ·have hcs : [Value.slice q l c] = [.slice none 0 0] := hcs
      injection hcs with hcs _
      injection hcs with _ h2 _
      omega
     ·have hcs : [Value.slice q l c] = [.slice (some a') len cap] := hcs
      injection hcs with hcs _
      injection hcs with _ h2 _
      have hd' : d = .slice (elems.map (·.1)) (rest.map (·.1)) := congrArg Prod.fst hd
      rw [hd'] at hz
      simp only [Rows.uptoBulk] at hz
      have := bulk_len (elems.map (·.1))
      rw [List.length_map] at this
      omega
    | succ j => exact ih (by omega) b hb' j t e q l c (by simpa using ht) hu (by simpa using hv)
theorem law_goB {f : FuncId} {fn : Func} {s : ChangeSpec} {args : Array Value} {ds gs : List (DataW D)} {before : List MemPlace} {tb : TypeId} {base N : Nat} (ts : List TypeId) (hts : fn.params = ts.toArray) (hl : laidOutB P = true) (hvars : s.vars = [])
  (hty : (ts.all fun t => P.readableRec t && decide (t < P.types.size)) = true) (hres : fn.resultTypes = #[tb]) (ub : P.underlying tb = some .bool)
  (hfn : ∀ ds : List (DataW D), ds.length = ts.length -> s.fn D ds = { results := [.lit (.bool true)], args := ds })
  (hval : ∀ (j : Nat) t v, fn.params[j]? = some t -> args[j]? = some v -> Value.okWide P W .any base t v)
  (hW : DataW.Whole enc P fn.params.toList s.vars false W args.toList ds gs before) (hsz : (DataW.weightsEach P (fn.params.toList ++ s.plain.varTypes P) (ds ++ gs)).all (· ≤ reachBytes) = true) (hbk : Rows.uptoBulkAll (ds ++ gs) ≤ N)
  (main : ∀ vs, ArgsOk enc P W base ts vs -> SizOk P N ts vs -> CallsTrue P f vs W) :
  Calls P f args W fun e W' => ∃ v, e = .returned v /\ s.post enc P fn false true false false W args v W' := by
 have hW0 := hW
 obtain ⟨p, q, h1, h2, rfl, h3, h4⟩ := hW
 have h2' := h2
 rw [hvars] at h2'
 obtain ⟨rfl, rfl⟩ := trodVars_none h2'
 have hpl : fn.params.toList = ts := by rw [hts]
 rw [List.append_nil] at hbk
 have hsiz : SizOk P N ts args.toList := by
  have h1' := h1
  rw [hpl] at h1'
  exact whole_siz ⟨p, h1'⟩ hbk
 have hlen := trodAll_len h1
 have hrd := whole_rdt ⟨p, h1⟩ hsz
 rw [hpl] at hrd hlen
 have hm := main args.toList ⟨hlen.1, fun j t v ht hv => ⟨hrd j t v ht hv, hval j t v (by rw [hts]; simpa using ht) (by simpa using hv)⟩⟩ hsiz
 have hc := hm.2 W rfl
 rw [show args.toList.toArray = args by simp] at hc
 refine hc.mono fun e W' he => ?_
 obtain ⟨xs, _, rfl, hr, rfl, hx⟩ := he
 refine ⟨.bool true, rfl, ?_⟩
 refine law_post hl hvars ?_ hres ub (by rw [List.append_nil]; exact hfn ds hlen.2) hW0 (below_of hr hx trivial)
 intro t ht
 rw [hpl] at ht
 have := List.all_eq_true.1 hty t ht
 simp only [Bool.and_eq_true, decide_eq_true_eq] at this
 exact this
theorem sized_of {f : Func} {s : OpenSpec} {apart : Bool} {w : World} {args : Array Value} {fuel : Nat} (h : s.bare.sizedB enc P f apart w args fuel = true) : sizedMet enc P f s apart w args := by
 obtain ⟨p, ds, gs, before, h1, h2⟩ := sizedMet_of_sizedB (s := s.bare) h
 exact ⟨p, ds, gs, before, h1, h2⟩
end
end Go.Proofs.YteedolonhdbieaaGreatDoor
end
section
namespace Go.Proofs.YteedolonhdbieaaGreatDoor
open Go Go.Vc
set_option maxRecDepth 100000
abbrev wld (w px pr : Nat) (x : Value) : Ent := blk w [.pointer (some ⟨px, 0, none⟩), x, .pointer (some ⟨pr, 0, none⟩)]
abbrev wld2 (w px pr s l : Nat) (C : Cm) (B : List Ent) : List Ent := wld w px pr (.pointer (some ⟨s, 0, none⟩)) :: storeE s px l :: logE l px :: chipE px C :: refE pr C :: B
def Wst (h0 : H) (w px pr : Nat) (C : Cm) (B : List Ent) (h : H) : Prop :=
 Sat h0 (wld w px pr (.pointer none) :: chipE px C :: refE pr C :: B) h ∨ ∃ s l, Sat h0 (wld2 w px pr s l C B) h
structure OpE where
 kind : Int
 n : Int
 v : Int
 mask : List Int
structure OpE.ok (s : OpE) : Prop where
 n : s.n < 2 ^ 63
 mb : bytesOk s.mask
 ml : s.mask.length + 4096 ≤ 2 ^ 47
section
variable {h0 h : H} {A B : List Ent} {i j p r b w px pr s m : Nat} {C : Cm}
theorem Wst.any (W : Wst h0 w px pr C B h) : ∃ x, Sat h0 (wld w px pr x :: chipE px C :: refE pr C :: B) h := by
 rcases W with hs | ⟨s, l, hs⟩
 ·exact ⟨_, hs⟩
 ·exact ⟨_, hs.sub (by (repeat (first | exact List.Sublist.refl _ | apply List.Sublist.cons_cons | apply List.Sublist.cons)))⟩
end
section
variable {h0 h : H} {A : List Ent}
end
structure ScriptO (h : H) (p : Option Addr) (l : Nat) (sc : List OpE) : Prop where
 len : sc.length = l
 lt : l < 2 ^ 50
 at_ : ∀ i (hi : i < sc.length), ∃ q mp ml mc, p = some q /\ hc h (q.add (i * 4)) = some (.int .i64 sc[i].kind) /\ hc h ((q.add (i * 4)).add 1) = some (.int .i64 sc[i].n) /\ hc h ((q.add (i * 4)).add 2) = some (.int .i64 sc[i].v) /\
  hc h ((q.add (i * 4)).add 3) = some (.slice mp ml mc) /\ hsv h mp 1 ml (ints .u8 sc[i].mask) /\ sc[i].ok
end Go.Proofs.YteedolonhdbieaaGreatDoor
end
section
namespace Go.Proofs.YteedolonhdbieaaGreatDoor
open Go Go.Vc Go.ChangeShapes Go.WideShapes Go.ChangeAt Go.RowKit
set_option maxRecDepth 100000
theorem xStepD : xsh PP 8 90 = some [.int .i64, .int .i64, .int .i64, .slc 5] := by kernel_rfl
theorem scriptD_of {D : Type} {enc : TypeId × Value -> D} {W : World} {p : Option Addr} {l c : Nat} (h : Sli enc PP W 90 p l c) : ∃ sc : List OpE, ScriptO W.heap p l sc := by
 have hb : Tryz.prog.bytesOf 90 = 48 := by kernel_rfl
 have hc : Tryz.prog.cellsOf 90 = 4 := by kernel_rfl
 obtain ⟨ess, h1, h2, _, h4⟩ := h.els xStepD
 have hlc := h.1
 have hr := h.2.1
 rw [hb] at hr
 unfold reachBytes at hr
 have key : ∀ es, es ∈ ess -> ∃ (s : OpE) (mp : Option Addr) (ml mc : Nat), s.ok /\ es = [.int .i64 s.kind, .int .i64 s.n, .int .i64 s.v, .slice mp ml mc] /\ hsv W.heap mp 1 ml (ints .u8 s.mask) := by
  intro es hes
  obtain ⟨k, _, rfl, _, a, _, rfl, ha, b, _, rfl, hb, mp, ml, mc, _, rfl, hm, hr⟩ := (h2 es hes).2
  simp only [XM] at hr
  subst hr
  obtain ⟨ms, m1, m2, m3⟩ := bytes_of hm
  exact ⟨⟨k, a, b, ms⟩, mp, ml, mc, ⟨(has_i64 ha).2, m2, m3⟩, rfl, m1⟩
 have key2 : ∀ ess : List (List Value), (∀ es, es ∈ ess -> ∃ (s : OpE) (mp : Option Addr) (ml mc : Nat), s.ok /\ es = [.int .i64 s.kind, .int .i64 s.n, .int .i64 s.v, .slice mp ml mc] /\ hsv W.heap mp 1 ml (ints .u8 s.mask)) ->
   ∃ sc : List OpE, sc.length = ess.length /\ ∀ i (hi : i < sc.length) (hi2 : i < ess.length), ∃ (mp : Option Addr) (ml mc : Nat), sc[i].ok /\ ess[i] = [.int .i64 sc[i].kind, .int .i64 sc[i].n, .int .i64 sc[i].v, .slice mp ml mc] /\ hsv W.heap mp 1 ml (ints .u8 sc[i].mask) := by
  intro ess
  induction ess with
  | nil => intro _; exact ⟨[], rfl, fun i hi => by simp at hi⟩
  | cons y r ih =>
   intro h
   obtain ⟨sc, e1, e2⟩ := ih fun es hes => h es (by simp [hes])
   obtain ⟨s, hs⟩ := h y (by simp)
   refine ⟨s :: sc, by simp [e1], ?_⟩
   intro i hi hi2
   cases i with
   | zero => exact hs
   | succ i => exact e2 i (by simpa using hi) (by simpa using hi2)
 obtain ⟨sc, e1, e2⟩ := key2 ess key
 refine ⟨sc, by omega, by omega, ?_⟩
 intro i hi
 obtain ⟨mp, ml, mc, ok, e3, e4⟩ := e2 i hi (by omega)
 obtain ⟨q, hq, hc2⟩ := h4 i (by omega)
 rw [hc, e3] at hc2
 refine ⟨q, mp, ml, mc, hq, ?_, hc2 1 _ rfl, hc2 2 _ rfl, hc2 3 _ rfl, e4, ok⟩
 have := hc2 0 _ rfl; simpa [Addr.add] using this
section
variable {D : Type} {enc : TypeId × Value -> D} {W : World}
end
end Go.Proofs.YteedolonhdbieaaGreatDoor
end
