/- WearReports: what is proved and its parts, laid together by a program of ours: Ar8 Lg1 Lg2 Mp Wr1 Wr2 Sr Wr3 -/
import Derived.Test.YtamfkofcpoglnaaK10
set_option autoImplicit false
set_option linter.all false
/- AreaWrites: what the erases of a Write leave; laws about numbers alone. Own work. -/
section
set_option maxRecDepth 100000
set_option linter.unusedVariables false
namespace Go.Proofs.Ytamfkofcpoglnaa
open Go Go.Vc

def Cm.er (C : Cm) (x : Nat) : Int := C.s.erases.getD x 0
def Cm.pg (C : Cm) (x : Nat) : List Int := C.s.pages.getD x []
def dif (C D : Cm) : Nat → Nat → Int
  | _, 0 => 0
  | B, m + 1 => (D.er B - C.er B) + dif C D (B + 1) m
theorem dif_succ (C D : Cm) (B m : Nat) : dif C D B (m + 1) = (D.er B - C.er B) + dif C D (B + 1) m := rfl
theorem dif_congr {C C' D : Cm} (m : Nat) : ∀ B, (∀ x, B ≤ x → x < B + m → C.er x = C'.er x) → dif C D B m = dif C' D B m := by
  induction m with
  | zero => intro B _; rfl
  | succ m ih =>
    intro B h
    unfold dif
    rw [h B (by omega) (by omega), ih (B + 1) fun x h1 h2 => h x (by omega) (by omega)]
theorem dif_zero {C D : Cm} (m : Nat) : ∀ B, (∀ x, B ≤ x → x < B + m → D.er x = C.er x) → dif C D B m = 0 := by
  induction m with
  | zero => intro B _; rfl
  | succ m ih =>
    intro B h
    unfold dif
    rw [h B (by omega) (by omega), ih (B + 1) fun x h1 h2 => h x (by omega) (by omega)]; omega
theorem usedM_congr {C D : Cm} {page : Int} (hc : D.cfg = C.cfg) (ho : D.out = C.out) (hl : D.s.pages.length = C.s.pages.length) (hp : D.pg page.toNat = C.pg page.toNat) : usedM D page = usedM C page := by
  have e : ∀ n : Int, readM D page n = readM C page n := by
    intro n
    unfold readM asksCellM askedM
    unfold Cm.pg at hp
    rw [hc, ho, hl, hp]
  unfold usedM usedP
  rw [hc]
  simp only [e]
/-- What erases do to so many pages. -/
structure Er (B m : Nat) (C D : Cm) (e : Int) : Prop where
  cfg : D.cfg = C.cfg
  bl : D.s.blown = C.s.blown
  np : D.s.pages.length = C.s.pages.length
  ne : D.s.erases.length = C.s.erases.length
  pg : ∀ x, x < B ∨ B + m ≤ x → D.pg x = C.pg x
  er : ∀ x, x < B ∨ B + m ≤ x → D.er x = C.er x
  acts : D.acts = C.acts + dif C D B m
  ab : C.acts ≤ D.acts ∧ D.acts ≤ C.acts + m
  good : e = 0 → D.out = false ∧ -1 ≤ D.left ∧ ∀ x, B ≤ x → x < B + m → (D.pg x).length = C.cfg.cells.toNat * 32 ∧ blankP (D.pg x) C.cfg.cells.toNat
  bad : e ≠ 0 → e = 8
theorem erased_blank {row : List Int} {l : Nat} (hl : row.length = l * 32) (f : Nat → Int) (hf : ∀ i, f i = 255) : (eraseRow row f).length = l * 32 ∧ blankP (eraseRow row f) l := by
  refine ⟨by unfold eraseRow; rw [mapTo_length]; exact hl, ?_⟩
  intro n hn
  have h1 : (cellAt (eraseRow row f) n).length = 32 := cellAt_length (by unfold eraseRow; rw [mapTo_length]; omega)
  refine ext_getD (h1.trans rfl) fun i hi => ?_
  rw [h1] at hi
  rw [cellAt_getD _ _ _ hi]
  unfold eraseRow
  rw [mapTo_getD _ _ _ _ (by omega) (by omega), hf, full_or]
  unfold ffs
  rw [tab_getD _ hi]
theorem getD_put {α : Type} (l : List α) (j : Nat) (v d : α) (h : j < l.length) : (l.set j v).getD j d = v := by
  simp [List.getD, h]
theorem erase_step {C : Cm} {B : Nat} (ho : C.out = false) (hB : B < C.s.pages.length) (hB2 : B < C.s.erases.length) (hw : C.er B < C.cfg.erases) (ha : 0 ≤ C.acts ∧ C.acts < 2 ^ 60) :
    ∃ D : Cm, eraseM C (B : Int) = (D, errM C) ∧ D.cfg = C.cfg ∧ D.s.blown = C.s.blown ∧ D.s.pages.length = C.s.pages.length ∧ D.s.erases.length = C.s.erases.length ∧ (∀ x, x ≠ B → D.pg x = C.pg x) ∧ (∀ x, x ≠ B → D.er x = C.er x) ∧
      D.er B = C.er B + 1 ∧ D.acts = C.acts + 1 ∧ D.pg B = eraseRow (C.pg B) (maskAt C) ∧ (C.left ≠ 0 → D.out = false) ∧ (-1 ≤ C.left → -1 ≤ D.left) := by
  have hac : C.act.acts = C.acts + 1 := by
    unfold Cm.act
    have : w64 (C.acts + 1) = C.acts + 1 := by unfold w64; rw [IntKind.wrap_i64]; omega
    split <;> exact this
  unfold eraseM
  rw [askedM_in ho (by omega) (by omega), if_neg (by simp), Int.toNat_natCast]
  unfold Cm.er at hw
  rw [if_neg (by omega)]
  refine ⟨_, rfl, act_cfg C, ?_, ?_, ?_, ?_, ?_, ?_, hac, ?_, ?_, ?_⟩
  · show C.act.s.blown = _; rw [act_s]
  · show (C.act.s.pages.set B _).length = _; rw [List.length_set, act_s]
  · show (C.act.s.erases.set B _).length = _; rw [List.length_set, act_s]
  · intro x hx
    show (C.act.s.pages.set B _).getD x [] = C.s.pages.getD x []
    simp only [List.getD, List.getElem?_set_ne (Ne.symm hx), act_s]
  · intro x hx
    show (C.act.s.erases.set B _).getD x 0 = C.s.erases.getD x 0
    simp only [List.getD, List.getElem?_set_ne (Ne.symm hx), act_s]
  · show (C.act.s.erases.set B _).getD B 0 = _
    exact getD_put _ _ _ _ (by rw [act_s]; exact hB2)
  · show (C.act.s.pages.set B _).getD B [] = _
    rw [getD_put _ _ _ _ (by rw [act_s]; exact hB)]
    unfold rowOf
    rw [Int.toNat_natCast]; rfl
  · intro hl
    show C.act.out = false
    exact act_out ho hl
  · intro hl
    show -1 ≤ C.act.left
    unfold Cm.act
    split
    · dsimp only; split <;> omega
    · exact Int.le_refl _
theorem erases (base : Int) : ∀ (m j B : Nat) (C : Cm), base + j = (B : Int) → C.out = false → -1 ≤ C.left → B + m ≤ C.s.pages.length → B + m ≤ C.s.erases.length → (0 ≤ C.acts ∧ C.acts + m < 2 ^ 60) →
    (∀ x, B ≤ x → x < B + m → (C.pg x).length = C.cfg.cells.toNat * 32) → (∀ x, B ≤ x → x < B + m → usedM C (x : Int) = true → C.er x < C.cfg.erases) →
    (∀ x, B ≤ x → x < B + m → usedM C (x : Int) = false → blankP (C.pg x) C.cfg.cells.toNat) → Er B m C (eraseL base m j C).1 (eraseL base m j C).2 := by
  intro m
  induction m with
  | zero =>
    intro j B C hB ho hl _ _ _ _ _ _
    unfold eraseL
    exact ⟨rfl, rfl, rfl, rfl, fun _ _ => rfl, fun _ _ => rfl, by simp [dif], ⟨Int.le_refl _, by (try dsimp only); omega⟩, fun _ => ⟨ho, hl, fun x h1 h2 => by omega⟩, fun x => absurd rfl x⟩
  | succ m ih =>
    intro j B C hB ho hl hp he ha hlen hw hbl
    unfold eraseL
    rw [hB]
    by_cases u : usedM C (B : Int) = true
    case neg =>
      rw [if_neg u]
      have I := ih (j + 1) (B + 1) C (by omega) ho hl (by omega) (by omega) ⟨ha.1, by omega⟩ (fun x h1 h2 => hlen x (by omega) (by omega)) (fun x h1 h2 => hw x (by omega) (by omega)) (fun x h1 h2 => hbl x (by omega) (by omega))
      generalize eraseL base m (j + 1) C = X at *
      have hBp := I.pg B (by omega)
      have hBe := I.er B (by omega)
      refine ⟨I.cfg, I.bl, I.np, I.ne, fun x hx => I.pg x (by omega), fun x hx => I.er x (by omega), ?_, ⟨I.ab.1, by have := I.ab.2; omega⟩, fun e => ?_, I.bad⟩
      · rw [I.acts, dif_succ, hBe]; omega
      · obtain ⟨g1, g2, g3⟩ := I.good e
        refine ⟨g1, g2, fun x h1 h2 => ?_⟩
        by_cases c : x = B
        · subst c
          rw [hBp]
          exact ⟨hlen x (by omega) (by omega), hbl x (by omega) (by omega) (by simpa using u)⟩
        · exact g3 x (by omega) (by omega)
    rw [if_pos u]
    obtain ⟨D, hD, d1, d2, d3, d4, d5, d6, d7, d8, d9, d10, d11⟩ := erase_step ho (show B < C.s.pages.length by omega) (by omega) (hw B (by omega) (by omega) u) ⟨ha.1, by omega⟩
    rw [hD]
    dsimp only
    by_cases c : C.left = 0
    · have e8 : errM C = 8 := by unfold errM; rw [if_neg (by simpa using c)]
      rw [e8, if_pos (by simp)]
      refine ⟨d1, d2, d3, d4, fun x hx => d5 x (by omega), fun x hx => d6 x (by omega), ?_, ⟨by (try dsimp only); omega, by (try dsimp only); omega⟩, fun e => by simp at e, fun _ => rfl⟩
      rw [dif_succ, dif_zero m (B + 1) fun x h1 h2 => d6 x (by omega), d7, d8]; omega
    · have e0 : errM C = 0 := by unfold errM; rw [if_pos (by simpa using c)]
      rw [e0, if_neg (by simp)]
      have hu : ∀ x, B + 1 ≤ x → usedM D (x : Int) = usedM C (x : Int) := fun x h1 => usedM_congr d1 (by rw [d10 c, ho]) d3 (by rw [Int.toNat_natCast]; exact d5 x (by omega))
      have I := ih (j + 1) (B + 1) D (by omega) (d10 c) (d11 hl) (by omega) (by omega) ⟨by omega, by omega⟩
        (fun x h1 h2 => by rw [d5 x (by omega), d1]; exact hlen x (by omega) (by omega))
        (fun x h1 h2 h3 => by rw [d6 x (by omega), d1]; rw [hu x h1] at h3; exact hw x (by omega) (by omega) h3)
        (fun x h1 h2 h3 => by rw [d5 x (by omega), d1]; rw [hu x h1] at h3; exact hbl x (by omega) (by omega) h3)
      generalize eraseL base m (j + 1) D = X at *
      have hBp := I.pg B (by omega)
      have hBe := I.er B (by omega)
      refine ⟨I.cfg.trans d1, I.bl.trans d2, I.np.trans d3, I.ne.trans d4, fun x hx => (I.pg x (by omega)).trans (d5 x (by omega)), fun x hx => (I.er x (by omega)).trans (d6 x (by omega)), ?_, ⟨by have := I.ab.1; omega, by have := I.ab.2; omega⟩, fun e => ?_, I.bad⟩
      · rw [I.acts, dif_succ, hBe, d7, d8, dif_congr m (B + 1) fun x h1 h2 => d6 x (by omega)]; omega
      · obtain ⟨g1, g2, g3⟩ := I.good e
        rw [d1] at g3
        refine ⟨g1, g2, fun x h1 h2 => ?_⟩
        by_cases c2 : x = B
        · subst c2
          rw [hBp, d9]
          exact erased_blank (hlen x (by omega) (by omega)) _ fun i => by unfold maskAt; rw [if_pos (by simpa using c)]
        · exact g3 x (by omega) (by omega)
end Go.Proofs.Ytamfkofcpoglnaa
end

/- The log: what both pages say; which is present. Own work. -/
section
set_option maxRecDepth 100000
set_option linter.unusedVariables false
namespace Go.Proofs.Ytamfkofcpoglnaa
open Go Go.Vc

theorem len9 {l : List Int} (h : l.length = 9) : ∃ a b c d e f g i j, l = [a, b, c, d, e, f, g, i, j] := by
  match l, h with
  | [a, b, c, d, e, f, g, i, j], _ => exact ⟨a, b, c, d, e, f, g, i, j, rfl⟩
abbrev fndI (p q : Inf) (n : Int) : List Value := .int .i64 p.head :: (ints .i64 p.nums ++ .int .i64 p.next :: .bool p.blank :: .int .i64 p.torn :: .int .i64 q.head :: (ints .i64 q.nums ++ [.int .i64 q.next, .bool q.blank, .int .i64 q.torn, .int .i64 n]))
theorem fnd_len {p q : Inf} {n : Int} (hp : p.nums.length = 9) (hq : q.nums.length = 9) : (fndI p q n).length = 27 := by simp [fndI, hp, hq]
structure FndAt (h : H) (b : Nat) (p q : Inf) (n : Int) : Prop where
  a0 : hc h ⟨b, 0, none⟩ = some (.int .i64 p.head)
  a1 : hrow h ⟨b, 1, none⟩ .i64 p.nums
  a10 : hc h ⟨b, 10, none⟩ = some (.int .i64 p.next)
  a11 : hc h ⟨b, 11, none⟩ = some (.bool p.blank)
  a12 : hc h ⟨b, 12, none⟩ = some (.int .i64 p.torn)
  a13 : hc h ⟨b, 13, none⟩ = some (.int .i64 q.head)
  a14 : hrow h ⟨b, 14, none⟩ .i64 q.nums
  a23 : hc h ⟨b, 23, none⟩ = some (.int .i64 q.next)
  a24 : hc h ⟨b, 24, none⟩ = some (.bool q.blank)
  a25 : hc h ⟨b, 25, none⟩ = some (.int .i64 q.torn)
  a26 : hc h ⟨b, 26, none⟩ = some (.int .i64 n)
section
variable {h0 h : H} {A : List Ent} {i j p r b : Nat} {C : Cm}
theorem _root_.Go.Vc.Sat.fnd (hs : Sat h0 A h) {P Q : Inf} {n : Int} (m : At A i (blk b (fndI P Q n))) (hp : P.nums.length = 9) (hq : Q.nums.length = 9) : FndAt h b P Q n := by
  obtain ⟨ph, pn, px, pb, pt⟩ := P
  obtain ⟨qh, qn, qx, qb, qt⟩ := Q
  obtain ⟨a1, a2, a3, a4, a5, a6, a7, a8, a9, rfl⟩ := len9 hp
  obtain ⟨b1, b2, b3, b4, b5, b6, b7, b8, b9, rfl⟩ := len9 hq
  exact ⟨hs.ld m rfl, hs.cs m rfl, hs.ld m rfl, hs.ld m rfl, hs.ld m rfl, hs.ld m rfl, hs.cs m rfl, hs.ld m rfl, hs.ld m rfl, hs.ld m rfl, hs.ld m rfl⟩
theorem fnd_s0 {P Q R : Inf} {n : Int} (hp : P.nums.length = 9) (hr : R.nums.length = 9) : splice (fndI P Q n) 0 (infI R) = fndI R Q n := by
  obtain ⟨ph, pn, px, pb, pt⟩ := P
  obtain ⟨qh, qn, qx, qb, qt⟩ := R
  obtain ⟨a1, a2, a3, a4, a5, a6, a7, a8, a9, rfl⟩ := len9 hp
  obtain ⟨b1, b2, b3, b4, b5, b6, b7, b8, b9, rfl⟩ := len9 hr
  rfl
theorem fnd_s13 {P Q R : Inf} {n : Int} (hp : P.nums.length = 9) (hq : Q.nums.length = 9) (hr : R.nums.length = 9) : splice (fndI P Q n) 13 (infI R) = fndI P R n := by
  obtain ⟨ph, pn, px, pb, pt⟩ := P
  obtain ⟨qh, qn, qx, qb, qt⟩ := Q
  obtain ⟨rh, rn, rx, rb, rt⟩ := R
  obtain ⟨a1, a2, a3, a4, a5, a6, a7, a8, a9, rfl⟩ := len9 hp
  obtain ⟨b1, b2, b3, b4, b5, b6, b7, b8, b9, rfl⟩ := len9 hq
  obtain ⟨c1, c2, c3, c4, c5, c6, c7, c8, c9, rfl⟩ := len9 hr
  rfl
theorem fnd_s26 {P Q : Inf} {n m : Int} (hp : P.nums.length = 9) (hq : Q.nums.length = 9) : splice (fndI P Q n) 26 [.int .i64 m] = fndI P Q m := by
  obtain ⟨ph, pn, px, pb, pt⟩ := P
  obtain ⟨qh, qn, qx, qb, qt⟩ := Q
  obtain ⟨a1, a2, a3, a4, a5, a6, a7, a8, a9, rfl⟩ := len9 hp
  obtain ⟨b1, b2, b3, b4, b5, b6, b7, b8, b9, rfl⟩ := len9 hq
  rfl
theorem _root_.Go.Vc.Sat.infAt (hs : Sat h0 A h) {P : Inf} (m : At A i (blk b (infI P))) (hp : P.nums.length = 9) : hc h ⟨b, 0, none⟩ = some (.int .i64 P.head) ∧ hrow h ⟨b, 1, none⟩ .i64 P.nums ∧ hc h ⟨b, 10, none⟩ = some (.int .i64 P.next) ∧ hc h ⟨b, 11, none⟩ = some (.bool P.blank) ∧ hc h ⟨b, 12, none⟩ = some (.int .i64 P.torn) := by
  obtain ⟨ph, pn, px, pb, pt⟩ := P
  obtain ⟨a1, a2, a3, a4, a5, a6, a7, a8, a9, rfl⟩ := len9 hp
  exact ⟨hs.ld m rfl, hs.cs m rfl, hs.ld m rfl, hs.ld m rfl, hs.ld m rfl⟩

/-! ### What the log says -/
/-- What a page says. -/
def pI (C : Cm) (k : Nat) : Inf := pageI (C.pg k) C.cfg.cells.toNat
theorem pI_len (C : Cm) (k : Nat) : (pI C k).nums.length = 9 := ofM_len _ _
def presH (a b : Int) : Int := if 0 < a ∧ b ≤ a then 0 else if 0 < b then 1 else -1
def presM (C : Cm) : Int := presH (pI C 0).head (pI C 1).head
def infoM (C : Cm) : Inf := if presM C < 0 then inf0 else pI C (presM C).toNat
def tgtM (C : Cm) : Nat := if presM C = 0 then 1 else 0
theorem presM_cases (C : Cm) : presM C = -1 ∨ presM C = 0 ∨ presM C = 1 := by unfold presM presH; (repeat' split) <;> simp
theorem look_pg {C : Cm} (ho : C.out = false) (ok : C.ok) {k : Nat} (hk : k < 2) : lookM C (k : Int) = (pI C k, 0) := by
  have h1 := ok.fits.pages
  have h2 := ok.may.area
  have h3 : C.cfg.np = 2 + 2 * C.cfg.area := rfl
  unfold lookM
  rw [askedM_in ho (by omega) (by omega), if_neg (by simp), Int.toNat_natCast]; rfl
theorem look_out {C : Cm} (ho : C.out = true) (k : Int) : lookM C k = (inf0, 8) := by
  unfold lookM askedM
  rw [if_pos ho, if_pos (by decide)]
/-- What look finds. -/
structure Fnd where
  p : Inf
  q : Inf
  n : Int
def lookF (C : Cm) : Fnd × Int := if C.out = true then (⟨inf0, inf0, 0⟩, 8) else (⟨pI C 0, pI C 1, presM C⟩, 0)
theorem lookF_len (C : Cm) : (lookF C).1.p.nums.length = 9 ∧ (lookF C).1.q.nums.length = 9 := by
  unfold lookF; split
  · exact ⟨rfl, rfl⟩
  · exact ⟨pI_len C 0, pI_len C 1⟩
abbrev logE (l p : Nat) : Ent := blk l [.pointer (some ⟨p, 0, none⟩)]
theorem logLook_sp {Q : Int → List Int → Int → Bool → Int → Int → List Int → Int → Bool → Int → Int → Int → H → Prop} (hs : Sat h0 A h) (ci : At A i (chipE p C)) (cl : At A j (logE r p))
    (k : ∀ h', Sat h0 A h' → Q (lookF C).1.p.head (lookF C).1.p.nums (lookF C).1.p.next (lookF C).1.p.blank (lookF C).1.p.torn (lookF C).1.q.head (lookF C).1.q.nums (lookF C).1.q.next (lookF C).1.q.blank (lookF C).1.q.torn (lookF C).1.n (lookF C).2 h') :
    F_log_Log_look ⟨r, 0, none⟩ Q h := by
  unfold F_log_Log_look G_log_Log_look
  simp only [add_mk, Nat.zero_add]
  have ok := chip_ok hs ci
  have z9 : inf0.nums.length = 9 := rfl
  intro n4 _ hn; replace hs := Sat.new hs hn; clear hn
  intro n7 _ hn; replace hs := Sat.new hs hn; clear hn
  replace hs : Sat h0 (blk n7 (fndI inf0 inf0 0) :: blk n4 (fndI inf0 inf0 0) :: A) _ := hs
  refine ⟨Sat.can hs (i := 0) (by (repeat (first | exact At.z | apply At.s))) (by decide), ?_⟩
  intro h2 e
  replace hs := Sat.wra hs (i := 0) (by (repeat (first | exact At.z | apply At.s))) e (by rfl)
  clear e
  replace hs : Sat h0 (blk n7 (fndI inf0 inf0 (-1)) :: blk n4 (fndI inf0 inf0 0) :: A) _ := hs
  intro J hJ
  obtain ⟨G, hG⟩ : ∃ G : Nat → Inf × Inf, G = fun n => (if 0 < n then pI C 0 else inf0, if 1 < n then pI C 1 else inf0) := ⟨_, rfl⟩
  have hG0 : G 0 = (inf0, inf0) := by rw [hG]; rfl
  have hG2 : G 2 = (pI C 0, pI C 1) := by rw [hG]; rfl
  have hGl : ∀ n, (G n).1.nums.length = 9 ∧ (G n).2.nums.length = 9 := by
    intro n; rw [hG]; dsimp only
    exact ⟨by split; exact pI_len C 0; rfl, by split; exact pI_len C 1; rfl⟩
  have hs1 : Sat h0 (blk n7 (fndI (G 0).1 (G 0).2 (-1)) :: blk n4 (fndI inf0 inf0 0) :: A) h2 := by rw [hG0]; exact hs
  clear hs
  refine loop_up 2 (fun n h => (n ≠ 0 → C.out = false) ∧ Sat h0 (blk n7 (fndI (G n).1 (G n).2 (-1)) :: blk n4 (fndI inf0 inf0 0) :: A) h) ?_ ?_ 0 _ (by omega) ⟨fun y => absurd rfl y, hs1⟩
  · rintro n h3 hn ⟨hno, hs⟩ hk
    apply hJ
    rw [ltI_eq, if_pos (by simp; omega)]
    refine ⟨_, hs.ld cl.s.s rfl, _, rfl, ?_⟩
    refine Look_sp hs ci.s.s (n : Int) ?_
    intro h4 hs
    have hll := lookM_len C (n : Int)
    intro n24 _ hn24; replace hs := Sat.new hs hn24; clear hn24
    refine ⟨Sat.can hs (by (repeat (first | exact At.z | apply At.s))) (by decide), ?_⟩
    intro h5 e
    replace hs := Sat.wra hs (by (repeat (first | exact At.z | apply At.s))) e ((inf_len hll).trans rfl)
    clear e
    simp only [put] at hs
    by_cases ho : C.out = true
    · rw [look_out ho] at hs ⊢
      rw [if_pos (by simp)]
      refine ⟨Sat.can hs (by (repeat (first | exact At.z | apply At.s))) (by decide), ?_⟩
      intro h6 e
      replace hs := Sat.wra hs (i := 2) (by (repeat (first | exact At.z | apply At.s))) e (by rfl)
      clear e
      simp only [put] at hs
      replace hs : Sat h0 (blk n24 (infI inf0) :: blk n7 (fndI (G n).1 (G n).2 (-1)) :: blk n4 (fndI inf0 inf0 0) :: A) h6 := hs
      have L := hs.fnd (i := 2) (by (repeat (first | exact At.z | apply At.s))) z9 z9
      refine ⟨_, L.a0, _, ‹_›, L.a1, _, L.a10, _, L.a11, _, L.a12, _, L.a13, _, ‹_›, L.a14, _, L.a23, _, L.a24, _, L.a25, _, L.a26, ?_⟩
      have e : lookF C = (⟨inf0, inf0, 0⟩, 8) := by unfold lookF; rw [if_pos ho]
      rw [e] at k
      exact k _ hs.drop.drop.drop
    · have ho' : C.out = false := by simpa using ho
      have el := look_pg ho' ok (k := n) hn
      rw [el] at hs ⊢
      rw [if_neg (by simp)]
      have hpl := pI_len C n
      obtain ⟨L0, L1, L10, L11, L12⟩ := hs.infAt (i := 0) (by (repeat (first | exact At.z | apply At.s))) hpl
      refine ⟨_, L0, _, hpl, L1, _, L10, _, L11, _, L12, by omega, by omega, ?_⟩
      rw [Int.toNat_natCast]
      refine ⟨Sat.can hs (i := 1) (by (repeat (first | exact At.z | apply At.s))) (by rw [fnd_len (hGl n).1 (hGl n).2]; omega), ?_⟩
      intro h6 e
      replace hs := Sat.wr hs (i := 1) (by (repeat (first | exact At.z | apply At.s))) e
      clear e
      simp only [put] at hs
      rw [wrap_succ (by omega)]
      refine hk _ ⟨fun _ => ho', ?_⟩
      have hn2 : n = 0 ∨ n = 1 := by omega
      have e2 : splice (fndI (G n).1 (G n).2 (-1)) (n * 13) (infI (pI C n)) = fndI (G (n + 1)).1 (G (n + 1)).2 (-1) := by
        rcases hn2 with rfl | rfl
        · rw [hG0]
          show splice _ 0 _ = _
          rw [fnd_s0 z9 hpl, hG]; rfl
        · have : G 1 = (pI C 0, inf0) := by rw [hG]; rfl
          rw [this]
          show splice _ 13 _ = _
          rw [fnd_s13 (pI_len C 0) z9 hpl, hG]; rfl
      rw [e2] at hs
      exact hs.drop
  · rintro h3 ⟨hno, hs⟩
    have ho : C.out = false := hno (by decide)
    rw [hG2] at hs
    dsimp only at hs
    apply hJ
    rw [ltI_eq, if_neg (by simp)]
    clear hJ J hG0 hG2 hGl hG hs1
    have l0 := pI_len C 0
    have l1 := pI_len C 1
    have L := hs.fnd .z l0 l1
    refine ⟨by decide, by decide, _, L.a0, by decide, by decide, _, L.a13, ?_⟩
    have e : lookF C = (⟨pI C 0, pI C 1, presM C⟩, 0) := by unfold lookF; rw [if_neg (by simp [ho])]
    rw [e] at k
    dsimp only at k
    have pc : presM C = presH (pI C 0).head (pI C 1).head := rfl
    unfold presH at pc
    have w26 : ∀ (m : Int) (h' : H) (A' : List Ent), Sat h0 (blk n7 (splice (fndI (pI C 0) (pI C 1) (-1)) 26 [.int .i64 m]) :: A') h' → Sat h0 (blk n7 (fndI (pI C 0) (pI C 1) m) :: A') h' := fun m h' A' y => by rw [fnd_s26 l0 l1] at y; exact y
    have c26 : ∀ h', Sat h0 (blk n7 (fndI (pI C 0) (pI C 1) (-1)) :: blk n4 (fndI inf0 inf0 0) :: A) h' → hcan h' ⟨n7, 26, none⟩ 1 := fun h' y => Sat.can y .z (by rw [fnd_len l0 l1]; omega)
    by_cases g1 : 0 < (pI C 0).head
    · rw [ltI_eq, if_pos (by simpa using g1)]
      by_cases g2 : (pI C 1).head ≤ (pI C 0).head
      · rw [leI_eq, if_pos (by simpa using g2)]
        refine ⟨c26 _ hs, ?_⟩
        intro h4 e4
        replace hs := Sat.wr hs .z e4
        clear e4
        replace hs := w26 _ _ _ hs
        (have L := hs.fnd .z l0 l1; refine ⟨_, L.a0, _, ‹_›, L.a1, _, L.a10, _, L.a11, _, L.a12, _, L.a13, _, ‹_›, L.a14, _, L.a23, _, L.a24, _, L.a25, _, L.a26, ?_⟩; refine ⟨Sat.can hs (by (repeat (first | exact At.z | apply At.s))) (by decide), ?_⟩; intro h9 e9; replace hs := Sat.wra hs (i := 1) (by (repeat (first | exact At.z | apply At.s))) e9 (by rw [fnd_len z9 z9]; exact (fnd_len (n := 0) l0 l1)); clear e9; simp only [put] at hs; replace hs : Sat h0 (blk n7 (fndI (pI C 0) (pI C 1) (0)) :: blk n4 (fndI (pI C 0) (pI C 1) (0)) :: A) h9 := hs; have L := hs.fnd (i := 1) (.s .z) l0 l1; refine ⟨_, L.a0, _, ‹_›, L.a1, _, L.a10, _, L.a11, _, L.a12, _, L.a13, _, ‹_›, L.a14, _, L.a23, _, L.a24, _, L.a25, _, L.a26, ?_⟩; rw [show presM C = 0 by rw [pc]; simp [*]] at k; exact k _ hs.drop.drop)
      · rw [leI_eq, if_neg (by simpa using g2), ltI_eq, if_pos (by simp; omega)]
        refine ⟨c26 _ hs, ?_⟩
        intro h4 e4
        replace hs := Sat.wr hs .z e4
        clear e4
        replace hs := w26 _ _ _ hs
        have g3 : 0 < (pI C 1).head := by omega
        (have L := hs.fnd .z l0 l1; refine ⟨_, L.a0, _, ‹_›, L.a1, _, L.a10, _, L.a11, _, L.a12, _, L.a13, _, ‹_›, L.a14, _, L.a23, _, L.a24, _, L.a25, _, L.a26, ?_⟩; refine ⟨Sat.can hs (by (repeat (first | exact At.z | apply At.s))) (by decide), ?_⟩; intro h9 e9; replace hs := Sat.wra hs (i := 1) (by (repeat (first | exact At.z | apply At.s))) e9 (by rw [fnd_len z9 z9]; exact (fnd_len (n := 1) l0 l1)); clear e9; simp only [put] at hs; replace hs : Sat h0 (blk n7 (fndI (pI C 0) (pI C 1) (1)) :: blk n4 (fndI (pI C 0) (pI C 1) (1)) :: A) h9 := hs; have L := hs.fnd (i := 1) (.s .z) l0 l1; refine ⟨_, L.a0, _, ‹_›, L.a1, _, L.a10, _, L.a11, _, L.a12, _, L.a13, _, ‹_›, L.a14, _, L.a23, _, L.a24, _, L.a25, _, L.a26, ?_⟩; rw [show presM C = 1 by rw [pc]; simp [*]] at k; exact k _ hs.drop.drop)
    · rw [ltI_eq, if_neg (by simpa using g1)]
      by_cases g3 : 0 < (pI C 1).head
      · rw [ltI_eq, if_pos (by simpa using g3)]
        refine ⟨c26 _ hs, ?_⟩
        intro h4 e4
        replace hs := Sat.wr hs .z e4
        clear e4
        replace hs := w26 _ _ _ hs
        (have L := hs.fnd .z l0 l1; refine ⟨_, L.a0, _, ‹_›, L.a1, _, L.a10, _, L.a11, _, L.a12, _, L.a13, _, ‹_›, L.a14, _, L.a23, _, L.a24, _, L.a25, _, L.a26, ?_⟩; refine ⟨Sat.can hs (by (repeat (first | exact At.z | apply At.s))) (by decide), ?_⟩; intro h9 e9; replace hs := Sat.wra hs (i := 1) (by (repeat (first | exact At.z | apply At.s))) e9 (by rw [fnd_len z9 z9]; exact (fnd_len (n := 1) l0 l1)); clear e9; simp only [put] at hs; replace hs : Sat h0 (blk n7 (fndI (pI C 0) (pI C 1) (1)) :: blk n4 (fndI (pI C 0) (pI C 1) (1)) :: A) h9 := hs; have L := hs.fnd (i := 1) (.s .z) l0 l1; refine ⟨_, L.a0, _, ‹_›, L.a1, _, L.a10, _, L.a11, _, L.a12, _, L.a13, _, ‹_›, L.a14, _, L.a23, _, L.a24, _, L.a25, _, L.a26, ?_⟩; rw [show presM C = 1 by rw [pc]; simp [*]] at k; exact k _ hs.drop.drop)
      · rw [ltI_eq, if_neg (by simpa using g3)]
        (have L := hs.fnd .z l0 l1; refine ⟨_, L.a0, _, ‹_›, L.a1, _, L.a10, _, L.a11, _, L.a12, _, L.a13, _, ‹_›, L.a14, _, L.a23, _, L.a24, _, L.a25, _, L.a26, ?_⟩; refine ⟨Sat.can hs (by (repeat (first | exact At.z | apply At.s))) (by decide), ?_⟩; intro h9 e9; replace hs := Sat.wra hs (i := 1) (by (repeat (first | exact At.z | apply At.s))) e9 (by rw [fnd_len z9 z9]; exact (fnd_len (n := -1) l0 l1)); clear e9; simp only [put] at hs; replace hs : Sat h0 (blk n7 (fndI (pI C 0) (pI C 1) (-1)) :: blk n4 (fndI (pI C 0) (pI C 1) (-1)) :: A) h9 := hs; have L := hs.fnd (i := 1) (.s .z) l0 l1; refine ⟨_, L.a0, _, ‹_›, L.a1, _, L.a10, _, L.a11, _, L.a12, _, L.a13, _, ‹_›, L.a14, _, L.a23, _, L.a24, _, L.a25, _, L.a26, ?_⟩; rw [show presM C = -1 by rw [pc]; simp [*]] at k; exact k _ hs.drop.drop)
def finfo (p q : Inf) (n : Int) : Inf := if n < 0 then inf0 else if n = 0 then p else q
theorem infoM_f (C : Cm) : infoM C = finfo (pI C 0) (pI C 1) (presM C) := by
  unfold infoM finfo
  rcases presM_cases C with e | e | e <;> rw [e] <;> simp
theorem finfo_sp {Q : Int → List Int → Int → Bool → Int → H → Prop} {P R : Inf} {n : Int} (hp : P.nums.length = 9) (hr : R.nums.length = 9) (hn : n < 2) (hs : Sat h0 A h)
    (k : ∀ h', Sat h0 A h' → Q (finfo P R n).head (finfo P R n).nums (finfo P R n).next (finfo P R n).blank (finfo P R n).torn h') : F_log_found_info P.head P.nums P.next P.blank P.torn R.head R.nums R.next R.blank R.torn n Q h := by
  unfold F_log_found_info G_log_found_info
  simp only [add_mk, Nat.zero_add]
  intro n13 _ hn13; replace hs := Sat.new hs hn13; clear hn13
  intro n16 _ hn16; replace hs := Sat.new hs hn16; clear hn16
  replace hs : Sat h0 (blk n16 (infI inf0) :: blk n13 (fndI P R n) :: A) _ := hs
  have z9 : inf0.nums.length = 9 := rfl
  have L := hs.fnd (i := 1) (.s .z) hp hr
  refine ⟨_, L.a26, ?_⟩
  by_cases g : n < 0
  · rw [ltI_eq, if_pos (by simpa using g)]
    refine ⟨Sat.can hs (i := 0) .z (by decide), ?_⟩
    intro h4 e
    replace hs := Sat.wra hs (i := 0) .z e (by rfl)
    clear e
    replace hs : Sat h0 (blk n16 (infI inf0) :: blk n13 (fndI P R n) :: A) _ := hs
    obtain ⟨L0, L1, L10, L11, L12⟩ := hs.infAt .z z9
    refine ⟨_, L0, _, z9, L1, _, L10, _, L11, _, L12, ?_⟩
    have e : finfo P R n = inf0 := by unfold finfo; rw [if_pos g]
    rw [e] at k
    exact k _ hs.drop.drop
  rw [ltI_eq, if_neg (by simpa using g)]
  refine ⟨_, L.a26, by omega, by omega, ?_⟩
  -- either page
  have fin : ∀ (S : Inf), S.nums.length = 9 → finfo P R n = S → ∀ h', Sat h0 (blk n16 (infI inf0) :: blk n13 (fndI P R n) :: A) h' → hcan h' ⟨n16, 0, none⟩ 13 ∧ ∀ h2, h2 = hwr h' ⟨n16, 0, none⟩ (infI S) →
      ∃ i0, hc h2 ⟨n16, 0, none⟩ = some (.int .i64 i0) ∧ ∃ l1 : List Int, l1.length = 9 ∧ hrow h2 ⟨n16, 1, none⟩ .i64 l1 ∧ ∃ i10, hc h2 ⟨n16, 10, none⟩ = some (.int .i64 i10) ∧ ∃ b11, hc h2 ⟨n16, 11, none⟩ = some (.bool b11) ∧ ∃ i12, hc h2 ⟨n16, 12, none⟩ = some (.int .i64 i12) ∧ Q i0 l1 i10 b11 i12 h2 := by
    intro S hS e h' hs
    refine ⟨Sat.can hs (i := 0) .z (by decide), ?_⟩
    intro h4 e4
    replace hs := Sat.wra hs (i := 0) .z e4 ((inf_len hS).trans rfl)
    clear e4
    replace hs : Sat h0 (blk n16 (infI S) :: blk n13 (fndI P R n) :: A) _ := hs
    obtain ⟨L0, L1, L10, L11, L12⟩ := hs.infAt .z hS
    refine ⟨_, L0, _, hS, L1, _, L10, _, L11, _, L12, ?_⟩
    rw [e] at k
    exact k _ hs.drop.drop
  have h01 : n = 0 ∨ n = 1 := by omega
  rcases h01 with rfl | rfl
  · simp only [Int.toNat_zero, Nat.zero_mul, Nat.zero_add]
    exact ⟨_, L.a0, _, hp, L.a1, _, L.a10, _, L.a11, _, L.a12, fin P hp (by unfold finfo; simp) _ hs⟩
  · simp only [Int.toNat_one, Nat.one_mul, Nat.reduceAdd]
    exact ⟨_, L.a13, _, hr, L.a14, _, L.a23, _, L.a24, _, L.a25, fin R hr (by unfold finfo; simp) _ hs⟩
/-- The present page, as it is told. -/
def presT (C : Cm) : Int := if C.out = true then -1 else presM C
def freeT (C : Cm) : Int := if C.out = true then 0 else if presM C < 0 then 0 else C.cfg.cells - (infoM C).next
theorem Mount_sp {Q : Option Addr → Int → H → Prop} (hs : Sat h0 A h) (ci : At A i (chipE p C)) (k1 : C.out = true → Q none 8 h) (k2 : C.out = false → ∀ l h', Sat h0 (logE l p :: A) h' → Q (some ⟨l, 0, none⟩) 0 h') : F_log_Mount ⟨p, 0, none⟩ Q h := by
  unfold F_log_Mount G_log_Mount
  refine Out_sp hs ci ?_
  by_cases ho : C.out = true
  · rw [if_pos ho]; exact k1 ho
  · rw [if_neg ho]
    intro l _ hn; replace hs := Sat.new hs hn; clear hn
    exact k2 (by simpa using ho) _ _ hs
theorem Present_sp {Q : Int → H → Prop} (hs : Sat h0 A h) (ci : At A i (chipE p C)) (cl : At A j (logE r p)) (k : ∀ h', Sat h0 A h' → Q (presT C) h') : F_log_Log_Present ⟨r, 0, none⟩ Q h := by
  unfold F_log_Log_Present G_log_Log_Present
  simp only [add_mk, Nat.zero_add]
  refine logLook_sp hs ci cl ?_
  intro h1 hs
  obtain ⟨lp, lq⟩ := lookF_len C
  intro n17 _ hn; replace hs := Sat.new hs hn; clear hn
  refine ⟨Sat.can hs (i := 0) .z (by decide), ?_⟩
  intro h2 e
  replace hs := Sat.wra hs (i := 0) .z e (by rw [fnd_len lp lq]; rfl)
  clear e
  replace hs : Sat h0 (blk n17 (fndI (lookF C).1.p (lookF C).1.q (lookF C).1.n) :: A) h2 := hs
  have L := hs.fnd .z lp lq
  unfold presT at k
  by_cases ho : C.out = true
  · have e : lookF C = (⟨inf0, inf0, 0⟩, 8) := by unfold lookF; rw [if_pos ho]
    rw [if_pos ho] at k
    rw [e, if_pos (by simp)]
    exact k _ hs.drop
  · have e : lookF C = (⟨pI C 0, pI C 1, presM C⟩, 0) := by unfold lookF; rw [if_neg ho]
    rw [if_neg ho] at k
    rw [e] at L ⊢
    rw [if_neg (by simp)]
    exact ⟨_, L.a26, k _ hs.drop⟩
theorem Free_sp {Q : Int → H → Prop} (hs : Sat h0 A h) (ci : At A i (chipE p C)) (cl : At A j (logE r p)) (k : ∀ h', Sat h0 A h' → Q (IntKind.i64.wrap (freeT C)) h') : F_log_Log_Free ⟨r, 0, none⟩ Q h := by
  unfold F_log_Log_Free G_log_Log_Free
  simp only [add_mk, Nat.zero_add]
  refine logLook_sp hs ci cl ?_
  intro h1 hs
  obtain ⟨lp, lq⟩ := lookF_len C
  intro n17 _ hn; replace hs := Sat.new hs hn; clear hn
  refine ⟨Sat.can hs (i := 0) .z (by decide), ?_⟩
  intro h2 e
  replace hs := Sat.wra hs (i := 0) .z e (by rw [fnd_len lp lq]; rfl)
  clear e
  replace hs : Sat h0 (blk n17 (fndI (lookF C).1.p (lookF C).1.q (lookF C).1.n) :: A) h2 := hs
  unfold freeT at k
  by_cases ho : C.out = true
  · have e : lookF C = (⟨inf0, inf0, 0⟩, 8) := by unfold lookF; rw [if_pos ho]
    rw [if_pos ho] at k
    rw [e, if_pos (by simp)]
    exact k _ hs.drop
  · have e : lookF C = (⟨pI C 0, pI C 1, presM C⟩, 0) := by unfold lookF; rw [if_neg ho]
    rw [if_neg ho] at k
    rw [e] at hs lp lq ⊢
    dsimp only at hs lp lq ⊢
    have L := hs.fnd .z lp lq
    rw [if_neg (by simp)]
    refine ⟨_, L.a26, ?_⟩
    by_cases g : presM C < 0
    · rw [if_pos g] at k
      rw [ltI_eq, if_pos (by simpa using g)]
      exact k _ hs.drop
    rw [if_neg g] at k
    rw [ltI_eq, if_neg (by simpa using g)]
    refine ⟨_, hs.ld cl.s rfl, ?_⟩
    refine ⟨_, L.a0, _, ‹_›, L.a1, _, L.a10, _, L.a11, _, L.a12, _, L.a13, _, ‹_›, L.a14, _, L.a23, _, L.a24, _, L.a25, _, L.a26, ?_⟩
    refine ⟨_, rfl, ?_⟩
    refine Config_sp hs ci.s ?_
    intro h3 hs
    refine ⟨Sat.whole hs .z, ?_⟩
    have hc2 := presM_cases C
    refine finfo_sp lp lq (by omega) hs ?_
    intro h4 hs
    rw [← infoM_f]
    exact k _ hs.drop
end
end Go.Proofs.Ytamfkofcpoglnaa
end

/- The log: bounds of what pages say; the document's log. Own work. -/
section
set_option maxRecDepth 100000
set_option linter.unusedVariables false
namespace Go.Proofs.Ytamfkofcpoglnaa
open Go Go.Vc

theorem recM_num (x : List Int) : 0 ≤ (recM x).2.2 ∧ (recM x).2.2 ≤ most := by
  unfold recM
  (repeat' split) <;> simp only [most] at * <;> omega
structure InfOk (I : Inf) (l : Nat) : Prop where
  head : 0 ≤ I.head ∧ I.head ≤ most
  next : 0 ≤ I.next ∧ I.next ≤ l
  torn : 0 ≤ I.torn ∧ I.torn ≤ l
  nums : ∀ k, 0 ≤ I.nums.getD k 0 ∧ I.nums.getD k 0 ≤ most
theorem set_getD (l : List Int) (j k : Nat) (v : Int) : (l.set j v).getD k 0 = if j = k ∧ k < l.length then v else l.getD k 0 := by
  rw [List.getD_eq_getElem?_getD, List.getElem?_set]
  by_cases c : j = k
  · subst c
    by_cases d : j < l.length
    · simp [d]
    · simp [d]
  · simp [c]
theorem ofM_ok (row : List Int) (n : Nat) (hn : n < 2 ^ 60) : InfOk (ofM row n) n := by
  induction n with
  | zero =>
    refine ⟨by show (0 : Int) ≤ 0 ∧ (0 : Int) ≤ most; decide, by show (0 : Int) ≤ 0 ∧ (0 : Int) ≤ 0; decide, by show (0 : Int) ≤ 0 ∧ (0 : Int) ≤ 0; decide, fun k => ?_⟩
    show 0 ≤ (zeros 9).getD k 0 ∧ (zeros 9).getD k 0 ≤ most
    have : (zeros 9).getD k 0 = 0 := by
      rw [List.getD_eq_getElem?_getD]
      unfold zeros
      rw [List.getElem?_replicate]; split <;> rfl
    rw [this]; decide
  | succ n ih =>
    obtain ⟨i1, i2, i3, i4⟩ := ih (by omega)
    obtain ⟨r1, r2⟩ := recM_num (cellAt row n)
    have hl := ofM_len row n
    unfold ofM layM
    generalize (recM (cellAt row n)).1 = kind
    generalize (recM (cellAt row n)).2.1 = slot
    generalize (recM (cellAt row n)).2.2 = num at *
    generalize ofM row n = I at *
    have hN : InfOk (nextM I n kind) (n + 1) ∧ (nextM I n kind).torn ≤ n := by
      unfold nextM
      split
      · exact ⟨⟨i1, by dsimp only; rw [wrap_id (by omega)]; omega, by dsimp only; omega, i4⟩, i3.2⟩
      · exact ⟨⟨i1, by omega, by omega, i4⟩, i3.2⟩
    obtain ⟨⟨j1, j2, j3, j4⟩, j5⟩ := hN
    generalize nextM I n kind = J at *
    unfold layN
    split
    · exact ⟨j1, j2, by dsimp only; rw [wrap_id (by omega)]; omega, j4⟩
    · split
      · exact ⟨⟨r1, r2⟩, j2, j3, j4⟩
      · split
        · refine ⟨j1, j2, j3, fun k => ?_⟩
          dsimp only
          rw [set_getD]
          split
          · have := j4 slot.toNat
            split <;> omega
          · exact j4 k
        · exact ⟨j1, j2, j3, j4⟩
theorem pageI_ok (row : List Int) (n : Nat) (hn : n < 2 ^ 60) : InfOk (pageI row n) n := ⟨(ofM_ok row n hn).1, (ofM_ok row n hn).2, (ofM_ok row n hn).3, (ofM_ok row n hn).4⟩
theorem pI_ok {C : Cm} (ok : C.ok) (k : Nat) : InfOk (pI C k) C.cfg.cells.toNat := pageI_ok _ _ (by have := ok.may.cells; omega)
theorem infoM_ok {C : Cm} (ok : C.ok) : InfOk (infoM C) C.cfg.cells.toNat := by
  unfold infoM
  split
  · refine ⟨by decide, ⟨by decide, by show (0 : Int) ≤ _; omega⟩, ⟨by decide, by show (0 : Int) ≤ _; omega⟩, fun k => ?_⟩
    have := (ofM_ok [] 0 (by decide)).nums k
    exact this
  · exact pI_ok ok _
/-- The document's words for the page that is present. -/
theorem presH_ref {a b : Int} (ha : 0 ≤ a) (hb : 0 ≤ b) : presH a b = if a = 0 ∧ b = 0 then -1 else if a < b then 1 else 0 := by
  unfold presH; (repeat' split) <;> omega

section
variable {h0 h : H} {A : List Ent} {i j p r l b : Nat} {C : Cm}
/-- A page of the document's chip. -/
theorem rPage (hs : Sat h0 A h) (cj : At A j (refE r C)) {k : Nat} (hk : (k : Int) < C.s.pages.length) :
    ∃ (pl pc : Nat) (q : Addr) (xp : Option Addr) (xl xc : Nat), hc h ⟨r, 7, none⟩ = some (.slice (some q) pl pc) ∧ (k : Int) < pl ∧ hc h (q.add k) = some (.slice xp xl xc) ∧ xl = C.cfg.cells.toNat ∧ hsv h xp 32 xl (ints .u8 (C.pg k)) ∧ bytesOk (C.pg k) ∧ xl < 2 ^ 60 := by
  obtain ⟨w, ok, cl, rdm⟩ := ref_pg hs cj
  have hkn : k < C.s.pages.length := by omega
  obtain ⟨q, x, hq, hx, hrd⟩ := rdm.at hkn
  have hl := rdm.len
  have he : C.pg k = C.s.pages[k] := by unfold Cm.pg; simp [List.getD, List.getElem?_eq_getElem hkn]
  have hcl := ok.fits.cells _ (List.getElem_mem hkn)
  have hm := ok.may.cells
  have hxl : x.2.1 * 32 = C.s.pages[k].length := by have := hrd.1; simp at this; omega
  refine ⟨w.a.2.1, w.a.2.2, q, x.1, x.2.1, x.2.2, ?_, by omega, by rw [Nat.mul_one] at hx; exact hx, by omega, by rw [he]; exact hrd, by rw [he]; exact ok.typed.bytes _ (List.getElem_mem hkn), by omega⟩
  have := cl 7 _ rfl
  rw [this]
  obtain ⟨⟨a1, a2, a3⟩, b, c, m⟩ := w
  dsimp only at hq ⊢
  rw [← hq]
theorem ok_pages {C : Cm} (ok : C.ok) : (2 : Int) ≤ C.s.pages.length ∧ (2 : Int) ≤ C.s.erases.length := by
  have h1 := ok.fits.pages
  have h4 := ok.fits.erases
  have h2 := ok.may.area
  have h3 : C.cfg.np = 2 + 2 * C.cfg.area := rfl
  omega
theorem ref_ok (hs : Sat h0 A h) (cj : At A j (refE r C)) : C.ok := (ref_pg hs cj).choose_spec.1
theorem ref_cell (hs : Sat h0 A h) (cj : At A j (refE r C)) : ∃ w : Pl, ∀ o v, (C.cells w.a w.b w.c w.m)[o]? = some v → hc h ⟨r, o, none⟩ = some v := by
  obtain ⟨w, _, cl, _⟩ := ref_pg hs cj
  exact ⟨w, cl⟩
theorem rPresent9_sp {Q : Int → H → Prop} (hs : Sat h0 A h) (cj : At A j (refE r C)) (cl : At A i (logE l r)) (k : ∀ h', Sat h0 A h' → Q (presT C) h') : F_portcullisref09_Log_Present ⟨l, 0, none⟩ Q h := by
  unfold F_portcullisref09_Log_Present G_portcullisref09_Log_Present
  have ok := ref_ok hs cj
  obtain ⟨w, lc⟩ := ref_cell hs cj
  refine ⟨_, hs.ld cl rfl, _, rfl, _, lc 11 _ rfl, ?_⟩
  unfold presT at k
  by_cases ho : C.out = true
  · rw [if_pos ho] at k ⊢; exact k _ hs
  rw [if_neg ho] at k ⊢
  have h2 := (ok_pages ok).1
  obtain ⟨pl, pc, q, xp, xl, xc, e7, hl, hx, exl, hrd, hb, hl60⟩ := rPage hs cj (k := 0) (by omega)
  refine ⟨_, hs.ld cl rfl, _, rfl, _, _, _, e7, _, rfl, by decide, by omega, _, _, _, by rw [add_zero] at hx; exact hx, ?_⟩
  refine Of_sp (A := []) (Sat.init _) (fun h' hs' => hsv_ext hs'.ex hrd (fun _ _ y => y)) hb hl60 ?_
  intro h1 hs2; replace hs := hs.ext hs2.ex; clear hs2
  subst exl
  obtain ⟨pl, pc, q, xp, xl, xc, e7, hl, hx, exl, hrd, hb, hl60⟩ := rPage hs cj (k := 1) (by omega)
  refine ⟨_, hs.ld cl rfl, _, rfl, _, _, _, e7, _, rfl, by decide, by omega, _, _, _, hx, ?_⟩
  refine Of_sp (A := []) (Sat.init _) (fun h' hs' => hsv_ext hs'.ex hrd (fun _ _ y => y)) hb hl60 ?_
  intro h2 hs2; replace hs := hs.ext hs2.ex; clear hs2
  subst exl
  have o0 := (pI_ok ok 0).head.1
  have o1 := (pI_ok ok 1).head.1
  have e : presM C = presH (pI C 0).head (pI C 1).head := rfl
  rw [presH_ref o0 o1] at e
  rw [e] at k
  show if ((pI C 0).head == 0) = true then _ else _
  by_cases g1 : (pI C 0).head = 0
  · rw [if_pos (by simpa using g1)]
    show if ((pI C 1).head == 0) = true then _ else _
    by_cases g2 : (pI C 1).head = 0
    · rw [if_pos ⟨g1, g2⟩] at k
      rw [if_pos (by simpa using g2)]; exact k _ hs
    · rw [if_neg (fun y => g2 y.2)] at k
      rw [if_neg (by simpa using g2)]
      show if ltI (pI C 0).head (pI C 1).head = true then _ else _
      rw [ltI_eq]
      by_cases g3 : (pI C 0).head < (pI C 1).head
      · rw [if_pos g3] at k; rw [if_pos (by simpa using g3)]; exact k _ hs
      · rw [if_neg g3] at k; rw [if_neg (by simpa using g3)]; exact k _ hs
  · rw [if_neg (fun y => g1 y.1)] at k
    rw [if_neg (by simpa using g1)]
    show if ltI (pI C 0).head (pI C 1).head = true then _ else _
    rw [ltI_eq]
    by_cases g3 : (pI C 0).head < (pI C 1).head
    · rw [if_pos g3] at k; rw [if_pos (by simpa using g3)]; exact k _ hs
    · rw [if_neg g3] at k; rw [if_neg (by simpa using g3)]; exact k _ hs
/-- What the document's log says; nothing without power. -/
def rinfo (C : Cm) : Inf := if C.out = true then inf0 else infoM C
theorem rInfo9_sp {Q : Int → List Int → Int → Bool → Int → H → Prop} (hs : Sat h0 A h) (cj : At A j (refE r C)) (cl : At A i (logE l r))
    (k : ∀ h', Sat h0 A h' → Q (rinfo C).head (rinfo C).nums (rinfo C).next (rinfo C).blank (rinfo C).torn h') : F_portcullisref09_Log_info ⟨l, 0, none⟩ Q h := by
  unfold F_portcullisref09_Log_info G_portcullisref09_Log_info
  simp only [add_mk, Nat.zero_add]
  have ok := ref_ok hs cj
  have h2 := (ok_pages ok).1
  intro n5 _ hn; replace hs := Sat.new hs hn; clear hn
  replace hs : Sat h0 (blk n5 (infI inf0) :: A) _ := hs
  have z9 : inf0.nums.length = 9 := rfl
  refine rPresent9_sp hs cj.s cl.s ?_
  intro h1 hs
  have e : ∀ {S : Inf}, rinfo C = S → ∀ h', Sat h0 A h' → Q S.head S.nums S.next S.blank S.torn h' := fun {S} y => by rw [y] at k; exact k
  by_cases g : presT C < 0
  · rw [ltI_eq, if_pos (by simpa using g)]
    refine ⟨Sat.can hs (i := 0) .z (by decide), ?_⟩
    intro h4 e4
    replace hs := Sat.wra hs (i := 0) .z e4 (by rfl)
    clear e4
    replace hs : Sat h0 (blk n5 (infI inf0) :: A) _ := hs
    obtain ⟨L0, L1, L10, L11, L12⟩ := hs.infAt .z z9
    refine ⟨_, L0, _, z9, L1, _, L10, _, L11, _, L12, ?_⟩
    refine e ?_ _ hs.drop
    unfold presT at g
    unfold rinfo infoM
    split
    · rfl
    · rename_i y; rw [if_neg y] at g; rw [if_pos g]
  · have ho : ¬ C.out = true := fun y => by unfold presT at g; rw [if_pos y] at g; exact g (by decide)
    have hp : presT C = presM C := by unfold presT; rw [if_neg ho]
    have h01 := presM_cases C
    rw [hp] at g ⊢
    rw [ltI_eq, if_neg (by simpa using g)]
    obtain ⟨pl, pc, q, xp, xl, xc, e7, hl, hx, exl, hrd, hb, hl60⟩ := rPage hs cj.s (k := (presM C).toNat) (by omega)
    refine ⟨_, hs.ld cl.s rfl, _, rfl, _, _, _, e7, _, rfl, by omega, by omega, _, _, _, by rw [Nat.mul_one]; exact hx, ?_⟩
    refine Of_sp (A := []) (Sat.init _) (fun h' hs' => hsv_ext hs'.ex hrd (fun _ _ y => y)) hb hl60 ?_
    intro h2 hs2; replace hs := hs.ext hs2.ex; clear hs2
    subst exl
    have hpl := pI_len C (presM C).toNat
    refine ⟨Sat.can hs (i := 0) .z (by decide), ?_⟩
    intro h4 e4
    replace hs := Sat.wra hs (i := 0) .z e4 ((inf_len hpl).trans rfl)
    clear e4
    replace hs : Sat h0 (blk n5 (infI (pI C (presM C).toNat)) :: A) _ := hs
    obtain ⟨L0, L1, L10, L11, L12⟩ := hs.infAt .z hpl
    refine ⟨_, L0, _, hpl, L1, _, L10, _, L11, _, L12, ?_⟩
    refine e ?_ _ hs.drop
    unfold rinfo infoM
    rw [if_neg ho, if_neg g]
theorem freeT_range {C : Cm} (ok : C.ok) : 0 ≤ freeT C ∧ freeT C ≤ 256 := by
  have h1 := (infoM_ok ok).next
  have h2 := ok.may.cells
  have h3 := ok.may.slots
  unfold freeT; (repeat' split) <;> omega
theorem rFree9_sp {Q : Int → H → Prop} (hs : Sat h0 A h) (cj : At A j (refE r C)) (cl : At A i (logE l r)) (k : ∀ h', Sat h0 A h' → Q (freeT C) h') : F_portcullisref09_Log_Free ⟨l, 0, none⟩ Q h := by
  unfold F_portcullisref09_Log_Free G_portcullisref09_Log_Free
  have ok := ref_ok hs cj
  have hfr := freeT_range ok
  refine rPresent9_sp hs cj cl ?_
  intro h1 hs
  by_cases g : presT C < 0
  · rw [ltI_eq, if_pos (by simpa using g)]
    have e : freeT C = 0 := by
      unfold freeT; unfold presT at g
      split
      · rfl
      · rename_i y; rw [if_neg y] at g; rw [if_pos g]
    rw [e] at k; exact k _ hs
  have ho : ¬ C.out = true := fun y => by unfold presT at g; rw [if_pos y] at g; exact g (by decide)
  have hp : presT C = presM C := by unfold presT; rw [if_neg ho]
  rw [ltI_eq, if_neg (by simpa using g)]
  obtain ⟨w, lc⟩ := ref_cell hs cj
  refine ⟨_, hs.ld cl rfl, _, rfl, _, lc 0 _ rfl, ?_⟩
  refine rInfo9_sp hs cj cl ?_
  intro h2 hs
  obtain ⟨w2, lc2⟩ := ref_cell hs cj
  refine ⟨hcs_one (lc2 0 _ rfl), hcs_one (hs.ld cl rfl), ?_⟩
  have e : freeT C = C.cfg.cells - (rinfo C).next := by
    unfold freeT rinfo
    rw [if_neg ho, if_neg (by rw [← hp]; exact g), if_neg ho]
  rw [← e, wrap_id (by omega)]
  exact k _ hs
theorem rPresent_sp {Q : Int → H → Prop} (hs : Sat h0 A h) (cj : At A j (refE r C)) (k : ∀ h', Sat h0 A h' → Q (presT C) h') : F_portcullisref09_Present ⟨r, 0, none⟩ Q h := by
  unfold F_portcullisref09_Present G_portcullisref09_Present
  intro n4 _ hn; replace hs := Sat.new hs hn; clear hn
  refine rPresent9_sp hs cj.s .z ?_
  intro h1 hs
  exact k _ hs.drop
theorem rFree_sp {Q : Int → H → Prop} (hs : Sat h0 A h) (cj : At A j (refE r C)) (k : ∀ h', Sat h0 A h' → Q (freeT C) h') : F_portcullisref09_Free ⟨r, 0, none⟩ Q h := by
  unfold F_portcullisref09_Free G_portcullisref09_Free
  intro n4 _ hn; replace hs := Sat.new hs hn; clear hn
  refine rFree9_sp hs cj.s .z ?_
  intro h1 hs
  exact k _ hs.drop
end
end Go.Proofs.Ytamfkofcpoglnaa
end

/- Maps as owned things. Own work; generic over any program. -/
section
set_option linter.unusedVariables false
namespace Go.Vc

@[irreducible] def mapP (r : Nat) (es : List (Value × DV)) (h : H) (f : Nat → Prop) : Prop := hmap h r es ∧ ∀ x, f x ↔ x = r
theorem hmap_lt {h : H} {r : Nat} {es : List (Value × DV)} (m : hmap h r es) : r < h.size := by
  obtain ⟨a, cl, e, _⟩ := m
  exact (Array.getElem?_eq_some_iff.1 e).1
def mapE (r : Nat) (es : List (Value × DV)) : Ent where
  tag := .of r
  P := mapP r es
  st := by unfold mapP; rintro h h' f ⟨⟨a, cl, k, ke⟩, e⟩ hs; exact ⟨⟨a, cl, by rw [hs r ((e r).2 rfl)]; exact k, ke⟩, e⟩
  lt := by unfold mapP; rintro h f x ⟨k, e⟩ hx; rw [(e x).1 hx]; exact hmap_lt k
theorem mapE_P {r : Nat} {es : List (Value × DV)} {h : H} {f : Nat → Prop} : (mapE r es).P h f ↔ hmap h r es ∧ ∀ x, f x ↔ x = r := by
  show mapP r es h f ↔ _; unfold mapP; rfl
theorem Sat.mapNew {h0 h h' : H} {A : List Ent} (s : Sat h0 A h) {b : Nat} (n : hmnew h b h') : Sat h0 (mapE b [] :: A) h' := by
  obtain ⟨rfl, rfl⟩ := n
  refine s.add ⟨by simp, fun x hx _ => by rw [Array.getElem?_push, if_neg (by omega)]⟩ (f := fun x => x = h.size) (mapE_P.2 ⟨⟨#[], 0, by simp, rfl, fun e he => by cases he⟩, fun _ => Iff.rfl⟩) fun x hx => by rw [hx]; exact Nat.le_refl _
theorem Sat.mapAt {h0 h : H} {A : List Ent} (s : Sat h0 A h) {i r : Nat} {es : List (Value × DV)} (a : At A i (mapE r es)) : hmap h r es := by
  obtain ⟨f, hp, _⟩ := s.take a
  exact (mapE_P.1 hp).1
theorem Sat.mapSet {h0 h h' : H} {A : List Ent} (s : Sat h0 A h) {i r : Nat} {es es' : List (Value × DV)} (a : At A i (mapE r es)) (e : hmset h r es' h') : Sat h0 (Vc.put A i (mapE r es')) h' := by
  refine s.upd a fun f hp => ?_
  obtain ⟨k, hf⟩ := mapE_P.1 hp
  have hlt := hmap_lt k
  obtain ⟨m, cl, rfl, hent⟩ := e
  refine ⟨f, mapE_P.2 ⟨⟨m, cl, by rw [Array.getElem?_setIfInBounds_self_of_lt hlt], hent⟩, hf⟩, fun _ => Or.inl, ⟨by simp, fun x _ hx => ?_⟩⟩
  rw [Array.getElem?_setIfInBounds_ne]
  intro y; exact hx ((hf x).2 y.symm)
/-- The same entries, told otherwise. -/
theorem hmap_as {h : H} {r : Nat} {es es' : List (Value × DV)} (m : hmap h r es) (e : es.map (fun e => (e.1, e.2.flat)) = es'.map (fun e => (e.1, e.2.flat))) (ok : ∀ x, x ∈ es' → x.2.ok) : hmap h r es' := by
  obtain ⟨a, cl, h1, h2, h3⟩ := m
  exact ⟨a, cl, h1, h2.trans e, ok⟩
theorem hsv_nil {h : H} {sz : Nat} {p : Option Addr} {k : IntKind} : hsv h p sz 0 (ints k []) := ⟨by simp, fun v hv => by simp [ints] at hv, Or.inl rfl⟩
theorem Sat.eqL {h0 h : H} {A B : List Ent} (s : Sat h0 A h) (e : B = A) : Sat h0 B h := e ▸ s
/-- One element of an owned slice is written. -/
theorem Sat.slPut {h0 h : H} {A : List Ent} (hs : Sat h0 A h) {i l c n : Nat} {p : Option Addr} {vs : List Value} {v : Value} (m : At A i (slE p l c 1 vs)) (hn : n < l) (h1 : v.oneCell' = true) :
    ∃ q, p = some q ∧ hcan h (q.add n) 1 ∧ ∀ h', h' = hwr h (q.add n) [v] → Sat h0 (Vc.put A i (slE p l c 1 (vs.set n v))) h' := by
  obtain ⟨b, rfl⟩ := hs.sl_some m (by omega)
  have hl : vs.length = l := by have := (hs.sv m).1; simpa using this
  refine ⟨_, rfl, ?_, ?_⟩
  · rw [add_mk, Nat.zero_add]; exact hs.scan m (by omega) (by omega)
  · intro h' e
    rw [add_mk, Nat.zero_add] at e
    exact hs.swr m e (by omega) (by simp; omega) (by intro y hy; simp at hy; rw [hy]; exact h1)
/-- A function value, of whatever is bound, is called. -/
theorem callFn_dv {P : Program} {f : FuncId} {run : Run} (hr : RunOk P f run) {xs ys args : List DV} {Q : List DV → H → Prop} {h : H} (hx : ∀ x, x ∈ xs ++ args ++ ys → x.ok) (hrun : run (xs ++ args ++ ys) Q h) :
    callFn P (.func (.func f) (xs.map DV.flat).toArray (ys.map DV.flat).toArray) args Q h := by
  refine ⟨f, _, _, rfl, ?_⟩
  have := hr _ _ _ hx hrun
  simpa using this
end Go.Vc
end

/- Wear: budgets, acts, how a chip stands. Own work. -/
section
set_option maxRecDepth 100000
set_option linter.unusedVariables false
namespace Go.Proofs.Ytamfkofcpoglnaa
open Go Go.Vc

section
variable {h0 h : H} {A : List Ent} {i j p r l b : Nat} {C : Cm}
def wRaiseM (c : Cfg) : Int := IntKind.i64.wrap (IntKind.i64.wrap (c.slots + 3) + c.fuses)
def wStageM (c : Cfg) : Int := IntKind.i64.wrap (IntKind.i64.wrap (IntKind.i64.wrap (c.slots + 3) + c.area) + IntKind.i64.wrap (c.area * c.cells))
def wLaysM (c : Cfg) : Int := IntKind.i64.wrap (IntKind.i64.wrap (c.cells - c.slots) - 1)
theorem raise_sp (c : Cfg) {Q : Int → H → Prop} (hs : Sat h0 A h) (k : ∀ h', Sat h0 A h' → Q (wRaiseM c) h') : F_wear_config_raise c.cells c.slots c.fuses c.step c.keys c.erases c.area Q h := by
  unfold F_wear_config_raise G_wear_config_raise
  simp only [add_mk, Nat.zero_add]
  (repeat first | refine ⟨_, Sat.ld hs (by (repeat (first | exact At.z | apply At.s))) (by rfl), ?_⟩ | refine ⟨_, _, _, Sat.ld hs (by (repeat (first | exact At.z | apply At.s))) (by rfl), ?_⟩ | (intro _ _ hn; replace hs := Sat.new hs hn; clear hn) | refine ⟨Sat.cs hs (by (repeat (first | exact At.z | apply At.s))) (by rfl), ?_⟩ | (refine ⟨Sat.can hs (by (repeat (first | exact At.z | apply At.s))) (by simp), ?_⟩; intro _ e; replace hs := Sat.wr hs (by (repeat (first | exact At.z | apply At.s))) e; clear e; simp only [put, splice, List.set] at hs) | refine ⟨_, rfl, ?_⟩)
  exact k _ hs.drop
theorem revoke_sp (c : Cfg) {Q : Int → H → Prop} (hs : Sat h0 A h) (k : ∀ h', Sat h0 A h' → Q 1 h') : F_wear_config_revoke c.cells c.slots c.fuses c.step c.keys c.erases c.area Q h := by
  unfold F_wear_config_revoke G_wear_config_revoke
  (repeat first | refine ⟨_, Sat.ld hs (by (repeat (first | exact At.z | apply At.s))) (by rfl), ?_⟩ | refine ⟨_, _, _, Sat.ld hs (by (repeat (first | exact At.z | apply At.s))) (by rfl), ?_⟩ | (intro _ _ hn; replace hs := Sat.new hs hn; clear hn) | refine ⟨Sat.cs hs (by (repeat (first | exact At.z | apply At.s))) (by rfl), ?_⟩ | (refine ⟨Sat.can hs (by (repeat (first | exact At.z | apply At.s))) (by simp), ?_⟩; intro _ e; replace hs := Sat.wr hs (by (repeat (first | exact At.z | apply At.s))) e; clear e; simp only [put, splice, List.set] at hs) | refine ⟨_, rfl, ?_⟩)
  exact k _ hs.drop
theorem stage_sp (c : Cfg) {Q : Int → H → Prop} (hs : Sat h0 A h) (k : ∀ h', Sat h0 A h' → Q (wStageM c) h') : F_wear_config_stage c.cells c.slots c.fuses c.step c.keys c.erases c.area Q h := by
  unfold F_wear_config_stage G_wear_config_stage
  simp only [add_mk, Nat.zero_add]
  (repeat first | refine ⟨_, Sat.ld hs (by (repeat (first | exact At.z | apply At.s))) (by rfl), ?_⟩ | refine ⟨_, _, _, Sat.ld hs (by (repeat (first | exact At.z | apply At.s))) (by rfl), ?_⟩ | (intro _ _ hn; replace hs := Sat.new hs hn; clear hn) | refine ⟨Sat.cs hs (by (repeat (first | exact At.z | apply At.s))) (by rfl), ?_⟩ | (refine ⟨Sat.can hs (by (repeat (first | exact At.z | apply At.s))) (by simp), ?_⟩; intro _ e; replace hs := Sat.wr hs (by (repeat (first | exact At.z | apply At.s))) e; clear e; simp only [put, splice, List.set] at hs) | refine ⟨_, rfl, ?_⟩)
  exact k _ hs.drop
theorem lays_sp (c : Cfg) {Q : Int → H → Prop} (hs : Sat h0 A h) (k : ∀ h', Sat h0 A h' → Q (wLaysM c) h') : F_wear_config_lays c.cells c.slots c.fuses c.step c.keys c.erases c.area Q h := by
  unfold F_wear_config_lays G_wear_config_lays
  simp only [add_mk, Nat.zero_add]
  (repeat first | refine ⟨_, Sat.ld hs (by (repeat (first | exact At.z | apply At.s))) (by rfl), ?_⟩ | refine ⟨_, _, _, Sat.ld hs (by (repeat (first | exact At.z | apply At.s))) (by rfl), ?_⟩ | (intro _ _ hn; replace hs := Sat.new hs hn; clear hn) | refine ⟨Sat.cs hs (by (repeat (first | exact At.z | apply At.s))) (by rfl), ?_⟩ | (refine ⟨Sat.can hs (by (repeat (first | exact At.z | apply At.s))) (by simp), ?_⟩; intro _ e; replace hs := Sat.wr hs (by (repeat (first | exact At.z | apply At.s))) e; clear e; simp only [put, splice, List.set] at hs) | refine ⟨_, rfl, ?_⟩)
  exact k _ hs.drop
theorem rlays_sp (c : Cfg) {Q : Int → H → Prop} (hs : Sat h0 A h) (k : ∀ h', Sat h0 A h' → Q (wLaysM c) h') : F_portcullisref20_lays c.cells c.slots c.fuses c.step c.keys c.erases c.area Q h := by
  unfold F_portcullisref20_lays G_portcullisref20_lays
  simp only [add_mk, Nat.zero_add]
  (repeat first | refine ⟨_, Sat.ld hs (by (repeat (first | exact At.z | apply At.s))) (by rfl), ?_⟩ | refine ⟨_, _, _, Sat.ld hs (by (repeat (first | exact At.z | apply At.s))) (by rfl), ?_⟩ | (intro _ _ hn; replace hs := Sat.new hs hn; clear hn) | refine ⟨Sat.cs hs (by (repeat (first | exact At.z | apply At.s))) (by rfl), ?_⟩ | (refine ⟨Sat.can hs (by (repeat (first | exact At.z | apply At.s))) (by simp), ?_⟩; intro _ e; replace hs := Sat.wr hs (by (repeat (first | exact At.z | apply At.s))) e; clear e; simp only [put, splice, List.set] at hs) | refine ⟨_, rfl, ?_⟩)
  exact k _ hs.drop
abbrev cfgA (c : Cfg) : Value := .agg #[.int .i64 c.cells, .int .i64 c.slots, .int .i64 c.fuses, .int .i64 c.step, .int .i64 c.keys, .int .i64 c.erases, .int .i64 c.area]
abbrev fnA (f : Nat) (c : Cfg) : Value := .func (.func f) #[cfgA c] #[]
def actsE (c : Cfg) : List (Value × DV) := [(.int .i64 2, .one (fnA id_wear_config_raise c)), (.int .i64 3, .one (fnA id_wear_config_raise c)), (.int .i64 7, .one (fnA id_wear_config_raise c)), (.int .i64 4, .one (fnA id_wear_config_revoke c)), (.int .i64 8, .one (fnA id_wear_config_stage c))]
theorem acts_sp (c : Cfg) {Q : Option Nat → H → Prop} (hs : Sat h0 A h) (k : ∀ m h', Sat h0 (mapE m (actsE c) :: A) h' → Q (some m) h') : F_wear_config_acts c.cells c.slots c.fuses c.step c.keys c.erases c.area Q h := by
  unfold F_wear_config_acts G_wear_config_acts
  simp only [add_mk, Nat.zero_add]
  intro n9 _ hn; replace hs := Sat.new hs hn; clear hn
  intro m _ hn; replace hs := Sat.mapNew hs hn; clear hn
  (repeat refine ⟨_, Sat.ld hs (by (repeat (first | exact At.z | apply At.s))) (by rfl), ?_⟩)
  refine ⟨_, _, _, rfl, hs.mapAt .z, rfl, ?_⟩
  intro _ e; replace hs := hs.mapSet .z e; clear e
  (repeat refine ⟨_, Sat.ld hs (by (repeat (first | exact At.z | apply At.s))) (by rfl), ?_⟩)
  refine ⟨_, _, _, rfl, hs.mapAt .z, rfl, ?_⟩
  intro _ e; replace hs := hs.mapSet .z e; clear e
  (repeat refine ⟨_, Sat.ld hs (by (repeat (first | exact At.z | apply At.s))) (by rfl), ?_⟩)
  refine ⟨_, _, _, rfl, hs.mapAt .z, rfl, ?_⟩
  intro _ e; replace hs := hs.mapSet .z e; clear e
  (repeat refine ⟨_, Sat.ld hs (by (repeat (first | exact At.z | apply At.s))) (by rfl), ?_⟩)
  refine ⟨_, _, _, rfl, hs.mapAt .z, rfl, ?_⟩
  intro _ e; replace hs := hs.mapSet .z e; clear e
  (repeat refine ⟨_, Sat.ld hs (by (repeat (first | exact At.z | apply At.s))) (by rfl), ?_⟩)
  refine ⟨_, _, _, rfl, hs.mapAt .z, rfl, ?_⟩
  intro _ e; replace hs := hs.mapSet .z e; clear e
  refine k m _ ?_
  exact hs.sub (by (repeat (first | exact List.Sublist.refl _ | apply List.Sublist.cons_cons | apply List.Sublist.cons)))
def actsM (c : Cfg) (kind : Int) : Int := if c.may then (if kind = 2 ∨ kind = 3 ∨ kind = 7 then wRaiseM c else if kind = 4 then 1 else if kind = 8 then wStageM c else 0) else 0
def actsF (c : Cfg) : List (Value × DV) := [(.int .i64 2, .fnv (fnA id_wear_config_raise c)), (.int .i64 3, .fnv (fnA id_wear_config_raise c)), (.int .i64 7, .fnv (fnA id_wear_config_raise c)), (.int .i64 4, .fnv (fnA id_wear_config_revoke c)), (.int .i64 8, .fnv (fnA id_wear_config_stage c))]
theorem ok_cfgA (c : Cfg) : ∀ x, x ∈ [DV.agg (c.vals.map .c)] ++ [] ++ [] → x.ok := by
  intro x hx
  simp at hx
  subst hx
  intro y hy
  simp only [List.mem_map] at hy
  obtain ⟨v, hv, rfl⟩ := hy
  simp only [Cfg.vals, List.mem_cons, List.not_mem_nil, or_false] at hv
  rcases hv with rfl | rfl | rfl | rfl | rfl | rfl | rfl <;> rfl
theorem Acts20_sp (c : Cfg) (kind : Int) {Q : Int → H → Prop} (hs : Sat h0 A h) (k : ∀ h', Sat h0 A h' → Q (actsM c kind) h') : F_wear_Acts c.cells c.slots c.fuses c.step c.keys c.erases c.area kind Q h := by
  unfold F_wear_Acts G_wear_Acts
  simp only [add_mk, Nat.zero_add]
  intro n9 _ hn; replace hs := Sat.new hs hn; clear hn
  (repeat first | refine ⟨_, Sat.ld hs (by (repeat (first | exact At.z | apply At.s))) (by rfl), ?_⟩ | refine ⟨_, _, _, Sat.ld hs (by (repeat (first | exact At.z | apply At.s))) (by rfl), ?_⟩ | (intro _ _ hn; replace hs := Sat.new hs hn; clear hn) | refine ⟨Sat.cs hs (by (repeat (first | exact At.z | apply At.s))) (by rfl), ?_⟩ | (refine ⟨Sat.can hs (by (repeat (first | exact At.z | apply At.s))) (by simp), ?_⟩; intro _ e; replace hs := Sat.wr hs (by (repeat (first | exact At.z | apply At.s))) e; clear e; simp only [put, splice, List.set] at hs) | refine ⟨_, rfl, ?_⟩)
  refine May_sp c hs ?_
  intro h1 hs
  unfold actsM at k
  by_cases m : c.may
  case neg =>
    rw [if_neg m] at k
    have e : c.may? = 1 := by unfold Cfg.may?; rw [if_neg m]
    rw [e, if_pos (by simp)]
    exact k _ hs.drop
  rw [if_pos m] at k
  have e : c.may? = 0 := by unfold Cfg.may?; rw [if_pos m]
  rw [e, if_neg (by simp)]
  (repeat first | refine ⟨_, Sat.ld hs (by (repeat (first | exact At.z | apply At.s))) (by rfl), ?_⟩ | refine ⟨_, _, _, Sat.ld hs (by (repeat (first | exact At.z | apply At.s))) (by rfl), ?_⟩ | (intro _ _ hn; replace hs := Sat.new hs hn; clear hn) | refine ⟨Sat.cs hs (by (repeat (first | exact At.z | apply At.s))) (by rfl), ?_⟩ | (refine ⟨Sat.can hs (by (repeat (first | exact At.z | apply At.s))) (by simp), ?_⟩; intro _ e; replace hs := Sat.wr hs (by (repeat (first | exact At.z | apply At.s))) e; clear e; simp only [put, splice, List.set] at hs) | refine ⟨_, rfl, ?_⟩)
  refine acts_sp c hs ?_
  intro mm h2 hs
  have hm : hmapO h2 (some mm) (actsF c) := hmap_as (hs.mapAt .z) rfl (by
    intro x hx
    simp only [actsF, List.mem_cons, List.not_mem_nil, or_false] at hx
    rcases hx with rfl | rfl | rfl | rfl | rfl <;> rfl)
  have look : ∀ (v : Value) (b : Bool), mlook (.int .i64 kind) (.fnv .nilFunc) (actsF c) = some (.fnv v, b) → (b = false → ∀ h', Sat h0 A h' → Q 0 h') → (b = true → callFn PP v [] (fun l37 h38 => ∃ x39 l40, l37 = x39 :: l40 ∧ ∃ i41, x39 = DV.one (Value.int IntKind.i64 i41) ∧ l40 = [] ∧ Q i41 h38) h2) →
      ∃ l33 x34 b35, hmapO h2 (some mm) l33 ∧ mlook (.int .i64 kind) (.fnv .nilFunc) l33 = some (x34, b35) ∧ ∃ v36, x34 = DV.fnv v36 ∧ if (!b35) = true then Q 0 h2 else callFn PP v36 [] (fun l37 h38 => ∃ x39 l40, l37 = x39 :: l40 ∧ ∃ i41, x39 = DV.one (Value.int IntKind.i64 i41) ∧ l40 = [] ∧ Q i41 h38) h2 := by
    intro v b e1 e2 e3
    refine ⟨_, _, _, hm, e1, _, rfl, ?_⟩
    cases b with
    | false => exact e2 rfl _ hs.drop.drop
    | true => exact e3 rfl
  by_cases g2 : kind = 2
  · subst g2
    refine look _ true rfl (fun y => by cases y) fun _ => ?_
    refine callFn_dv (R_wear_config_raise) (xs := [.agg (c.vals.map .c)]) (ys := []) (args := []) (ok_cfgA c) ?_
    show F_wear_config_raise c.cells c.slots c.fuses c.step c.keys c.erases c.area _ h2
    refine raise_sp c hs ?_
    intro h3 hs
    exact ⟨_, _, rfl, _, rfl, rfl, k _ hs.drop.drop⟩
  by_cases g3 : kind = 3
  · subst g3
    refine look _ true rfl (fun y => by cases y) fun _ => ?_
    refine callFn_dv (R_wear_config_raise) (xs := [.agg (c.vals.map .c)]) (ys := []) (args := []) (ok_cfgA c) ?_
    show F_wear_config_raise c.cells c.slots c.fuses c.step c.keys c.erases c.area _ h2
    refine raise_sp c hs ?_
    intro h3 hs
    exact ⟨_, _, rfl, _, rfl, rfl, k _ hs.drop.drop⟩
  by_cases g7 : kind = 7
  · subst g7
    refine look _ true rfl (fun y => by cases y) fun _ => ?_
    refine callFn_dv (R_wear_config_raise) (xs := [.agg (c.vals.map .c)]) (ys := []) (args := []) (ok_cfgA c) ?_
    show F_wear_config_raise c.cells c.slots c.fuses c.step c.keys c.erases c.area _ h2
    refine raise_sp c hs ?_
    intro h3 hs
    exact ⟨_, _, rfl, _, rfl, rfl, k _ hs.drop.drop⟩
  rw [if_neg (by omega)] at k
  by_cases g4 : kind = 4
  · subst g4
    refine look _ true rfl (fun y => by cases y) fun _ => ?_
    refine callFn_dv (R_wear_config_revoke) (xs := [.agg (c.vals.map .c)]) (ys := []) (args := []) (ok_cfgA c) ?_
    show F_wear_config_revoke c.cells c.slots c.fuses c.step c.keys c.erases c.area _ h2
    refine revoke_sp c hs ?_
    intro h3 hs
    exact ⟨_, _, rfl, _, rfl, rfl, k _ hs.drop.drop⟩
  rw [if_neg g4] at k
  by_cases g8 : kind = 8
  · subst g8
    refine look _ true rfl (fun y => by cases y) fun _ => ?_
    refine callFn_dv (R_wear_config_stage) (xs := [.agg (c.vals.map .c)]) (ys := []) (args := []) (ok_cfgA c) ?_
    show F_wear_config_stage c.cells c.slots c.fuses c.step c.keys c.erases c.area _ h2
    refine stage_sp c hs ?_
    intro h3 hs
    exact ⟨_, _, rfl, _, rfl, rfl, k _ hs.drop.drop⟩
  rw [if_neg g8] at k
  refine look .nilFunc false ?_ (fun _ => k) (fun y => by cases y)
  have e2 : (kind == 2) = false := by simpa using g2
  have e3 : (kind == 3) = false := by simpa using g3
  have e7 : (kind == 7) = false := by simpa using g7
  have e4 : (kind == 4) = false := by simpa using g4
  have e8 : (kind == 8) = false := by simpa using g8
  simp [mlook, actsF, keyEq, e2, e3, e7, e4, e8]
def budgM (c : Cfg) (cuts : Int) : Int := if c.may ∧ 0 ≤ cuts ∧ cuts ≤ c.erases then IntKind.i64.wrap (IntKind.i64.wrap (IntKind.i64.wrap (2 * IntKind.i64.wrap (c.erases - cuts)) + 2) * wLaysM c) else 0
theorem Budget_sp (c : Cfg) (cuts : Int) {Q : Int → H → Prop} (hs : Sat h0 A h) (k : ∀ h', Sat h0 A h' → Q (budgM c cuts) h') : F_wear_Budget c.cells c.slots c.fuses c.step c.keys c.erases c.area cuts Q h := by
  unfold F_wear_Budget G_wear_Budget
  simp only [add_mk, Nat.zero_add]
  intro n9 _ hn; replace hs := Sat.new hs hn; clear hn
  intro J hJ
  (repeat first | refine ⟨_, Sat.ld hs (by (repeat (first | exact At.z | apply At.s))) (by rfl), ?_⟩ | refine ⟨_, _, _, Sat.ld hs (by (repeat (first | exact At.z | apply At.s))) (by rfl), ?_⟩ | (intro _ _ hn; replace hs := Sat.new hs hn; clear hn) | refine ⟨Sat.cs hs (by (repeat (first | exact At.z | apply At.s))) (by rfl), ?_⟩ | (refine ⟨Sat.can hs (by (repeat (first | exact At.z | apply At.s))) (by simp), ?_⟩; intro _ e; replace hs := Sat.wr hs (by (repeat (first | exact At.z | apply At.s))) e; clear e; simp only [put, splice, List.set] at hs) | refine ⟨_, rfl, ?_⟩)
  refine May_sp c hs ?_
  intro h1 hs
  unfold budgM at k
  by_cases m : c.may
  case neg =>
    rw [if_neg (fun y => m y.1)] at k
    have e : c.may? = 1 := by unfold Cfg.may?; rw [if_neg m]
    rw [e, if_pos (by simp)]
    exact k _ hs.drop
  have e : c.may? = 0 := by unfold Cfg.may?; rw [if_pos m]
  rw [e, if_neg (by simp), ltI_eq]
  by_cases g1 : cuts < 0
  · rw [if_pos (by simpa using g1)]
    rw [if_neg (fun y => by omega)] at k
    exact k _ hs.drop
  rw [if_neg (by simpa using g1)]
  refine ⟨_, Sat.ld hs (by (repeat (first | exact At.z | apply At.s))) (by rfl), ?_⟩
  rw [ltI_eq]
  by_cases g2 : c.erases < cuts
  · rw [if_pos (by simpa using g2)]
    rw [if_neg (fun y => by omega)] at k
    exact k _ hs.drop
  rw [if_neg (by simpa using g2)]
  rw [if_pos ⟨m, by omega, by omega⟩] at k
  apply hJ
  (repeat first | refine ⟨_, Sat.ld hs (by (repeat (first | exact At.z | apply At.s))) (by rfl), ?_⟩ | refine ⟨_, _, _, Sat.ld hs (by (repeat (first | exact At.z | apply At.s))) (by rfl), ?_⟩ | (intro _ _ hn; replace hs := Sat.new hs hn; clear hn) | refine ⟨Sat.cs hs (by (repeat (first | exact At.z | apply At.s))) (by rfl), ?_⟩ | (refine ⟨Sat.can hs (by (repeat (first | exact At.z | apply At.s))) (by simp), ?_⟩; intro _ e; replace hs := Sat.wr hs (by (repeat (first | exact At.z | apply At.s))) e; clear e; simp only [put, splice, List.set] at hs) | refine ⟨_, rfl, ?_⟩)
  refine lays_sp c hs ?_
  intro h2 hs
  refine ⟨Sat.cs hs (by (repeat (first | exact At.z | apply At.s))) (by rfl), ?_⟩
  exact k _ hs.drop
end
end Go.Proofs.Ytamfkofcpoglnaa
end

/- Wear: how a chip stands. Own work. -/
section
set_option maxRecDepth 100000
set_option linter.unusedVariables false
namespace Go.Proofs.Ytamfkofcpoglnaa
open Go Go.Vc

section
variable {h0 h : H} {A : List Ent} {i j p r l b : Nat} {C : Cm}
/-- How often a page may be made blank yet. -/
def leftM (C : Cm) (k : Nat) (e : Int) : Int :=
  if (pI C k).blank = true then IntKind.i64.wrap ((if IntKind.i64.wrap (C.cfg.erases - e) > 0 then IntKind.i64.wrap (C.cfg.erases - e) else 0) + 1) else (if IntKind.i64.wrap (C.cfg.erases - e) > 0 then IntKind.i64.wrap (C.cfg.erases - e) else 0)
theorem left_sp {Q : Int → Int → H → Prop} (hs : Sat h0 A h) (ci : At A i (chipE p C)) (ho : C.out = false) {k : Nat} (hk : k < 2) (e : Int) (kk : ∀ h', Sat h0 A h' → Q (leftM C k e) 0 h') : F_wear_left ⟨p, 0, none⟩ (k : Int) e Q h := by
  unfold F_wear_left G_wear_left
  simp only [add_mk, Nat.zero_add]
  have ok := chip_ok hs ci
  refine Look_sp hs ci (k : Int) ?_
  intro h1 hs
  rw [look_pg ho ok hk]
  have hpl := pI_len C k
  intro n14 _ hn; replace hs := Sat.new hs hn; clear hn
  refine ⟨Sat.can hs (i := 0) .z (by decide), ?_⟩
  intro h4 e4
  replace hs := Sat.wra hs (i := 0) .z e4 ((inf_len hpl).trans rfl)
  clear e4
  replace hs : Sat h0 (blk n14 (infI (pI C k)) :: A) _ := hs
  rw [if_neg (by simp)]
  refine Config_sp hs ci.s ?_
  intro h5 hs
  obtain ⟨L0, L1, L10, L11, L12⟩ := hs.infAt .z hpl
  refine ⟨_, L11, ?_⟩
  unfold leftM at kk
  split
  · rename_i g; rw [if_pos g] at kk; exact kk _ hs.drop
  · rename_i g; rw [if_neg g] at kk; exact kk _ hs.drop
theorem rleft_sp {Q : Int → H → Prop} (hs : Sat h0 A h) (cj : At A j (refE r C)) {k : Nat} (hk : k < 2) (kk : ∀ h', Sat h0 A h' → Q (leftM C k (C.er k)) h') : F_portcullisref20_left ⟨r, 0, none⟩ (k : Int) Q h := by
  unfold F_portcullisref20_left G_portcullisref20_left
  simp only [add_mk, Nat.zero_add]
  have ok := ref_ok hs cj
  obtain ⟨h2, h3⟩ := ok_pages ok
  obtain ⟨w, _, lc, _, er⟩ := ref_all hs cj
  have le : C.s.erases.length = w.b.2.1 := by have := er.1; simpa using this
  obtain ⟨q1, hq1, g1⟩ := hsv_int er (x := k) (by omega)
  obtain ⟨pl, pc, q, xp, xl, xc, e7, hl, hx, exl, hrd, hb, hl60⟩ := rPage hs cj (k := k) (by omega)
  refine ⟨_, lc 5 _ rfl, _, _, _, lc 8 _ rfl, _, hq1, by omega, by omega, _, by rw [Int.toNat_natCast, Nat.mul_one]; exact g1, _, _, _, e7, _, rfl, by omega, by omega, _, _, _, by rw [Int.toNat_natCast, Nat.mul_one]; exact hx, ?_⟩
  refine Of_sp (A := []) (Sat.init _) (fun h' hs' => hsv_ext hs'.ex hrd (fun _ _ y => y)) hb hl60 ?_
  intro h1 hs2; replace hs := hs.ext hs2.ex; clear hs2
  subst exl
  have hpl := pI_len C k
  intro n14 _ hn; replace hs := Sat.new hs hn; clear hn
  refine ⟨Sat.can hs (i := 0) .z (by decide), ?_⟩
  intro h4 e4
  replace hs := Sat.wra hs (i := 0) .z e4 ((inf_len hpl).trans rfl)
  clear e4
  replace hs : Sat h0 (blk n14 (infI (pI C k)) :: A) _ := hs
  obtain ⟨L0, L1, L10, L11, L12⟩ := hs.infAt .z hpl
  refine ⟨_, L11, ?_⟩
  unfold leftM at kk
  split
  · rename_i g; rw [if_pos g] at kk; exact kk _ hs.drop
  · rename_i g; rw [if_neg g] at kk; exact kk _ hs.drop
def apartM (C : Cm) : Int := IntKind.i64.wrap ((if C.er 1 > C.er 0 then C.er 1 else C.er 0) - (if C.er 1 < C.er 0 then C.er 1 else C.er 0))
def turnsM (C : Cm) : Int := if leftM C (1 - tgtM C) (C.er (1 - tgtM C)) < leftM C (tgtM C) (C.er (tgtM C)) then IntKind.i64.wrap (IntKind.i64.wrap (2 * leftM C (1 - tgtM C) (C.er (1 - tgtM C))) + 1) else IntKind.i64.wrap (2 * leftM C (tgtM C) (C.er (tgtM C)))
def wlaysM (C : Cm) : Int := IntKind.i64.wrap (freeT C + IntKind.i64.wrap (turnsM C * wLaysM C.cfg))
theorem take_snoc (l : List Int) (n : Nat) (h : n < l.length) : l.take n ++ [l.getD n 0] = l.take (n + 1) := by
  rw [List.take_succ]; simp [List.getD, List.getElem?_eq_getElem h]
theorem wOf_sp {Q : Option Addr → Nat → Nat → Int → Int → Int → Int → Int → H → Prop} (hs : Sat h0 A h) (ci : At A i (chipE p C))
    (k1 : C.out = true → ∀ h', Sat h0 A h' → Q none 0 0 0 0 0 0 8 h')
    (k2 : C.out = false → ∀ (x : Sl) h', Sat h0 (sE x 1 (ints .i64 C.s.erases) :: A) h' → Q x.1 x.2.1 x.2.2 (apartM C) (freeT C) (turnsM C) (wlaysM C) 0 h') : F_wear_Of ⟨p, 0, none⟩ Q h := by
  unfold F_wear_Of G_wear_Of
  simp only [add_mk, Nat.zero_add]
  have ok := chip_ok hs ci
  obtain ⟨hp2, he2⟩ := ok_pages ok
  have hnp : C.cfg.np = 2 + 2 * C.cfg.area := rfl
  have hfe := ok.fits.erases
  have hfp := ok.fits.pages
  have har := ok.may.area
  intro n10 _ hn; replace hs := Sat.new hs hn; clear hn
  refine Mount_sp hs ci.s ?_ ?_
  · intro ho
    rw [if_pos (by simp)]
    (repeat first | refine ⟨_, Sat.ld hs (by (repeat (first | exact At.z | apply At.s))) (by rfl), ?_⟩ | refine ⟨_, _, _, Sat.ld hs (by (repeat (first | exact At.z | apply At.s))) (by rfl), ?_⟩ | (intro _ _ hn; replace hs := Sat.new hs hn; clear hn) | refine ⟨Sat.cs hs (by (repeat (first | exact At.z | apply At.s))) (by rfl), ?_⟩ | (refine ⟨Sat.can hs (by (repeat (first | exact At.z | apply At.s))) (by simp), ?_⟩; intro _ e; replace hs := Sat.wr hs (by (repeat (first | exact At.z | apply At.s))) e; clear e; simp only [put, splice, List.set] at hs) | refine ⟨_, rfl, ?_⟩)
    exact k1 ho _ hs.drop
  intro ho lg h1 hs
  rw [if_neg (by simp)]
  replace k2 := k2 ho
  clear k1
  refine ⟨_, rfl, ?_⟩
  refine Free_sp hs ci.s.s .z ?_
  intro h2 hs
  have hfr := freeT_range ok
  rw [wrap_id (by omega)]
  intro n28 _ hn; replace hs := Sat.new hs hn; clear hn
  (refine ⟨Sat.can hs (by (repeat (first | exact At.z | apply At.s))) (by simp), ?_⟩; intro _ e; replace hs := Sat.wr hs (by (repeat (first | exact At.z | apply At.s))) e; clear e; simp only [put, splice, List.set] at hs)
  refine Config_sp hs ci.s.s.s ?_
  intro h3 hs
  intro J hJ
  have en : IntKind.i64.wrap (2 + IntKind.i64.wrap (2 * C.cfg.area)) = (C.s.erases.length : Int) := by
    rw [wrap_id (n := 2 * C.cfg.area) (by omega), wrap_id (by omega)]; omega
  obtain ⟨fr, hfr2⟩ : ∃ fr, fr = freeT C := ⟨_, rfl⟩
  rw [← hfr2] at hs k2
  rw [en] at hJ
  have hs1 : ∃ x : Sl, x.2.1 = 0 ∧ Sat h0 (sE x 1 (ints .i64 (C.s.erases.take 0)) :: blk n28 [x.v, .int .i64 0, .int .i64 fr, .int .i64 0, .int .i64 0] :: logE lg p :: blk n10 [.slice none 0 0, .int .i64 0, .int .i64 0, .int .i64 0, .int .i64 0] :: A) h3 := by
    refine ⟨(none, 0, 0), rfl, ?_⟩
    exact hs.sl_nil 1 none
  clear hs
  refine loop_up C.s.erases.length (fun n h => ∃ x : Sl, x.2.1 = n ∧ Sat h0 (sE x 1 (ints .i64 (C.s.erases.take n)) :: blk n28 [x.v, .int .i64 0, .int .i64 fr, .int .i64 0, .int .i64 0] :: logE lg p :: blk n10 [.slice none 0 0, .int .i64 0, .int .i64 0, .int .i64 0, .int .i64 0] :: A) h) ?_ ?_ 0 _ (by omega) hs1
  · rintro n h4 hn ⟨x, hx, hs⟩ hk
    apply hJ
    rw [ltI_eq, if_pos (by simp; omega)]
    refine Erases_sp hs ci.s.s.s.s (n : Int) ?_
    have ee : erasesM C (n : Int) = (C.s.erases.getD n 0, 0) := by unfold erasesM; rw [askedM_in ho (by omega) (by omega), if_neg (by simp), Int.toNat_natCast]
    rw [ee, if_neg (by simp)]
    refine ⟨_, _, _, Sat.ld hs (by (repeat (first | exact At.z | apply At.s))) (by rfl), ?_⟩
    intro n59 _ hn59; replace hs := Sat.new hs hn59; clear hn59
    refine ⟨_, Sat.bv hs .z (l := 1) rfl (ints_one .i64 [C.s.erases.getD n 0]), ?_⟩
    obtain ⟨xp, xl, xc⟩ := x
    dsimp only at hx hs ⊢
    subst hx
    refine Sat.app hs (i := 1) (vs := ints .i64 [C.s.erases.getD xl 0]) (.s .z) (by simp) rfl (ints_one _ _) (by dsimp only; omega) ?_
    intro p' c' h5 hs
    simp only [put] at hs
    (refine ⟨Sat.can hs (by (repeat (first | exact At.z | apply At.s))) (by simp), ?_⟩; intro _ e; replace hs := Sat.wr hs (by (repeat (first | exact At.z | apply At.s))) e; clear e; simp only [put, splice, List.set] at hs)
    rw [wrap_succ (by omega)]
    refine hk _ ⟨(p', xl + 1, c'), rfl, ?_⟩
    have e : ints .i64 (C.s.erases.take xl) ++ ints .i64 [C.s.erases.getD xl 0] = ints .i64 (C.s.erases.take (xl + 1)) := by
      rw [← take_snoc _ _ hn]; simp [ints]
    rw [e] at hs
    exact hs.drop
  rintro h4 ⟨x, hx, hs⟩
  rw [List.take_length] at hs
  apply hJ
  rw [ltI_eq, if_neg (by simp)]
  clear hJ J hs1
  have hx2 : 2 ≤ x.2.1 := by omega
  have ld : ∀ k : Nat, k < 2 → ∀ {A' : List Ent} {h' : H} {i : Nat}, Sat h0 A' h' → At A' i (sE x 1 (ints .i64 C.s.erases)) → ∃ q, x.1 = some q ∧ hc h' (q.add k) = some (.int .i64 (C.er k)) := by
    intro k hk A' h' i hs' hi
    exact hsv_int (hs'.sv hi) (x := k) (by omega)
  obtain ⟨q, hq, e0⟩ := ld 0 (by decide) hs .z
  obtain ⟨q1, hq1, e1⟩ := ld 1 (by decide) hs .z
  rw [hq] at hq1
  injection hq1 with hq1
  subst hq1
  rw [add_zero] at e0
  have bnd0 : (0 : Int) ≤ 0 ∧ (0 : Int) < (x.2.1 : Int) := by omega
  refine ⟨_, _, _, hs.ld (i := 1) (.s .z) rfl, _, hq, by omega, by omega, _, e0, _, _, _, hs.ld (i := 1) (.s .z) rfl, _, hq, by omega, by omega, _, e1, _, _, _, hs.ld (i := 1) (.s .z) rfl, _, hq, by omega, by omega, _, e0, _, _, _, hs.ld (i := 1) (.s .z) rfl, _, hq, by omega, by omega, _, e1, ?_⟩
  (refine ⟨Sat.can hs (by (repeat (first | exact At.z | apply At.s))) (by simp), ?_⟩; intro _ e; replace hs := Sat.wr hs (by (repeat (first | exact At.z | apply At.s))) e; clear e; simp only [put, splice, List.set] at hs)
  intro J hJ
  refine ⟨_, rfl, ?_⟩
  refine Present_sp hs ci.s.s.s.s (j := 2) (.s (.s .z)) ?_
  intro h5 hs
  have way : ∀ t : Nat, t = tgtM C → ∀ h', Sat h0 (sE x 1 (ints .i64 C.s.erases) :: blk n28 [x.v, .int .i64 (apartM C), .int .i64 fr, .int .i64 0, .int .i64 0] :: logE lg p :: blk n10 [.slice none 0 0, .int .i64 0, .int .i64 0, .int .i64 0, .int .i64 0] :: A) h' → J [.dv (.one (.int .i64 (t : Int)))] h' := by
    intro t ht h6 hs
    apply hJ
    have ht2 : t < 2 := by rw [ht]; unfold tgtM; split <;> omega
    obtain ⟨q, hq, e0⟩ := ld t ht2 hs .z
    refine ⟨_, _, _, hs.ld (i := 1) (.s .z) rfl, _, hq, by omega, by omega, _, by rw [Int.toNat_natCast, Nat.mul_one]; exact e0, ?_⟩
    refine left_sp hs ci.s.s.s.s ho ht2 (C.er t) ?_
    intro h7 hs
    rw [if_neg (by simp)]
    have ew : IntKind.i64.wrap (1 - (t : Int)) = ((1 - t : Nat) : Int) := by rw [wrap_id (by omega)]; omega
    rw [ew]
    obtain ⟨q, hq, e0⟩ := ld (1 - t) (by omega) hs .z
    refine ⟨_, _, _, hs.ld (i := 1) (.s .z) rfl, _, hq, by omega, by omega, _, by rw [Int.toNat_natCast, Nat.mul_one]; exact e0, ?_⟩
    refine left_sp hs ci.s.s.s.s ho (by omega) (C.er (1 - t)) ?_
    intro h8 hs
    rw [if_neg (by simp)]
    (refine ⟨Sat.can hs (by (repeat (first | exact At.z | apply At.s))) (by simp), ?_⟩; intro _ e; replace hs := Sat.wr hs (by (repeat (first | exact At.z | apply At.s))) e; clear e; simp only [put, splice, List.set] at hs)
    have hT : turnsM C = if leftM C (1 - t) (C.er (1 - t)) < leftM C t (C.er t) then IntKind.i64.wrap (IntKind.i64.wrap (2 * leftM C (1 - t) (C.er (1 - t))) + 1) else IntKind.i64.wrap (2 * leftM C t (C.er t)) := by rw [ht]; rfl
    have hL : wlaysM C = IntKind.i64.wrap (fr + IntKind.i64.wrap (turnsM C * wLaysM C.cfg)) := by rw [hfr2]; rfl
    rw [ltI_eq]
    by_cases g : leftM C (1 - t) (C.er (1 - t)) < leftM C t (C.er t)
    · rw [if_pos g] at hT
      rw [if_pos (by simpa using g)]
      (refine ⟨Sat.can hs (by (repeat (first | exact At.z | apply At.s))) (by simp), ?_⟩; intro _ e; replace hs := Sat.wr hs (by (repeat (first | exact At.z | apply At.s))) e; clear e; simp only [put, splice, List.set] at hs)
      rw [← hT] at hs
      (repeat first | refine ⟨_, Sat.ld hs (by (repeat (first | exact At.z | apply At.s))) (by rfl), ?_⟩ | refine ⟨_, _, _, Sat.ld hs (by (repeat (first | exact At.z | apply At.s))) (by rfl), ?_⟩ | (intro _ _ hn; replace hs := Sat.new hs hn; clear hn) | refine ⟨Sat.cs hs (by (repeat (first | exact At.z | apply At.s))) (by rfl), ?_⟩ | (refine ⟨Sat.can hs (by (repeat (first | exact At.z | apply At.s))) (by simp), ?_⟩; intro _ e; replace hs := Sat.wr hs (by (repeat (first | exact At.z | apply At.s))) e; clear e; simp only [put, splice, List.set] at hs) | refine ⟨_, rfl, ?_⟩)
      refine Config_sp hs ci.s.s.s.s ?_
      intro h9 hs
      (repeat first | refine ⟨_, Sat.ld hs (by (repeat (first | exact At.z | apply At.s))) (by rfl), ?_⟩ | refine ⟨_, _, _, Sat.ld hs (by (repeat (first | exact At.z | apply At.s))) (by rfl), ?_⟩ | (intro _ _ hn; replace hs := Sat.new hs hn; clear hn) | refine ⟨Sat.cs hs (by (repeat (first | exact At.z | apply At.s))) (by rfl), ?_⟩ | (refine ⟨Sat.can hs (by (repeat (first | exact At.z | apply At.s))) (by simp), ?_⟩; intro _ e; replace hs := Sat.wr hs (by (repeat (first | exact At.z | apply At.s))) e; clear e; simp only [put, splice, List.set] at hs) | refine ⟨_, rfl, ?_⟩)
      refine lays_sp C.cfg hs ?_
      intro h10 hs
      (repeat first | refine ⟨_, Sat.ld hs (by (repeat (first | exact At.z | apply At.s))) (by rfl), ?_⟩ | refine ⟨_, _, _, Sat.ld hs (by (repeat (first | exact At.z | apply At.s))) (by rfl), ?_⟩ | (intro _ _ hn; replace hs := Sat.new hs hn; clear hn) | refine ⟨Sat.cs hs (by (repeat (first | exact At.z | apply At.s))) (by rfl), ?_⟩ | (refine ⟨Sat.can hs (by (repeat (first | exact At.z | apply At.s))) (by simp), ?_⟩; intro _ e; replace hs := Sat.wr hs (by (repeat (first | exact At.z | apply At.s))) e; clear e; simp only [put, splice, List.set] at hs) | refine ⟨_, rfl, ?_⟩)
      rw [← hL] at hs ⊢
      refine k2 x _ ?_
      exact hs.sub (by (repeat (first | exact List.Sublist.refl _ | apply List.Sublist.cons_cons | apply List.Sublist.cons)))
    · rw [if_neg g] at hT
      rw [if_neg (by simpa using g)]
      rw [← hT] at hs
      (repeat first | refine ⟨_, Sat.ld hs (by (repeat (first | exact At.z | apply At.s))) (by rfl), ?_⟩ | refine ⟨_, _, _, Sat.ld hs (by (repeat (first | exact At.z | apply At.s))) (by rfl), ?_⟩ | (intro _ _ hn; replace hs := Sat.new hs hn; clear hn) | refine ⟨Sat.cs hs (by (repeat (first | exact At.z | apply At.s))) (by rfl), ?_⟩ | (refine ⟨Sat.can hs (by (repeat (first | exact At.z | apply At.s))) (by simp), ?_⟩; intro _ e; replace hs := Sat.wr hs (by (repeat (first | exact At.z | apply At.s))) e; clear e; simp only [put, splice, List.set] at hs) | refine ⟨_, rfl, ?_⟩)
      refine Config_sp hs ci.s.s.s.s ?_
      intro h9 hs
      (repeat first | refine ⟨_, Sat.ld hs (by (repeat (first | exact At.z | apply At.s))) (by rfl), ?_⟩ | refine ⟨_, _, _, Sat.ld hs (by (repeat (first | exact At.z | apply At.s))) (by rfl), ?_⟩ | (intro _ _ hn; replace hs := Sat.new hs hn; clear hn) | refine ⟨Sat.cs hs (by (repeat (first | exact At.z | apply At.s))) (by rfl), ?_⟩ | (refine ⟨Sat.can hs (by (repeat (first | exact At.z | apply At.s))) (by simp), ?_⟩; intro _ e; replace hs := Sat.wr hs (by (repeat (first | exact At.z | apply At.s))) e; clear e; simp only [put, splice, List.set] at hs) | refine ⟨_, rfl, ?_⟩)
      refine lays_sp C.cfg hs ?_
      intro h10 hs
      (repeat first | refine ⟨_, Sat.ld hs (by (repeat (first | exact At.z | apply At.s))) (by rfl), ?_⟩ | refine ⟨_, _, _, Sat.ld hs (by (repeat (first | exact At.z | apply At.s))) (by rfl), ?_⟩ | (intro _ _ hn; replace hs := Sat.new hs hn; clear hn) | refine ⟨Sat.cs hs (by (repeat (first | exact At.z | apply At.s))) (by rfl), ?_⟩ | (refine ⟨Sat.can hs (by (repeat (first | exact At.z | apply At.s))) (by simp), ?_⟩; intro _ e; replace hs := Sat.wr hs (by (repeat (first | exact At.z | apply At.s))) e; clear e; simp only [put, splice, List.set] at hs) | refine ⟨_, rfl, ?_⟩)
      rw [← hL] at hs ⊢
      refine k2 x _ ?_
      exact hs.sub (by (repeat (first | exact List.Sublist.refl _ | apply List.Sublist.cons_cons | apply List.Sublist.cons)))
  have hp : presT C = presM C := by unfold presT; rw [if_neg (by simp [ho])]
  rw [hp]
  by_cases g : presM C = 0
  · rw [if_pos (by simpa using g)]
    exact way 1 (by unfold tgtM; rw [if_pos g]) _ hs
  · rw [if_neg (by simpa using g)]
    exact way 0 (by unfold tgtM; rw [if_neg g]) _ hs
end
end Go.Proofs.Ytamfkofcpoglnaa
end

/- The state of the program's chip held against the document's, in one step. Own work. -/
section
set_option maxRecDepth 100000
set_option linter.unusedVariables false
namespace Go.Proofs.Ytamfkofcpoglnaa
open Go Go.Vc

theorem at_del {A : List Ent} {i j : Nat} {e : Ent} (a : At A i e) (hj : i ≠ j) : ∃ k, At (del A j) k e := by
  induction a generalizing j with
  | z => cases j with
    | zero => exact absurd rfl hj
    | succ j => exact ⟨0, .z⟩
  | s q ih => cases j with
    | zero => exact ⟨_, q⟩
    | succ j =>
      obtain ⟨k, hk⟩ := ih (j := j) (by omega)
      exact ⟨k + 1, .s hk⟩
theorem at_inj {A : List Ent} {i : Nat} {e e' : Ent} (a : At A i e) (b : At A i e') : e = e' := by
  induction a with
  | z => cases b; rfl
  | s _ ih => cases b with | s b => exact ih b
section
variable {h0 h : H} {A : List Ent} {i j p r : Nat} {C C' : Cm}
theorem chip_refE_ne (ci : At A i (chipE p C)) (cj : At A j (refE r C')) : i ≠ j := by
  intro e
  subst e
  have := congrArg Ent.tag (at_inj ci cj)
  have e2 : Tag.of 2 = Tag.of 4 := this
  injection e2 with e2
  cases e2
theorem stateSame_sp {K : Bool → H → Prop} (hs : Sat h0 A h) (ci : At A i (chipE p C)) (cj : At A j (refE r C)) (k : ∀ h', Sat h0 A h' → K true h') :
    ∃ (o1 : Option Addr) (n1 c1 : Nat), hc h ⟨r, 7, none⟩ = some (.slice o1 n1 c1) ∧ ∃ (o2 : Option Addr) (n2 c2 : Nat), hc h ⟨r, 8, none⟩ = some (.slice o2 n2 c2) ∧ ∃ (o3 : Option Addr) (n3 c3 : Nat), hc h ⟨r, 9, none⟩ = some (.slice o3 n3 c3) ∧
      F_chip_Chip_State ⟨p, 0, none⟩ (fun a1 a2 a3 b1 b2 b3 d1 d2 d3 h1 => hcs h1 ⟨r, 7, none⟩ [.slice o1 n1 c1, .slice o2 n2 c2, .slice o3 n3 c3] ∧ F_portcullisref04_SameState a1 a2 a3 b1 b2 b3 d1 d2 d3 o1 n1 c1 o2 n2 c2 o3 n3 c3 (fun b h2 => K b h2) h1) h := by
  obtain ⟨i', ci'⟩ := at_del ci (chip_refE_ne ci cj)
  have ok := chip_ok hs ci
  have sm := ok.small
  have smp := sm.pages; have sme := sm.erases; have smb := sm.blown
  have smr : ∀ l, l ∈ C.s.pages → l.length < 2 ^ 62 := fun l hl => by have := sm.rows l hl; omega
  obtain ⟨⟨w, ms⟩, hw, hs⟩ := (hs.front cj).open_
  replace hs : Sat h0 (blk r (C.cells w.a w.b w.c w.m) :: matE 32 w.a C.s.pages :: sE w.b 1 (ints .i64 C.s.erases) :: sE w.c 1 (bools C.s.blown) :: sE w.m 1 (ints .u8 ms) :: del A j) _ := hs
  refine ⟨_, _, _, hs.ld .z rfl, _, _, _, hs.ld .z rfl, _, _, _, hs.ld .z rfl, ?_⟩
  refine State_sp hs (i := i' + 5) ci'.s.s.s.s.s ?_
  intro a1 b1 d1 h1 hs
  replace hs : Sat h0 (matE 32 a1 C.s.pages :: sE b1 1 (ints .i64 C.s.erases) :: sE d1 1 (bools C.s.blown) :: blk r (C.cells w.a w.b w.c w.m) :: matE 32 w.a C.s.pages :: sE w.b 1 (ints .i64 C.s.erases) :: sE w.c 1 (bools C.s.blown) :: sE w.m 1 (ints .u8 ms) :: del A j) _ := hs
  refine ⟨Sat.cs hs (i := 3) (by (repeat (first | exact At.z | apply At.s))) rfl, ?_⟩
  refine SameState_sp (a := a1) (b := b1) (c := d1) (a2 := w.a) (b2 := w.b) (c2 := w.c) (s := C.s) hs
    (fun h' hs' => sat_rdS hs' (i := 0) (j := 1) (k := 2) (by (repeat (first | exact At.z | apply At.s))) (by (repeat (first | exact At.z | apply At.s))) (by (repeat (first | exact At.z | apply At.s)))) (fun h' hs' => sat_rdS hs' (i := 4) (j := 5) (k := 6) (by (repeat (first | exact At.z | apply At.s))) (by (repeat (first | exact At.z | apply At.s))) (by (repeat (first | exact At.z | apply At.s)))) (by omega) (by omega) (by omega) smr ?_
  intro h2 hs
  refine k _ ?_
  have hs2 : Sat h0 (refL r C (w, ms) ++ del A j) h2 := hs.drop.drop.drop
  have : Sat h0 (put A j (refE r C)) h2 := Sat.back cj (Sat.close (n := 4) (φ := RefW C) (F := refL r C) (w, ms) hw hs2)
  rw [cj.put_self] at this
  exact this
end
end Go.Proofs.Ytamfkofcpoglnaa
end

/- Wear: the document's report; the statements of layer 20. Own work. -/
section
set_option maxRecDepth 100000
set_option linter.unusedVariables false
namespace Go.Proofs.Ytamfkofcpoglnaa
open Go Go.Vc

section
variable {h0 h : H} {A : List Ent} {i j p r l b : Nat} {C : Cm}
theorem apart_ref {a b : Int} (ha : 0 ≤ a ∧ a < 2 ^ 63) (hb : 0 ≤ b ∧ b < 2 ^ 63) : (if IntKind.i64.wrap (a - b) < 0 then IntKind.i64.wrap (0 - IntKind.i64.wrap (a - b)) else IntKind.i64.wrap (a - b)) = IntKind.i64.wrap ((if b > a then b else a) - (if b < a then b else a)) := by
  have e1 : IntKind.i64.wrap (a - b) = a - b := by rw [IntKind.wrap_i64]; omega
  rw [e1]
  have e2 : IntKind.i64.wrap (0 - (a - b)) = b - a := by rw [IntKind.wrap_i64]; omega
  rw [e2]
  (repeat' split) <;> first | omega | (rw [IntKind.wrap_i64]; omega)
def posE (C : Cm) : Prop := ∀ k, 0 ≤ C.er k ∧ C.er k < 2 ^ 63
theorem rOf20_sp {Q : Option Addr → Nat → Nat → Int → Int → Int → Int → Int → H → Prop} (hs : Sat h0 A h) (cj : At A j (refE r C)) (ho : C.out = false) (hpos : posE C)
    (k2 : ∀ (x : Sl) h', Sat h0 (sE x 1 (ints .i64 C.s.erases) :: A) h' → Q x.1 x.2.1 x.2.2 (apartM C) (freeT C) (turnsM C) (wlaysM C) 0 h') : F_portcullisref20_Of ⟨r, 0, none⟩ Q h := by
  unfold F_portcullisref20_Of G_portcullisref20_Of
  simp only [add_mk, Nat.zero_add]
  have ok := ref_ok hs cj
  obtain ⟨hp2, he2⟩ := ok_pages ok
  have sm := ok.small
  intro n7 _ hn; replace hs := Sat.new hs hn; clear hn
  obtain ⟨w, lc⟩ := ref_cell hs cj.s
  refine ⟨_, lc 11 _ rfl, ?_⟩
  rw [if_neg (by simp [ho])]
  intro n20 _ hn; replace hs := Sat.new hs hn; clear hn
  obtain ⟨w, _, lc, _, er⟩ := ref_all hs cj.s.s
  have le : C.s.erases.length = w.b.2.1 := by have := er.1; simpa using this
  refine ⟨_, _, _, lc 8 _ rfl, _, er, ?_⟩
  have sme := sm.erases
  refine Sat.app_new hs (by simp [le]) rfl (ints_one _ _) (by omega) ?_
  intro o c h1 hs
  replace hs : Sat h0 (sE (o, w.b.2.1, c) 1 (ints .i64 C.s.erases) :: blk n20 [] :: blk n7 [.slice none 0 0, .int .i64 0, .int .i64 0, .int .i64 0, .int .i64 0] :: A) h1 := hs
  obtain ⟨x, hx⟩ : ∃ x : Sl, x = (o, w.b.2.1, c) := ⟨_, rfl⟩
  have ex1 : o = x.1 := by rw [hx]
  have ex2 : w.b.2.1 = x.2.1 := by rw [hx]
  have ex3 : c = x.2.2 := by rw [hx]
  rw [← hx] at hs
  rw [ex1, ex2, ex3]
  rw [ex2] at le
  clear lc er hx ex1 ex2 ex3
  refine rFree_sp hs cj.s.s.s ?_
  intro h2 hs
  intro n33 _ hn; replace hs := Sat.new hs hn; clear hn
  (refine ⟨Sat.can hs (by (repeat (first | exact At.z | apply At.s))) (by simp), ?_⟩; intro _ e; replace hs := Sat.wr hs (by (repeat (first | exact At.z | apply At.s))) e; clear e; simp only [put, splice, List.set] at hs)
  obtain ⟨w, _, lc, _, er⟩ := ref_all hs cj.s.s.s.s
  have le2 : C.s.erases.length = w.b.2.1 := by have := er.1; simpa using this
  obtain ⟨q0, hq0, g0⟩ := hsv_int er (x := 0) (by omega)
  obtain ⟨q1, hq1, g1⟩ := hsv_int er (x := 1) (by omega)
  rw [add_zero] at g0
  refine ⟨_, _, _, lc 8 _ rfl, _, hq0, by omega, by omega, _, g0, _, _, _, lc 8 _ rfl, _, hq1, by omega, by omega, _, g1, ?_⟩
  (refine ⟨Sat.can hs (by (repeat (first | exact At.z | apply At.s))) (by simp), ?_⟩; intro _ e; replace hs := Sat.wr hs (by (repeat (first | exact At.z | apply At.s))) e; clear e; simp only [put, splice, List.set] at hs)
  intro J50 hJ50
  have way : ∀ h', Sat h0 (blk n33 [x.v, .int .i64 (apartM C), .int .i64 (freeT C), .int .i64 0, .int .i64 0] :: sE x 1 (ints .i64 C.s.erases) :: blk n20 [] :: blk n7 [.slice none 0 0, .int .i64 0, .int .i64 0, .int .i64 0, .int .i64 0] :: A) h' → J50 [] h' := by
    intro h3 hs
    apply hJ50
    clear hJ50 J50
    intro J hJ
    refine rPresent_sp hs cj.s.s.s.s ?_
    intro h4 hs
    have way2 : ∀ t : Nat, t = tgtM C → ∀ h', Sat h0 (blk n33 [x.v, .int .i64 (apartM C), .int .i64 (freeT C), .int .i64 0, .int .i64 0] :: sE x 1 (ints .i64 C.s.erases) :: blk n20 [] :: blk n7 [.slice none 0 0, .int .i64 0, .int .i64 0, .int .i64 0, .int .i64 0] :: A) h' → J [.dv (.one (.int .i64 (t : Int)))] h' := by
      intro t ht h6 hs
      apply hJ
      have ht2 : t < 2 := by rw [ht]; unfold tgtM; split <;> omega
      refine rleft_sp hs cj.s.s.s.s ht2 ?_
      intro h7 hs
      have ew : IntKind.i64.wrap (1 - (t : Int)) = ((1 - t : Nat) : Int) := by rw [wrap_id (by omega)]; omega
      rw [ew]
      refine rleft_sp hs cj.s.s.s.s (by omega) ?_
      intro h8 hs
      (refine ⟨Sat.can hs (by (repeat (first | exact At.z | apply At.s))) (by simp), ?_⟩; intro _ e; replace hs := Sat.wr hs (by (repeat (first | exact At.z | apply At.s))) e; clear e; simp only [put, splice, List.set] at hs)
      have hT : turnsM C = if leftM C (1 - t) (C.er (1 - t)) < leftM C t (C.er t) then IntKind.i64.wrap (IntKind.i64.wrap (2 * leftM C (1 - t) (C.er (1 - t))) + 1) else IntKind.i64.wrap (2 * leftM C t (C.er t)) := by rw [ht]; rfl
      have hL : wlaysM C = IntKind.i64.wrap (freeT C + IntKind.i64.wrap (turnsM C * wLaysM C.cfg)) := rfl
      rw [ltI_eq]
      by_cases g : leftM C (1 - t) (C.er (1 - t)) < leftM C t (C.er t)
      · rw [if_pos g] at hT
        rw [if_pos (by simpa using g)]
        (refine ⟨Sat.can hs (by (repeat (first | exact At.z | apply At.s))) (by simp), ?_⟩; intro _ e; replace hs := Sat.wr hs (by (repeat (first | exact At.z | apply At.s))) e; clear e; simp only [put, splice, List.set] at hs)
        rw [← hT] at hs
        refine ⟨_, Sat.ld hs (by (repeat (first | exact At.z | apply At.s))) (by rfl), ?_⟩
        refine ⟨_, Sat.ld hs (by (repeat (first | exact At.z | apply At.s))) (by rfl), ?_⟩
        obtain ⟨w, lc⟩ := ref_cell hs cj.s.s.s.s
        refine ⟨_, lc 0 _ rfl, _, lc 1 _ rfl, _, lc 2 _ rfl, _, lc 3 _ rfl, _, lc 4 _ rfl, _, lc 5 _ rfl, _, lc 6 _ rfl, ?_⟩
        refine rlays_sp C.cfg hs ?_
        intro h10 hs
        (repeat first | refine ⟨_, Sat.ld hs (by (repeat (first | exact At.z | apply At.s))) (by rfl), ?_⟩ | refine ⟨_, _, _, Sat.ld hs (by (repeat (first | exact At.z | apply At.s))) (by rfl), ?_⟩ | (intro _ _ hn; replace hs := Sat.new hs hn; clear hn) | refine ⟨Sat.cs hs (by (repeat (first | exact At.z | apply At.s))) (by rfl), ?_⟩ | (refine ⟨Sat.can hs (by (repeat (first | exact At.z | apply At.s))) (by simp), ?_⟩; intro _ e; replace hs := Sat.wr hs (by (repeat (first | exact At.z | apply At.s))) e; clear e; simp only [put, splice, List.set] at hs) | refine ⟨_, rfl, ?_⟩)
        rw [← hL] at hs ⊢
        refine k2 x _ ?_
        exact hs.sub (by (repeat (first | exact List.Sublist.refl _ | apply List.Sublist.cons_cons | apply List.Sublist.cons)))
      · rw [if_neg g] at hT
        rw [if_neg (by simpa using g)]
        rw [← hT] at hs
        refine ⟨_, Sat.ld hs (by (repeat (first | exact At.z | apply At.s))) (by rfl), ?_⟩
        refine ⟨_, Sat.ld hs (by (repeat (first | exact At.z | apply At.s))) (by rfl), ?_⟩
        obtain ⟨w, lc⟩ := ref_cell hs cj.s.s.s.s
        refine ⟨_, lc 0 _ rfl, _, lc 1 _ rfl, _, lc 2 _ rfl, _, lc 3 _ rfl, _, lc 4 _ rfl, _, lc 5 _ rfl, _, lc 6 _ rfl, ?_⟩
        refine rlays_sp C.cfg hs ?_
        intro h10 hs
        (repeat first | refine ⟨_, Sat.ld hs (by (repeat (first | exact At.z | apply At.s))) (by rfl), ?_⟩ | refine ⟨_, _, _, Sat.ld hs (by (repeat (first | exact At.z | apply At.s))) (by rfl), ?_⟩ | (intro _ _ hn; replace hs := Sat.new hs hn; clear hn) | refine ⟨Sat.cs hs (by (repeat (first | exact At.z | apply At.s))) (by rfl), ?_⟩ | (refine ⟨Sat.can hs (by (repeat (first | exact At.z | apply At.s))) (by simp), ?_⟩; intro _ e; replace hs := Sat.wr hs (by (repeat (first | exact At.z | apply At.s))) e; clear e; simp only [put, splice, List.set] at hs) | refine ⟨_, rfl, ?_⟩)
        rw [← hL] at hs ⊢
        refine k2 x _ ?_
        exact hs.sub (by (repeat (first | exact List.Sublist.refl _ | apply List.Sublist.cons_cons | apply List.Sublist.cons)))
    have hp : presT C = presM C := by unfold presT; rw [if_neg (by simp [ho])]
    rw [hp]
    by_cases g : presM C = 0
    · rw [if_pos (by simpa using g)]
      exact way2 1 (by unfold tgtM; rw [if_pos g]) _ hs
    · rw [if_neg (by simpa using g)]
      exact way2 0 (by unfold tgtM; rw [if_neg g]) _ hs
  have ha := apart_ref (hpos 0) (hpos 1)
  replace ha : (if IntKind.i64.wrap (C.er 0 - C.er 1) < 0 then IntKind.i64.wrap (0 - IntKind.i64.wrap (C.er 0 - C.er 1)) else IntKind.i64.wrap (C.er 0 - C.er 1)) = apartM C := ha
  replace hs : Sat h0 (blk n33 [x.v, .int .i64 (IntKind.i64.wrap (C.er 0 - C.er 1)), .int .i64 (freeT C), .int .i64 0, .int .i64 0] :: sE x 1 (ints .i64 C.s.erases) :: blk n20 [] :: blk n7 [.slice none 0 0, .int .i64 0, .int .i64 0, .int .i64 0, .int .i64 0] :: A) _ := hs
  refine ⟨_, Sat.ld hs (by (repeat (first | exact At.z | apply At.s))) (by rfl), ?_⟩
  rw [ltI_eq]
  by_cases g : IntKind.i64.wrap (C.er 0 - C.er 1) < 0
  · rw [if_pos (by simpa using g)]
    rw [if_pos g] at ha
    refine ⟨_, Sat.ld hs (by (repeat (first | exact At.z | apply At.s))) (by rfl), ?_⟩
    (refine ⟨Sat.can hs (by (repeat (first | exact At.z | apply At.s))) (by simp), ?_⟩; intro _ e; replace hs := Sat.wr hs (by (repeat (first | exact At.z | apply At.s))) e; clear e; simp only [put, splice, List.set] at hs)
    rw [ha] at hs
    exact way _ hs
  · rw [if_neg (by simpa using g)]
    rw [if_neg g] at ha
    rw [ha] at hs
    exact way _ hs
theorem same20_sp {Q : Bool → H → Prop} {x y : Sl} {ns : List Int} {a f t l : Int} (hs : Sat h0 A h) (rx : ∀ h', Sat h0 A h' → hsv h' x.1 1 x.2.1 (ints .i64 ns)) (ry : ∀ h', Sat h0 A h' → hsv h' y.1 1 y.2.1 (ints .i64 ns)) (hn : ns.length < 2 ^ 60)
    (k : ∀ h', Sat h0 A h' → Q true h') : F_portcullislaw20_same x.1 x.2.1 x.2.2 a f t l y.1 y.2.1 y.2.2 a f t l Q h := by
  unfold F_portcullislaw20_same G_portcullislaw20_same
  simp only [add_mk, Nat.zero_add]
  have lx : ns.length = x.2.1 := by have := (rx _ hs).1; simpa using this
  have ly : ns.length = y.2.1 := by have := (ry _ hs).1; simpa using this
  intro n16 _ hn1; replace hs := Sat.new hs hn1; clear hn1
  intro n19 _ hn1; replace hs := Sat.new hs hn1; clear hn1
  intro J hJ
  refine ⟨_, _, _, Sat.ld hs (by (repeat (first | exact At.z | apply At.s))) (by rfl), ?_⟩
  refine ⟨_, _, _, Sat.ld hs (by (repeat (first | exact At.z | apply At.s))) (by rfl), ?_⟩
  rw [if_neg (by simp; omega)]
  refine ⟨_, Sat.ld hs (by (repeat (first | exact At.z | apply At.s))) (by rfl), ?_⟩
  refine ⟨_, Sat.ld hs (by (repeat (first | exact At.z | apply At.s))) (by rfl), ?_⟩
  rw [if_neg (by simp)]
  refine ⟨_, Sat.ld hs (by (repeat (first | exact At.z | apply At.s))) (by rfl), ?_⟩
  refine ⟨_, Sat.ld hs (by (repeat (first | exact At.z | apply At.s))) (by rfl), ?_⟩
  rw [if_neg (by simp)]
  refine ⟨_, Sat.ld hs (by (repeat (first | exact At.z | apply At.s))) (by rfl), ?_⟩
  refine ⟨_, Sat.ld hs (by (repeat (first | exact At.z | apply At.s))) (by rfl), ?_⟩
  rw [if_neg (by simp)]
  refine ⟨_, Sat.ld hs (by (repeat (first | exact At.z | apply At.s))) (by rfl), ?_⟩
  refine ⟨_, Sat.ld hs (by (repeat (first | exact At.z | apply At.s))) (by rfl), ?_⟩
  rw [if_neg (by simp)]
  apply hJ
  clear hJ J
  intro J hJ
  refine loop_up ns.length (fun _ h => Sat h0 (blk n19 [y.v, .int .i64 a, .int .i64 f, .int .i64 t, .int .i64 l] :: blk n16 [x.v, .int .i64 a, .int .i64 f, .int .i64 t, .int .i64 l] :: A) h) ?_ ?_ 0 _ (by omega) hs
  · intro n h1 hn2 hs hk
    apply hJ
    refine ⟨_, _, _, Sat.ld hs (by (repeat (first | exact At.z | apply At.s))) (by rfl), ?_⟩
    rw [ltI_eq, if_pos (by simp; omega)]
    obtain ⟨q1, hq1, g1⟩ := hsv_int (rx _ hs.drop.drop) (x := n) (by omega)
    obtain ⟨q2, hq2, g2⟩ := hsv_int (ry _ hs.drop.drop) (x := n) (by omega)
    refine ⟨_, _, _, Sat.ld hs (by (repeat (first | exact At.z | apply At.s))) (by rfl), ?_⟩
    refine ⟨_, hq1, by omega, by omega, _, by rw [Int.toNat_natCast, Nat.mul_one]; exact g1, ?_⟩
    refine ⟨_, _, _, Sat.ld hs (by (repeat (first | exact At.z | apply At.s))) (by rfl), ?_⟩
    refine ⟨_, hq2, by omega, by omega, _, by rw [Int.toNat_natCast, Nat.mul_one]; exact g2, ?_⟩
    rw [if_neg (by simp), wrap_succ (by omega)]
    exact hk _ hs
  · intro h1 hs
    apply hJ
    refine ⟨_, _, _, Sat.ld hs (by (repeat (first | exact At.z | apply At.s))) (by rfl), ?_⟩
    rw [ltI_eq, if_neg (by simp; omega)]
    exact k _ hs.drop.drop
theorem small20_sp {Q : Int → Int → Int → Int → Int → Int → Int → H → Prop} (hs : Sat h0 A h) (k : ∀ h', Sat h0 A h' → Q 6 2 4 10 1 3 1 h') : F_portcullislaw20_small Q h := by
  unfold F_portcullislaw20_small G_portcullislaw20_small
  simp only [add_mk, Nat.zero_add]
  (repeat first | refine ⟨_, Sat.ld hs (by (repeat (first | exact At.z | apply At.s))) (by rfl), ?_⟩ | refine ⟨_, _, _, Sat.ld hs (by (repeat (first | exact At.z | apply At.s))) (by rfl), ?_⟩ | (intro _ _ hn; replace hs := Sat.new hs hn; clear hn) | refine ⟨Sat.cs hs (by (repeat (first | exact At.z | apply At.s))) (by rfl), ?_⟩ | (refine ⟨Sat.can hs (by (repeat (first | exact At.z | apply At.s))) (by simp), ?_⟩; intro _ e; replace hs := Sat.wr hs (by (repeat (first | exact At.z | apply At.s))) e; clear e; simp only [put, splice, List.set] at hs) | refine ⟨_, rfl, ?_⟩)
  exact k _ hs.drop
abbrev cfg20 : Cfg := ⟨6, 2, 4, 10, 1, 3, 1⟩
theorem fix20 : turnsM (freshC cfg20) = 8 ∧ wlaysM (freshC cfg20) = 24 ∧ (freshC cfg20).s.erases.length = 4 ∧ budgM cfg20 1 = 18 ∧ actsM cfg20 2 = 9 := by decide +kernel
theorem fixed20_sp {Q : Bool → H → Prop} (hs : Sat h0 A h) (k : ∀ h', Sat h0 A h' → Q true h') : F_portcullislaw20_fixed Q h := by
  unfold F_portcullislaw20_fixed G_portcullislaw20_fixed
  simp only [add_mk, Nat.zero_add]
  obtain ⟨f1, f2, f3, f4, f5⟩ := fix20
  refine small20_sp hs ?_
  intro h1 hs
  refine New_sp cfg20 hs (fun nm => absurd (show cfg20.may by decide) nm) ?_
  intro _ p h2 hs
  intro J hJ
  rw [if_neg (by simp), if_neg (by simp)]
  apply hJ
  have ho : (freshC cfg20).out = false := rfl
  generalize freshC cfg20 = C at *
  refine ⟨_, rfl, ?_⟩
  refine wOf_sp hs .z (fun y => by rw [ho] at y; cases y) ?_
  intro _ x h3 hs
  have lx := (hs.sv .z).1
  rw [ints_length, f3] at lx
  have lx2 : x.2.1 = 4 := by omega
  rw [f1, f2]
  intro n30 _ hn; replace hs := Sat.new hs hn; clear hn
  (refine ⟨Sat.can hs (by (repeat (first | exact At.z | apply At.s))) (by simp), ?_⟩; intro _ e; replace hs := Sat.wr hs (by (repeat (first | exact At.z | apply At.s))) e; clear e; simp only [put, splice, List.set] at hs)
  rw [if_pos (by decide)]
  refine ⟨_, Sat.ld hs (by (repeat (first | exact At.z | apply At.s))) (by rfl), ?_⟩
  rw [if_pos (by decide)]
  refine ⟨_, Sat.ld hs (by (repeat (first | exact At.z | apply At.s))) (by rfl), ?_⟩
  rw [if_pos (by decide)]
  refine ⟨_, _, _, Sat.ld hs (by (repeat (first | exact At.z | apply At.s))) (by rfl), ?_⟩
  rw [if_pos (by simp [lx2])]
  refine small20_sp hs ?_
  intro h4 hs
  refine Budget_sp cfg20 1 hs ?_
  intro h5 hs
  rw [f4, if_pos (by decide)]
  refine small20_sp hs ?_
  intro h6 hs
  refine Acts20_sp cfg20 2 hs ?_
  intro h7 hs
  rw [f5]
  exact k _ hs.drop.drop.drop
end
end Go.Proofs.Ytamfkofcpoglnaa
end
