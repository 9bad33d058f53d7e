/- TokenNarrows: what is proved and its parts, laid together by a program of ours: Pg5 Pg6 Ar1 Ar2 Ar3 Ar8 Lg1 Ly1 Lg2 Ly2 Ar9 Lw1 Lw2 Lw3 St1 Ly3 St4 Tq2 Tq3 Tq4 Av Tq5 Aw -/
import Derived.Test.YtaglicdidpgkpaaGreatDoorK13
set_option autoImplicit false
set_option linter.all false
/- PageHalf: rows after a cut act; soundness of rows. Own work. -/
section
set_option maxRecDepth 100000
set_option linter.unusedVariables false
namespace Go.Proofs.YtaglicdidpgkpaaGreatDoor
open Go Go.Vc

theorem ext_getD {x y : List Int} (h : x.length = y.length) (e : ∀ i, i < x.length → x.getD i 0 = y.getD i 0) : x = y := by
 apply List.ext_getElem h
 intro i h1 h2
 have := e i h1
 rw [List.getD_eq_getElem?_getD, List.getD_eq_getElem?_getD, List.getElem?_eq_getElem h1, List.getElem?_eq_getElem h2] at this
 exact this
theorem cellAt_getD (row : List Int) (k i : Nat) (hi : i < 32) : (cellAt row k).getD i 0 = row.getD (k * 32 + i) 0 := by
 rw [List.getD_eq_getElem?_getD, cellAt_get row k i hi, List.getD_eq_getElem?_getD]
theorem mapTo_getD (g : Nat → Int → Int) (n : Nat) (ns : List Int) (j : Nat) (hj : j < ns.length) (hn : j < n) : (mapTo g n ns).getD j 0 = g j (ns.getD j 0) := by
 rw [List.getD_eq_getElem?_getD, mapTo_get, List.getElem?_eq_getElem hj]
 simp [hn, List.getD, List.getElem?_eq_getElem hj]
theorem rowSet_same {row c : List Int} {k : Nat} (hk : (k + 1) * 32 ≤ row.length) (hc : c.length = 32) : cellAt (rowSet row k c) k = c := by
 unfold cellAt rowSet
 rw [List.append_assoc, List.drop_append_of_le_length (by simp; omega), List.drop_eq_nil_of_le (by simp; omega), List.nil_append, List.take_append_of_le_length (by omega), List.take_of_length_le (by omega)]
theorem rowSet_getD {row c : List Int} {k q : Nat} (hk : (k + 1) * 32 ≤ row.length) (hc : c.length = 32) (hq : q < k * 32 ∨ k * 32 + 32 ≤ q) : (rowSet row k c).getD q 0 = row.getD q 0 := by
 unfold rowSet
 rw [List.getD_eq_getElem?_getD, List.getD_eq_getElem?_getD]
 congr 1
 rcases hq with hq | hq
 ·rw [List.append_assoc, List.getElem?_append_left (by simp; omega), List.getElem?_take, if_pos hq]
 ·rw [List.getElem?_append_right (by simp; omega), List.getElem?_drop]
  congr 1
  simp; omega
theorem rowSet_other {row c : List Int} {k j : Nat} (hk : (k + 1) * 32 ≤ row.length) (hj : (j + 1) * 32 ≤ row.length) (hc : c.length = 32) (h : j ≠ k) : cellAt (rowSet row k c) j = cellAt row j := by
 have l1 : (cellAt (rowSet row k c) j).length = 32 := cellAt_length (by rw [rowSet_length hk hc]; exact hj)
 have l2 : (cellAt row j).length = 32 := cellAt_length hj
 refine ext_getD (l1.trans l2.symm) fun i hi => ?_
 rw [l1] at hi
 rw [cellAt_getD _ _ _ hi, cellAt_getD _ _ _ hi, rowSet_getD hk hc (by omega)]
theorem prog_getD (x : List Int) (f : Nat → Int) (i : Nat) (hi : i < 32) : (progCell blankCell x f).getD i 0 = bits .andNot .u8 255 (bits .andNot .u8 (f i) (x.getD i 0)) := by
 unfold progCell
 rw [mapTo_getD _ _ _ _ (by simpa [blankCell] using hi) hi]
 have : blankCell.getD i 0 = 255 := by
  unfold blankCell
  rw [List.getD_eq_getElem?_getD, List.getElem?_replicate, if_pos hi]; rfl
 rw [this]
theorem progCell_length (old x : List Int) (f : Nat → Int) (h : old.length = 32) : (progCell old x f).length = 32 := by
 unfold progCell mapTo; simpa using h
section
variable {h0 h : H} {A : List Ent} {i j p r b : Nat} {C : Cm}
end
end Go.Proofs.YtaglicdidpgkpaaGreatDoor
end

/- Contracts of the pages' statements: PageHalf. Own work. -/
section
set_option maxRecDepth 100000
set_option linter.unusedVariables false
namespace Go.Proofs.YtaglicdidpgkpaaGreatDoor
open Go Go.Vc

structure Half (c : Cfg) (s : St) (pg : Nat) (row : List Int) (l : Nat) (D E : Cm) : Prop where
 dc : D.cfg = c
 ec : E.cfg = c
 eo : E.out = false
 dp : D.s.pages.length = s.pages.length
 ep : E.s.pages.length = s.pages.length
 ds : soundM (D.s.pages.getD pg []) l
 z : ∃ z, (z = row ∨ z = E.s.pages.getD pg []) ∧ (∀ k, k < l → bytesOk (cellAt z k)) ∧
  ∀ k, k < l → (recM (cellAt (D.s.pages.getD pg []) k)).1 = 0 ∨ (recM (cellAt (D.s.pages.getD pg []) k)).1 = 3 ∨ recM (cellAt (D.s.pages.getD pg []) k) = recM (cellAt z k)
section
variable {c : Cfg} {s : St} {C0 : Cm} {pg : Int} {row : List Int} {l : Nat}
end
section
variable {h0 h : H} {A : List Ent} {i j p r b : Nat} {C : Cm}
end
end Go.Proofs.YtaglicdidpgkpaaGreatDoor
end

/- Contracts of areas: sizes, places, what is used, Worn. Own work. -/
section
set_option maxRecDepth 100000
set_option linter.unusedVariables false
namespace Go.Proofs.YtaglicdidpgkpaaGreatDoor
open Go Go.Vc

section
variable {h0 h : H} {A : List Ent} {i j p r b : Nat} {C : Cm}
def usedP (C : Cm) (page : Int) (l : Nat) : Prop := ∃ n, n < l ∧ (readM C page n).2 = 0 ∧ (readM C page n).1 ≠ ffs
instance (C : Cm) (page : Int) (l : Nat) : Decidable (usedP C page l) := by unfold usedP; infer_instance
def usedM (C : Cm) (page : Int) : Bool := decide (usedP C page C.cfg.cells.toNat)
def wornP (C : Cm) (ar : Int) (l : Nat) : Prop := ∃ n : Nat, n < l ∧ (erasesM C (2 + ar * C.cfg.area + n)).2 = 0 ∧ C.cfg.erases ≤ (erasesM C (2 + ar * C.cfg.area + n)).1 ∧ usedM C (2 + ar * C.cfg.area + n) = true
instance (C : Cm) (ar : Int) (l : Nat) : Decidable (wornP C ar l) := by unfold wornP; infer_instance
end
end Go.Proofs.YtaglicdidpgkpaaGreatDoor
end

/- Contracts of the document's areas: blank, Worn; what is filled. Own work. -/
section
set_option maxRecDepth 100000
set_option linter.unusedVariables false
namespace Go.Proofs.YtaglicdidpgkpaaGreatDoor
open Go Go.Vc

def blankP (row : List Int) (l : Nat) : Prop := ∀ n, n < l → cellAt row n = ffs
instance (row : List Int) (l : Nat) : Decidable (blankP row l) := by unfold blankP; infer_instance
theorem blankCell_ffs : blankCell = ffs := by decide
section
variable {h0 h : H} {A : List Ent} {i j p r b : Nat} {C : Cm}
end
end Go.Proofs.YtaglicdidpgkpaaGreatDoor
end

/- Contracts of areas: Write. Own work. -/
section
set_option maxRecDepth 100000
set_option linter.unusedVariables false
namespace Go.Proofs.YtaglicdidpgkpaaGreatDoor
open Go Go.Vc

def cellM (bs : List Int) (n : Nat) : List Int := tab 32 fun k => if n * 32 + k < bs.length then bs.getD (n * 32 + k) 0 else 255
theorem cellM_length (bs : List Int) (n : Nat) : (cellM bs n).length = 32 := rfl
section
variable {h0 h : H} {A : List Ent} {i j p r b : Nat} {C : Cm}
theorem add_add (q : Addr) (a b : Nat) : (q.add a).add b = q.add (a + b) := by
 cases q with | mk b' o s => unfold Addr.add; by_cases h1 : a = 0 <;> by_cases h2 : b = 0 <;> simp [h1, h2, Nat.add_assoc]
def eraseL (base : Int) : Nat → Nat → Cm → Cm × Int
 | 0, _, C => (C, 0)
 | m + 1, j, C => if usedM C (base + j) = true then (if (eraseM C (base + j)).2 ≠ 0 then eraseM C (base + j) else eraseL base m (j + 1) (eraseM C (base + j)).1) else eraseL base m (j + 1) C
def progL (base : Int) (cells : Nat) (bs : List Int) (n : Nat) : Nat → Nat → Cm → Cm × Int
 | 0, _, C => (C, 0)
 | m + 1, k, C =>
  if (programM C (base + (((k + 1) % n / cells : Nat) : Int)) (((k + 1) % n % cells : Nat) : Int) (cellM bs ((k + 1) % n))).2 ≠ 0 then programM C (base + (((k + 1) % n / cells : Nat) : Int)) (((k + 1) % n % cells : Nat) : Int) (cellM bs ((k + 1) % n))
  else progL base cells bs n m (k + 1) (programM C (base + (((k + 1) % n / cells : Nat) : Int)) (((k + 1) % n % cells : Nat) : Int) (cellM bs ((k + 1) % n))).1
end
end Go.Proofs.YtaglicdidpgkpaaGreatDoor
end

/- AreaWrites: what the erases of a Write leave; laws about numbers alone. Own work. -/
section
set_option maxRecDepth 100000
set_option linter.unusedVariables false
namespace Go.Proofs.YtaglicdidpgkpaaGreatDoor
open Go Go.Vc

def Cm.er (C : Cm) (x : Nat) : Int := C.s.erases.getD x 0
def Cm.pg (C : Cm) (x : Nat) : List Int := C.s.pages.getD x []
def dif (C D : Cm) : Nat → Nat → Int
 | _, 0 => 0
 | B, m + 1 => (D.er B - C.er B) + dif C D (B + 1) m
theorem dif_succ (C D : Cm) (B m : Nat) : dif C D B (m + 1) = (D.er B - C.er B) + dif C D (B + 1) m := rfl
theorem dif_congr {C C' D : Cm} (m : Nat) : ∀ B, (∀ x, B ≤ x → x < B + m → C.er x = C'.er x) → dif C D B m = dif C' D B m := by
 induction m with
 | zero => intro B _; rfl
 | succ m ih =>
  intro B h
  unfold dif
  rw [h B (by omega) (by omega), ih (B + 1) fun x h1 h2 => h x (by omega) (by omega)]
theorem dif_zero {C D : Cm} (m : Nat) : ∀ B, (∀ x, B ≤ x → x < B + m → D.er x = C.er x) → dif C D B m = 0 := by
 induction m with
 | zero => intro B _; rfl
 | succ m ih =>
  intro B h
  unfold dif
  rw [h B (by omega) (by omega), ih (B + 1) fun x h1 h2 => h x (by omega) (by omega)]; omega
theorem usedM_congr {C D : Cm} {page : Int} (hc : D.cfg = C.cfg) (ho : D.out = C.out) (hl : D.s.pages.length = C.s.pages.length) (hp : D.pg page.toNat = C.pg page.toNat) : usedM D page = usedM C page := by
 have e : ∀ n : Int, readM D page n = readM C page n := by
  intro n
  unfold readM asksCellM askedM
  unfold Cm.pg at hp
  rw [hc, ho, hl, hp]
 unfold usedM usedP
 rw [hc]
 simp only [e]
structure Er (B m : Nat) (C D : Cm) (e : Int) : Prop where
 cfg : D.cfg = C.cfg
 bl : D.s.blown = C.s.blown
 np : D.s.pages.length = C.s.pages.length
 ne : D.s.erases.length = C.s.erases.length
 pg : ∀ x, x < B ∨ B + m ≤ x → D.pg x = C.pg x
 er : ∀ x, x < B ∨ B + m ≤ x → D.er x = C.er x
 acts : D.acts = C.acts + dif C D B m
 ab : C.acts ≤ D.acts ∧ D.acts ≤ C.acts + m
 good : e = 0 → D.out = false ∧ -1 ≤ D.left ∧ ∀ x, B ≤ x → x < B + m → (D.pg x).length = C.cfg.cells.toNat * 32 ∧ blankP (D.pg x) C.cfg.cells.toNat
 bad : e ≠ 0 → e = 8
theorem erased_blank {row : List Int} {l : Nat} (hl : row.length = l * 32) (f : Nat → Int) (hf : ∀ i, f i = 255) : (eraseRow row f).length = l * 32 ∧ blankP (eraseRow row f) l := by
 refine ⟨by unfold eraseRow; rw [mapTo_length]; exact hl, ?_⟩
 intro n hn
 have h1 : (cellAt (eraseRow row f) n).length = 32 := cellAt_length (by unfold eraseRow; rw [mapTo_length]; omega)
 refine ext_getD (h1.trans rfl) fun i hi => ?_
 rw [h1] at hi
 rw [cellAt_getD _ _ _ hi]
 unfold eraseRow
 rw [mapTo_getD _ _ _ _ (by omega) (by omega), hf, full_or]
 unfold ffs
 rw [tab_getD _ hi]
theorem getD_put {α : Type} (l : List α) (j : Nat) (v d : α) (h : j < l.length) : (l.set j v).getD j d = v := by
 simp [List.getD, h]
theorem erase_step {C : Cm} {B : Nat} (ho : C.out = false) (hB : B < C.s.pages.length) (hB2 : B < C.s.erases.length) (hw : C.er B < C.cfg.erases) (ha : 0 ≤ C.acts ∧ C.acts < 2 ^ 60) :
  ∃ D : Cm, eraseM C (B : Int) = (D, errM C) ∧ D.cfg = C.cfg ∧ D.s.blown = C.s.blown ∧ D.s.pages.length = C.s.pages.length ∧ D.s.erases.length = C.s.erases.length ∧ (∀ x, x ≠ B → D.pg x = C.pg x) ∧ (∀ x, x ≠ B → D.er x = C.er x) ∧
   D.er B = C.er B + 1 ∧ D.acts = C.acts + 1 ∧ D.pg B = eraseRow (C.pg B) (maskAt C) ∧ (C.left ≠ 0 → D.out = false) ∧ (-1 ≤ C.left → -1 ≤ D.left) := by
 have hac : C.act.acts = C.acts + 1 := by
  unfold Cm.act
  have : w64 (C.acts + 1) = C.acts + 1 := by unfold w64; rw [IntKind.wrap_i64]; omega
  split <;> exact this
 unfold eraseM
 rw [askedM_in ho (by omega) (by omega), if_neg (by simp), Int.toNat_natCast]
 unfold Cm.er at hw
 rw [if_neg (by omega)]
 refine ⟨_, rfl, act_cfg C, ?_, ?_, ?_, ?_, ?_, ?_, hac, ?_, ?_, ?_⟩
 ·show C.act.s.blown = _; rw [act_s]
 ·show (C.act.s.pages.set B _).length = _; rw [List.length_set, act_s]
 ·show (C.act.s.erases.set B _).length = _; rw [List.length_set, act_s]
 ·intro x hx
  show (C.act.s.pages.set B _).getD x [] = C.s.pages.getD x []
  simp only [List.getD, List.getElem?_set_ne (Ne.symm hx), act_s]
 ·intro x hx
  show (C.act.s.erases.set B _).getD x 0 = C.s.erases.getD x 0
  simp only [List.getD, List.getElem?_set_ne (Ne.symm hx), act_s]
 ·show (C.act.s.erases.set B _).getD B 0 = _
  exact getD_put _ _ _ _ (by rw [act_s]; exact hB2)
 ·show (C.act.s.pages.set B _).getD B [] = _
  rw [getD_put _ _ _ _ (by rw [act_s]; exact hB)]
  unfold rowOf
  rw [Int.toNat_natCast]; rfl
 ·intro hl
  show C.act.out = false
  exact act_out ho hl
 ·intro hl
  show -1 ≤ C.act.left
  unfold Cm.act
  split
  ·dsimp only; split <;> omega
  ·exact Int.le_refl _
theorem erases (base : Int) : ∀ (m j B : Nat) (C : Cm), base + j = (B : Int) → C.out = false → -1 ≤ C.left → B + m ≤ C.s.pages.length → B + m ≤ C.s.erases.length → (0 ≤ C.acts ∧ C.acts + m < 2 ^ 60) →
  (∀ x, B ≤ x → x < B + m → (C.pg x).length = C.cfg.cells.toNat * 32) → (∀ x, B ≤ x → x < B + m → usedM C (x : Int) = true → C.er x < C.cfg.erases) →
  (∀ x, B ≤ x → x < B + m → usedM C (x : Int) = false → blankP (C.pg x) C.cfg.cells.toNat) → Er B m C (eraseL base m j C).1 (eraseL base m j C).2 := by
 intro m
 induction m with
 | zero =>
  intro j B C hB ho hl _ _ _ _ _ _
  unfold eraseL
  exact ⟨rfl, rfl, rfl, rfl, fun _ _ => rfl, fun _ _ => rfl, by simp [dif], ⟨Int.le_refl _, by (try dsimp only); omega⟩, fun _ => ⟨ho, hl, fun x h1 h2 => by omega⟩, fun x => absurd rfl x⟩
 | succ m ih =>
  intro j B C hB ho hl hp he ha hlen hw hbl
  unfold eraseL
  rw [hB]
  by_cases u : usedM C (B : Int) = true
  case neg =>
   rw [if_neg u]
   have I := ih (j + 1) (B + 1) C (by omega) ho hl (by omega) (by omega) ⟨ha.1, by omega⟩ (fun x h1 h2 => hlen x (by omega) (by omega)) (fun x h1 h2 => hw x (by omega) (by omega)) (fun x h1 h2 => hbl x (by omega) (by omega))
   generalize eraseL base m (j + 1) C = X at *
   have hBp := I.pg B (by omega)
   have hBe := I.er B (by omega)
   refine ⟨I.cfg, I.bl, I.np, I.ne, fun x hx => I.pg x (by omega), fun x hx => I.er x (by omega), ?_, ⟨I.ab.1, by have := I.ab.2; omega⟩, fun e => ?_, I.bad⟩
   ·rw [I.acts, dif_succ, hBe]; omega
   ·obtain ⟨g1, g2, g3⟩ := I.good e
    refine ⟨g1, g2, fun x h1 h2 => ?_⟩
    by_cases c : x = B
    ·subst c
     rw [hBp]
     exact ⟨hlen x (by omega) (by omega), hbl x (by omega) (by omega) (by simpa using u)⟩
    ·exact g3 x (by omega) (by omega)
  rw [if_pos u]
  obtain ⟨D, hD, d1, d2, d3, d4, d5, d6, d7, d8, d9, d10, d11⟩ := erase_step ho (show B < C.s.pages.length by omega) (by omega) (hw B (by omega) (by omega) u) ⟨ha.1, by omega⟩
  rw [hD]
  dsimp only
  by_cases c : C.left = 0
  ·have e8 : errM C = 8 := by unfold errM; rw [if_neg (by simpa using c)]
   rw [e8, if_pos (by simp)]
   refine ⟨d1, d2, d3, d4, fun x hx => d5 x (by omega), fun x hx => d6 x (by omega), ?_, ⟨by (try dsimp only); omega, by (try dsimp only); omega⟩, fun e => by simp at e, fun _ => rfl⟩
   rw [dif_succ, dif_zero m (B + 1) fun x h1 h2 => d6 x (by omega), d7, d8]; omega
  ·have e0 : errM C = 0 := by unfold errM; rw [if_pos (by simpa using c)]
   rw [e0, if_neg (by simp)]
   have hu : ∀ x, B + 1 ≤ x → usedM D (x : Int) = usedM C (x : Int) := fun x h1 => usedM_congr d1 (by rw [d10 c, ho]) d3 (by rw [Int.toNat_natCast]; exact d5 x (by omega))
   have I := ih (j + 1) (B + 1) D (by omega) (d10 c) (d11 hl) (by omega) (by omega) ⟨by omega, by omega⟩
    (fun x h1 h2 => by rw [d5 x (by omega), d1]; exact hlen x (by omega) (by omega))
    (fun x h1 h2 h3 => by rw [d6 x (by omega), d1]; rw [hu x h1] at h3; exact hw x (by omega) (by omega) h3)
    (fun x h1 h2 h3 => by rw [d5 x (by omega), d1]; rw [hu x h1] at h3; exact hbl x (by omega) (by omega) h3)
   generalize eraseL base m (j + 1) D = X at *
   have hBp := I.pg B (by omega)
   have hBe := I.er B (by omega)
   refine ⟨I.cfg.trans d1, I.bl.trans d2, I.np.trans d3, I.ne.trans d4, fun x hx => (I.pg x (by omega)).trans (d5 x (by omega)), fun x hx => (I.er x (by omega)).trans (d6 x (by omega)), ?_, ⟨by have := I.ab.1; omega, by have := I.ab.2; omega⟩, fun e => ?_, I.bad⟩
   ·rw [I.acts, dif_succ, hBe, d7, d8, dif_congr m (B + 1) fun x h1 h2 => d6 x (by omega)]; omega
   ·obtain ⟨g1, g2, g3⟩ := I.good e
    rw [d1] at g3
    refine ⟨g1, g2, fun x h1 h2 => ?_⟩
    by_cases c2 : x = B
    ·subst c2
     rw [hBp, d9]
     exact erased_blank (hlen x (by omega) (by omega)) _ fun i => by unfold maskAt; rw [if_pos (by simpa using c)]
    ·exact g3 x (by omega) (by omega)
end Go.Proofs.YtaglicdidpgkpaaGreatDoor
end

/- The log: what both pages say; which is present. Own work. -/
section
set_option maxRecDepth 100000
set_option linter.unusedVariables false
namespace Go.Proofs.YtaglicdidpgkpaaGreatDoor
open Go Go.Vc

theorem len9 {l : List Int} (h : l.length = 9) : ∃ a b c d e f g i j, l = [a, b, c, d, e, f, g, i, j] := by
 match l, h with
 | [a, b, c, d, e, f, g, i, j], _ => exact ⟨a, b, c, d, e, f, g, i, j, rfl⟩
abbrev fndI (p q : Inf) (n : Int) : List Value := .int .i64 p.head :: (ints .i64 p.nums ++ .int .i64 p.next :: .bool p.blank :: .int .i64 p.torn :: .int .i64 q.head :: (ints .i64 q.nums ++ [.int .i64 q.next, .bool q.blank, .int .i64 q.torn, .int .i64 n]))
theorem fnd_len {p q : Inf} {n : Int} (hp : p.nums.length = 9) (hq : q.nums.length = 9) : (fndI p q n).length = 27 := by simp [fndI, hp, hq]
structure FndAt (h : H) (b : Nat) (p q : Inf) (n : Int) : Prop where
 a0 : hc h ⟨b, 0, none⟩ = some (.int .i64 p.head)
 a1 : hrow h ⟨b, 1, none⟩ .i64 p.nums
 a10 : hc h ⟨b, 10, none⟩ = some (.int .i64 p.next)
 a11 : hc h ⟨b, 11, none⟩ = some (.bool p.blank)
 a12 : hc h ⟨b, 12, none⟩ = some (.int .i64 p.torn)
 a13 : hc h ⟨b, 13, none⟩ = some (.int .i64 q.head)
 a14 : hrow h ⟨b, 14, none⟩ .i64 q.nums
 a23 : hc h ⟨b, 23, none⟩ = some (.int .i64 q.next)
 a24 : hc h ⟨b, 24, none⟩ = some (.bool q.blank)
 a25 : hc h ⟨b, 25, none⟩ = some (.int .i64 q.torn)
 a26 : hc h ⟨b, 26, none⟩ = some (.int .i64 n)
section
variable {h0 h : H} {A : List Ent} {i j p r b : Nat} {C : Cm}
theorem _root_.Go.Vc.Sat.fnd (hs : Sat h0 A h) {P Q : Inf} {n : Int} (m : At A i (blk b (fndI P Q n))) (hp : P.nums.length = 9) (hq : Q.nums.length = 9) : FndAt h b P Q n := by
 obtain ⟨ph, pn, px, pb, pt⟩ := P
 obtain ⟨qh, qn, qx, qb, qt⟩ := Q
 obtain ⟨a1, a2, a3, a4, a5, a6, a7, a8, a9, rfl⟩ := len9 hp
 obtain ⟨b1, b2, b3, b4, b5, b6, b7, b8, b9, rfl⟩ := len9 hq
 exact ⟨hs.ld m rfl, hs.cs m rfl, hs.ld m rfl, hs.ld m rfl, hs.ld m rfl, hs.ld m rfl, hs.cs m rfl, hs.ld m rfl, hs.ld m rfl, hs.ld m rfl, hs.ld m rfl⟩
theorem fnd_s0 {P Q R : Inf} {n : Int} (hp : P.nums.length = 9) (hr : R.nums.length = 9) : splice (fndI P Q n) 0 (infI R) = fndI R Q n := by
 obtain ⟨ph, pn, px, pb, pt⟩ := P
 obtain ⟨qh, qn, qx, qb, qt⟩ := R
 obtain ⟨a1, a2, a3, a4, a5, a6, a7, a8, a9, rfl⟩ := len9 hp
 obtain ⟨b1, b2, b3, b4, b5, b6, b7, b8, b9, rfl⟩ := len9 hr
 rfl
theorem fnd_s13 {P Q R : Inf} {n : Int} (hp : P.nums.length = 9) (hq : Q.nums.length = 9) (hr : R.nums.length = 9) : splice (fndI P Q n) 13 (infI R) = fndI P R n := by
 obtain ⟨ph, pn, px, pb, pt⟩ := P
 obtain ⟨qh, qn, qx, qb, qt⟩ := Q
 obtain ⟨rh, rn, rx, rb, rt⟩ := R
 obtain ⟨a1, a2, a3, a4, a5, a6, a7, a8, a9, rfl⟩ := len9 hp
 obtain ⟨b1, b2, b3, b4, b5, b6, b7, b8, b9, rfl⟩ := len9 hq
 obtain ⟨c1, c2, c3, c4, c5, c6, c7, c8, c9, rfl⟩ := len9 hr
 rfl
theorem fnd_s26 {P Q : Inf} {n m : Int} (hp : P.nums.length = 9) (hq : Q.nums.length = 9) : splice (fndI P Q n) 26 [.int .i64 m] = fndI P Q m := by
 obtain ⟨ph, pn, px, pb, pt⟩ := P
 obtain ⟨qh, qn, qx, qb, qt⟩ := Q
 obtain ⟨a1, a2, a3, a4, a5, a6, a7, a8, a9, rfl⟩ := len9 hp
 obtain ⟨b1, b2, b3, b4, b5, b6, b7, b8, b9, rfl⟩ := len9 hq
 rfl
theorem _root_.Go.Vc.Sat.infAt (hs : Sat h0 A h) {P : Inf} (m : At A i (blk b (infI P))) (hp : P.nums.length = 9) : hc h ⟨b, 0, none⟩ = some (.int .i64 P.head) ∧ hrow h ⟨b, 1, none⟩ .i64 P.nums ∧ hc h ⟨b, 10, none⟩ = some (.int .i64 P.next) ∧ hc h ⟨b, 11, none⟩ = some (.bool P.blank) ∧ hc h ⟨b, 12, none⟩ = some (.int .i64 P.torn) := by
 obtain ⟨ph, pn, px, pb, pt⟩ := P
 obtain ⟨a1, a2, a3, a4, a5, a6, a7, a8, a9, rfl⟩ := len9 hp
 exact ⟨hs.ld m rfl, hs.cs m rfl, hs.ld m rfl, hs.ld m rfl, hs.ld m rfl⟩

/-! ### What the log says -/
def pI (C : Cm) (k : Nat) : Inf := pageI (C.pg k) C.cfg.cells.toNat
theorem pI_len (C : Cm) (k : Nat) : (pI C k).nums.length = 9 := ofM_len _ _
def presH (a b : Int) : Int := if 0 < a ∧ b ≤ a then 0 else if 0 < b then 1 else -1
def presM (C : Cm) : Int := presH (pI C 0).head (pI C 1).head
def infoM (C : Cm) : Inf := if presM C < 0 then inf0 else pI C (presM C).toNat
theorem presM_cases (C : Cm) : presM C = -1 ∨ presM C = 0 ∨ presM C = 1 := by unfold presM presH; (repeat' split) <;> simp
theorem look_pg {C : Cm} (ho : C.out = false) (ok : C.ok) {k : Nat} (hk : k < 2) : lookM C (k : Int) = (pI C k, 0) := by
 have h1 := ok.fits.pages
 have h2 := ok.may.area
 have h3 : C.cfg.np = 2 + 2 * C.cfg.area := rfl
 unfold lookM
 rw [askedM_in ho (by omega) (by omega), if_neg (by simp), Int.toNat_natCast]; rfl
theorem look_out {C : Cm} (ho : C.out = true) (k : Int) : lookM C k = (inf0, 8) := by
 unfold lookM askedM
 rw [if_pos ho, if_pos (by decide)]
structure Fnd where
 p : Inf
 q : Inf
 n : Int
def lookF (C : Cm) : Fnd × Int := if C.out = true then (⟨inf0, inf0, 0⟩, 8) else (⟨pI C 0, pI C 1, presM C⟩, 0)
theorem lookF_len (C : Cm) : (lookF C).1.p.nums.length = 9 ∧ (lookF C).1.q.nums.length = 9 := by
 unfold lookF; split
 ·exact ⟨rfl, rfl⟩
 ·exact ⟨pI_len C 0, pI_len C 1⟩
abbrev logE (l p : Nat) : Ent := blk l [.pointer (some ⟨p, 0, none⟩)]
theorem logLook_sp {Q : Int → List Int → Int → Bool → Int → Int → List Int → Int → Bool → Int → Int → Int → H → Prop} (hs : Sat h0 A h) (ci : At A i (chipE p C)) (cl : At A j (logE r p))
  (k : ∀ h', Sat h0 A h' → Q (lookF C).1.p.head (lookF C).1.p.nums (lookF C).1.p.next (lookF C).1.p.blank (lookF C).1.p.torn (lookF C).1.q.head (lookF C).1.q.nums (lookF C).1.q.next (lookF C).1.q.blank (lookF C).1.q.torn (lookF C).1.n (lookF C).2 h') :
  F_log_Log_look ⟨r, 0, none⟩ Q h := by
 unfold F_log_Log_look G_log_Log_look
 try simp only [add_mk, Nat.zero_add]
 have ok := chip_ok hs ci
 have z9 : inf0.nums.length = 9 := rfl
 intro n4 _ hn; replace hs := Sat.new hs hn; clear hn
 intro n7 _ hn; replace hs := Sat.new hs hn; clear hn
 replace hs : Sat h0 (blk n7 (fndI inf0 inf0 0) :: blk n4 (fndI inf0 inf0 0) :: A) _ := hs
 refine ⟨Sat.can hs (i := 0) (by (repeat (first | exact At.z | apply At.s))) (by decide), ?_⟩
 intro h2 e
 replace hs := Sat.wra hs (i := 0) (by (repeat (first | exact At.z | apply At.s))) e (by rfl)
 clear e
 replace hs : Sat h0 (blk n7 (fndI inf0 inf0 (-1)) :: blk n4 (fndI inf0 inf0 0) :: A) _ := hs
 intro J hJ
 obtain ⟨G, hG⟩ : ∃ G : Nat → Inf × Inf, G = fun n => (if 0 < n then pI C 0 else inf0, if 1 < n then pI C 1 else inf0) := ⟨_, rfl⟩
 have hG0 : G 0 = (inf0, inf0) := by rw [hG]; rfl
 have hG2 : G 2 = (pI C 0, pI C 1) := by rw [hG]; rfl
 have hGl : ∀ n, (G n).1.nums.length = 9 ∧ (G n).2.nums.length = 9 := by
  intro n; rw [hG]; dsimp only
  exact ⟨by split; exact pI_len C 0; rfl, by split; exact pI_len C 1; rfl⟩
 have hs1 : Sat h0 (blk n7 (fndI (G 0).1 (G 0).2 (-1)) :: blk n4 (fndI inf0 inf0 0) :: A) h2 := by rw [hG0]; exact hs
 clear hs
 refine loop_up 2 (fun n h => (n ≠ 0 → C.out = false) ∧ Sat h0 (blk n7 (fndI (G n).1 (G n).2 (-1)) :: blk n4 (fndI inf0 inf0 0) :: A) h) ?_ ?_ 0 _ (by omega) ⟨fun y => absurd rfl y, hs1⟩
 ·rintro n h3 hn ⟨hno, hs⟩ hk
  apply hJ
  rw [ltI_eq, if_pos (by simp; omega)]
  refine ⟨_, hs.ld cl.s.s rfl, _, rfl, ?_⟩
  refine Look_sp hs ci.s.s (n : Int) ?_
  intro h4 hs
  have hll := lookM_len C (n : Int)
  intro n24 _ hn24; replace hs := Sat.new hs hn24; clear hn24
  refine ⟨Sat.can hs (by (repeat (first | exact At.z | apply At.s))) (by decide), ?_⟩
  intro h5 e
  replace hs := Sat.wra hs (by (repeat (first | exact At.z | apply At.s))) e ((inf_len hll).trans rfl)
  clear e
  simp only [put] at hs
  by_cases ho : C.out = true
  ·rw [look_out ho] at hs ⊢
   rw [if_pos (by simp)]
   refine ⟨Sat.can hs (by (repeat (first | exact At.z | apply At.s))) (by decide), ?_⟩
   intro h6 e
   replace hs := Sat.wra hs (i := 2) (by (repeat (first | exact At.z | apply At.s))) e (by rfl)
   clear e
   simp only [put] at hs
   replace hs : Sat h0 (blk n24 (infI inf0) :: blk n7 (fndI (G n).1 (G n).2 (-1)) :: blk n4 (fndI inf0 inf0 0) :: A) h6 := hs
   have L := hs.fnd (i := 2) (by (repeat (first | exact At.z | apply At.s))) z9 z9
   refine ⟨_, L.a0, _, ‹_›, L.a1, _, L.a10, _, L.a11, _, L.a12, _, L.a13, _, ‹_›, L.a14, _, L.a23, _, L.a24, _, L.a25, _, L.a26, ?_⟩
   have e : lookF C = (⟨inf0, inf0, 0⟩, 8) := by unfold lookF; rw [if_pos ho]
   rw [e] at k
   exact k _ hs.drop.drop.drop
  ·have ho' : C.out = false := by simpa using ho
   have el := look_pg ho' ok (k := n) hn
   rw [el] at hs ⊢
   rw [if_neg (by simp)]
   have hpl := pI_len C n
   obtain ⟨L0, L1, L10, L11, L12⟩ := hs.infAt (i := 0) (by (repeat (first | exact At.z | apply At.s))) hpl
   refine ⟨_, L0, _, hpl, L1, _, L10, _, L11, _, L12, by omega, by omega, ?_⟩
   rw [Int.toNat_natCast]
   refine ⟨Sat.can hs (i := 1) (by (repeat (first | exact At.z | apply At.s))) (by rw [fnd_len (hGl n).1 (hGl n).2]; omega), ?_⟩
   intro h6 e
   replace hs := Sat.wr hs (i := 1) (by (repeat (first | exact At.z | apply At.s))) e
   clear e
   simp only [put] at hs
   rw [wrap_succ (by omega)]
   refine hk _ ⟨fun _ => ho', ?_⟩
   have hn2 : n = 0 ∨ n = 1 := by omega
   have e2 : splice (fndI (G n).1 (G n).2 (-1)) (n * 13) (infI (pI C n)) = fndI (G (n + 1)).1 (G (n + 1)).2 (-1) := by
    rcases hn2 with rfl | rfl
    ·rw [hG0]
     show splice _ 0 _ = _
     rw [fnd_s0 z9 hpl, hG]; rfl
    ·have : G 1 = (pI C 0, inf0) := by rw [hG]; rfl
     rw [this]
     show splice _ 13 _ = _
     rw [fnd_s13 (pI_len C 0) z9 hpl, hG]; rfl
   rw [e2] at hs
   exact hs.drop
 ·rintro h3 ⟨hno, hs⟩
  have ho : C.out = false := hno (by decide)
  rw [hG2] at hs
  dsimp only at hs
  apply hJ
  rw [ltI_eq, if_neg (by simp)]
  clear hJ J hG0 hG2 hGl hG hs1
  have l0 := pI_len C 0
  have l1 := pI_len C 1
  have L := hs.fnd .z l0 l1
  refine ⟨by decide, by decide, _, L.a0, by decide, by decide, _, L.a13, ?_⟩
  have e : lookF C = (⟨pI C 0, pI C 1, presM C⟩, 0) := by unfold lookF; rw [if_neg (by simp [ho])]
  rw [e] at k
  dsimp only at k
  have pc : presM C = presH (pI C 0).head (pI C 1).head := rfl
  unfold presH at pc
  have w26 : ∀ (m : Int) (h' : H) (A' : List Ent), Sat h0 (blk n7 (splice (fndI (pI C 0) (pI C 1) (-1)) 26 [.int .i64 m]) :: A') h' → Sat h0 (blk n7 (fndI (pI C 0) (pI C 1) m) :: A') h' := fun m h' A' y => by rw [fnd_s26 l0 l1] at y; exact y
  have c26 : ∀ h', Sat h0 (blk n7 (fndI (pI C 0) (pI C 1) (-1)) :: blk n4 (fndI inf0 inf0 0) :: A) h' → hcan h' ⟨n7, 26, none⟩ 1 := fun h' y => Sat.can y .z (by rw [fnd_len l0 l1]; omega)
  by_cases g1 : 0 < (pI C 0).head
  ·rw [ltI_eq, if_pos (by simpa using g1)]
   by_cases g2 : (pI C 1).head ≤ (pI C 0).head
   ·rw [leI_eq, if_pos (by simpa using g2)]
    refine ⟨c26 _ hs, ?_⟩
    intro h4 e4
    replace hs := Sat.wr hs .z e4
    clear e4
    replace hs := w26 _ _ _ hs
    (have L := hs.fnd .z l0 l1; refine ⟨_, L.a0, _, ‹_›, L.a1, _, L.a10, _, L.a11, _, L.a12, _, L.a13, _, ‹_›, L.a14, _, L.a23, _, L.a24, _, L.a25, _, L.a26, ?_⟩; refine ⟨Sat.can hs (by (repeat (first | exact At.z | apply At.s))) (by decide), ?_⟩; intro h9 e9; replace hs := Sat.wra hs (i := 1) (by (repeat (first | exact At.z | apply At.s))) e9 (by rw [fnd_len z9 z9]; exact (fnd_len (n := 0) l0 l1)); clear e9; simp only [put] at hs; replace hs : Sat h0 (blk n7 (fndI (pI C 0) (pI C 1) (0)) :: blk n4 (fndI (pI C 0) (pI C 1) (0)) :: A) h9 := hs; have L := hs.fnd (i := 1) (.s .z) l0 l1; refine ⟨_, L.a0, _, ‹_›, L.a1, _, L.a10, _, L.a11, _, L.a12, _, L.a13, _, ‹_›, L.a14, _, L.a23, _, L.a24, _, L.a25, _, L.a26, ?_⟩; rw [show presM C = 0 by rw [pc]; simp [*]] at k; exact k _ hs.drop.drop)
   ·rw [leI_eq, if_neg (by simpa using g2), ltI_eq, if_pos (by simp; omega)]
    refine ⟨c26 _ hs, ?_⟩
    intro h4 e4
    replace hs := Sat.wr hs .z e4
    clear e4
    replace hs := w26 _ _ _ hs
    have g3 : 0 < (pI C 1).head := by omega
    (have L := hs.fnd .z l0 l1; refine ⟨_, L.a0, _, ‹_›, L.a1, _, L.a10, _, L.a11, _, L.a12, _, L.a13, _, ‹_›, L.a14, _, L.a23, _, L.a24, _, L.a25, _, L.a26, ?_⟩; refine ⟨Sat.can hs (by (repeat (first | exact At.z | apply At.s))) (by decide), ?_⟩; intro h9 e9; replace hs := Sat.wra hs (i := 1) (by (repeat (first | exact At.z | apply At.s))) e9 (by rw [fnd_len z9 z9]; exact (fnd_len (n := 1) l0 l1)); clear e9; simp only [put] at hs; replace hs : Sat h0 (blk n7 (fndI (pI C 0) (pI C 1) (1)) :: blk n4 (fndI (pI C 0) (pI C 1) (1)) :: A) h9 := hs; have L := hs.fnd (i := 1) (.s .z) l0 l1; refine ⟨_, L.a0, _, ‹_›, L.a1, _, L.a10, _, L.a11, _, L.a12, _, L.a13, _, ‹_›, L.a14, _, L.a23, _, L.a24, _, L.a25, _, L.a26, ?_⟩; rw [show presM C = 1 by rw [pc]; simp [*]] at k; exact k _ hs.drop.drop)
  ·rw [ltI_eq, if_neg (by simpa using g1)]
   by_cases g3 : 0 < (pI C 1).head
   ·rw [ltI_eq, if_pos (by simpa using g3)]
    refine ⟨c26 _ hs, ?_⟩
    intro h4 e4
    replace hs := Sat.wr hs .z e4
    clear e4
    replace hs := w26 _ _ _ hs
    (have L := hs.fnd .z l0 l1; refine ⟨_, L.a0, _, ‹_›, L.a1, _, L.a10, _, L.a11, _, L.a12, _, L.a13, _, ‹_›, L.a14, _, L.a23, _, L.a24, _, L.a25, _, L.a26, ?_⟩; refine ⟨Sat.can hs (by (repeat (first | exact At.z | apply At.s))) (by decide), ?_⟩; intro h9 e9; replace hs := Sat.wra hs (i := 1) (by (repeat (first | exact At.z | apply At.s))) e9 (by rw [fnd_len z9 z9]; exact (fnd_len (n := 1) l0 l1)); clear e9; simp only [put] at hs; replace hs : Sat h0 (blk n7 (fndI (pI C 0) (pI C 1) (1)) :: blk n4 (fndI (pI C 0) (pI C 1) (1)) :: A) h9 := hs; have L := hs.fnd (i := 1) (.s .z) l0 l1; refine ⟨_, L.a0, _, ‹_›, L.a1, _, L.a10, _, L.a11, _, L.a12, _, L.a13, _, ‹_›, L.a14, _, L.a23, _, L.a24, _, L.a25, _, L.a26, ?_⟩; rw [show presM C = 1 by rw [pc]; simp [*]] at k; exact k _ hs.drop.drop)
   ·rw [ltI_eq, if_neg (by simpa using g3)]
    (have L := hs.fnd .z l0 l1; refine ⟨_, L.a0, _, ‹_›, L.a1, _, L.a10, _, L.a11, _, L.a12, _, L.a13, _, ‹_›, L.a14, _, L.a23, _, L.a24, _, L.a25, _, L.a26, ?_⟩; refine ⟨Sat.can hs (by (repeat (first | exact At.z | apply At.s))) (by decide), ?_⟩; intro h9 e9; replace hs := Sat.wra hs (i := 1) (by (repeat (first | exact At.z | apply At.s))) e9 (by rw [fnd_len z9 z9]; exact (fnd_len (n := -1) l0 l1)); clear e9; simp only [put] at hs; replace hs : Sat h0 (blk n7 (fndI (pI C 0) (pI C 1) (-1)) :: blk n4 (fndI (pI C 0) (pI C 1) (-1)) :: A) h9 := hs; have L := hs.fnd (i := 1) (.s .z) l0 l1; refine ⟨_, L.a0, _, ‹_›, L.a1, _, L.a10, _, L.a11, _, L.a12, _, L.a13, _, ‹_›, L.a14, _, L.a23, _, L.a24, _, L.a25, _, L.a26, ?_⟩; rw [show presM C = -1 by rw [pc]; simp [*]] at k; exact k _ hs.drop.drop)
def finfo (p q : Inf) (n : Int) : Inf := if n < 0 then inf0 else if n = 0 then p else q
theorem infoM_f (C : Cm) : infoM C = finfo (pI C 0) (pI C 1) (presM C) := by
 unfold infoM finfo
 rcases presM_cases C with e | e | e <;> rw [e] <;> simp
theorem finfo_sp {Q : Int → List Int → Int → Bool → Int → H → Prop} {P R : Inf} {n : Int} (hp : P.nums.length = 9) (hr : R.nums.length = 9) (hn : n < 2) (hs : Sat h0 A h)
  (k : ∀ h', Sat h0 A h' → Q (finfo P R n).head (finfo P R n).nums (finfo P R n).next (finfo P R n).blank (finfo P R n).torn h') : F_log_found_info P.head P.nums P.next P.blank P.torn R.head R.nums R.next R.blank R.torn n Q h := by
 unfold F_log_found_info G_log_found_info
 try simp only [add_mk, Nat.zero_add]
 intro n13 _ hn13; replace hs := Sat.new hs hn13; clear hn13
 intro n16 _ hn16; replace hs := Sat.new hs hn16; clear hn16
 replace hs : Sat h0 (blk n16 (infI inf0) :: blk n13 (fndI P R n) :: A) _ := hs
 have z9 : inf0.nums.length = 9 := rfl
 have L := hs.fnd (i := 1) (.s .z) hp hr
 refine ⟨_, L.a26, ?_⟩
 by_cases g : n < 0
 ·rw [ltI_eq, if_pos (by simpa using g)]
  refine ⟨Sat.can hs (i := 0) .z (by decide), ?_⟩
  intro h4 e
  replace hs := Sat.wra hs (i := 0) .z e (by rfl)
  clear e
  replace hs : Sat h0 (blk n16 (infI inf0) :: blk n13 (fndI P R n) :: A) _ := hs
  obtain ⟨L0, L1, L10, L11, L12⟩ := hs.infAt .z z9
  refine ⟨_, L0, _, z9, L1, _, L10, _, L11, _, L12, ?_⟩
  have e : finfo P R n = inf0 := by unfold finfo; rw [if_pos g]
  rw [e] at k
  exact k _ hs.drop.drop
 rw [ltI_eq, if_neg (by simpa using g)]
 refine ⟨_, L.a26, by omega, by omega, ?_⟩
 -- either page
 have fin : ∀ (S : Inf), S.nums.length = 9 → finfo P R n = S → ∀ h', Sat h0 (blk n16 (infI inf0) :: blk n13 (fndI P R n) :: A) h' → hcan h' ⟨n16, 0, none⟩ 13 ∧ ∀ h2, h2 = hwr h' ⟨n16, 0, none⟩ (infI S) →
   ∃ i0, hc h2 ⟨n16, 0, none⟩ = some (.int .i64 i0) ∧ ∃ l1 : List Int, l1.length = 9 ∧ hrow h2 ⟨n16, 1, none⟩ .i64 l1 ∧ ∃ i10, hc h2 ⟨n16, 10, none⟩ = some (.int .i64 i10) ∧ ∃ b11, hc h2 ⟨n16, 11, none⟩ = some (.bool b11) ∧ ∃ i12, hc h2 ⟨n16, 12, none⟩ = some (.int .i64 i12) ∧ Q i0 l1 i10 b11 i12 h2 := by
  intro S hS e h' hs
  refine ⟨Sat.can hs (i := 0) .z (by decide), ?_⟩
  intro h4 e4
  replace hs := Sat.wra hs (i := 0) .z e4 ((inf_len hS).trans rfl)
  clear e4
  replace hs : Sat h0 (blk n16 (infI S) :: blk n13 (fndI P R n) :: A) _ := hs
  obtain ⟨L0, L1, L10, L11, L12⟩ := hs.infAt .z hS
  refine ⟨_, L0, _, hS, L1, _, L10, _, L11, _, L12, ?_⟩
  rw [e] at k
  exact k _ hs.drop.drop
 have h01 : n = 0 ∨ n = 1 := by omega
 rcases h01 with rfl | rfl
 ·simp only [Int.toNat_zero, Nat.zero_mul, Nat.zero_add]
  exact ⟨_, L.a0, _, hp, L.a1, _, L.a10, _, L.a11, _, L.a12, fin P hp (by unfold finfo; simp) _ hs⟩
 ·simp only [Int.toNat_one, Nat.one_mul, Nat.reduceAdd]
  exact ⟨_, L.a13, _, hr, L.a14, _, L.a23, _, L.a24, _, L.a25, fin R hr (by unfold finfo; simp) _ hs⟩
def presT (C : Cm) : Int := if C.out = true then -1 else presM C
theorem Mount_sp {Q : Option Addr → Int → H → Prop} (hs : Sat h0 A h) (ci : At A i (chipE p C)) (k1 : C.out = true → Q none 8 h) (k2 : C.out = false → ∀ l h', Sat h0 (logE l p :: A) h' → Q (some ⟨l, 0, none⟩) 0 h') : F_log_Mount ⟨p, 0, none⟩ Q h := by
 unfold F_log_Mount G_log_Mount
 refine Out_sp hs ci ?_
 by_cases ho : C.out = true
 ·rw [if_pos ho]; exact k1 ho
 ·rw [if_neg ho]
  intro l _ hn; replace hs := Sat.new hs hn; clear hn
  exact k2 (by simpa using ho) _ _ hs
end
end Go.Proofs.YtaglicdidpgkpaaGreatDoor
end

/- The log: numbers, turns and lays of the program. Own work. -/
section
set_option maxRecDepth 100000
set_option linter.unusedVariables false
namespace Go.Proofs.YtaglicdidpgkpaaGreatDoor
open Go Go.Vc

def numberM (C : Cm) (slot : Int) : Int × Int := if C.out = true then (0, 8) else if ¬ (0 ≤ slot ∧ slot ≤ C.cfg.slots) then (0, 2) else ((infoM C).nums.getD slot.toNat 0, 0)
section
variable {h0 h : H} {A : List Ent} {i j p r b : Nat} {C : Cm}
theorem slot_sp {Q : Bool → H → Prop} (hs : Sat h0 A h) (ci : At A i (chipE p C)) (cl : At A j (logE r p)) (n : Int) (k : ∀ h', Sat h0 A h' → Q (decide (0 ≤ n ∧ n ≤ C.cfg.slots)) h') : F_log_Log_slot ⟨r, 0, none⟩ n Q h := by
 unfold F_log_Log_slot G_log_Log_slot
 by_cases g : 0 ≤ n
 ·rw [leI_eq, if_pos (by simpa using g)]
  refine ⟨_, hs.ld cl rfl, _, rfl, ?_⟩
  refine Config_sp hs ci ?_
  intro h1 hs
  have := k _ hs
  rw [leI_eq]
  simpa [g] using this
 ·rw [leI_eq, if_neg (by simpa using g)]
  have := k _ hs
  simpa [g] using this
theorem Number_sp {Q : Int → Int → H → Prop} (hs : Sat h0 A h) (ci : At A i (chipE p C)) (cl : At A j (logE r p)) (slot : Int) (k : ∀ h', Sat h0 A h' → Q (numberM C slot).1 (numberM C slot).2 h') : F_log_Log_Number ⟨r, 0, none⟩ slot Q h := by
 unfold F_log_Log_Number G_log_Log_Number
 try simp only [add_mk, Nat.zero_add]
 have ok := chip_ok hs ci
 refine logLook_sp hs ci cl ?_
 intro h1 hs
 obtain ⟨lp, lq⟩ := lookF_len C
 intro n17 _ hn; replace hs := Sat.new hs hn; clear hn
 refine ⟨Sat.can hs (i := 0) .z (by decide), ?_⟩
 intro h2 e
 replace hs := Sat.wra hs (i := 0) .z e (by rw [fnd_len lp lq]; rfl)
 clear e
 replace hs : Sat h0 (blk n17 (fndI (lookF C).1.p (lookF C).1.q (lookF C).1.n) :: A) h2 := hs
 unfold numberM at k
 by_cases ho : C.out = true
 ·have e : lookF C = (⟨inf0, inf0, 0⟩, 8) := by unfold lookF; rw [if_pos ho]
  rw [if_pos ho] at k
  rw [e, if_pos (by simp)]
  exact k _ hs.drop
 have e : lookF C = (⟨pI C 0, pI C 1, presM C⟩, 0) := by unfold lookF; rw [if_neg ho]
 rw [if_neg ho] at k
 rw [e] at hs lp lq ⊢
 dsimp only at hs lp lq ⊢
 rw [if_neg (by simp)]
 refine slot_sp hs ci.s cl.s slot ?_
 intro h3 hs
 by_cases g : 0 ≤ slot ∧ slot ≤ C.cfg.slots
 case neg =>
  rw [if_pos g] at k
  rw [if_pos (by rw [decide_eq_false g]; rfl)]
  exact k _ hs.drop
 rw [if_neg (fun y => y g)] at k
 rw [if_neg (by rw [decide_eq_true g]; decide)]
 have L := hs.fnd .z lp lq
 refine ⟨_, L.a0, _, ‹_›, L.a1, _, L.a10, _, L.a11, _, L.a12, _, L.a13, _, ‹_›, L.a14, _, L.a23, _, L.a24, _, L.a25, _, L.a26, ?_⟩
 have hc2 := presM_cases C
 refine finfo_sp lp lq (by omega) hs ?_
 intro h4 hs
 rw [← infoM_f]
 have := ok.may.slots
 exact ⟨by omega, by omega, k _ hs.drop⟩
end
end Go.Proofs.YtaglicdidpgkpaaGreatDoor
end

/- The log: bounds of what pages say; the document's log. Own work. -/
section
set_option maxRecDepth 100000
set_option linter.unusedVariables false
namespace Go.Proofs.YtaglicdidpgkpaaGreatDoor
open Go Go.Vc

theorem recM_num (x : List Int) : 0 ≤ (recM x).2.2 ∧ (recM x).2.2 ≤ most := by
 unfold recM
 (repeat' split) <;> simp only [most] at * <;> omega
structure InfOk (I : Inf) (l : Nat) : Prop where
 head : 0 ≤ I.head ∧ I.head ≤ most
 next : 0 ≤ I.next ∧ I.next ≤ l
 torn : 0 ≤ I.torn ∧ I.torn ≤ l
 nums : ∀ k, 0 ≤ I.nums.getD k 0 ∧ I.nums.getD k 0 ≤ most
theorem set_getD (l : List Int) (j k : Nat) (v : Int) : (l.set j v).getD k 0 = if j = k ∧ k < l.length then v else l.getD k 0 := by
 rw [List.getD_eq_getElem?_getD, List.getElem?_set]
 by_cases c : j = k
 ·subst c
  by_cases d : j < l.length
  ·simp [d]
  ·simp [d]
 ·simp [c]
theorem ofM_ok (row : List Int) (n : Nat) (hn : n < 2 ^ 60) : InfOk (ofM row n) n := by
 induction n with
 | zero =>
  refine ⟨by show (0 : Int) ≤ 0 ∧ (0 : Int) ≤ most; decide, by show (0 : Int) ≤ 0 ∧ (0 : Int) ≤ 0; decide, by show (0 : Int) ≤ 0 ∧ (0 : Int) ≤ 0; decide, fun k => ?_⟩
  show 0 ≤ (zeros 9).getD k 0 ∧ (zeros 9).getD k 0 ≤ most
  have : (zeros 9).getD k 0 = 0 := by
   rw [List.getD_eq_getElem?_getD]
   unfold zeros
   rw [List.getElem?_replicate]; split <;> rfl
  rw [this]; decide
 | succ n ih =>
  obtain ⟨i1, i2, i3, i4⟩ := ih (by omega)
  obtain ⟨r1, r2⟩ := recM_num (cellAt row n)
  have hl := ofM_len row n
  unfold ofM layM
  generalize (recM (cellAt row n)).1 = kind
  generalize (recM (cellAt row n)).2.1 = slot
  generalize (recM (cellAt row n)).2.2 = num at *
  generalize ofM row n = I at *
  have hN : InfOk (nextM I n kind) (n + 1) ∧ (nextM I n kind).torn ≤ n := by
   unfold nextM
   split
   ·exact ⟨⟨i1, by dsimp only; rw [wrap_id (by omega)]; omega, by dsimp only; omega, i4⟩, i3.2⟩
   ·exact ⟨⟨i1, by omega, by omega, i4⟩, i3.2⟩
  obtain ⟨⟨j1, j2, j3, j4⟩, j5⟩ := hN
  generalize nextM I n kind = J at *
  unfold layN
  split
  ·exact ⟨j1, j2, by dsimp only; rw [wrap_id (by omega)]; omega, j4⟩
  ·split
   ·exact ⟨⟨r1, r2⟩, j2, j3, j4⟩
   ·split
    ·refine ⟨j1, j2, j3, fun k => ?_⟩
     dsimp only
     rw [set_getD]
     split
     ·have := j4 slot.toNat
      split <;> omega
     ·exact j4 k
    ·exact ⟨j1, j2, j3, j4⟩
theorem pageI_ok (row : List Int) (n : Nat) (hn : n < 2 ^ 60) : InfOk (pageI row n) n := ⟨(ofM_ok row n hn).1, (ofM_ok row n hn).2, (ofM_ok row n hn).3, (ofM_ok row n hn).4⟩
theorem pI_ok {C : Cm} (ok : C.ok) (k : Nat) : InfOk (pI C k) C.cfg.cells.toNat := pageI_ok _ _ (by have := ok.may.cells; omega)
theorem infoM_ok {C : Cm} (ok : C.ok) : InfOk (infoM C) C.cfg.cells.toNat := by
 unfold infoM
 split
 ·refine ⟨by decide, ⟨by decide, by show (0 : Int) ≤ _; omega⟩, ⟨by decide, by show (0 : Int) ≤ _; omega⟩, fun k => ?_⟩
  have := (ofM_ok [] 0 (by decide)).nums k
  exact this
 ·exact pI_ok ok _
theorem presH_ref {a b : Int} (ha : 0 ≤ a) (hb : 0 ≤ b) : presH a b = if a = 0 ∧ b = 0 then -1 else if a < b then 1 else 0 := by
 unfold presH; (repeat' split) <;> omega

section
variable {h0 h : H} {A : List Ent} {i j p r l b : Nat} {C : Cm}
theorem rPage (hs : Sat h0 A h) (cj : At A j (refE r C)) {k : Nat} (hk : (k : Int) < C.s.pages.length) :
  ∃ (pl pc : Nat) (q : Addr) (xp : Option Addr) (xl xc : Nat), hc h ⟨r, 7, none⟩ = some (.slice (some q) pl pc) ∧ (k : Int) < pl ∧ hc h (q.add k) = some (.slice xp xl xc) ∧ xl = C.cfg.cells.toNat ∧ hsv h xp 32 xl (ints .u8 (C.pg k)) ∧ bytesOk (C.pg k) ∧ xl < 2 ^ 60 := by
 obtain ⟨w, ok, cl, rdm⟩ := ref_pg hs cj
 have hkn : k < C.s.pages.length := by omega
 obtain ⟨q, x, hq, hx, hrd⟩ := rdm.at hkn
 have hl := rdm.len
 have he : C.pg k = C.s.pages[k] := by unfold Cm.pg; simp [List.getD, List.getElem?_eq_getElem hkn]
 have hcl := ok.fits.cells _ (List.getElem_mem hkn)
 have hm := ok.may.cells
 have hxl : x.2.1 * 32 = C.s.pages[k].length := by have := hrd.1; simp at this; omega
 refine ⟨w.a.2.1, w.a.2.2, q, x.1, x.2.1, x.2.2, ?_, by omega, by rw [Nat.mul_one] at hx; exact hx, by omega, by rw [he]; exact hrd, by rw [he]; exact ok.typed.bytes _ (List.getElem_mem hkn), by omega⟩
 have := cl 7 _ rfl
 rw [this]
 obtain ⟨⟨a1, a2, a3⟩, b, c, m⟩ := w
 dsimp only at hq ⊢
 rw [← hq]
theorem ok_pages {C : Cm} (ok : C.ok) : (2 : Int) ≤ C.s.pages.length ∧ (2 : Int) ≤ C.s.erases.length := by
 have h1 := ok.fits.pages
 have h4 := ok.fits.erases
 have h2 := ok.may.area
 have h3 : C.cfg.np = 2 + 2 * C.cfg.area := rfl
 omega
theorem ref_ok (hs : Sat h0 A h) (cj : At A j (refE r C)) : C.ok := (ref_pg hs cj).choose_spec.1
theorem ref_cell (hs : Sat h0 A h) (cj : At A j (refE r C)) : ∃ w : Pl, ∀ o v, (C.cells w.a w.b w.c w.m)[o]? = some v → hc h ⟨r, o, none⟩ = some v := by
 obtain ⟨w, _, cl, _⟩ := ref_pg hs cj
 exact ⟨w, cl⟩
theorem rPresent9_sp {Q : Int → H → Prop} (hs : Sat h0 A h) (cj : At A j (refE r C)) (cl : At A i (logE l r)) (k : ∀ h', Sat h0 A h' → Q (presT C) h') : F_portcullisref09_Log_Present ⟨l, 0, none⟩ Q h := by
 unfold F_portcullisref09_Log_Present G_portcullisref09_Log_Present
 have ok := ref_ok hs cj
 obtain ⟨w, lc⟩ := ref_cell hs cj
 refine ⟨_, hs.ld cl rfl, _, rfl, _, lc 11 _ rfl, ?_⟩
 unfold presT at k
 by_cases ho : C.out = true
 ·rw [if_pos ho] at k ⊢; exact k _ hs
 rw [if_neg ho] at k ⊢
 have h2 := (ok_pages ok).1
 obtain ⟨pl, pc, q, xp, xl, xc, e7, hl, hx, exl, hrd, hb, hl60⟩ := rPage hs cj (k := 0) (by omega)
 refine ⟨_, hs.ld cl rfl, _, rfl, _, _, _, e7, _, rfl, by decide, by omega, _, _, _, by rw [add_zero] at hx; exact hx, ?_⟩
 refine Of_sp (A := []) (Sat.init _) (fun h' hs' => hsv_ext hs'.ex hrd (fun _ _ y => y)) hb hl60 ?_
 intro h1 hs2; replace hs := hs.ext hs2.ex; clear hs2
 subst exl
 obtain ⟨pl, pc, q, xp, xl, xc, e7, hl, hx, exl, hrd, hb, hl60⟩ := rPage hs cj (k := 1) (by omega)
 refine ⟨_, hs.ld cl rfl, _, rfl, _, _, _, e7, _, rfl, by decide, by omega, _, _, _, hx, ?_⟩
 refine Of_sp (A := []) (Sat.init _) (fun h' hs' => hsv_ext hs'.ex hrd (fun _ _ y => y)) hb hl60 ?_
 intro h2 hs2; replace hs := hs.ext hs2.ex; clear hs2
 subst exl
 have o0 := (pI_ok ok 0).head.1
 have o1 := (pI_ok ok 1).head.1
 have e : presM C = presH (pI C 0).head (pI C 1).head := rfl
 rw [presH_ref o0 o1] at e
 rw [e] at k
 show if ((pI C 0).head == 0) = true then _ else _
 by_cases g1 : (pI C 0).head = 0
 ·rw [if_pos (by simpa using g1)]
  show if ((pI C 1).head == 0) = true then _ else _
  by_cases g2 : (pI C 1).head = 0
  ·rw [if_pos ⟨g1, g2⟩] at k
   rw [if_pos (by simpa using g2)]; exact k _ hs
  ·rw [if_neg (fun y => g2 y.2)] at k
   rw [if_neg (by simpa using g2)]
   show if ltI (pI C 0).head (pI C 1).head = true then _ else _
   rw [ltI_eq]
   by_cases g3 : (pI C 0).head < (pI C 1).head
   ·rw [if_pos g3] at k; rw [if_pos (by simpa using g3)]; exact k _ hs
   ·rw [if_neg g3] at k; rw [if_neg (by simpa using g3)]; exact k _ hs
 ·rw [if_neg (fun y => g1 y.1)] at k
  rw [if_neg (by simpa using g1)]
  show if ltI (pI C 0).head (pI C 1).head = true then _ else _
  rw [ltI_eq]
  by_cases g3 : (pI C 0).head < (pI C 1).head
  ·rw [if_pos g3] at k; rw [if_pos (by simpa using g3)]; exact k _ hs
  ·rw [if_neg g3] at k; rw [if_neg (by simpa using g3)]; exact k _ hs
def rinfo (C : Cm) : Inf := if C.out = true then inf0 else infoM C
theorem rInfo9_sp {Q : Int → List Int → Int → Bool → Int → H → Prop} (hs : Sat h0 A h) (cj : At A j (refE r C)) (cl : At A i (logE l r))
  (k : ∀ h', Sat h0 A h' → Q (rinfo C).head (rinfo C).nums (rinfo C).next (rinfo C).blank (rinfo C).torn h') : F_portcullisref09_Log_info ⟨l, 0, none⟩ Q h := by
 unfold F_portcullisref09_Log_info G_portcullisref09_Log_info
 try simp only [add_mk, Nat.zero_add]
 have ok := ref_ok hs cj
 have h2 := (ok_pages ok).1
 intro n5 _ hn; replace hs := Sat.new hs hn; clear hn
 replace hs : Sat h0 (blk n5 (infI inf0) :: A) _ := hs
 have z9 : inf0.nums.length = 9 := rfl
 refine rPresent9_sp hs cj.s cl.s ?_
 intro h1 hs
 have e : ∀ {S : Inf}, rinfo C = S → ∀ h', Sat h0 A h' → Q S.head S.nums S.next S.blank S.torn h' := fun {S} y => by rw [y] at k; exact k
 by_cases g : presT C < 0
 ·rw [ltI_eq, if_pos (by simpa using g)]
  refine ⟨Sat.can hs (i := 0) .z (by decide), ?_⟩
  intro h4 e4
  replace hs := Sat.wra hs (i := 0) .z e4 (by rfl)
  clear e4
  replace hs : Sat h0 (blk n5 (infI inf0) :: A) _ := hs
  obtain ⟨L0, L1, L10, L11, L12⟩ := hs.infAt .z z9
  refine ⟨_, L0, _, z9, L1, _, L10, _, L11, _, L12, ?_⟩
  refine e ?_ _ hs.drop
  unfold presT at g
  unfold rinfo infoM
  split
  ·rfl
  ·rename_i y; rw [if_neg y] at g; rw [if_pos g]
 ·have ho : ¬ C.out = true := fun y => by unfold presT at g; rw [if_pos y] at g; exact g (by decide)
  have hp : presT C = presM C := by unfold presT; rw [if_neg ho]
  have h01 := presM_cases C
  rw [hp] at g ⊢
  rw [ltI_eq, if_neg (by simpa using g)]
  obtain ⟨pl, pc, q, xp, xl, xc, e7, hl, hx, exl, hrd, hb, hl60⟩ := rPage hs cj.s (k := (presM C).toNat) (by omega)
  refine ⟨_, hs.ld cl.s rfl, _, rfl, _, _, _, e7, _, rfl, by omega, by omega, _, _, _, by rw [Nat.mul_one]; exact hx, ?_⟩
  refine Of_sp (A := []) (Sat.init _) (fun h' hs' => hsv_ext hs'.ex hrd (fun _ _ y => y)) hb hl60 ?_
  intro h2 hs2; replace hs := hs.ext hs2.ex; clear hs2
  subst exl
  have hpl := pI_len C (presM C).toNat
  refine ⟨Sat.can hs (i := 0) .z (by decide), ?_⟩
  intro h4 e4
  replace hs := Sat.wra hs (i := 0) .z e4 ((inf_len hpl).trans rfl)
  clear e4
  replace hs : Sat h0 (blk n5 (infI (pI C (presM C).toNat)) :: A) _ := hs
  obtain ⟨L0, L1, L10, L11, L12⟩ := hs.infAt .z hpl
  refine ⟨_, L0, _, hpl, L1, _, L10, _, L11, _, L12, ?_⟩
  refine e ?_ _ hs.drop
  unfold rinfo infoM
  rw [if_neg ho, if_neg g]
end
end Go.Proofs.YtaglicdidpgkpaaGreatDoor
end

/- The log: a turn, a lay of the program. Own work. -/
section
set_option maxRecDepth 100000
set_option linter.unusedVariables false
namespace Go.Proofs.YtaglicdidpgkpaaGreatDoor
open Go Go.Vc

theorem most_val : most = 4611686018427387904 := rfl
section
variable {h0 h : H} {A : List Ent} {i j p r b : Nat} {C : Cm}
end
end Go.Proofs.YtaglicdidpgkpaaGreatDoor
end

/- AreaWrites: what the programs of a Write leave; laws about numbers alone. Own work. -/
section
set_option maxRecDepth 100000
set_option linter.unusedVariables false
namespace Go.Proofs.YtaglicdidpgkpaaGreatDoor
open Go Go.Vc

def cellOf (B cells : Nat) (D : Cm) (x : Nat) : List Int := cellAt (D.pg (B + x / cells)) (x % cells)
theorem prog_step {C : Cm} {P q : Nat} {rec : List Int} (ho : C.out = false) (hP : P < C.s.pages.length) (hq : (q : Int) < C.cfg.cells) (ha : 0 ≤ C.acts ∧ C.acts < 2 ^ 60) :
  ∃ D : Cm, programM C (P : Int) (q : Int) rec = (D, errM C) ∧ D.cfg = C.cfg ∧ D.s.blown = C.s.blown ∧ D.s.pages.length = C.s.pages.length ∧ D.s.erases = C.s.erases ∧ (∀ x, x ≠ P → D.pg x = C.pg x) ∧
   D.acts = C.acts + 1 ∧ D.pg P = rowSet (C.pg P) q (progCell (cellAt (C.pg P) q) rec (maskAt C)) ∧ (C.left ≠ 0 → D.out = false) ∧ (-1 ≤ C.left → -1 ≤ D.left) := by
 have hac : C.act.acts = C.acts + 1 := by
  unfold Cm.act
  have : w64 (C.acts + 1) = C.acts + 1 := by unfold w64; rw [IntKind.wrap_i64]; omega
  split <;> exact this
 have ec : asksCellM C (P : Int) (q : Int) = 0 := by
  unfold asksCellM
  rw [askedM_in ho (by omega) (by omega), if_neg (by simp), askedM_in ho (by omega) hq]
 unfold programM
 rw [ec, if_neg (by simp), Int.toNat_natCast, Int.toNat_natCast]
 refine ⟨_, rfl, act_cfg C, ?_, ?_, ?_, ?_, hac, ?_, ?_, ?_⟩
 ·show C.act.s.blown = _; rw [act_s]
 ·show (C.act.s.pages.set P _).length = _; rw [List.length_set, act_s]
 ·show C.act.s.erases = _; rw [act_s]
 ·intro x hx
  show (C.act.s.pages.set P _).getD x [] = C.s.pages.getD x []
  simp only [List.getD, List.getElem?_set_ne (Ne.symm hx), act_s]
 ·show (C.act.s.pages.set P _).getD P [] = _
  rw [getD_put _ _ _ _ (by rw [act_s]; exact hP)]
  unfold rowOf
  rw [Int.toNat_natCast]; rfl
 ·intro hl
  show C.act.out = false
  exact act_out ho hl
 ·intro hl
  show -1 ≤ C.act.left
  unfold Cm.act
  split
  ·dsimp only; split <;> omega
  ·exact Int.le_refl _
theorem cellOf_step {B cells i : Nat} {C D : Cm} {c : List Int} (hc : 0 < cells) (h1 : ∀ x, x ≠ B + i / cells → D.pg x = C.pg x) (h2 : D.pg (B + i / cells) = rowSet (C.pg (B + i / cells)) (i % cells) c) (hl : (C.pg (B + i / cells)).length = cells * 32) (hcl : c.length = 32) :
  cellOf B cells D i = c ∧ (∀ x, x ≠ i → cellOf B cells D x = cellOf B cells C x) ∧ (D.pg (B + i / cells)).length = cells * 32 := by
 have hm : i % cells < cells := Nat.mod_lt _ hc
 have hb : (i % cells + 1) * 32 ≤ (C.pg (B + i / cells)).length := by rw [hl]; exact Nat.mul_le_mul_right 32 hm
 refine ⟨?_, ?_, ?_⟩
 ·unfold cellOf
  rw [h2, rowSet_same hb hcl]
 ·intro x hx
  unfold cellOf
  by_cases e : x / cells = i / cells
  ·rw [e, h2]
   have hmx : x % cells < cells := Nat.mod_lt _ hc
   refine rowSet_other hb (by rw [hl]; exact Nat.mul_le_mul_right 32 hmx) hcl ?_
   intro e2
   have a1 := Nat.div_add_mod x cells
   have a2 := Nat.div_add_mod i cells
   rw [e, e2] at a1
   omega
  ·rw [h1 _ (by omega)]
 ·rw [h2, rowSet_length hb hcl, hl]
theorem prog_whole {X : List Int} (hX : X.length = 32) (hb : bytesOk X) : progCell blankCell X (fun _ => 255) = X := by
 have hcl : (progCell blankCell X fun _ => 255).length = 32 := progCell_length _ _ _ (by simp [blankCell])
 refine ext_getD (hcl.trans hX.symm) fun i hi => ?_
 rw [hcl] at hi
 rw [prog_getD _ _ _ hi]
 exact prog_full _ (getD_byte hb _)
theorem cellM_bytes {bs : List Int} (hb : bytesOk bs) (n : Nat) : bytesOk (cellM bs n) := by
 unfold cellM
 refine tab_bytes fun k => ?_
 split
 ·exact getD_byte hb _
 ·exact ⟨by decide, by decide⟩
def doneP (n k x : Nat) : Prop := (1 ≤ x ∧ x ≤ k ∧ x < n) ∨ (k = n ∧ x = 0 ∧ 0 < n)
instance (n k x : Nat) : Decidable (doneP n k x) := by unfold doneP; infer_instance
theorem done_next {n k : Nat} (hk : k < n) (x : Nat) : doneP n (k + 1) x ↔ (doneP n k x ∨ x = (k + 1) % n) := by
 unfold doneP
 by_cases c : k + 1 = n
 ·rw [c, Nat.mod_self]; omega
 ·rw [Nat.mod_eq_of_lt (by omega)]; omega
theorem not_done {n k : Nat} (hk : k < n) : ¬ doneP n k ((k + 1) % n) := by
 unfold doneP
 by_cases c : k + 1 = n
 ·rw [c, Nat.mod_self]; omega
 ·rw [Nat.mod_eq_of_lt (by omega)]; omega
structure Pr (B area cells n k : Nat) (bs : List Int) (C D : Cm) (e : Int) : Prop where
 cfg : D.cfg = C.cfg
 bl : D.s.blown = C.s.blown
 np : D.s.pages.length = C.s.pages.length
 es : D.s.erases = C.s.erases
 pg : ∀ x, x < B ∨ B + area ≤ x → D.pg x = C.pg x
 good : e = 0 → D.acts = C.acts + (n - k : Nat) ∧ ∀ x, x < area * cells → cellOf B cells D x = if doneP n n x then cellM bs x else ffs
 bad : e ≠ 0 → e = 8 ∧ ∃ t, k < t ∧ t ≤ n ∧ D.acts = C.acts + (t - k : Nat) ∧ ∀ x, x < area * cells → x ≠ t % n → cellOf B cells D x = if doneP n (t - 1) x then cellM bs x else ffs
theorem programs (B area cells n : Nat) (bs : List Int) (hb : bytesOk bs) (hn : 0 < n) (hN : n ≤ area * cells) (hc : 0 < cells) : ∀ (m k : Nat) (C : Cm), m + k = n → C.out = false → -1 ≤ C.left → (cells : Int) = C.cfg.cells → B + area ≤ C.s.pages.length → (0 ≤ C.acts ∧ C.acts + m < 2 ^ 60) →
  (∀ x, x < area → (C.pg (B + x)).length = cells * 32) → (∀ x, x < area * cells → cellOf B cells C x = if doneP n k x then cellM bs x else ffs) → Pr B area cells n k bs C (progL (B : Int) cells bs n m k C).1 (progL (B : Int) cells bs n m k C).2 := by
 intro m
 induction m with
 | zero =>
  intro k C hk ho hl hcc hp ha hlen hcell
  have : k = n := by omega
  subst this
  unfold progL
  exact ⟨rfl, rfl, rfl, rfl, fun _ _ => rfl, fun _ => ⟨by simp, hcell⟩, fun x => absurd rfl x⟩
 | succ m ih =>
  intro k C hk ho hl hcc hp ha hlen hcell
  unfold progL
  have hin : (k + 1) % n < n := Nat.mod_lt _ hn
  have hnd := not_done (n := n) (k := k) (by omega)
  have hnx := done_next (n := n) (k := k) (by omega)
  generalize hi : (k + 1) % n = i at *
  have hdiv : i / cells < area := (Nat.div_lt_iff_lt_mul hc).2 (by omega)
  have hmod : i % cells < cells := Nat.mod_lt _ hc
  have hBle : B ≤ B + i / cells := Nat.le_add_right _ _
  have hne : ∀ x, x < B ∨ B + area ≤ x → x ≠ B + i / cells := by
   intro x hx
   generalize i / cells = dd at *
   omega
  have eB : (B : Int) + ((i / cells : Nat) : Int) = ((B + i / cells : Nat) : Int) := by simp
  rw [eB]
  obtain ⟨D, hD, d1, d2, d3, d4, d5, d6, d7, d8, d9⟩ := prog_step (C := C) (P := B + i / cells) (q := i % cells) (rec := cellM bs i) ho (by omega) (by omega) ⟨ha.1, by omega⟩
  rw [hD]
  dsimp only
  have hold : cellAt (C.pg (B + i / cells)) (i % cells) = ffs := by
   have := hcell i (by omega)
   rw [if_neg hnd] at this
   exact this
  rw [hold] at d7
  have hclen : ∀ f, (progCell ffs (cellM bs i) f).length = 32 := fun f => progCell_length _ _ _ rfl
  obtain ⟨s1, s2, s3⟩ := cellOf_step (B := B) (i := i) hc (fun x hx => d5 x hx) d7 (hlen _ hdiv) (hclen _)
  have hlen2 : ∀ x, x < area → (D.pg (B + x)).length = cells * 32 := by
   intro x hx
   by_cases e : x = i / cells
   ·rw [e]; exact s3
   ·rw [d5 _ (by omega)]; exact hlen x hx
  by_cases c : C.left = 0
  ·have e8 : errM C = 8 := by unfold errM; rw [if_neg (by simpa using c)]
   rw [e8, if_pos (by simp)]
   refine ⟨d1, d2, d3, d4, fun x hx => d5 x (hne x hx), fun e => by simp at e, fun _ => ⟨rfl, k + 1, by omega, by omega, by rw [d6]; omega, fun x hx hx2 => ?_⟩⟩
   rw [hi] at hx2
   rw [s2 x hx2, Nat.add_sub_cancel]
   exact hcell x hx
  ·have e0 : errM C = 0 := by unfold errM; rw [if_pos (by simpa using c)]
   rw [e0, if_neg (by simp)]
   have hmask : maskAt C = fun _ => 255 := by funext q; unfold maskAt; rw [if_pos (by simpa using c)]
   rw [hmask, ← blankCell_ffs, prog_whole (cellM_length bs i) (cellM_bytes hb i)] at s1
   have I := ih (k + 1) D (by omega) (d8 c) (d9 hl) (by rw [d1]; exact hcc) (by rw [d3]; exact hp) ⟨by omega, by omega⟩ hlen2 (fun x hx => by
    by_cases e : x = i
    ·rw [e, s1, if_pos ((hnx i).2 (Or.inr rfl))]
    ·rw [s2 x e, hcell x hx]
     by_cases dn : doneP n k x
     ·rw [if_pos dn, if_pos ((hnx x).2 (Or.inl dn))]
     ·rw [if_neg dn, if_neg (fun y => by rcases (hnx x).1 y with y | y; exact dn y; exact e y)])
   generalize progL (B : Int) cells bs n m (k + 1) D = X at *
   refine ⟨I.cfg.trans d1, I.bl.trans d2, I.np.trans d3, I.es.trans d4, fun x hx => (I.pg x hx).trans (d5 x (hne x hx)), fun e => ?_, fun e => ?_⟩
   ·obtain ⟨g1, g2⟩ := I.good e
    exact ⟨by rw [g1, d6]; omega, g2⟩
   ·obtain ⟨g1, t, g2, g3, g4, g5⟩ := I.bad e
    exact ⟨g1, t, by omega, g3, by rw [g4, d6]; omega, g5⟩
end Go.Proofs.YtaglicdidpgkpaaGreatDoor
end

/- The log's laws, plain: records, pages, what one program or one erase leaves. Own work. -/
section
set_option maxRecDepth 100000
set_option linter.unusedVariables false
namespace Go.Proofs.YtaglicdidpgkpaaGreatDoor
open Go Go.Vc

abbrev rk (row : List Int) (k : Nat) : Int × Int × Int := recM (cellAt row k)
def sndU (u : Bool) (C : Cm) : Prop :=
 match u with
 | true => C.left < 0
 | false => ∀ x, x < 2 → soundM (C.pg x) C.cfg.cells.toNat
end Go.Proofs.YtaglicdidpgkpaaGreatDoor
end

/- The log's laws, plain: a turn, a lay. Own work. -/
section
set_option maxRecDepth 100000
set_option linter.unusedVariables false
namespace Go.Proofs.YtaglicdidpgkpaaGreatDoor
open Go Go.Vc

abbrev nof (C : Cm) (t k : Nat) : Int := (pI C t).nums.getD k 0
abbrev numOf (C : Cm) (k : Nat) : Int := (infoM C).nums.getD k 0
abbrev lOf (C : Cm) : Nat := C.cfg.cells.toNat
section
variable {u : Bool}
structure Part (u : Bool) (C D : Cm) (t m : Nat) (e : Int) : Prop where
 ok : D.ok
 cfg : D.cfg = C.cfg
 pgs : ∀ y, y ≠ t → D.pg y = C.pg y
 snd : sndU u D
 ec : e = 0 ∨ e = 8
 out0 : e = 0 → D.out = false
 out8 : e = 8 → D.out = true
 acts : 0 ≤ C.acts → C.acts + m < 2 ^ 60 → C.acts ≤ D.acts ∧ D.acts ≤ C.acts + m
 un : u = true → e = 0
theorem Part.trans {C D E : Cm} {t m n : Nat} {e : Int} (a : Part u C D t m 0) (b : Part u D E t n e) : Part u C E t (m + n) e :=
 ⟨b.ok, b.cfg.trans a.cfg, fun y h => (b.pgs y h).trans (a.pgs y h), b.snd, b.ec, b.out0, b.out8, fun h1 h2 => by
  have := a.acts h1 (by omega)
  have := b.acts (by omega) (by omega)
  omega, b.un⟩
theorem Part.more {C D : Cm} {t m n : Nat} {e : Int} (a : Part u C D t m e) (h : m ≤ n) : Part u C D t n e :=
 ⟨a.ok, a.cfg, a.pgs, a.snd, a.ec, a.out0, a.out8, fun h1 h2 => by have := a.acts h1 (by omega); omega, a.un⟩
theorem Part.refl {C : Cm} (ok : C.ok) (ho : C.out = false) (snd : sndU u C) (t : Nat) : Part u C C t 0 0 :=
 ⟨ok, rfl, fun _ _ => rfl, snd, Or.inl rfl, fun _ => ho, fun h => absurd h (by decide), fun _ _ => by omega, fun _ => rfl⟩
structure Turned (u : Bool) (C D : Cm) (t : Nat) (nums : List Int) (e : Int) : Prop where
 part : Part u C D t (C.cfg.slots.toNat + 3) e
 ero : ∀ y, y ≠ t → D.er y = C.er y
 ert : D.er t = C.er t ∨ (D.er t = C.er t + 1 ∧ C.er t < C.cfg.erases)
 erb : (pI C t).blank = true → D.er t = C.er t
 ern : (pI C t).blank = false → D.er t = C.er t + 1
 head : (pI D t).head = 0 ∨ (pI D t).head = (pI C t).head ∨ ((pI D t).head = (infoM C).head + 1 ∧ ∀ k : Nat, (k : Int) ≤ C.cfg.slots → nof D t k = nums.getD k 0)
 headf : e = 0 → (pI D t).head = (infoM C).head + 1 ∧ ∀ k : Nat, (k : Int) ≤ C.cfg.slots → nof D t k = nums.getD k 0
 free : e = 0 → ∀ k : Nat, C.cfg.slots.toNat + 2 ≤ k → k < lOf C → (rk (D.pg t) k).1 = 0
end
end Go.Proofs.YtaglicdidpgkpaaGreatDoor
end

/- The log's laws, plain: what a lay leaves of the numbers. Own work. -/
section
set_option maxRecDepth 100000
set_option linter.unusedVariables false
namespace Go.Proofs.YtaglicdidpgkpaaGreatDoor
open Go Go.Vc
section
variable {u : Bool}

structure Laid (u : Bool) (C D : Cm) (slot : Nat) (n e : Int) : Prop where
 ok : D.ok
 cfg : D.cfg = C.cfg
 snd : sndU u D
 ec : e = 0 ∨ e = 8 ∨ e = 9
 e9 : e = 9 → D = C
 out0 : e = 0 → D.out = false
 other : ∀ k : Nat, (k : Int) ≤ C.cfg.slots → k ≠ slot → numOf D k = numOf C k
 me : numOf D slot = numOf C slot ∨ numOf D slot = n
 done : e = 0 → numOf D slot = n
end
end Go.Proofs.YtaglicdidpgkpaaGreatDoor
end

/- The store: contracts of the program's. Own work. -/
section
set_option maxRecDepth 100000
set_option linter.unusedVariables false
namespace Go.Proofs.YtaglicdidpgkpaaGreatDoor
open Go Go.Vc

abbrev storeE (s p r : Nat) : Ent := blk s [.pointer (some ⟨p, 0, none⟩), .pointer (some ⟨r, 0, none⟩)]
def valS (C : Cm) (slot : Int) : Int := if (countM C slot).1 * C.cfg.step < numOf C slot.toNat then numOf C slot.toNat else (countM C slot).1 * C.cfg.step
def sRead (C : Cm) (slot : Int) : Int × Int := if askedM C slot C.cfg.slots ≠ 0 then (0, askedM C slot C.cfg.slots) else (valS C slot, 0)
theorem count_in {C : Cm} (ok : C.ok) (slot : Int) : 0 ≤ (countM C slot).1 ∧ (countM C slot).1 ≤ C.cfg.fuses := by
 have h2 := ok.may.fuses
 unfold countM
 split
 ·exact ⟨Int.le_refl 0, by show (0 : Int) ≤ _; omega⟩
 ·have := cnt_le C.s.blown (slot * C.cfg.fuses).toNat C.cfg.fuses.toNat
  dsimp only
  omega
theorem valS_in {C : Cm} (ok : C.ok) (slot : Int) : 0 ≤ (countM C slot).1 * C.cfg.step ∧ (countM C slot).1 * C.cfg.step ≤ 4194304 ∧ 0 ≤ valS C slot ∧ valS C slot ≤ most := by
 have h1 := ok.may.step
 have h2 := ok.may.fuses
 obtain ⟨c0, c1⟩ := count_in ok slot
 have a : (countM C slot).1 * C.cfg.step ≤ 64 * 65536 := Int.mul_le_mul (by omega) h1.2 (by omega) (by decide)
 have b : 0 ≤ (countM C slot).1 * C.cfg.step := Int.mul_nonneg c0 (by omega)
 have d := (infoM_ok ok).nums slot.toNat
 have hm := most_val
 refine ⟨b, by omega, ?_⟩
 unfold valS
 split
 ·exact d
 ·omega
theorem sRead_in {C : Cm} (ok : C.ok) (slot : Int) : 0 ≤ (sRead C slot).1 ∧ (sRead C slot).1 ≤ most := by
 have hm := most_val
 unfold sRead
 split
 ·exact ⟨Int.le_refl 0, by show (0 : Int) ≤ most; decide⟩
 ·exact (valS_in ok slot).2.2
section
variable {h0 h : H} {A : List Ent} {i j p r b s m : Nat} {C : Cm}
theorem sMount_sp {Q : Option Addr → Int → H → Prop} (hs : Sat h0 A h) (ci : At A i (chipE p C)) (k1 : C.out = true → Q none 8 h) (k2 : C.out = false → ∀ s l h', Sat h0 (storeE s p l :: logE l p :: A) h' → Q (some ⟨s, 0, none⟩) 0 h') : F_store_Mount ⟨p, 0, none⟩ Q h := by
 unfold F_store_Mount G_store_Mount
 refine Mount_sp hs ci ?_ ?_
 ·intro ho
  rw [if_pos (by simp)]
  exact k1 ho
 ·intro ho l h1 hs
  rw [if_neg (by simp)]
  intro n7 _ hn; replace hs := Sat.new hs hn; clear hn
  exact k2 ho n7 l _ hs
theorem sAsked_sp {Q : Int → H → Prop} (hs : Sat h0 A h) (ci : At A i (chipE p C)) (st : At A m (storeE s p r)) (x n : Int) (k : Q (askedM C x n) h) : F_store_Store_asked ⟨s, 0, none⟩ x n Q h := by
 unfold F_store_Store_asked G_store_Store_asked
 refine ⟨_, hs.ld st rfl, _, rfl, ?_⟩
 refine Out_sp hs ci ?_
 unfold askedM at k
 by_cases ho : C.out = true
 ·rw [if_pos ho] at k; rw [if_pos ho]; exact k
 rw [if_neg ho] at k; rw [if_neg ho]
 by_cases g1 : x < 0
 ·rw [if_pos g1] at k; rw [ltI_eq, if_pos (by simpa using g1)]; exact k
 rw [if_neg g1] at k; rw [ltI_eq, if_neg (by simpa using g1)]
 by_cases g2 : n ≤ x
 ·rw [if_pos g2] at k; rw [leI_eq, if_pos (by simpa using g2)]; exact k
 rw [if_neg g2] at k; rw [leI_eq, if_neg (by simpa using g2)]; exact k
theorem sRead_sp {Q : Int → Int → H → Prop} (hs : Sat h0 A h) (ci : At A i (chipE p C)) (cl : At A j (logE r p)) (st : At A m (storeE s p r)) (slot : Int) (k : ∀ h', Sat h0 A h' → Q (sRead C slot).1 (sRead C slot).2 h') : F_store_Store_Read ⟨s, 0, none⟩ slot Q h := by
 unfold F_store_Store_Read G_store_Store_Read
 try simp only [add_mk, Nat.zero_add, List.append_nil]
 have ok := chip_ok hs ci
 refine ⟨_, hs.ld st rfl, _, rfl, ?_⟩
 refine Config_sp hs ci ?_
 intro h1 hs
 refine sAsked_sp hs ci st _ _ ?_
 unfold sRead at k
 by_cases ha : askedM C slot C.cfg.slots = 0
 case neg =>
  rw [if_pos (by simpa using ha)]
  rw [if_pos ha] at k
  exact k _ hs
 rw [if_neg (fun y => y ha)] at k
 rw [if_neg (by simpa using ha)]
 obtain ⟨ho, g0, g1⟩ := askedM_zero ha
 refine ⟨_, hs.ld st rfl, _, rfl, ?_⟩
 refine Count_sp hs ci slot ?_
 intro h2 hs
 have ec : (countM C slot).2 = 0 := by unfold countM; rw [if_neg (fun y => y ha)]
 rw [ec, if_neg (by simp)]
 refine ⟨_, hs.ld st rfl, _, rfl, ?_⟩
 refine Number_sp hs ci cl slot ?_
 intro h3 hs
 have en : numberM C slot = (numOf C slot.toNat, 0) := by
  unfold numberM
  rw [if_neg (by simp [ho]), if_neg (fun y => y ⟨g0, by omega⟩)]
 rw [en, if_neg (by simp)]
 refine ⟨_, hs.ld st rfl, _, rfl, ?_⟩
 refine Config_sp hs ci ?_
 intro h4 hs
 obtain ⟨v0, v1, _⟩ := valS_in ok slot
 rw [wrap_id (by omega)]
 intro n40 _ hn; replace hs := Sat.new hs hn; clear hn
 refine ⟨Sat.can hs (i := 0) .z (by simp [zeros]), ?_⟩
 intro h5 e
 replace hs := Sat.wra hs (i := 0) .z e (by simp [zeros])
 clear e
 simp only [put] at hs
 refine ⟨by decide, by decide, _, hs.ld (i := 0) .z rfl, by decide, by decide, _, hs.ld (i := 0) .z rfl, ?_⟩
 exact k _ hs.drop
theorem sRevoked_sp {Q : Bool → Int → H → Prop} (hs : Sat h0 A h) (ci : At A i (chipE p C)) (st : At A m (storeE s p r)) (key : Int)
  (k : ∀ h', Sat h0 A h' → Q (revokedM C key).1 (revokedM C key).2 h') : F_store_Store_Revoked ⟨s, 0, none⟩ key Q h := by
 unfold F_store_Store_Revoked G_store_Store_Revoked
 refine ⟨_, hs.ld st rfl, _, rfl, ?_⟩
 refine Config_sp hs ci ?_
 intro h1 hs
 refine sAsked_sp hs ci st _ _ ?_
 by_cases ha : askedM C key C.cfg.keys = 0
 case neg =>
  rw [if_pos (by simpa using ha)]
  have e1 : revokedM C key = (false, askedM C key C.cfg.keys) := by unfold revokedM; rw [if_pos ha]
  rw [e1] at k
  exact k _ hs
 rw [if_neg (by simpa using ha)]
 refine ⟨_, hs.ld st rfl, _, rfl, ?_⟩
 exact Revoked_sp hs ci key k
end
end Go.Proofs.YtaglicdidpgkpaaGreatDoor
end

/- The document's log: target, number, worn, turn, lay. Own work. -/
section
set_option maxRecDepth 100000
set_option linter.unusedVariables false
namespace Go.Proofs.YtaglicdidpgkpaaGreatDoor
open Go Go.Vc

section
variable {h0 h : H} {A : List Ent} {i j p r l b : Nat} {C : Cm}
theorem rinfo_in {C : Cm} (ho : C.out = false) : rinfo C = infoM C := by unfold rinfo; rw [if_neg (by simp [ho])]
theorem rNumber9_sp {Q : Int → Int → H → Prop} (hs : Sat h0 A h) (cj : At A j (refE r C)) (cl : At A i (logE l r)) (slot : Int) (k : ∀ h', Sat h0 A h' → Q (numberM C slot).1 (numberM C slot).2 h') : F_portcullisref09_Log_Number ⟨l, 0, none⟩ slot Q h := by
 unfold F_portcullisref09_Log_Number G_portcullisref09_Log_Number
 have ok := ref_ok hs cj
 have hm := ok.may.slots
 obtain ⟨w, lc⟩ := ref_cell hs cj
 refine ⟨_, hs.ld cl rfl, _, rfl, _, lc 11 _ rfl, ?_⟩
 unfold numberM at k
 by_cases ho : C.out = true
 ·rw [if_pos ho] at k ⊢; exact k _ hs
 rw [if_neg ho] at k ⊢
 have ho' : C.out = false := by simpa using ho
 by_cases g1 : slot < 0
 ·rw [ltI_eq, if_pos (by simpa using g1)]
  rw [if_pos (by omega)] at k
  exact k _ hs
 rw [ltI_eq, if_neg (by simpa using g1)]
 refine ⟨_, hs.ld cl rfl, _, rfl, _, lc 1 _ rfl, ?_⟩
 by_cases g2 : C.cfg.slots < slot
 ·rw [ltI_eq, if_pos (by simpa using g2)]
  rw [if_pos (by omega)] at k
  exact k _ hs
 rw [ltI_eq, if_neg (by simpa using g2)]
 rw [if_neg (fun y => y ⟨by omega, by omega⟩)] at k
 refine rInfo9_sp hs cj cl ?_
 intro h1 hs
 rw [rinfo_in ho']
 exact ⟨by omega, by omega, k _ hs⟩
end
end Go.Proofs.YtaglicdidpgkpaaGreatDoor
end

/- The document's store. Own work. -/
section
set_option maxRecDepth 100000
set_option linter.unusedVariables false
namespace Go.Proofs.YtaglicdidpgkpaaGreatDoor
open Go Go.Vc

def sActive (C : Cm) : Int × Int := numberM C C.cfg.slots
section
variable {h0 h : H} {A : List Ent} {i j p r b s m : Nat} {C : Cm}
theorem sActive_sp {Q : Int → Int → H → Prop} (hs : Sat h0 A h) (ci : At A i (chipE p C)) (cl : At A j (logE r p)) (st : At A m (storeE s p r)) (k : ∀ h', Sat h0 A h' → Q (sActive C).1 (sActive C).2 h') : F_store_Store_Active ⟨s, 0, none⟩ Q h := by
 unfold F_store_Store_Active G_store_Store_Active
 try simp only [add_mk, Nat.zero_add]
 refine ⟨_, hs.ld st rfl, _, rfl, ?_⟩
 refine Out_sp hs ci ?_
 by_cases ho : C.out = true
 ·rw [if_pos ho]
  have e : sActive C = (0, 8) := by unfold sActive numberM; rw [if_pos ho]
  rw [e] at k
  exact k _ hs
 rw [if_neg ho]
 refine ⟨_, hs.ld st rfl, _, hs.ld st rfl, _, rfl, ?_⟩
 refine Config_sp hs ci ?_
 intro h1 hs
 refine ⟨hcs_one (hs.ld st rfl), _, rfl, ?_⟩
 refine Number_sp hs ci cl C.cfg.slots ?_
 intro h2 hs
 exact k _ hs
theorem rNumber_sp {Q : Int → Int → H → Prop} (hs : Sat h0 A h) (cj : At A j (refE r C)) (slot : Int) (k : ∀ h', Sat h0 A h' → Q (numberM C slot).1 (numberM C slot).2 h') : F_portcullisref09_Number ⟨r, 0, none⟩ slot Q h := by
 unfold F_portcullisref09_Number G_portcullisref09_Number
 intro n5 _ hn; replace hs := Sat.new hs hn; clear hn
 refine rNumber9_sp hs cj.s (i := 0) .z slot ?_
 intro h1 hs
 exact k _ hs.drop
theorem rSlot10_sp {Q : Int → H → Prop} (hs : Sat h0 A h) (cj : At A j (refE r C)) (slot : Int) (k : Q (askedM C slot C.cfg.slots) h) : F_portcullisref10_Slot ⟨r, 0, none⟩ slot Q h := by
 unfold F_portcullisref10_Slot G_portcullisref10_Slot
 try simp only [add_mk, Nat.zero_add]
 obtain ⟨w, lc⟩ := ref_cell hs cj
 refine ⟨_, lc 11 _ rfl, ?_⟩
 unfold askedM at k
 by_cases ho : C.out = true
 ·rw [if_pos ho] at k ⊢; exact k
 rw [if_neg ho] at k ⊢
 by_cases g1 : slot < 0
 ·rw [if_pos g1] at k; rw [ltI_eq, if_pos (by simpa using g1)]; exact k
 rw [if_neg g1] at k; rw [ltI_eq, if_neg (by simpa using g1)]
 refine ⟨_, lc 1 _ rfl, ?_⟩
 by_cases g2 : C.cfg.slots ≤ slot
 ·rw [if_pos g2] at k; rw [leI_eq, if_pos (by simpa using g2)]; exact k
 rw [if_neg g2] at k; rw [leI_eq, if_neg (by simpa using g2)]; exact k
theorem rRead10_sp {Q : Int → Int → H → Prop} (hs : Sat h0 A h) (cj : At A j (refE r C)) (slot : Int) (k : ∀ h', Sat h0 A h' → Q (sRead C slot).1 (sRead C slot).2 h') : F_portcullisref10_Read ⟨r, 0, none⟩ slot Q h := by
 unfold F_portcullisref10_Read G_portcullisref10_Read
 try simp only [add_mk, Nat.zero_add]
 have ok := ref_ok hs cj
 refine rSlot10_sp hs cj slot ?_
 unfold sRead at k
 by_cases ha : askedM C slot C.cfg.slots = 0
 case neg =>
  rw [if_pos (by simpa using ha)]
  rw [if_pos ha] at k
  exact k _ hs
 rw [if_neg (fun y => y ha)] at k
 rw [if_neg (by simpa using ha)]
 obtain ⟨ho, g0, g1⟩ := askedM_zero ha
 refine rNumber_sp hs cj slot ?_
 intro h1 hs
 have en : numberM C slot = (numOf C slot.toNat, 0) := by
  unfold numberM
  rw [if_neg (by simp [ho]), if_neg (fun y => y ⟨g0, by omega⟩)]
 rw [en]
 refine rCount_sp hs cj slot ?_
 intro h2 hs
 obtain ⟨w, lc⟩ := ref_cell hs cj
 refine ⟨_, lc 3 _ rfl, ?_⟩
 obtain ⟨v0, v1, _⟩ := valS_in ok slot
 rw [wrap_id (by omega)]
 have e : (if (countM C slot).1 * C.cfg.step > numOf C slot.toNat then (countM C slot).1 * C.cfg.step else numOf C slot.toNat) = valS C slot := by
  unfold valS
  split
  ·rw [if_neg (by omega)]
  ·split <;> omega
 dsimp only
 rw [e]
 exact k _ hs
end
end Go.Proofs.YtaglicdidpgkpaaGreatDoor
end

/- Tokens: what keeps a wish from meeting a caveat; whether a token lets somebody do that. Own work. -/
section
set_option maxRecDepth 100000
set_option linter.unusedVariables false
namespace Go.Proofs.YtaglicdidpgkpaaGreatDoor
open Go Go.Vc
attribute [local irreducible] macM

structure WiM where
 kind : Int
 slot : Int
 ver : Int
abbrev wiV (w : WiM) : List Value := [.int .i64 w.kind, .int .i64 w.slot, .int .i64 w.ver]
abbrev wiD (w : WiM) : DV := .agg [.c (.int .i64 w.kind), .c (.int .i64 w.slot), .c (.int .i64 w.ver)]
def metM (C : Cm) (c : CvM) (w : WiM) : Int :=
 if c.kind = 1 then (if w.slot ≠ c.slot then 2 else 0)
 else if c.kind = 2 then (if w.ver < c.frm then 16 else if c.to < w.ver then 16 else 0)
 else if c.kind = 3 then (if w.kind < 0 then 12 else if 63 < w.kind then 12 else if (bits .and .u64 (c.set.fdiv (2 ^ min w.kind.toNat IntKind.u64.bits)) 1 == 0) = true then 12 else 0)
 else if (sRead C c.slot).2 ≠ 0 then (sRead C c.slot).2
 else if c.kind = 4 then (if (sRead C c.slot).1 < c.frm then 11 else 0)
 else if c.kind = 5 then (if c.to < (sRead C c.slot).1 then 11 else 0) else 0
def metsM (C : Cm) (w : WiM) : List CvM → Int
 | [] => 0
 | c :: r => if metM C c w ≠ 0 then metM C c w else metsM C w r
def chkM (C : Cm) (L : List Sec) (key : Int) (id : List Int) (cs : List CvM) (tag : List Int) (w : WiM) : Int :=
 if C.out = true then 8 else if ¬ TokMay key id cs then 5
 else match L.find? (fun x => x.1 == key) with
  | none => 13
  | some s => if C.cfg.keys ≤ key then 13 else if (revokedM C key).1 = true then 14 else if rightM s.2 id cs ≠ tag then 15 else metsM C w cs
theorem metsM_at (C : Cm) (w : WiM) (cs : List CvM) {t : Nat} (h : t < cs.length) : metsM C w (cs.drop t) = if metM C cs[t] w ≠ 0 then metM C cs[t] w else metsM C w (cs.drop (t + 1)) := by
 rw [List.drop_eq_getElem_cons h]; rfl
theorem callIv_of2 {t : TypeId} {u : Value} {f : FuncId} {name : String} {run : Run} {d : DV} {xs : List DV} {Q : List DV → H → Prop} {h : H} (hm : ∀ w, (method (PP.types.size + Made.depth) t u name).run PP w = .ok (f, u) w) (hr : RunOk PP f run) (hd : ∀ x, x ∈ d :: xs → x.ok) (hu : u = d.flat) (hrun : run (d :: xs) Q h) :
  callIv PP (.iface t u) name xs Q h := by
 refine ⟨t, u, f, u, rfl, hm, ?_⟩
 have := hr (d :: xs) Q h hd hrun
 rw [hu]
 exact this
theorem wi_ok {w : WiM} {p : Addr} {d : DV} (hd : d.ok) : ∀ x, x ∈ [d, DV.addr p, wiD w] → x.ok := by
 intro x hx
 simp only [List.mem_cons, List.not_mem_nil, or_false] at hx
 rcases hx with rfl | rfl | rfl
 ·exact hd
 ·trivial
 ·intro y hy
  simp only [List.mem_cons, List.not_mem_nil, or_false] at hy
  rcases hy with rfl | rfl | rfl <;> rfl
section
variable {h0 h : H} {A : List Ent} {i j p r b s m : Nat} {C : Cm}
theorem lies_sp {Q : Int → H → Prop} (hs : Sat h0 A h) (ci : At A i (chipE p C)) (cl : At A j (logE r p)) (st : At A m (storeE s p r)) (slot a z : Int)
  (k : ∀ h', Sat h0 A h' → Q (if (sRead C slot).2 ≠ 0 then 2 else if (sRead C slot).1 < a then 11 else if z < (sRead C slot).1 then 11 else 0) h') : F_token_lies ⟨s, 0, none⟩ slot a z Q h := by
 unfold F_token_lies G_token_lies
 refine sRead_sp hs ci cl st slot ?_
 intro h1 hs
 have K := k _ hs
 clear k
 by_cases e : (sRead C slot).2 = 0
 case neg =>
  rw [if_pos (by simpa using e)]
  rw [if_pos e] at K
  exact K
 rw [if_neg (by simpa using e), ltI_eq]
 rw [if_neg (by simpa using e)] at K
 by_cases c1 : (sRead C slot).1 < a
 ·rw [if_pos (by simpa using c1)]
  rw [if_pos c1] at K
  exact K
 rw [if_neg (by simpa using c1), ltI_eq]
 rw [if_neg c1] at K
 by_cases c2 : z < (sRead C slot).1
 ·rw [if_pos (by simpa using c2)]
  rw [if_pos c2] at K
  exact K
 rw [if_neg (by simpa using c2)]
 rw [if_neg c2] at K
 exact K
theorem read_err (ho : C.out = false) (slot : Int) (h : (sRead C slot).2 ≠ 0) : (sRead C slot).2 = 2 := by
 unfold sRead at h ⊢
 by_cases c : askedM C slot C.cfg.slots ≠ 0
 ·rw [if_pos c] at h ⊢
  dsimp only at h ⊢
  unfold askedM at h ⊢
  rw [if_neg (by simp [ho])] at h ⊢
  by_cases g1 : slot < 0
  ·rw [if_pos g1]
  ·rw [if_neg g1] at h ⊢
   by_cases g2 : C.cfg.slots ≤ slot
   ·rw [if_pos g2]
   ·rw [if_neg g2] at h; exact absurd rfl h
 ·rw [if_neg c] at h; exact absurd rfl h
theorem met_sp {Q : List DV → H → Prop} (c : CvM) (w : WiM) (hm : c.may) (ho : C.out = false) (hs : Sat h0 A h) (ci : At A i (chipE p C)) (cl : At A j (logE r p)) (st : At A m (storeE s p r))
  (k : ∀ h', Sat h0 A h' → Q [.one (.int .i64 (metM C c w))] h') : callIv PP (ofV c) "portcullis/token.met" [.addr ⟨s, 0, none⟩, wiD w] Q h := by
 have ok := chip_ok hs ci
 unfold metM at k
 unfold ofV
 by_cases c1 : c.kind = 1
 ·rw [if_pos c1]
  rw [if_pos c1] at k
  refine callIv_of2 (f := id_token_onSlot_met) (d := .agg [.c (.int .i64 c.slot)]) (fun w => by kernel_rfl) R_token_onSlot_met (wi_ok (by intro x hx; simp at hx; subst hx; rfl)) rfl ?_
  show F_token_onSlot_met c.slot ⟨s, 0, none⟩ w.kind w.slot w.ver _ h
  unfold F_token_onSlot_met G_token_onSlot_met
  try simp only [add_mk, Nat.zero_add]
  intro b _ hn; replace hs := Sat.new hs hn; clear hn
  intro b2 _ hn; replace hs := Sat.new hs hn; clear hn
  refine ⟨_, hs.ld (i := 0) .z rfl, _, hs.ld (i := 1) (.s .z) rfl, ?_⟩
  have K := k _ hs.drop.drop
  by_cases g : w.slot = c.slot
  ·rw [if_neg (by simpa using g)]
   rw [if_neg (by simpa using g)] at K
   exact K
  ·rw [if_pos (by simpa using g)]
   rw [if_pos g] at K
   exact K
 rw [if_neg c1]
 rw [if_neg c1] at k
 by_cases c2 : c.kind = 2
 ·rw [if_pos c2]
  rw [if_pos c2] at k
  refine callIv_of2 (f := id_token_versions_met) (d := .agg [.c (.int .i64 c.frm), .c (.int .i64 c.to)]) (fun w => by kernel_rfl) R_token_versions_met (wi_ok (by intro x hx; simp at hx; rcases hx with rfl | rfl <;> rfl)) rfl ?_
  show F_token_versions_met c.frm c.to ⟨s, 0, none⟩ w.kind w.slot w.ver _ h
  unfold F_token_versions_met G_token_versions_met
  try simp only [add_mk, Nat.zero_add]
  intro b _ hn; replace hs := Sat.new hs hn; clear hn
  intro b2 _ hn; replace hs := Sat.new hs hn; clear hn
  refine ⟨_, hs.ld (i := 0) .z rfl, _, hs.ld (i := 1) (.s .z) rfl, ?_⟩
  have K := k _ hs.drop.drop
  rw [ltI_eq]
  by_cases g : w.ver < c.frm
  ·rw [if_pos (by simpa using g)]
   rw [if_pos g] at K
   exact K
  rw [if_neg (by simpa using g)]
  rw [if_neg g] at K
  refine ⟨_, hs.ld (i := 0) .z rfl, _, hs.ld (i := 1) (.s .z) rfl, ?_⟩
  rw [ltI_eq]
  by_cases g : c.to < w.ver
  ·rw [if_pos (by simpa using g)]
   rw [if_pos g] at K
   exact K
  rw [if_neg (by simpa using g)]
  rw [if_neg g] at K
  exact K
 rw [if_neg c2]
 rw [if_neg c2] at k
 by_cases c3 : c.kind = 3
 ·rw [if_pos c3]
  rw [if_pos c3] at k
  refine callIv_of2 (f := id_token_ofKinds_met) (d := .agg [.c (.int .u64 c.set)]) (fun w => by kernel_rfl) R_token_ofKinds_met (wi_ok (by intro x hx; simp at hx; subst hx; rfl)) rfl ?_
  show F_token_ofKinds_met c.set ⟨s, 0, none⟩ w.kind w.slot w.ver _ h
  unfold F_token_ofKinds_met G_token_ofKinds_met
  try simp only [add_mk, Nat.zero_add]
  intro b _ hn; replace hs := Sat.new hs hn; clear hn
  intro b2 _ hn; replace hs := Sat.new hs hn; clear hn
  refine ⟨_, hs.ld (i := 0) .z rfl, ?_⟩
  have K := k _ hs.drop.drop
  rw [ltI_eq]
  by_cases g : w.kind < 0
  ·rw [if_pos (by simpa using g)]
   rw [if_pos g] at K
   exact K
  rw [if_neg (by simpa using g)]
  rw [if_neg g] at K
  refine ⟨_, hs.ld (i := 0) .z rfl, ?_⟩
  rw [ltI_eq]
  by_cases g2 : 63 < w.kind
  ·rw [if_pos (by simpa using g2)]
   rw [if_pos g2] at K
   exact K
  rw [if_neg (by simpa using g2)]
  rw [if_neg g2] at K
  refine ⟨_, hs.ld (i := 1) (.s .z) rfl, _, hs.ld (i := 0) .z rfl, by omega, ?_⟩
  by_cases g3 : (bits .and .u64 (c.set.fdiv (2 ^ min w.kind.toNat IntKind.u64.bits)) 1 == 0) = true
  ·rw [if_pos g3]
   rw [if_pos g3] at K
   exact K
  ·rw [if_neg g3]
   rw [if_neg g3] at K
   exact K
 rw [if_neg c3]
 rw [if_neg c3] at k
 have hv := sRead_in ok c.slot
 have hmost := most_val
 by_cases c4 : c.kind = 4
 ·rw [if_pos c4]
  rw [if_pos c4] at k
  refine callIv_of2 (f := id_token_atLeast_met) (d := .agg [.c (.int .i64 c.slot), .c (.int .i64 c.frm)]) (fun w => by kernel_rfl) R_token_atLeast_met (wi_ok (by intro x hx; simp at hx; rcases hx with rfl | rfl <;> rfl)) rfl ?_
  show F_token_atLeast_met c.slot c.frm ⟨s, 0, none⟩ w.kind w.slot w.ver _ h
  unfold F_token_atLeast_met G_token_atLeast_met
  try simp only [add_mk, Nat.zero_add]
  intro b _ hn; replace hs := Sat.new hs hn; clear hn
  intro b2 _ hn; replace hs := Sat.new hs hn; clear hn
  refine ⟨_, hs.ld (i := 1) (.s .z) rfl, _, hs.ld (i := 1) (.s .z) rfl, ?_⟩
  refine lies_sp hs ci.s.s cl.s.s st.s.s _ _ _ ?_
  intro h2 hs
  have K := k _ hs.drop.drop
  by_cases e : (sRead C c.slot).2 = 0
  case neg =>
   rw [if_pos e]
   rw [if_pos e, read_err ho _ e] at K
   exact K
  rw [if_neg (by simpa using e)]
  rw [if_neg (by simpa using e)] at K
  by_cases g : (sRead C c.slot).1 < c.frm
  ·rw [if_pos g]
   rw [if_pos g] at K
   exact K
  rw [if_neg g, if_neg (by omega)]
  rw [if_neg g] at K
  exact K
 rw [if_neg c4]
 rw [if_neg c4] at k
 have c5 : c.kind = 5 := by unfold CvM.may at hm; omega
 rw [if_pos c5]
 rw [if_pos c5] at k
 refine callIv_of2 (f := id_token_atMost_met) (d := .agg [.c (.int .i64 c.slot), .c (.int .i64 c.to)]) (fun w => by kernel_rfl) R_token_atMost_met (wi_ok (by intro x hx; simp at hx; rcases hx with rfl | rfl <;> rfl)) rfl ?_
 show F_token_atMost_met c.slot c.to ⟨s, 0, none⟩ w.kind w.slot w.ver _ h
 unfold F_token_atMost_met G_token_atMost_met
 try simp only [add_mk, Nat.zero_add]
 intro b _ hn; replace hs := Sat.new hs hn; clear hn
 intro b2 _ hn; replace hs := Sat.new hs hn; clear hn
 refine ⟨_, hs.ld (i := 1) (.s .z) rfl, _, hs.ld (i := 1) (.s .z) rfl, ?_⟩
 refine lies_sp hs ci.s.s cl.s.s st.s.s _ _ _ ?_
 intro h2 hs
 have K := k _ hs.drop.drop
 by_cases e : (sRead C c.slot).2 = 0
 case neg =>
  rw [if_pos e]
  rw [if_pos e, read_err ho _ e] at K
  exact K
 rw [if_neg (by simpa using e)]
 rw [if_neg (by simpa using e)] at K
 rw [if_neg (by omega)]
 by_cases g : c.to < (sRead C c.slot).1
 ·rw [if_pos g]
  rw [if_pos g] at K
  exact K
 rw [if_neg g]
 rw [if_neg g] at K
 exact K
theorem sActive_out (ok : C.ok) : (sActive C).2 = if C.out = true then 8 else 0 := by
 have hm := ok.may.slots
 unfold sActive numberM
 by_cases ho : C.out = true
 ·rw [if_pos ho, if_pos ho]
 ·rw [if_neg ho, if_neg ho, if_neg (fun y => y ⟨by omega, Int.le_refl _⟩)]
theorem revoked_err (ho : ¬ C.out = true) {key : Int} (hk : 0 ≤ key) : (revokedM C key).2 = if C.cfg.keys ≤ key then 2 else 0 := by
 have a : askedM C key C.cfg.keys = if C.cfg.keys ≤ key then 2 else 0 := by unfold askedM; rw [if_neg ho, if_neg (by omega)]
 unfold revokedM
 rw [a]
 by_cases g : C.cfg.keys ≤ key
 ·rw [if_pos g, if_pos (by decide)]
 ·rw [if_neg g, if_neg (by decide)]
theorem tcheck_sp {Q : Int → H → Prop} {mm rr jm jr : Nat} {key : Int} {id tag : List Int} {cs : List CvM} {ip cp : Option Addr} {il ic cl cc : Nat} {R : List SR} (w : WiM) (hs : Sat h0 A h) (ci : At A i (chipE p C)) (cl' : At A j (logE r p)) (st : At A m (storeE s p r))
  (cr : At A jr (blk rr [.map (some mm)])) (cm : At A jm (mapE mm (R.map SR.ent))) (gd : SR.good R) (rR : ∀ x, x ∈ R → ∀ h', Sat h0 A h' → hsv h' x.p 1 x.bytes.length (ints .u8 x.bytes))
  (ht : tag.length = 32) (htb : isBy tag) (hl : cl < 2 ^ 40) (ri : ∀ h', Sat h0 A h' → hsv h' ip 1 il (ints .u8 id)) (rc : ∀ h', Sat h0 A h' → hsv h' cp 5 cl (cvsV cs))
  (k : ∀ h', Sat h0 A h' → Q (chkM C (R.map SR.kv) key id cs tag w) h') : F_token_Check ⟨rr, 0, none⟩ ⟨s, 0, none⟩ key ip il ic cp cl cc tag w.kind w.slot w.ver Q h := by
 unfold F_token_Check G_token_Check
 try simp only [add_mk, Nat.zero_add, List.append_nil]
 have hil : id.length = il := by have := (ri _ hs).1; simpa using this
 have hcl : cs.length = cl := by have := (rc _ hs).1; rw [cvsV_len] at this; omega
 unfold chkM at k
 intro tb _ hn; replace hs := Sat.new hs hn; clear hn
 intro wb _ hn; replace hs := Sat.new hs hn; clear hn
 replace hs : Sat h0 (blk wb (wiV w) :: blk tb (tokL key ip il ic cp cl cc tag) :: A) _ := hs
 refine sActive_sp hs ci.s.s cl'.s.s st.s.s ?_
 intro h1 hs
 rw [sActive_out (chip_ok hs ci.s.s)]
 by_cases ho : C.out = true
 ·rw [if_pos ho] at k ⊢
  rw [if_pos (by decide)]
  exact k _ hs.drop.drop
 rw [if_neg ho] at k ⊢
 rw [if_neg (by decide)]
 have ho2 : C.out = false := by simpa using ho
 refine ⟨_, hs.ld (i := 1) (.s .z) rfl, _, _, _, hs.ld (i := 1) (.s .z) rfl, _, _, _, hs.ld (i := 1) (.s .z) rfl, tag, ht, tok_row hs (i := 1) (.s .z), ?_⟩
 refine tmay_sp (id := id) (cs := cs) hs hil hl hcl (fun h' hs' => rc _ hs'.drop.drop) ?_
 intro h2 hs
 by_cases g : TokMay key id cs
 case neg =>
  rw [if_pos (by simp [g])]
  rw [if_pos g] at k
  exact k _ hs.drop.drop
 rw [if_neg (by simp [g])]
 rw [if_neg (by simpa using g)] at k
 obtain ⟨g1, g2, g3, g4⟩ := g
 refine ⟨_, hs.ld (i := 1) (.s .z) rfl, ?_⟩
 refine sRevoked_sp hs ci.s.s st.s.s key ?_
 intro h3 hs
 intro J44 hJ44
 refine ⟨_, hs.ld (i := 1) (.s .z) rfl, ?_⟩
 refine hasN_sp key hs cr.s.s cm.s.s ?_
 have ekv := at_kv R key
 cases e : SR.at_ R key with
 | none =>
  rw [if_pos (by simp)]
  rw [← ekv, e] at k
  exact k _ hs.drop.drop
 | some x =>
  rw [if_neg (by simp)]
  rw [← ekv, e] at k
  dsimp only [Option.map_some] at k
  by_cases gk : C.cfg.keys ≤ key
  ·rw [if_pos gk] at k
   have : (revokedM C key).2 ≠ 0 := by rw [revoked_err ho g1.1, if_pos gk]; decide
   rw [if_pos (by simpa using this)]
   exact k _ hs.drop.drop
  rw [if_neg gk] at k
  have er : (revokedM C key).2 = 0 := by rw [revoked_err ho g1.1, if_neg gk]
  rw [er, if_neg (by decide)]
  by_cases gr : (revokedM C key).1 = true
  ·rw [if_pos gr] at k ⊢
   exact k _ hs.drop.drop
  rw [if_neg gr] at k ⊢
  refine ⟨_, hs.ld (i := 1) (.s .z) rfl, _, _, _, hs.ld (i := 1) (.s .z) rfl, _, _, _, hs.ld (i := 1) (.s .z) rfl, tag, ht, tok_row hs (i := 1) (.s .z), ?_⟩
  refine right_sp (id := id) (cs := cs) hs cr.s.s cm.s.s gd (fun y hy h' hs' => rR y hy _ hs'.drop.drop) e ht htb (by omega) hl (fun h' hs' => ri _ hs'.drop.drop) (fun h' hs' => rc _ hs'.drop.drop) ?_
  intro h4 hs
  by_cases gt : rightM x.bytes id cs = tag
  case neg =>
   rw [if_pos (by simp [gt])]
   rw [if_pos gt] at k
   exact k _ hs.drop.drop
  rw [if_neg (by simp [gt])]
  rw [if_neg (by simpa using gt)] at k
  apply hJ44
  clear hJ44
  refine ⟨_, _, _, hs.ld (i := 1) (.s .z) rfl, ?_⟩
  intro J49 hJ49
  refine loop_up cl (fun t h' => Sat h0 (blk wb (wiV w) :: blk tb (tokL key ip il ic cp cl cc tag) :: A) h' ∧ metsM C w (cs.drop t) = metsM C w cs) ?_ ?_ 0 _ (by omega) ⟨hs, rfl⟩
  ·clear hs
   rintro t h5 htl ⟨hs, em⟩ hk
   apply hJ49
   rw [ltI_eq, if_pos (by rw [decide_eq_true_iff]; omega)]
   obtain ⟨q, hl2, hq, q0, q1, q2, q3, q4⟩ := cv_rd (rc _ hs.drop.drop) (i := t) htl
   refine ⟨q, hq, by omega, by omega, ?_⟩
   simp only [Int.toNat_natCast]
   refine ⟨_, q0, _, q1, _, q2, _, q3, _, q4, ?_⟩
   intro b3 _ hn; replace hs := Sat.new hs hn; clear hn
   refine ⟨Sat.can hs (i := 0) .z (by simp), ?_⟩
   intro h6 e6
   replace hs := Sat.wra hs (i := 0) .z e6 rfl
   clear e6
   simp only [put_zero] at hs
   refine ⟨_, hs.ld (i := 0) .z rfl, _, hs.ld (i := 0) .z rfl, _, hs.ld (i := 0) .z rfl, _, hs.ld (i := 0) .z rfl, _, hs.ld (i := 0) .z rfl, ?_⟩
   refine ⟨_, hs.ld (i := 1) (.s .z) rfl, _, hs.ld (i := 1) (.s .z) rfl, _, hs.ld (i := 1) (.s .z) rfl, ?_⟩
   refine of_sp24 cs[t] hs ?_
   intro h7 hs
   refine ⟨Sat.cs hs (i := 1) (.s .z) rfl, ?_⟩
   refine met_sp cs[t] w (g4 _ (List.getElem_mem hl2)) ho2 hs ci.s.s.s cl'.s.s.s st.s.s.s ?_
   intro h8 hs
   refine ⟨_, _, rfl, _, rfl, rfl, ?_⟩
   rw [metsM_at C w cs hl2] at em
   by_cases z : metM C cs[t] w = 0
   ·rw [if_neg (by simpa using z), wrap_succ (by omega)]
    rw [if_neg (by simpa using z)] at em
    exact hk _ ⟨hs.drop, em⟩
   ·rw [if_pos (by simpa using z)]
    rw [if_pos z] at em
    rw [em]
    exact k _ hs.drop.drop.drop
  ·rintro h5 ⟨hs, em⟩
   apply hJ49
   rw [ltI_eq, if_neg (by rw [decide_eq_true_iff]; omega)]
   rw [List.drop_of_length_le (by omega)] at em
   have : metsM C w cs = 0 := em.symm
   rw [this] at k
   exact k _ hs.drop.drop
end
end Go.Proofs.YtaglicdidpgkpaaGreatDoor
end

/- Tokens, the document: wishes and caveats; whether a token lets somebody do that. Own work. -/
section
set_option maxRecDepth 100000
set_option linter.unusedVariables false
namespace Go.Proofs.YtaglicdidpgkpaaGreatDoor
open Go Go.Vc
attribute [local irreducible] macM

section
variable {h0 h : H} {A : List Ent} {i j p r b s m : Nat} {C : Cm}
theorem rmeets_sp {Q : Int → H → Prop} (c : CvM) (w : WiM) (hs : Sat h0 A h) (cj : At A j (refE r C)) (k : ∀ h', Sat h0 A h' → Q (metM C c w) h') : F_portcullisref24_Meets ⟨r, 0, none⟩ c.kind c.slot c.frm c.to c.set w.kind w.slot w.ver Q h := by
 unfold F_portcullisref24_Meets G_portcullisref24_Meets
 try simp only [add_mk, Nat.zero_add, List.append_nil]
 unfold metM at k
 intro b _ hn; replace hs := Sat.new hs hn; clear hn
 intro b2 _ hn; replace hs := Sat.new hs hn; clear hn
 refine ⟨_, hs.ld (i := 1) (.s .z) rfl, ?_⟩
 by_cases c1 : c.kind = 1
 ·rw [if_pos (by simpa using c1)]
  rw [if_pos c1] at k
  refine ⟨_, hs.ld (i := 0) .z rfl, _, hs.ld (i := 1) (.s .z) rfl, ?_⟩
  have K := k _ hs.drop.drop
  by_cases g : w.slot = c.slot
  ·rw [if_neg (by simpa using g)]
   rw [if_neg (by simpa using g)] at K
   exact K
  ·rw [if_pos (by simpa using g)]
   rw [if_pos g] at K
   exact K
 rw [if_neg (by simpa using c1)]
 rw [if_neg c1] at k
 by_cases c2 : c.kind = 2
 ·rw [if_pos (by simpa using c2)]
  rw [if_pos c2] at k
  refine ⟨_, hs.ld (i := 0) .z rfl, _, hs.ld (i := 1) (.s .z) rfl, ?_⟩
  have K := k _ hs.drop.drop
  rw [ltI_eq]
  by_cases g : w.ver < c.frm
  ·rw [if_pos (by simpa using g)]
   rw [if_pos g] at K
   exact K
  rw [if_neg (by simpa using g)]
  rw [if_neg g] at K
  refine ⟨_, hs.ld (i := 0) .z rfl, _, hs.ld (i := 1) (.s .z) rfl, ?_⟩
  rw [ltI_eq]
  by_cases g : c.to < w.ver
  ·rw [if_pos (by simpa using g)]
   rw [if_pos g] at K
   exact K
  rw [if_neg (by simpa using g)]
  rw [if_neg g] at K
  exact K
 rw [if_neg (by simpa using c2)]
 rw [if_neg c2] at k
 by_cases c3 : c.kind = 3
 ·rw [if_pos (by simpa using c3)]
  rw [if_pos c3] at k
  refine ⟨_, hs.ld (i := 0) .z rfl, ?_⟩
  have K := k _ hs.drop.drop
  rw [ltI_eq]
  by_cases g : w.kind < 0
  ·rw [if_pos (by simpa using g)]
   rw [if_pos g] at K
   exact K
  rw [if_neg (by simpa using g)]
  rw [if_neg g] at K
  refine ⟨_, hs.ld (i := 0) .z rfl, ?_⟩
  rw [ltI_eq]
  by_cases g2 : 63 < w.kind
  ·rw [if_pos (by simpa using g2)]
   rw [if_pos g2] at K
   exact K
  rw [if_neg (by simpa using g2)]
  rw [if_neg g2] at K
  refine ⟨_, hs.ld (i := 1) (.s .z) rfl, _, hs.ld (i := 0) .z rfl, by omega, ?_⟩
  by_cases g3 : (bits .and .u64 (c.set.fdiv (2 ^ min w.kind.toNat IntKind.u64.bits)) 1 == 0) = true
  ·rw [if_pos g3]
   rw [if_pos g3] at K
   exact K
  ·rw [if_neg g3]
   rw [if_neg g3] at K
   exact K
 rw [if_neg (by simpa using c3)]
 rw [if_neg c3] at k
 refine ⟨_, hs.ld (i := 1) (.s .z) rfl, ?_⟩
 refine rRead10_sp hs cj.s.s c.slot ?_
 intro h2 hs
 have K := k _ hs.drop.drop
 clear k
 by_cases e : (sRead C c.slot).2 = 0
 case neg =>
  rw [if_pos (by simpa using e)]
  rw [if_pos e] at K
  exact K
 rw [if_neg (by simpa using e)]
 rw [if_neg (by simpa using e)] at K
 refine ⟨_, hs.ld (i := 1) (.s .z) rfl, ?_⟩
 by_cases c4 : c.kind = 4
 ·rw [if_pos (by simpa using c4)]
  rw [if_pos c4] at K
  refine ⟨_, hs.ld (i := 1) (.s .z) rfl, ?_⟩
  rw [ltI_eq]
  by_cases g : (sRead C c.slot).1 < c.frm
  ·rw [if_pos (by simpa using g)]
   rw [if_pos g] at K
   exact K
  rw [if_neg (by simpa using g)]
  rw [if_neg g] at K
  refine ⟨_, hs.ld (i := 1) (.s .z) rfl, ?_⟩
  rw [if_neg (by simp [c4])]
  exact K
 rw [if_neg (by simpa using c4)]
 rw [if_neg c4] at K
 refine ⟨_, hs.ld (i := 1) (.s .z) rfl, ?_⟩
 by_cases c5 : c.kind = 5
 ·rw [if_pos (by simpa using c5)]
  rw [if_pos c5] at K
  refine ⟨_, hs.ld (i := 1) (.s .z) rfl, ?_⟩
  rw [ltI_eq]
  by_cases g : c.to < (sRead C c.slot).1
  ·rw [if_pos (by simpa using g)]
   rw [if_pos g] at K
   exact K
  rw [if_neg (by simpa using g)]
  rw [if_neg g] at K
  exact K
 rw [if_neg (by simpa using c5)]
 rw [if_neg c5] at K
 exact K
end
end Go.Proofs.YtaglicdidpgkpaaGreatDoor
end

/- Law 24: the scene: a chip, its store, keys, the program's and the document's. Own work. -/
section
set_option maxRecDepth 100000
set_option linter.unusedVariables false
namespace Go.Proofs.YtaglicdidpgkpaaGreatDoor
open Go Go.Vc
attribute [local irreducible] macM

theorem goM_ne (L : List Sec) : ∀ k e i, goM L k = some (e, i) → e ≠ 0
 | 0, e, i, h => by cases h
 | k + 1, e, i, h => by
  unfold goM at h
  by_cases c : badM (L.take (L.length - (k + 1))) (L.getD (L.length - (k + 1)) (0, [])) = 0
  ·rw [if_pos c] at h
   exact goM_ne L k e i h
  ·rw [if_neg c] at h
   injection h with h
   injection h with h1 h2
   rw [← h1]; exact c
theorem newM_ne {L : List Sec} {e i : Int} (h : newM L = some (e, i)) : e ≠ 0 := by
 unfold newM at h
 by_cases c : 64 < L.length
 ·rw [if_pos c] at h
  injection h with h
  injection h with h1 h2
  omega
 ·rw [if_neg c] at h
  exact goM_ne L _ _ _ h
theorem perm2m {α : Type} (a b : α) (P C : List α) : (P ++ a :: b :: C).Perm (a :: b :: (P ++ C)) := by
 have := (List.perm_append_comm (l₁ := P) (l₂ := [a, b])).append_right C
 simpa using this
section
variable {h0 h : H} {A : List Ent} {i j p r b s m : Nat} {C : Cm}
abbrev scnV (c : Cfg) (a b c' : Sl) (lp : Option Addr) (ll lc : Nat) : List Value := [.int .i64 c.cells, .int .i64 c.slots, .int .i64 c.fuses, .int .i64 c.step, .int .i64 c.keys, .int .i64 c.erases, .int .i64 c.area, a.v, b.v, c'.v, .slice lp ll lc]
theorem scene24_sp {a_ b_ c' : Sl} {s : St} {X : List SR} {lp : Option Addr} {ll lc : Nat} {Q : Option Addr → Option Addr → Option Addr → Option Addr → Option Addr → Bool → H → Prop} (c : Cfg) (hs : Sat h0 A h) (rd : ∀ h', Sat h0 A h' → RdS h' a_ b_ c' s) (ty : s.typed) (rl : SecsAt h0 lp ll X) (hll : ll < 2 ^ 47)
  (k1 : ∀ h', Sat h0 A h' → Q none none none none none true h')
  (k2 : c.may → s.lays c → ∀ pc st lg pr rp mp R rr lp' lc' R2 h', R.map SR.kv = X.map SR.kv → SR.good R → R2.map SR.kv = X.map SR.kv → SR.good R2 → R2.length < 2 ^ 40 →
   Sat h0 (chipE pc (layC c s) :: refE pr (layC c s) :: storeE st pc lg :: logE lg pc :: (ringD rr lp' lc' R2 ++ (ringP rp mp R ++ A))) h' → Q (some ⟨pc, 0, none⟩) (some ⟨st, 0, none⟩) (some ⟨rp, 0, none⟩) (some ⟨pr, 0, none⟩) (some ⟨rr, 0, none⟩) true h') :
  F_portcullislaw24_scene c.cells c.slots c.fuses c.step c.keys c.erases c.area a_.1 a_.2.1 a_.2.2 b_.1 b_.2.1 b_.2.2 c'.1 c'.2.1 c'.2.2 lp ll lc Q h := by
 unfold F_portcullislaw24_scene G_portcullislaw24_scene
 try simp only [add_mk, Nat.zero_add, List.append_nil]
 have lR : X.length = ll := rl.1.symm
 obtain ⟨L, hL⟩ : ∃ L, X.map SR.kv = L := ⟨_, rfl⟩
 intro n26 _ hn; replace hs := Sat.new hs hn; clear hn
 replace hs : Sat h0 (blk n26 (scnV c a_ b_ c' lp ll lc) :: A) _ := hs
 (repeat first | refine ⟨_, Sat.ld hs (by (repeat (first | exact At.z | apply At.s))) (by rfl), ?_⟩ | refine ⟨_, _, _, Sat.ld hs (by (repeat (first | exact At.z | apply At.s))) (by rfl), ?_⟩ | (intro _ _ hn; replace hs := Sat.new hs hn; clear hn) | refine ⟨Sat.cs hs (by (repeat (first | exact At.z | apply At.s))) (by rfl), ?_⟩ | (refine ⟨Sat.can hs (by (repeat (first | exact At.z | apply At.s))) (by simp), ?_⟩; intro _ e; replace hs := Sat.wr hs (by (repeat (first | exact At.z | apply At.s))) e; clear e; simp only [put, splice, List.set] at hs))
 refine Lay_sp (a := a_) (b := b_) (c' := c') (s := s) c hs (fun h' hs' => rd _ hs'.drop) ty ?_ ?_ ?_
 ·intro nm h1 hs
  (repeat first | refine ⟨_, Sat.ld hs (by (repeat (first | exact At.z | apply At.s))) (by rfl), ?_⟩ | refine ⟨_, _, _, Sat.ld hs (by (repeat (first | exact At.z | apply At.s))) (by rfl), ?_⟩ | (intro _ _ hn; replace hs := Sat.new hs hn; clear hn) | refine ⟨Sat.cs hs (by (repeat (first | exact At.z | apply At.s))) (by rfl), ?_⟩ | (refine ⟨Sat.can hs (by (repeat (first | exact At.z | apply At.s))) (by simp), ?_⟩; intro _ e; replace hs := Sat.wr hs (by (repeat (first | exact At.z | apply At.s))) e; clear e; simp only [put, splice, List.set] at hs))
  refine rLay_sp (a := a_) (b := b_) (c' := c') (s := s) c hs (fun h' hs' => rd _ hs'.drop) ty ?_ (fun m => absurd m nm) (fun m => absurd m nm)
  intro _ h2 hs
  refine ⟨_, _, _, Sat.ld hs (by (repeat (first | exact At.z | apply At.s))) (by rfl), ?_⟩
  refine keysU_sp hs hL (fun h' hs' => rl.ext hs') hll ?_
  intro o1 e1 i1 h3 B hs hB
  obtain ⟨y, ay⟩ : ∃ y, At (B ++ (blk n26 (scnV c a_ b_ c' lp ll lc) :: A)) y (blk n26 (scnV c a_ b_ c' lp ll lc)) := At.mem (by simp)
  refine ⟨_, _, _, hs.ld ay rfl, ?_⟩
  refine ringsU_sp hs hL (fun h' hs' => rl.ext hs') hll ?_
  intro o2 e2 i2 h4 B2 hs hB2
  intro J81 hJ81
  have ee : e1 = e2 := by
   rcases hB with ⟨a, _⟩ | ⟨a, b, _⟩ <;> rcases hB2 with ⟨a2, _⟩ | ⟨a2, b2, _⟩
   ·rw [a] at a2; injection a2 with a2; injection a2
   ·rw [a] at a2; cases a2
   ·rw [a] at a2; cases a2
   ·rw [b, b2]
  have eo : o1.isNone = o2.isNone := by
   rcases hB with ⟨a, b⟩ | ⟨a, _, _, _, _, b, _⟩ <;> rcases hB2 with ⟨a2, b2⟩ | ⟨a2, _, _, _, _, _, b2, _⟩
   ·rw [b, b2]
   ·rw [a] at a2; cases a2
   ·rw [a] at a2; cases a2
   ·rw [b, b2]; rfl
  rw [if_neg (by simp), ee, if_neg (by simp), if_neg (by simp), eo, if_neg (by simp)]
  apply hJ81
  rw [if_pos (by decide)]
  exact k1 _ (hs.sub ((List.sublist_cons_self _ _).trans ((List.sublist_append_right _ _).trans (List.sublist_append_right _ _))))
 ·intro m nl h1 hs
  (repeat first | refine ⟨_, Sat.ld hs (by (repeat (first | exact At.z | apply At.s))) (by rfl), ?_⟩ | refine ⟨_, _, _, Sat.ld hs (by (repeat (first | exact At.z | apply At.s))) (by rfl), ?_⟩ | (intro _ _ hn; replace hs := Sat.new hs hn; clear hn) | refine ⟨Sat.cs hs (by (repeat (first | exact At.z | apply At.s))) (by rfl), ?_⟩ | (refine ⟨Sat.can hs (by (repeat (first | exact At.z | apply At.s))) (by simp), ?_⟩; intro _ e; replace hs := Sat.wr hs (by (repeat (first | exact At.z | apply At.s))) e; clear e; simp only [put, splice, List.set] at hs))
  refine rLay_sp (a := a_) (b := b_) (c' := c') (s := s) c hs (fun h' hs' => rd _ hs'.drop) ty (fun nm => absurd m nm) ?_ (fun _ l => absurd l nl)
  intro _ _ h2 hs
  refine ⟨_, _, _, Sat.ld hs (by (repeat (first | exact At.z | apply At.s))) (by rfl), ?_⟩
  refine keysU_sp hs hL (fun h' hs' => rl.ext hs') hll ?_
  intro o1 e1 i1 h3 B hs hB
  obtain ⟨y, ay⟩ : ∃ y, At (B ++ (blk n26 (scnV c a_ b_ c' lp ll lc) :: A)) y (blk n26 (scnV c a_ b_ c' lp ll lc)) := At.mem (by simp)
  refine ⟨_, _, _, hs.ld ay rfl, ?_⟩
  refine ringsU_sp hs hL (fun h' hs' => rl.ext hs') hll ?_
  intro o2 e2 i2 h4 B2 hs hB2
  intro J81 hJ81
  have ee : e1 = e2 := by
   rcases hB with ⟨a, _⟩ | ⟨a, b, _⟩ <;> rcases hB2 with ⟨a2, _⟩ | ⟨a2, b2, _⟩
   ·rw [a] at a2; injection a2 with a2; injection a2
   ·rw [a] at a2; cases a2
   ·rw [a] at a2; cases a2
   ·rw [b, b2]
  have eo : o1.isNone = o2.isNone := by
   rcases hB with ⟨a, b⟩ | ⟨a, _, _, _, _, b, _⟩ <;> rcases hB2 with ⟨a2, b2⟩ | ⟨a2, _, _, _, _, _, b2, _⟩
   ·rw [b, b2]
   ·rw [a] at a2; cases a2
   ·rw [a] at a2; cases a2
   ·rw [b, b2]; rfl
  rw [if_neg (by simp), ee, if_neg (by simp), if_neg (by simp), eo, if_neg (by simp)]
  apply hJ81
  rw [if_pos (by decide)]
  exact k1 _ (hs.sub ((List.sublist_cons_self _ _).trans ((List.sublist_append_right _ _).trans (List.sublist_append_right _ _))))
 ·intro m l pc h1 hs
  (repeat first | refine ⟨_, Sat.ld hs (by (repeat (first | exact At.z | apply At.s))) (by rfl), ?_⟩ | refine ⟨_, _, _, Sat.ld hs (by (repeat (first | exact At.z | apply At.s))) (by rfl), ?_⟩ | (intro _ _ hn; replace hs := Sat.new hs hn; clear hn) | refine ⟨Sat.cs hs (by (repeat (first | exact At.z | apply At.s))) (by rfl), ?_⟩ | (refine ⟨Sat.can hs (by (repeat (first | exact At.z | apply At.s))) (by simp), ?_⟩; intro _ e; replace hs := Sat.wr hs (by (repeat (first | exact At.z | apply At.s))) e; clear e; simp only [put, splice, List.set] at hs))
  refine rLay_sp (a := a_) (b := b_) (c' := c') (s := s) c hs (fun h' hs' => rd _ hs'.drop.drop) ty (fun nm => absurd m nm) (fun _ nl => absurd l nl) ?_
  intro _ _ pr h2 hs
  refine ⟨_, _, _, Sat.ld hs (by (repeat (first | exact At.z | apply At.s))) (by rfl), ?_⟩
  refine keysU_sp hs hL (fun h' hs' => rl.ext hs') hll ?_
  intro o1 e1 i1 h3 B hs hB
  obtain ⟨y, ay⟩ : ∃ y, At (B ++ (refE pr (layC c s) :: chipE pc (layC c s) :: blk n26 (scnV c a_ b_ c' lp ll lc) :: A)) y (blk n26 (scnV c a_ b_ c' lp ll lc)) := At.mem (by simp)
  refine ⟨_, _, _, hs.ld ay rfl, ?_⟩
  refine ringsU_sp hs hL (fun h' hs' => rl.ext hs') hll ?_
  intro o2 e2 i2 h4 B2 hs hB2
  intro J81 hJ81
  have ee : e1 = e2 := by
   rcases hB with ⟨a, _⟩ | ⟨a, b, _⟩ <;> rcases hB2 with ⟨a2, _⟩ | ⟨a2, b2, _⟩
   ·rw [a] at a2; injection a2 with a2; injection a2
   ·rw [a] at a2; cases a2
   ·rw [a] at a2; cases a2
   ·rw [b, b2]
  have eo : o1.isNone = o2.isNone := by
   rcases hB with ⟨a, b⟩ | ⟨a, _, _, _, _, b, _⟩ <;> rcases hB2 with ⟨a2, b2⟩ | ⟨a2, _, _, _, _, _, b2, _⟩
   ·rw [b, b2]
   ·rw [a] at a2; cases a2
   ·rw [a] at a2; cases a2
   ·rw [b, b2]; rfl
  rw [if_neg (by simp), ee, if_neg (by simp), if_neg (by simp), eo, if_neg (by simp)]
  apply hJ81
  rw [if_neg (by decide)]
  rcases hB with ⟨a, b⟩ | ⟨a, b0, rp, mp, R, b, eR, gR, b1⟩
  ·rcases hB2 with ⟨a2, b2⟩ | ⟨a2, _, _, _, _, _, b2, _⟩
   ·rw [if_pos (by simpa using newM_ne a2)]
    exact k1 _ (hs.sub ((((List.sublist_cons_self _ _).trans (List.sublist_cons_self _ _)).trans (List.sublist_cons_self _ _)).trans ((List.sublist_append_right _ _).trans (List.sublist_append_right _ _))))
   ·rw [a] at a2; cases a2
  rcases hB2 with ⟨a2, b2⟩ | ⟨_, c0, rr, lp2, lc2, R2, b2, eR2, gR2, b3⟩
  ·rw [a] at a2; cases a2
  rw [c0, if_neg (by decide)]
  subst b b1 b2 b3
  refine ⟨_, rfl, ?_⟩
  obtain ⟨z, az⟩ : ∃ z, At (ringD rr lp2 lc2 R2 ++ (ringP rp mp R ++ (refE pr (layC c s) :: chipE pc (layC c s) :: blk n26 (scnV c a_ b_ c' lp ll lc) :: A))) z (chipE pc (layC c s)) := At.mem (by simp)
  refine sMount_sp hs az (fun y => by cases y) ?_
  intro _ st lg h5 hs
  rw [if_pos (by decide)]
  have lR2 : R2.length < 2 ^ 40 := by
   have := congrArg List.length eR2
   rw [List.length_map] at this
   have h64 : ¬ 64 < L.length := fun y => by unfold newM at a; rw [if_pos y] at a; cases a
   omega
  refine k2 m l pc st lg pr rp mp R rr lp2 lc2 R2 h5 (eR.trans hL.symm) gR (eR2.trans hL.symm) gR2 lR2 ?_
  have p1 : (storeE st pc lg :: logE lg pc :: (ringD rr lp2 lc2 R2 ++ (ringP rp mp R ++ (refE pr (layC c s) :: chipE pc (layC c s) :: blk n26 (scnV c a_ b_ c' lp ll lc) :: A)))).Perm (refE pr (layC c s) :: chipE pc (layC c s) :: (storeE st pc lg :: logE lg pc :: (ringD rr lp2 lc2 R2 ++ (ringP rp mp R ++ (blk n26 (scnV c a_ b_ c' lp ll lc) :: A))))) := by
   have q1 := (perm2m (refE pr (layC c s)) (chipE pc (layC c s)) (ringP rp mp R) (blk n26 (scnV c a_ b_ c' lp ll lc) :: A)).append_left (ringD rr lp2 lc2 R2)
   have q2 := perm2m (refE pr (layC c s)) (chipE pc (layC c s)) (ringD rr lp2 lc2 R2) (ringP rp mp R ++ (blk n26 (scnV c a_ b_ c' lp ll lc) :: A))
   have q3 := ((q1.trans q2).append_left [storeE st pc lg, logE lg pc])
   exact q3.trans (perm2m (refE pr (layC c s)) (chipE pc (layC c s)) [storeE st pc lg, logE lg pc] _)
  refine ((hs.perm p1).perm (List.Perm.swap _ _ _)).sub ?_
  refine List.Sublist.cons_cons _ (List.Sublist.cons_cons _ (List.Sublist.cons_cons _ (List.Sublist.cons_cons _ ?_)))
  exact (List.Sublist.refl _).append ((List.Sublist.refl _).append (List.sublist_cons_self _ _))
end
end Go.Proofs.YtaglicdidpgkpaaGreatDoor
end

/- What arguments of the statements are: scenes. Own work. -/
section
set_option maxRecDepth 100000
set_option linter.unusedVariables false
namespace Go.Proofs.YtaglicdidpgkpaaGreatDoor
open Go Go.Vc Go.ChangeShapes Go.WideShapes Go.ChangeAt Go.RowKit
theorem xScn : xsh PP 8 31 = some [.int .i64, .int .i64, .int .i64, .int .i64, .int .i64, .int .i64, .int .i64, .slc 165, .slc 3, .slc 4, .slc 89] := by kernel_rfl
section
variable {D : Type} {enc : TypeId × Value → D} {W : World}
theorem scene_of {v : Value} {base : Nat} (h : Rdt enc PP W 31 v.cells.toList) (ho : Value.okWide PP W .any base 31 v) :
  ∃ (c : Cfg) (a b c' : Sl) (s : St) (X : List SR) (lp : Option Addr) (ll lc : Nat), v = .agg (scnV c a b c' lp ll lc).toArray ∧ RdS W.heap a b c' s ∧ s.typed ∧ s.small ∧ SecsAt W.heap lp ll X ∧ ll < 2 ^ 47 := by
 have e := okw_agg (by kernel_rfl) ho
 obtain ⟨a1, r1, e1, _, a2, r2, rfl, _, a3, r3, rfl, _, a4, r4, rfl, _, a5, r5, rfl, _, a6, r6, rfl, _, a7, r7, rfl, _, p1, l1, c1, q1, rfl, s1, p2, l2, c2, q2, rfl, s2, p3, l3, c3, q3, rfl, s3, p4, l4, c4, q4, rfl, s4, hr⟩ := Rdt.xm 8 _ _ _ xScn h
 simp only [XM] at hr
 subst hr
 obtain ⟨rows, m1, m2, m3⟩ := mat_of s1
 obtain ⟨es, i1, i2, i3⟩ := ints_of s2
 obtain ⟨bs, b1, b2⟩ := bools_of s3
 obtain ⟨X, x1, x2⟩ := secs_of s4
 refine ⟨⟨a1, a2, a3, a4, a5, a6, a7⟩, (p1, l1, c1), (p2, l2, c2), (p3, l3, c3), ⟨rows, es, bs⟩, X, p4, l4, c4, ?_, ⟨m1, i1, b1⟩, ⟨fun l hl => (m2 l hl).1, i2⟩, ⟨m3, fun l hl => (m2 l hl).2, i3, b2⟩, x1, x2⟩
 rw [e]
 congr 1
 rw [← Array.toArray_toList (xs := v.cells), e1]
theorem ok_scn (c : Cfg) (a b c' : Sl) (lp : Option Addr) (ll lc : Nat) : (DV.agg [.c (.int .i64 c.cells), .c (.int .i64 c.slots), .c (.int .i64 c.fuses), .c (.int .i64 c.step), .c (.int .i64 c.keys), .c (.int .i64 c.erases), .c (.int .i64 c.area), .c a.v, .c b.v, .c c'.v, .c (.slice lp ll lc)]).ok := by
 intro y hy; simp only [List.mem_cons, List.not_mem_nil, or_false] at hy
 rcases hy with rfl | rfl | rfl | rfl | rfl | rfl | rfl | rfl | rfl | rfl | rfl <;> rfl
end
end Go.Proofs.YtaglicdidpgkpaaGreatDoor
end

/- TokenChecks: over any chip, keys, tokens, wishes; no act; without power, too. Own work. -/
section
set_option maxRecDepth 100000
set_option linter.unusedVariables false
namespace Go.Proofs.YtaglicdidpgkpaaGreatDoor
open Go Go.Vc
attribute [local irreducible] macM

structure TkIn (h : H) (key : Int) (id tag : List Int) (cs : List CvM) (ip : Option Addr) (il : Nat) (cp : Option Addr) (cl : Nat) : Prop where
 ri : hsv h ip 1 il (ints .u8 id)
 rb : isBy id
 ii : il + 4096 ≤ 2 ^ 47
 rc : hsv h cp 5 cl (cvsV cs)
 tl : tag.length = 32
 tb : isBy tag
section
variable {h0 h : H} {A : List Ent} {i j p r b s m : Nat} {C : Cm}
theorem wish_sp {Q : Int → Int → Int → H → Prop} (w : WiM) (hs : Sat h0 A h) (k : ∀ h', Sat h0 A h' → Q w.kind w.slot w.ver h') : F_portcullislaw24_wish w.kind w.slot w.ver Q h := by
 unfold F_portcullislaw24_wish G_portcullislaw24_wish
 try simp only [add_mk, Nat.zero_add]
 intro b _ hn; replace hs := Sat.new hs hn; clear hn
 intro b2 _ hn; replace hs := Sat.new hs hn; clear hn
 refine ⟨_, hs.ld (i := 1) (.s .z) rfl, _, hs.ld (i := 1) (.s .z) rfl, _, hs.ld (i := 1) (.s .z) rfl, ?_⟩
 refine ⟨Sat.can hs (i := 0) .z (by simp), ?_⟩
 intro h2 e
 replace hs := Sat.wra hs (i := 0) .z e rfl
 clear e
 simp only [put_zero] at hs
 refine ⟨_, hs.ld (i := 0) .z rfl, _, hs.ld (i := 0) .z rfl, _, hs.ld (i := 0) .z rfl, ?_⟩
 exact k _ hs.drop.drop
end
end Go.Proofs.YtaglicdidpgkpaaGreatDoor
end

/- What arguments of the statements are: lists of tokens, of wishes. Own work. -/
section
set_option maxRecDepth 100000
set_option linter.unusedVariables false
namespace Go.Proofs.YtaglicdidpgkpaaGreatDoor
open Go Go.Vc Go.ChangeShapes Go.WideShapes Go.ChangeAt Go.RowKit
theorem xWi24 : xsh PP 8 42 = some [.int .i64, .int .i64, .int .i64] := by kernel_rfl
section
variable {D : Type} {enc : TypeId × Value → D} {W : World}
theorem cavA_of {v : Value} {base : Nat} (h : Rdt enc PP W 40 v.cells.toList) (ho : Value.okWide PP W .any base 40 v) : ∃ c : CvM, v = .agg (cvV c).toArray := by
 have e := okw_agg (by kernel_rfl) ho
 obtain ⟨a, r1, e1, ha, b, r2, rfl, hb, c, r3, rfl, hc, d, r4, rfl, hd, f, r5, rfl, hf, hr⟩ := Rdt.xm 8 _ _ _ xCav24 h
 simp only [XM] at hr
 subst hr
 refine ⟨⟨a, b, c, d, f⟩, ?_⟩
 rw [e]
 congr 1
 rw [← Array.toArray_toList (xs := v.cells), e1]
theorem wish_of {v : Value} {base : Nat} (h : Rdt enc PP W 42 v.cells.toList) (ho : Value.okWide PP W .any base 42 v) : ∃ w : WiM, v = .agg (wiV w).toArray := by
 have e := okw_agg (by kernel_rfl) ho
 obtain ⟨a, r1, e1, ha, b, r2, rfl, hb, c, r3, rfl, hc, hr⟩ := Rdt.xm 8 _ _ _ xWi24 h
 simp only [XM] at hr
 subst hr
 refine ⟨⟨a, b, c⟩, ?_⟩
 rw [e]
 congr 1
 rw [← Array.toArray_toList (xs := v.cells), e1]
end
end Go.Proofs.YtaglicdidpgkpaaGreatDoor
end
