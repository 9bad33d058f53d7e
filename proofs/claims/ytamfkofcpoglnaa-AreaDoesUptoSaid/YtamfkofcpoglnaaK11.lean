/- AreaDoes: what is proved and its parts, laid together by a program of ours: Ar8 Ar9 Mp Im1 Lg1 Lg2 Im2 Im3 Of Ar13 Sr Ar14 -/
import Derived.Test.YtamfkofcpoglnaaK10
set_option autoImplicit false
set_option linter.all false
/- AreaWrites: what the erases of a Write leave; laws about numbers alone. Own work. -/
section
set_option maxRecDepth 100000
set_option linter.unusedVariables false
namespace Go.Proofs.Ytamfkofcpoglnaa
open Go Go.Vc

def Cm.er (C : Cm) (x : Nat) : Int := C.s.erases.getD x 0
def Cm.pg (C : Cm) (x : Nat) : List Int := C.s.pages.getD x []
def dif (C D : Cm) : Nat → Nat → Int
  | _, 0 => 0
  | B, m + 1 => (D.er B - C.er B) + dif C D (B + 1) m
theorem dif_succ (C D : Cm) (B m : Nat) : dif C D B (m + 1) = (D.er B - C.er B) + dif C D (B + 1) m := rfl
theorem dif_congr {C C' D : Cm} (m : Nat) : ∀ B, (∀ x, B ≤ x → x < B + m → C.er x = C'.er x) → dif C D B m = dif C' D B m := by
  induction m with
  | zero => intro B _; rfl
  | succ m ih =>
    intro B h
    unfold dif
    rw [h B (by omega) (by omega), ih (B + 1) fun x h1 h2 => h x (by omega) (by omega)]
theorem dif_zero {C D : Cm} (m : Nat) : ∀ B, (∀ x, B ≤ x → x < B + m → D.er x = C.er x) → dif C D B m = 0 := by
  induction m with
  | zero => intro B _; rfl
  | succ m ih =>
    intro B h
    unfold dif
    rw [h B (by omega) (by omega), ih (B + 1) fun x h1 h2 => h x (by omega) (by omega)]; omega
theorem usedM_congr {C D : Cm} {page : Int} (hc : D.cfg = C.cfg) (ho : D.out = C.out) (hl : D.s.pages.length = C.s.pages.length) (hp : D.pg page.toNat = C.pg page.toNat) : usedM D page = usedM C page := by
  have e : ∀ n : Int, readM D page n = readM C page n := by
    intro n
    unfold readM asksCellM askedM
    unfold Cm.pg at hp
    rw [hc, ho, hl, hp]
  unfold usedM usedP
  rw [hc]
  simp only [e]
/-- What erases do to so many pages. -/
structure Er (B m : Nat) (C D : Cm) (e : Int) : Prop where
  cfg : D.cfg = C.cfg
  bl : D.s.blown = C.s.blown
  np : D.s.pages.length = C.s.pages.length
  ne : D.s.erases.length = C.s.erases.length
  pg : ∀ x, x < B ∨ B + m ≤ x → D.pg x = C.pg x
  er : ∀ x, x < B ∨ B + m ≤ x → D.er x = C.er x
  acts : D.acts = C.acts + dif C D B m
  ab : C.acts ≤ D.acts ∧ D.acts ≤ C.acts + m
  good : e = 0 → D.out = false ∧ -1 ≤ D.left ∧ ∀ x, B ≤ x → x < B + m → (D.pg x).length = C.cfg.cells.toNat * 32 ∧ blankP (D.pg x) C.cfg.cells.toNat
  bad : e ≠ 0 → e = 8
theorem erased_blank {row : List Int} {l : Nat} (hl : row.length = l * 32) (f : Nat → Int) (hf : ∀ i, f i = 255) : (eraseRow row f).length = l * 32 ∧ blankP (eraseRow row f) l := by
  refine ⟨by unfold eraseRow; rw [mapTo_length]; exact hl, ?_⟩
  intro n hn
  have h1 : (cellAt (eraseRow row f) n).length = 32 := cellAt_length (by unfold eraseRow; rw [mapTo_length]; omega)
  refine ext_getD (h1.trans rfl) fun i hi => ?_
  rw [h1] at hi
  rw [cellAt_getD _ _ _ hi]
  unfold eraseRow
  rw [mapTo_getD _ _ _ _ (by omega) (by omega), hf, full_or]
  unfold ffs
  rw [tab_getD _ hi]
theorem getD_put {α : Type} (l : List α) (j : Nat) (v d : α) (h : j < l.length) : (l.set j v).getD j d = v := by
  simp [List.getD, h]
theorem erase_step {C : Cm} {B : Nat} (ho : C.out = false) (hB : B < C.s.pages.length) (hB2 : B < C.s.erases.length) (hw : C.er B < C.cfg.erases) (ha : 0 ≤ C.acts ∧ C.acts < 2 ^ 60) :
    ∃ D : Cm, eraseM C (B : Int) = (D, errM C) ∧ D.cfg = C.cfg ∧ D.s.blown = C.s.blown ∧ D.s.pages.length = C.s.pages.length ∧ D.s.erases.length = C.s.erases.length ∧ (∀ x, x ≠ B → D.pg x = C.pg x) ∧ (∀ x, x ≠ B → D.er x = C.er x) ∧
      D.er B = C.er B + 1 ∧ D.acts = C.acts + 1 ∧ D.pg B = eraseRow (C.pg B) (maskAt C) ∧ (C.left ≠ 0 → D.out = false) ∧ (-1 ≤ C.left → -1 ≤ D.left) := by
  have hac : C.act.acts = C.acts + 1 := by
    unfold Cm.act
    have : w64 (C.acts + 1) = C.acts + 1 := by unfold w64; rw [IntKind.wrap_i64]; omega
    split <;> exact this
  unfold eraseM
  rw [askedM_in ho (by omega) (by omega), if_neg (by simp), Int.toNat_natCast]
  unfold Cm.er at hw
  rw [if_neg (by omega)]
  refine ⟨_, rfl, act_cfg C, ?_, ?_, ?_, ?_, ?_, ?_, hac, ?_, ?_, ?_⟩
  · show C.act.s.blown = _; rw [act_s]
  · show (C.act.s.pages.set B _).length = _; rw [List.length_set, act_s]
  · show (C.act.s.erases.set B _).length = _; rw [List.length_set, act_s]
  · intro x hx
    show (C.act.s.pages.set B _).getD x [] = C.s.pages.getD x []
    simp only [List.getD, List.getElem?_set_ne (Ne.symm hx), act_s]
  · intro x hx
    show (C.act.s.erases.set B _).getD x 0 = C.s.erases.getD x 0
    simp only [List.getD, List.getElem?_set_ne (Ne.symm hx), act_s]
  · show (C.act.s.erases.set B _).getD B 0 = _
    exact getD_put _ _ _ _ (by rw [act_s]; exact hB2)
  · show (C.act.s.pages.set B _).getD B [] = _
    rw [getD_put _ _ _ _ (by rw [act_s]; exact hB)]
    unfold rowOf
    rw [Int.toNat_natCast]; rfl
  · intro hl
    show C.act.out = false
    exact act_out ho hl
  · intro hl
    show -1 ≤ C.act.left
    unfold Cm.act
    split
    · dsimp only; split <;> omega
    · exact Int.le_refl _
theorem erases (base : Int) : ∀ (m j B : Nat) (C : Cm), base + j = (B : Int) → C.out = false → -1 ≤ C.left → B + m ≤ C.s.pages.length → B + m ≤ C.s.erases.length → (0 ≤ C.acts ∧ C.acts + m < 2 ^ 60) →
    (∀ x, B ≤ x → x < B + m → (C.pg x).length = C.cfg.cells.toNat * 32) → (∀ x, B ≤ x → x < B + m → usedM C (x : Int) = true → C.er x < C.cfg.erases) →
    (∀ x, B ≤ x → x < B + m → usedM C (x : Int) = false → blankP (C.pg x) C.cfg.cells.toNat) → Er B m C (eraseL base m j C).1 (eraseL base m j C).2 := by
  intro m
  induction m with
  | zero =>
    intro j B C hB ho hl _ _ _ _ _ _
    unfold eraseL
    exact ⟨rfl, rfl, rfl, rfl, fun _ _ => rfl, fun _ _ => rfl, by simp [dif], ⟨Int.le_refl _, by (try dsimp only); omega⟩, fun _ => ⟨ho, hl, fun x h1 h2 => by omega⟩, fun x => absurd rfl x⟩
  | succ m ih =>
    intro j B C hB ho hl hp he ha hlen hw hbl
    unfold eraseL
    rw [hB]
    by_cases u : usedM C (B : Int) = true
    case neg =>
      rw [if_neg u]
      have I := ih (j + 1) (B + 1) C (by omega) ho hl (by omega) (by omega) ⟨ha.1, by omega⟩ (fun x h1 h2 => hlen x (by omega) (by omega)) (fun x h1 h2 => hw x (by omega) (by omega)) (fun x h1 h2 => hbl x (by omega) (by omega))
      generalize eraseL base m (j + 1) C = X at *
      have hBp := I.pg B (by omega)
      have hBe := I.er B (by omega)
      refine ⟨I.cfg, I.bl, I.np, I.ne, fun x hx => I.pg x (by omega), fun x hx => I.er x (by omega), ?_, ⟨I.ab.1, by have := I.ab.2; omega⟩, fun e => ?_, I.bad⟩
      · rw [I.acts, dif_succ, hBe]; omega
      · obtain ⟨g1, g2, g3⟩ := I.good e
        refine ⟨g1, g2, fun x h1 h2 => ?_⟩
        by_cases c : x = B
        · subst c
          rw [hBp]
          exact ⟨hlen x (by omega) (by omega), hbl x (by omega) (by omega) (by simpa using u)⟩
        · exact g3 x (by omega) (by omega)
    rw [if_pos u]
    obtain ⟨D, hD, d1, d2, d3, d4, d5, d6, d7, d8, d9, d10, d11⟩ := erase_step ho (show B < C.s.pages.length by omega) (by omega) (hw B (by omega) (by omega) u) ⟨ha.1, by omega⟩
    rw [hD]
    dsimp only
    by_cases c : C.left = 0
    · have e8 : errM C = 8 := by unfold errM; rw [if_neg (by simpa using c)]
      rw [e8, if_pos (by simp)]
      refine ⟨d1, d2, d3, d4, fun x hx => d5 x (by omega), fun x hx => d6 x (by omega), ?_, ⟨by (try dsimp only); omega, by (try dsimp only); omega⟩, fun e => by simp at e, fun _ => rfl⟩
      rw [dif_succ, dif_zero m (B + 1) fun x h1 h2 => d6 x (by omega), d7, d8]; omega
    · have e0 : errM C = 0 := by unfold errM; rw [if_pos (by simpa using c)]
      rw [e0, if_neg (by simp)]
      have hu : ∀ x, B + 1 ≤ x → usedM D (x : Int) = usedM C (x : Int) := fun x h1 => usedM_congr d1 (by rw [d10 c, ho]) d3 (by rw [Int.toNat_natCast]; exact d5 x (by omega))
      have I := ih (j + 1) (B + 1) D (by omega) (d10 c) (d11 hl) (by omega) (by omega) ⟨by omega, by omega⟩
        (fun x h1 h2 => by rw [d5 x (by omega), d1]; exact hlen x (by omega) (by omega))
        (fun x h1 h2 h3 => by rw [d6 x (by omega), d1]; rw [hu x h1] at h3; exact hw x (by omega) (by omega) h3)
        (fun x h1 h2 h3 => by rw [d5 x (by omega), d1]; rw [hu x h1] at h3; exact hbl x (by omega) (by omega) h3)
      generalize eraseL base m (j + 1) D = X at *
      have hBp := I.pg B (by omega)
      have hBe := I.er B (by omega)
      refine ⟨I.cfg.trans d1, I.bl.trans d2, I.np.trans d3, I.ne.trans d4, fun x hx => (I.pg x (by omega)).trans (d5 x (by omega)), fun x hx => (I.er x (by omega)).trans (d6 x (by omega)), ?_, ⟨by have := I.ab.1; omega, by have := I.ab.2; omega⟩, fun e => ?_, I.bad⟩
      · rw [I.acts, dif_succ, hBe, d7, d8, dif_congr m (B + 1) fun x h1 h2 => d6 x (by omega)]; omega
      · obtain ⟨g1, g2, g3⟩ := I.good e
        rw [d1] at g3
        refine ⟨g1, g2, fun x h1 h2 => ?_⟩
        by_cases c2 : x = B
        · subst c2
          rw [hBp, d9]
          exact erased_blank (hlen x (by omega) (by omega)) _ fun i => by unfold maskAt; rw [if_pos (by simpa using c)]
        · exact g3 x (by omega) (by omega)
end Go.Proofs.Ytamfkofcpoglnaa
end

/- AreaWrites: what the programs of a Write leave; laws about numbers alone. Own work. -/
section
set_option maxRecDepth 100000
set_option linter.unusedVariables false
namespace Go.Proofs.Ytamfkofcpoglnaa
open Go Go.Vc

/-- A cell of an area that begins at a page. -/
def cellOf (B cells : Nat) (D : Cm) (x : Nat) : List Int := cellAt (D.pg (B + x / cells)) (x % cells)
theorem prog_step {C : Cm} {P q : Nat} {rec : List Int} (ho : C.out = false) (hP : P < C.s.pages.length) (hq : (q : Int) < C.cfg.cells) (ha : 0 ≤ C.acts ∧ C.acts < 2 ^ 60) :
    ∃ D : Cm, programM C (P : Int) (q : Int) rec = (D, errM C) ∧ D.cfg = C.cfg ∧ D.s.blown = C.s.blown ∧ D.s.pages.length = C.s.pages.length ∧ D.s.erases = C.s.erases ∧ (∀ x, x ≠ P → D.pg x = C.pg x) ∧
      D.acts = C.acts + 1 ∧ D.pg P = rowSet (C.pg P) q (progCell (cellAt (C.pg P) q) rec (maskAt C)) ∧ (C.left ≠ 0 → D.out = false) ∧ (-1 ≤ C.left → -1 ≤ D.left) := by
  have hac : C.act.acts = C.acts + 1 := by
    unfold Cm.act
    have : w64 (C.acts + 1) = C.acts + 1 := by unfold w64; rw [IntKind.wrap_i64]; omega
    split <;> exact this
  have ec : asksCellM C (P : Int) (q : Int) = 0 := by
    unfold asksCellM
    rw [askedM_in ho (by omega) (by omega), if_neg (by simp), askedM_in ho (by omega) hq]
  unfold programM
  rw [ec, if_neg (by simp), Int.toNat_natCast, Int.toNat_natCast]
  refine ⟨_, rfl, act_cfg C, ?_, ?_, ?_, ?_, hac, ?_, ?_, ?_⟩
  · show C.act.s.blown = _; rw [act_s]
  · show (C.act.s.pages.set P _).length = _; rw [List.length_set, act_s]
  · show C.act.s.erases = _; rw [act_s]
  · intro x hx
    show (C.act.s.pages.set P _).getD x [] = C.s.pages.getD x []
    simp only [List.getD, List.getElem?_set_ne (Ne.symm hx), act_s]
  · show (C.act.s.pages.set P _).getD P [] = _
    rw [getD_put _ _ _ _ (by rw [act_s]; exact hP)]
    unfold rowOf
    rw [Int.toNat_natCast]; rfl
  · intro hl
    show C.act.out = false
    exact act_out ho hl
  · intro hl
    show -1 ≤ C.act.left
    unfold Cm.act
    split
    · dsimp only; split <;> omega
    · exact Int.le_refl _
theorem cellOf_step {B cells i : Nat} {C D : Cm} {c : List Int} (hc : 0 < cells) (h1 : ∀ x, x ≠ B + i / cells → D.pg x = C.pg x) (h2 : D.pg (B + i / cells) = rowSet (C.pg (B + i / cells)) (i % cells) c) (hl : (C.pg (B + i / cells)).length = cells * 32) (hcl : c.length = 32) :
    cellOf B cells D i = c ∧ (∀ x, x ≠ i → cellOf B cells D x = cellOf B cells C x) ∧ (D.pg (B + i / cells)).length = cells * 32 := by
  have hm : i % cells < cells := Nat.mod_lt _ hc
  have hb : (i % cells + 1) * 32 ≤ (C.pg (B + i / cells)).length := by rw [hl]; exact Nat.mul_le_mul_right 32 hm
  refine ⟨?_, ?_, ?_⟩
  · unfold cellOf
    rw [h2, rowSet_same hb hcl]
  · intro x hx
    unfold cellOf
    by_cases e : x / cells = i / cells
    · rw [e, h2]
      have hmx : x % cells < cells := Nat.mod_lt _ hc
      refine rowSet_other hb (by rw [hl]; exact Nat.mul_le_mul_right 32 hmx) hcl ?_
      intro e2
      have a1 := Nat.div_add_mod x cells
      have a2 := Nat.div_add_mod i cells
      rw [e, e2] at a1
      omega
    · rw [h1 _ (by omega)]
  · rw [h2, rowSet_length hb hcl, hl]
theorem prog_whole {X : List Int} (hX : X.length = 32) (hb : bytesOk X) : progCell blankCell X (fun _ => 255) = X := by
  have hcl : (progCell blankCell X fun _ => 255).length = 32 := progCell_length _ _ _ (by simp [blankCell])
  refine ext_getD (hcl.trans hX.symm) fun i hi => ?_
  rw [hcl] at hi
  rw [prog_getD _ _ _ hi]
  exact prog_full _ (getD_byte hb _)
theorem cellM_bytes {bs : List Int} (hb : bytesOk bs) (n : Nat) : bytesOk (cellM bs n) := by
  unfold cellM
  refine tab_bytes fun k => ?_
  split
  · exact getD_byte hb _
  · exact ⟨by decide, by decide⟩
def doneP (n k x : Nat) : Prop := (1 ≤ x ∧ x ≤ k ∧ x < n) ∨ (k = n ∧ x = 0 ∧ 0 < n)
instance (n k x : Nat) : Decidable (doneP n k x) := by unfold doneP; infer_instance
theorem done_next {n k : Nat} (hk : k < n) (x : Nat) : doneP n (k + 1) x ↔ (doneP n k x ∨ x = (k + 1) % n) := by
  unfold doneP
  by_cases c : k + 1 = n
  · rw [c, Nat.mod_self]; omega
  · rw [Nat.mod_eq_of_lt (by omega)]; omega
theorem not_done {n k : Nat} (hk : k < n) : ¬ doneP n k ((k + 1) % n) := by
  unfold doneP
  by_cases c : k + 1 = n
  · rw [c, Nat.mod_self]; omega
  · rw [Nat.mod_eq_of_lt (by omega)]; omega
/-- What programs do to an area. -/
structure Pr (B area cells n k : Nat) (bs : List Int) (C D : Cm) (e : Int) : Prop where
  cfg : D.cfg = C.cfg
  bl : D.s.blown = C.s.blown
  np : D.s.pages.length = C.s.pages.length
  es : D.s.erases = C.s.erases
  pg : ∀ x, x < B ∨ B + area ≤ x → D.pg x = C.pg x
  good : e = 0 → D.acts = C.acts + (n - k : Nat) ∧ ∀ x, x < area * cells → cellOf B cells D x = if doneP n n x then cellM bs x else ffs
  bad : e ≠ 0 → e = 8 ∧ ∃ t, k < t ∧ t ≤ n ∧ D.acts = C.acts + (t - k : Nat) ∧ ∀ x, x < area * cells → x ≠ t % n → cellOf B cells D x = if doneP n (t - 1) x then cellM bs x else ffs
theorem programs (B area cells n : Nat) (bs : List Int) (hb : bytesOk bs) (hn : 0 < n) (hN : n ≤ area * cells) (hc : 0 < cells) : ∀ (m k : Nat) (C : Cm), m + k = n → C.out = false → -1 ≤ C.left → (cells : Int) = C.cfg.cells → B + area ≤ C.s.pages.length → (0 ≤ C.acts ∧ C.acts + m < 2 ^ 60) →
    (∀ x, x < area → (C.pg (B + x)).length = cells * 32) → (∀ x, x < area * cells → cellOf B cells C x = if doneP n k x then cellM bs x else ffs) → Pr B area cells n k bs C (progL (B : Int) cells bs n m k C).1 (progL (B : Int) cells bs n m k C).2 := by
  intro m
  induction m with
  | zero =>
    intro k C hk ho hl hcc hp ha hlen hcell
    have : k = n := by omega
    subst this
    unfold progL
    exact ⟨rfl, rfl, rfl, rfl, fun _ _ => rfl, fun _ => ⟨by simp, hcell⟩, fun x => absurd rfl x⟩
  | succ m ih =>
    intro k C hk ho hl hcc hp ha hlen hcell
    unfold progL
    have hin : (k + 1) % n < n := Nat.mod_lt _ hn
    have hnd := not_done (n := n) (k := k) (by omega)
    have hnx := done_next (n := n) (k := k) (by omega)
    generalize hi : (k + 1) % n = i at *
    have hdiv : i / cells < area := (Nat.div_lt_iff_lt_mul hc).2 (by omega)
    have hmod : i % cells < cells := Nat.mod_lt _ hc
    have hBle : B ≤ B + i / cells := Nat.le_add_right _ _
    have hne : ∀ x, x < B ∨ B + area ≤ x → x ≠ B + i / cells := by
      intro x hx
      generalize i / cells = dd at *
      omega
    have eB : (B : Int) + ((i / cells : Nat) : Int) = ((B + i / cells : Nat) : Int) := by simp
    rw [eB]
    obtain ⟨D, hD, d1, d2, d3, d4, d5, d6, d7, d8, d9⟩ := prog_step (C := C) (P := B + i / cells) (q := i % cells) (rec := cellM bs i) ho (by omega) (by omega) ⟨ha.1, by omega⟩
    rw [hD]
    dsimp only
    have hold : cellAt (C.pg (B + i / cells)) (i % cells) = ffs := by
      have := hcell i (by omega)
      rw [if_neg hnd] at this
      exact this
    rw [hold] at d7
    have hclen : ∀ f, (progCell ffs (cellM bs i) f).length = 32 := fun f => progCell_length _ _ _ rfl
    obtain ⟨s1, s2, s3⟩ := cellOf_step (B := B) (i := i) hc (fun x hx => d5 x hx) d7 (hlen _ hdiv) (hclen _)
    have hlen2 : ∀ x, x < area → (D.pg (B + x)).length = cells * 32 := by
      intro x hx
      by_cases e : x = i / cells
      · rw [e]; exact s3
      · rw [d5 _ (by omega)]; exact hlen x hx
    by_cases c : C.left = 0
    · have e8 : errM C = 8 := by unfold errM; rw [if_neg (by simpa using c)]
      rw [e8, if_pos (by simp)]
      refine ⟨d1, d2, d3, d4, fun x hx => d5 x (hne x hx), fun e => by simp at e, fun _ => ⟨rfl, k + 1, by omega, by omega, by rw [d6]; omega, fun x hx hx2 => ?_⟩⟩
      rw [hi] at hx2
      rw [s2 x hx2, Nat.add_sub_cancel]
      exact hcell x hx
    · have e0 : errM C = 0 := by unfold errM; rw [if_pos (by simpa using c)]
      rw [e0, if_neg (by simp)]
      have hmask : maskAt C = fun _ => 255 := by funext q; unfold maskAt; rw [if_pos (by simpa using c)]
      rw [hmask, ← blankCell_ffs, prog_whole (cellM_length bs i) (cellM_bytes hb i)] at s1
      have I := ih (k + 1) D (by omega) (d8 c) (d9 hl) (by rw [d1]; exact hcc) (by rw [d3]; exact hp) ⟨by omega, by omega⟩ hlen2 (fun x hx => by
        by_cases e : x = i
        · rw [e, s1, if_pos ((hnx i).2 (Or.inr rfl))]
        · rw [s2 x e, hcell x hx]
          by_cases dn : doneP n k x
          · rw [if_pos dn, if_pos ((hnx x).2 (Or.inl dn))]
          · rw [if_neg dn, if_neg (fun y => by rcases (hnx x).1 y with y | y; exact dn y; exact e y)])
      generalize progL (B : Int) cells bs n m (k + 1) D = X at *
      refine ⟨I.cfg.trans d1, I.bl.trans d2, I.np.trans d3, I.es.trans d4, fun x hx => (I.pg x hx).trans (d5 x (hne x hx)), fun e => ?_, fun e => ?_⟩
      · obtain ⟨g1, g2⟩ := I.good e
        exact ⟨by rw [g1, d6]; omega, g2⟩
      · obtain ⟨g1, t, g2, g3, g4, g5⟩ := I.bad e
        exact ⟨g1, t, by omega, g3, by rw [g4, d6]; omega, g5⟩
end Go.Proofs.Ytamfkofcpoglnaa
end

/- Maps as owned things. Own work; generic over any program. -/
section
set_option linter.unusedVariables false
namespace Go.Vc

theorem hsv_nil {h : H} {sz : Nat} {p : Option Addr} {k : IntKind} : hsv h p sz 0 (ints k []) := ⟨by simp, fun v hv => by simp [ints] at hv, Or.inl rfl⟩
theorem take_snoc (l : List Int) (n : Nat) (h : n < l.length) : l.take n ++ [l.getD n 0] = l.take (n + 1) := by
  rw [List.take_succ]; simp [List.getD, List.getElem?_eq_getElem h]
/-- One element of an owned slice is written. -/
theorem Sat.slPut {h0 h : H} {A : List Ent} (hs : Sat h0 A h) {i l c n : Nat} {p : Option Addr} {vs : List Value} {v : Value} (m : At A i (slE p l c 1 vs)) (hn : n < l) (h1 : v.oneCell' = true) :
    ∃ q, p = some q ∧ hcan h (q.add n) 1 ∧ ∀ h', h' = hwr h (q.add n) [v] → Sat h0 (Vc.put A i (slE p l c 1 (vs.set n v))) h' := by
  obtain ⟨b, rfl⟩ := hs.sl_some m (by omega)
  have hl : vs.length = l := by have := (hs.sv m).1; simpa using this
  refine ⟨_, rfl, ?_, ?_⟩
  · rw [add_mk, Nat.zero_add]; exact hs.scan m (by omega) (by omega)
  · intro h' e
    rw [add_mk, Nat.zero_add] at e
    exact hs.swr m e (by omega) (by simp; omega) (by intro y hy; simp at hy; rw [hy]; exact h1)
/-- Appended to a slice without room: the slice itself stays as it is. -/
theorem Sat.app_keep {h0 h : H} {A : List Ent} (hs : Sat h0 A h) {p : Option Addr} {l c n sz : Nat} {old vs z : List Value} {B : Nat} {K : Option Addr → Nat → Nat → H → Prop}
    (rd : hsv h p sz l old) (hc : c < l + n) (hl : vs.length = n * sz) (hz : z.length = sz) (hv : ∀ v, v ∈ vs → v.oneCell' = true) (hb : (l + n) * B ≤ 2 ^ 47)
    (k : ∀ p' c' h', Sat h0 (slE p' (l + n) c' sz (old ++ vs) :: A) h' → K p' (l + n) c' h') : pApp h sz z B p l c n vs K := by
  unfold pApp
  rw [if_neg (by omega)]
  refine ⟨hb, old, rd, fun c' b h' hc' hn => k _ _ _ ?_⟩
  have ho : OwnS h' (some ⟨b, 0, none⟩) (l + n) c' sz (old ++ vs) [b] := by
    refine ⟨by rw [List.length_append, rd.1, hl, Nat.add_mul], hc', ?_, Or.inr ⟨b, _, rfl, rfl, hn.blk, ?_⟩⟩
    · intro v hm
      rcases List.mem_append.1 hm with y | y
      · exact rd.2.1 v y
      · exact hv v y
    · rw [List.length_flatten]
      simp [hz]
  exact hs.own hn.ext ho (fun x hx => by simp at hx; rw [hx, hn.b]; exact Nat.le_refl _)
end Go.Vc
end

/- Images: numbers of four bytes; what is wrong with bytes. Own work. -/
section
set_option maxRecDepth 100000
set_option linter.unusedVariables false
namespace Go.Proofs.Ytamfkofcpoglnaa
open Go Go.Vc

theorem b64_ofNat (n : Nat) : b64 (n : Int) = BitVec.ofNat 64 n := by
  apply BitVec.eq_of_toNat_eq
  simp only [BitVec.toNat_ofInt, BitVec.toNat_ofNat]; omega
theorem or_low {x y : Int} (k : Nat) (hx : 0 ≤ x ∧ x < 2 ^ k) (hy : 0 ≤ y) (hxy : x + y * 2 ^ k < 2 ^ 63) : bits .or .i64 x (y * 2 ^ k) = x + y * 2 ^ k := by
  obtain ⟨a, rfl⟩ := Int.eq_ofNat_of_zero_le hx.1
  obtain ⟨b, rfl⟩ := Int.eq_ofNat_of_zero_le hy
  have ha : a < 2 ^ k := by have := hx.2; exact_mod_cast this
  have e1 : ((b : Int) * 2 ^ k) = ((b * 2 ^ k : Nat) : Int) := by simp
  rw [e1] at hxy ⊢
  have : bits .or .i64 (a : Int) ((b * 2 ^ k : Nat) : Int) = IntKind.i64.wrap ((b64 (a : Int) ||| b64 ((b * 2 ^ k : Nat) : Int)).toNat : Int) := rfl
  rw [this, b64_ofNat, b64_ofNat]
  have e2 : a ||| (b * 2 ^ k) = a + b * 2 ^ k := by
    have := Nat.shiftLeft_add_eq_or_of_lt ha b
    rw [Nat.shiftLeft_eq] at this
    rw [Nat.or_comm, ← this]; omega
  have e3 : (BitVec.ofNat 64 a ||| BitVec.ofNat 64 (b * 2 ^ k)).toNat = a + b * 2 ^ k := by
    rw [BitVec.toNat_or, BitVec.toNat_ofNat, BitVec.toNat_ofNat, Nat.mod_eq_of_lt (by omega), Nat.mod_eq_of_lt (by omega), e2]
  rw [e3, IntKind.wrap_i64]; omega
def num4 (bs : List Int) (o : Nat) : Int := bs.getD o 0 + 256 * bs.getD (o + 1) 0 + 65536 * bs.getD (o + 2) 0 + 16777216 * bs.getD (o + 3) 0
theorem or4 {a b c d : Int} (ha : isByte a) (hb : isByte b) (hc : isByte c) (hd : isByte d) :
    bits .or .i64 (bits .or .i64 (bits .or .i64 (IntKind.i64.wrap a) (IntKind.i64.wrap (IntKind.i64.wrap b * 2 ^ 8))) (IntKind.i64.wrap (IntKind.i64.wrap c * 2 ^ 16))) (IntKind.i64.wrap (IntKind.i64.wrap d * 2 ^ 24)) = a + 256 * b + 65536 * c + 16777216 * d := by
  obtain ⟨a1, a2⟩ := ha; obtain ⟨b1, b2⟩ := hb; obtain ⟨c1, c2⟩ := hc; obtain ⟨d1, d2⟩ := hd
  have w : ∀ n : Int, 0 ≤ n ∧ n < 2 ^ 40 → IntKind.i64.wrap n = n := fun n hn => by rw [IntKind.wrap_i64]; omega
  rw [w a (by omega), w b (by omega), w c (by omega), w d (by omega), w (b * 2 ^ 8) (by omega), w (c * 2 ^ 16) (by omega), w (d * 2 ^ 24) (by omega)]
  rw [or_low 8 (by omega) b1 (by omega), or_low 16 (by omega) c1 (by omega), or_low 24 (by omega) d1 (by omega)]
  omega
theorem num4_range {bs : List Int} (hb : bytesOk bs) (o : Nat) : 0 ≤ num4 bs o ∧ num4 bs o < 2 ^ 32 := by
  have g : ∀ x, isByte (bs.getD x 0) := fun x => by
    rw [List.getD_eq_getElem?_getD]
    cases e : bs[x]? with
    | none => exact ⟨by decide, by decide⟩
    | some v => exact hb v (List.mem_iff_getElem?.2 ⟨x, e⟩)
  have g0 := g o; have g1 := g (o + 1); have g2 := g (o + 2); have g3 := g (o + 3)
  unfold isByte at *
  unfold num4; omega
theorem byte_getD {bs : List Int} (hb : bytesOk bs) (x : Nat) : isByte (bs.getD x 0) := by
  rw [List.getD_eq_getElem?_getD]
  cases e : bs[x]? with
  | none => exact ⟨by decide, by decide⟩
  | some v => exact hb v (List.mem_iff_getElem?.2 ⟨x, e⟩)
/-- A part of a slice that is read. -/
theorem sub_rd {h : H} {q : Option Addr} {l o n m : Nat} {k : IntKind} {bs : List Int} (rd : hsv h q 1 l (ints k bs)) (ho : o + n ≤ l) (hm : m = o → n = 0) : hsv h (subAddr q o m 1) 1 n (ints k ((bs.drop o).take n)) := by
  have hl : bs.length = l := by have := rd.1; simpa using this
  refine ⟨by rw [ints_length, List.length_take, List.length_drop]; omega, ints_one _ _, ?_⟩
  by_cases c : n = 0
  · subst c; exact Or.inl rfl
  unfold subAddr
  rw [if_neg (fun y => c (hm y))]
  obtain ⟨_, _, rd⟩ := rd
  rcases rd with rd | ⟨q', rfl, g⟩
  · have := congrArg List.length rd
    rw [ints_length, List.length_nil] at this; omega
  · refine Or.inr ⟨_, rfl, ?_⟩
    intro i v hv
    have hi : i < n := by
      have h1 : i < (ints k ((bs.drop o).take n)).length := (List.getElem?_eq_some_iff.1 hv).1
      rw [ints_length, List.length_take] at h1
      exact Nat.lt_of_lt_of_le h1 (Nat.min_le_left _ _)
    have e := g (o + i) v (by
      rw [ints_get] at hv ⊢
      rw [List.getElem?_take_of_lt hi, List.getElem?_drop] at hv
      exact hv)
    rw [Nat.mul_one, add_add]
    exact e
theorem drop_getD (bs : List Int) (o n x : Nat) (hx : x < n) : ((bs.drop o).take n).getD x 0 = bs.getD (o + x) 0 := by
  rw [List.getD_eq_getElem?_getD, List.getD_eq_getElem?_getD, List.getElem?_take_of_lt hx, List.getElem?_drop]
theorem drop_bytes {bs : List Int} (hb : bytesOk bs) (o n : Nat) : bytesOk ((bs.drop o).take n) := fun v hv => hb v (List.mem_of_mem_drop (List.mem_of_mem_take hv))
theorem num4_drop (bs : List Int) (o n : Nat) (hn : 4 ≤ n) : num4 ((bs.drop o).take n) 0 = num4 bs o := by
  unfold num4
  rw [drop_getD _ _ _ _ (by omega), drop_getD _ _ _ _ (by omega), drop_getD _ _ _ _ (by omega), drop_getD _ _ _ _ (by omega)]
  rfl
def markB (x : Nat) : Int := (((ByteArray.mk #[80, 67, 85, 76]).data.toList.getD x 0).toNat : Int)
def mayB (x : Nat) (c : Int) : Bool := if x < 4 then c == markB x else if x = 4 then c == 1 else if x = 5 then decide (c < 8) else if x = 6 then decide (c < 64) else if x = 7 then c == 0 else true
/-- What is wrong with a head, from a place on. -/
def headW (bs : List Int) : Nat → Nat → Option (Int × Int)
  | 0, _ => none
  | m + 1, x => if x = bs.length then some (6, x) else if mayB x (bs.getD x 0) = true then headW bs m (x + 1) else some (5, x)
/-- What is wrong with bytes as an image, and where. -/
def parseW (bs : List Int) : Int × Int :=
  if 524288 < bs.length then (4, 524288) else match headW bs 16 0 with
  | some w => w
  | none => if 524240 < num4 bs 12 then (5, 12) else if (bs.length : Int) < 48 + num4 bs 12 then (6, bs.length) else if 48 + num4 bs 12 < bs.length then (7, 48 + num4 bs 12) else (0, 0)
section
variable {h0 h : H} {A : List Ent} {i j p r b : Nat}
theorem number_sp {Q : Int → H → Prop} {q : Option Addr} {l c : Nat} {bs : List Int} (rd : hsv h q 1 l (ints .u8 bs)) (hb : bytesOk bs) (hl : 4 ≤ l) (k : Q (num4 bs 0) h) : F_image_number q l c Q h := by
  unfold F_image_number G_image_number
  have g : ∀ x, x < l → ∃ q', q = some q' ∧ hc h (q'.add x) = some (.int .u8 (bs.getD x 0)) := fun x hx => hsv_int rd hx
  obtain ⟨q0, e0, g0⟩ := g 0 (by omega)
  obtain ⟨q1, e1, g1⟩ := g 1 (by omega)
  obtain ⟨q2, e2, g2⟩ := g 2 (by omega)
  obtain ⟨q3, e3, g3⟩ := g 3 (by omega)
  rw [add_zero] at g0
  refine ⟨_, e0, by omega, by omega, _, g0, _, e1, by omega, by omega, _, g1, by omega, _, e2, by omega, by omega, _, g2, by omega, _, e3, by omega, by omega, _, g3, by omega, ?_⟩
  rw [or4 (byte_getD hb _) (byte_getD hb _) (byte_getD hb _) (byte_getD hb _)]
  exact k
theorem rnumber_sp {Q : Int → H → Prop} {q : Option Addr} {l c : Nat} {bs : List Int} (rd : hsv h q 1 l (ints .u8 bs)) (hb : bytesOk bs) (hl : 4 ≤ l) (k : Q (num4 bs 0) h) : F_portcullisref11_number q l c Q h := by
  unfold F_portcullisref11_number G_portcullisref11_number
  intro J hJ
  have g : ∀ x, x < l → ∃ q', q = some q' ∧ hc h (q'.add x) = some (.int .u8 (bs.getD x 0)) := fun x hx => hsv_int rd hx
  have S : ∀ n, n ≤ 4 → 0 ≤ n → True := fun _ _ _ => trivial
  have key : num4 bs 0 = gotI bs 4 := by
    have e0 : bits .or .i64 0 (IntKind.i64.wrap (IntKind.i64.wrap (bs.getD 0 0) * 2 ^ (8 * 0))) = IntKind.i64.wrap (bs.getD 0 0) := by
      have := byte_getD hb 0
      unfold isByte at this
      have w : IntKind.i64.wrap (bs.getD 0 0) = bs.getD 0 0 := by rw [IntKind.wrap_i64]; omega
      rw [w]
      have e : IntKind.i64.wrap (bs.getD 0 0 * 2 ^ (8 * 0)) = bs.getD 0 0 * 2 ^ 0 := by rw [IntKind.wrap_i64]; omega
      rw [e, or_low 0 (by omega) this.1 (by omega)]; omega
    unfold gotI gotI gotI gotI gotI
    rw [e0]
    exact (or4 (byte_getD hb _) (byte_getD hb _) (byte_getD hb _) (byte_getD hb _)).symm
  rw [key] at k
  refine loop_st 4 (fun n (x : Int) => [.dv (.one (.int .i64 x)), si n]) (fun n x h' => h' = h ∧ x = gotI bs n) ?_ ?_ 0 0 _ (by omega) ⟨rfl, rfl⟩
  · rintro n x h1 hn ⟨rfl, rfl⟩ hk
    apply hJ
    rw [ltI_eq, if_pos (by simp; omega)]
    obtain ⟨q1, e1, g1⟩ := g n (by omega)
    have e8 : IntKind.i64.wrap (8 * (n : Int)) = ((8 * n : Nat) : Int) := by rw [wrap_id (by omega)]; omega
    refine ⟨_, e1, by omega, by omega, _, by rw [Int.toNat_natCast, Nat.mul_one]; exact g1, by rw [e8]; omega, ?_⟩
    rw [wrap_succ (by omega), step8_eq (by omega)]
    exact hk _ _ ⟨rfl, rfl⟩
  · rintro x h1 ⟨rfl, rfl⟩
    apply hJ
    rw [ltI_eq, if_neg (by simp)]
    exact k
theorem may_sp {Q : Bool → H → Prop} (x : Nat) (c : Int) (k : Q (mayB x c) h) : F_image_may (x : Int) c Q h := by
  unfold F_image_may G_image_may
  unfold mayB at k
  by_cases g : x < 4
  · rw [if_pos g] at k
    rw [ltI_eq, if_pos (by simp; omega)]
    refine ⟨by omega, by omega, ?_⟩
    rw [Int.toNat_natCast]; exact k
  rw [if_neg g] at k
  rw [ltI_eq, if_neg (by simp; omega)]
  by_cases g4 : x = 4
  · rw [if_pos g4] at k; rw [if_pos (by simp; omega)]; exact k
  rw [if_neg g4] at k; rw [if_neg (by simp; omega)]
  by_cases g5 : x = 5
  · rw [if_pos g5] at k; rw [if_pos (by simp; omega), ltI_eq]; exact k
  rw [if_neg g5] at k; rw [if_neg (by simp; omega)]
  by_cases g6 : x = 6
  · rw [if_pos g6] at k; rw [if_pos (by simp; omega), ltI_eq]; exact k
  rw [if_neg g6] at k; rw [if_neg (by simp; omega)]
  by_cases g7 : x = 7
  · rw [if_pos g7] at k; rw [if_pos (by simp; omega)]; exact k
  rw [if_neg g7] at k; rw [if_neg (by simp; omega)]
  exact k
theorem rmust_sp {Q : Bool → H → Prop} (x : Nat) (c : Int) (k : Q (mayB x c) h) : F_portcullisref11_must (x : Int) c Q h := by
  unfold F_portcullisref11_must G_portcullisref11_must
  intro J hJ
  have way : ∀ bb : Bool, (bb = true ↔ x < 4) → J [.dv (.one (.bool bb))] h := by
    intro bb hbb
    apply hJ
    unfold mayB at k
    by_cases g : x < 4
    · rw [if_pos g] at k
      rw [if_pos (hbb.2 g)]
      refine ⟨by omega, by omega, ?_⟩
      rw [Int.toNat_natCast]; exact k
    rw [if_neg g] at k
    rw [if_neg (fun y => g (hbb.1 y))]
    by_cases g4 : x = 4
    · rw [if_pos g4] at k; rw [if_pos (by simp; omega)]; exact k
    rw [if_neg g4] at k; rw [if_neg (by simp; omega)]
    by_cases g5 : x = 5
    · rw [if_pos g5] at k; rw [if_pos (by simp; omega), ltI_eq]; exact k
    rw [if_neg g5] at k; rw [if_neg (by simp; omega)]
    by_cases g6 : x = 6
    · rw [if_pos g6] at k; rw [if_pos (by simp; omega), ltI_eq]; exact k
    rw [if_neg g6] at k; rw [if_neg (by simp; omega)]
    by_cases g7 : x = 7
    · rw [if_pos g7] at k; rw [if_pos (by simp; omega)]; exact k
    rw [if_neg g7] at k; rw [if_neg (by simp; omega)]
    exact k
  by_cases g0 : x = 0
  · rw [if_pos (by simp; omega)]; exact way _ (by simp; omega)
  rw [if_neg (by simp; omega)]
  by_cases g1 : x = 1
  · rw [if_pos (by simp; omega)]; exact way _ (by simp; omega)
  rw [if_neg (by simp; omega)]
  by_cases g2 : x = 2
  · rw [if_pos (by simp; omega)]; exact way _ (by simp; omega)
  rw [if_neg (by simp; omega)]
  exact way _ (by simp; omega)
end
end Go.Proofs.Ytamfkofcpoglnaa
end

/- The log: what both pages say; which is present. Own work. -/
section
set_option maxRecDepth 100000
set_option linter.unusedVariables false
namespace Go.Proofs.Ytamfkofcpoglnaa
open Go Go.Vc

structure FndAt (h : H) (b : Nat) (p q : Inf) (n : Int) : Prop where
  a0 : hc h ⟨b, 0, none⟩ = some (.int .i64 p.head)
  a1 : hrow h ⟨b, 1, none⟩ .i64 p.nums
  a10 : hc h ⟨b, 10, none⟩ = some (.int .i64 p.next)
  a11 : hc h ⟨b, 11, none⟩ = some (.bool p.blank)
  a12 : hc h ⟨b, 12, none⟩ = some (.int .i64 p.torn)
  a13 : hc h ⟨b, 13, none⟩ = some (.int .i64 q.head)
  a14 : hrow h ⟨b, 14, none⟩ .i64 q.nums
  a23 : hc h ⟨b, 23, none⟩ = some (.int .i64 q.next)
  a24 : hc h ⟨b, 24, none⟩ = some (.bool q.blank)
  a25 : hc h ⟨b, 25, none⟩ = some (.int .i64 q.torn)
  a26 : hc h ⟨b, 26, none⟩ = some (.int .i64 n)
section
variable {h0 h : H} {A : List Ent} {i j p r b : Nat} {C : Cm}
/-! ### What the log says -/
/-- What look finds. -/
structure Fnd where
  p : Inf
  q : Inf
  n : Int
end
end Go.Proofs.Ytamfkofcpoglnaa
end

/- The log: bounds of what pages say; the document's log. Own work. -/
section
set_option maxRecDepth 100000
set_option linter.unusedVariables false
namespace Go.Proofs.Ytamfkofcpoglnaa
open Go Go.Vc

structure InfOk (I : Inf) (l : Nat) : Prop where
  head : 0 ≤ I.head ∧ I.head ≤ most
  next : 0 ≤ I.next ∧ I.next ≤ l
  torn : 0 ≤ I.torn ∧ I.torn ≤ l
  nums : ∀ k, 0 ≤ I.nums.getD k 0 ∧ I.nums.getD k 0 ≤ most
theorem set_getD (l : List Int) (j k : Nat) (v : Int) : (l.set j v).getD k 0 = if j = k ∧ k < l.length then v else l.getD k 0 := by
  rw [List.getD_eq_getElem?_getD, List.getElem?_set]
  by_cases c : j = k
  · subst c
    by_cases d : j < l.length
    · simp [d]
    · simp [d]
  · simp [c]
section
variable {h0 h : H} {A : List Ent} {i j p r l b : Nat} {C : Cm}
theorem ref_ok (hs : Sat h0 A h) (cj : At A j (refE r C)) : C.ok := (ref_pg hs cj).choose_spec.1
theorem ref_cell (hs : Sat h0 A h) (cj : At A j (refE r C)) : ∃ w : Pl, ∀ o v, (C.cells w.a w.b w.c w.m)[o]? = some v → hc h ⟨r, o, none⟩ = some v := by
  obtain ⟨w, _, cl, _⟩ := ref_pg hs cj
  exact ⟨w, cl⟩
end
end Go.Proofs.Ytamfkofcpoglnaa
end

/- Images: taken apart. Own work. -/
section
set_option maxRecDepth 100000
set_option linter.unusedVariables false
namespace Go.Proofs.Ytamfkofcpoglnaa
open Go Go.Vc

abbrev imgL (a b v : Int) (x : Sl) (t : List Int) : List Value := .int .i64 a :: .int .i64 b :: .int .i64 v :: x.v :: ints .u8 t
section
variable {h0 h : H} {A : List Ent} {i j p r b : Nat}
theorem img_len {a b v : Int} {x : Sl} {t : List Int} (ht : t.length = 32) : (imgL a b v x t).length = 36 := by simp [ht]
theorem img_row {a b' v : Int} {x : Sl} {t : List Int} (hs : Sat h0 A h) (m : At A i (blk b (imgL a b' v x t))) (ht : t.length = 32) : hrow h ⟨b, 4, none⟩ .u8 t := by
  refine hs.cs m ?_
  show (ints .u8 t).take (ints .u8 t).length = _
  rw [List.take_length]
theorem img_s4 {a b' v : Int} {x : Sl} {u : List Int} (hu : u.length = 32) : splice (imgL a b' v x (zeros 32)) 4 (ints .u8 u) = imgL a b' v x u := by
  have e : imgL a b' v x (zeros 32) = [.int .i64 a, .int .i64 b', .int .i64 v, x.v] ++ ints .u8 (zeros 32) := rfl
  have e2 : ∀ (vs xs : List Value) (o : Nat) (pre : List Value), splice (pre ++ vs) (pre.length + o) xs = pre ++ splice vs o xs := by
    intro vs xs
    induction xs generalizing vs with
    | nil => intro o pre; rfl
    | cons y ys ih =>
      intro o pre
      rw [splice_cons, splice_cons, set_app pre vs [], Nat.add_assoc]
      exact ih (vs.set o y) (o + 1) pre
  rw [e]
  have := e2 (ints .u8 (zeros 32)) (ints .u8 u) 0 [.int .i64 a, .int .i64 b', .int .i64 v, x.v]
  rw [splice_all _ _ (by simp [hu])] at this
  exact this
theorem Parse_sp {Q : Int → Int → Int → Option Addr → Nat → Nat → List Int → Value → H → Prop} {q : Option Addr} {l c : Nat} {bs : List Int} (hs : Sat h0 A h) (rd : ∀ h', Sat h0 A h' → hsv h' q 1 l (ints .u8 bs)) (hb : bytesOk bs) (hlc : l ≤ c) (hl : l < 2 ^ 50)
    (k1 : ∀ e at_ w h', parseW bs = (e, at_) → e ≠ 0 → Sat h0 (blk w [.int .i64 e, .int .i64 at_] :: A) h' → Q 0 0 0 none 0 0 (zeros 32) (.iface 215 (.pointer (some ⟨w, 0, none⟩))) h')
    (k2 : ∀ (own : Sl) (n : Nat) h', parseW bs = (0, 0) → num4 bs 12 = n → Sat h0 (sE own 1 (ints .u8 bs) :: A) h' → Q (bs.getD 5 0) (bs.getD 6 0) (num4 bs 8) (subAddr own.1 16 (16 + n) 1) n n ((bs.drop (16 + n)).take 32) .nilIface h') :
    F_image_Parse q l c Q h := by
  unfold F_image_Parse G_image_Parse
  simp only [add_mk, Nat.zero_add, List.append_nil]
  have hbl : bs.length = l := by have := (rd _ hs).1; simpa using this
  intro n7 _ hn; replace hs := Sat.new hs hn; clear hn
  replace hs : Sat h0 (blk n7 (imgL 0 0 0 (none, 0, 0) (zeros 32)) :: A) _ := hs
  have bad : ∀ e at_ h', parseW bs = (e, at_) → e ≠ 0 → Sat h0 (blk n7 (imgL 0 0 0 (none, 0, 0) (zeros 32)) :: A) h' → ∀ (n10 : Nat) (h11 : H), hnew h' n10 [.int .i64 e, .int .i64 at_] h11 → hcan h11 ⟨n7, 0, none⟩ 36 ∧ ∀ h13, h13 = hwr h11 ⟨n7, 0, none⟩ (imgL 0 0 0 (none, 0, 0) (zeros 32)) →
      ∃ i15 : Int, hc h13 ⟨n7, 0, none⟩ = some (.int .i64 i15) ∧ ∃ i16 : Int, hc h13 ⟨n7, 1, none⟩ = some (.int .i64 i16) ∧ ∃ i17 : Int, hc h13 ⟨n7, 2, none⟩ = some (.int .i64 i17) ∧ ∃ (o18 : Option Addr) (n19 n20 : Nat), hc h13 ⟨n7, 3, none⟩ = some (.slice o18 n19 n20) ∧
        ∃ l21 : List Int, l21.length = 32 ∧ hrow h13 ⟨n7, 4, none⟩ .u8 l21 ∧ Q i15 i16 i17 o18 n19 n20 l21 (.iface 215 (.pointer (some ⟨n10, 0, none⟩))) h13 := by
    intro e at_ h' hw he hs n10 h11 hn
    replace hs := Sat.new hs hn
    refine ⟨Sat.can hs (i := 1) (.s .z) (by decide), ?_⟩
    intro h13 e13
    replace hs := Sat.wra hs (i := 1) (.s .z) e13 rfl
    simp only [put] at hs
    refine ⟨_, Sat.ld hs (i := 1) (.s .z) rfl, _, Sat.ld hs (i := 1) (.s .z) rfl, _, Sat.ld hs (i := 1) (.s .z) rfl, _, _, _, Sat.ld hs (i := 1) (.s .z) rfl, _, rfl, img_row hs (.s .z) rfl, ?_⟩
    exact k1 e at_ n10 _ hw he (hs.sub (by (repeat (first | exact List.Sublist.refl _ | apply List.Sublist.cons_cons | apply List.Sublist.cons))))
  by_cases g1 : 524288 < l
  · rw [ltI_eq, if_pos (by simp; omega)]
    exact bad _ _ _ (by unfold parseW; rw [if_pos (by omega)]) (by decide) hs
  rw [ltI_eq, if_neg (by simp; omega)]
  have hP : parseW bs = match headW bs 16 0 with
    | some w => w
    | none => if 524240 < num4 bs 12 then (5, 12) else if (bs.length : Int) < 48 + num4 bs 12 then (6, bs.length) else if 48 + num4 bs 12 < bs.length then (7, 48 + num4 bs 12) else (0, 0) := by
    unfold parseW; rw [if_neg (by omega)]; try rfl
  clear k1
  generalize hW : headW bs 16 0 = W at hP
  intro J hJ
  refine loop_up 16 (fun x h => Sat h0 (blk n7 (imgL 0 0 0 (none, 0, 0) (zeros 32)) :: A) h ∧ W = headW bs (16 - x) x ∧ x ≤ l) ?_ ?_ 0 _ (by omega) ⟨hs, hW.symm, by omega⟩
  · rintro x h1 hx ⟨hs, hh, hxl⟩ hk
    apply hJ
    rw [ltI_eq, if_pos (by simp; omega)]
    obtain ⟨m, hm⟩ : ∃ m, 16 - x = m + 1 := ⟨16 - x - 1, by omega⟩
    rw [hm] at hh
    unfold headW at hh
    by_cases g2 : x = l
    · rw [if_pos (show x = bs.length by omega)] at hh
      rw [if_pos (by simp; omega)]
      exact bad 6 x _ (by rw [hP, hh]) (by decide) hs
    rw [if_neg (show ¬ x = bs.length by omega)] at hh
    rw [if_neg (by simp; omega)]
    obtain ⟨q', hq, g⟩ := hsv_int (rd _ hs.drop) (x := x) (by omega)
    refine ⟨_, hq, by omega, by omega, _, by rw [Int.toNat_natCast, Nat.mul_one]; exact g, ?_⟩
    refine may_sp x _ ?_
    by_cases g3 : mayB x (bs.getD x 0) = true
    · rw [if_pos g3] at hh
      rw [if_neg (by rw [g3]; decide), wrap_succ (by omega)]
      exact hk _ ⟨hs, by rw [hh, show 16 - (x + 1) = m by omega], by omega⟩
    · rw [if_neg g3] at hh
      rw [if_pos (by rw [Bool.not_eq_true] at g3; rw [g3]; rfl)]
      exact bad 5 x _ (by rw [hP, hh]) (by decide) hs
  rintro h1 ⟨hs, hh, hxl⟩
  apply hJ
  rw [ltI_eq, if_neg (by simp)]
  clear hJ J
  have hh : W = none := hh
  rw [hh] at hP
  dsimp only at hP
  refine ⟨by omega, by omega, ?_⟩
  have rd12 := sub_rd (o := 12) (n := l - 12) (m := c) (rd _ hs.drop) (by omega) (by omega)
  refine number_sp rd12 (drop_bytes hb _ _) (by omega) ?_
  rw [num4_drop _ _ _ (by omega)]
  obtain ⟨r1, r2⟩ := num4_range hb 12
  obtain ⟨n, hnn⟩ := Int.eq_ofNat_of_zero_le r1
  rw [hnn] at hP r2 ⊢
  have ew : IntKind.i64.wrap (16 + (n : Int)) = ((16 + n : Nat) : Int) := by rw [wrap_id (by omega)]; omega
  have ew2 : IntKind.i64.wrap (((16 + n : Nat) : Int) + 32) = ((48 + n : Nat) : Int) := by rw [wrap_id (by omega)]; omega
  rw [ew, ew2]
  by_cases g2 : 524240 < n
  · rw [if_pos (by omega)] at hP
    rw [ltI_eq, if_pos (by simp; omega)]
    exact bad 5 12 _ hP (by decide) hs
  rw [if_neg (by omega)] at hP
  rw [ltI_eq, if_neg (by simp; omega)]
  by_cases g3 : l < 48 + n
  · rw [if_pos (by omega), hbl] at hP
    rw [ltI_eq, if_pos (by simp; omega)]
    exact bad 6 l _ hP (by decide) hs
  rw [if_neg (by omega)] at hP
  rw [ltI_eq, if_neg (by simp; omega)]
  by_cases g4 : 48 + n < l
  · rw [if_pos (by omega)] at hP
    rw [ltI_eq, if_pos (by simp; omega)]
    exact bad 7 _ _ (by rw [hP]; congr 1) (by decide) hs
  rw [if_neg (by omega)] at hP
  rw [ltI_eq, if_neg (by simp; omega)]
  have hw := hP
  clear bad hP
  have hl48 : l = 48 + n := by omega
  refine ⟨_, rd _ hs.drop, ?_⟩
  refine Sat.app_new hs (by simp [hbl]) rfl (ints_one _ _) (by omega) ?_
  intro o c2 h2 hs
  obtain ⟨own, hown⟩ : ∃ own : Sl, own = (o, l, c2) := ⟨_, rfl⟩
  have hcap := sl_cap hs (i := 0) .z
  replace hs : Sat h0 (sE own 1 (ints .u8 bs) :: blk n7 (imgL 0 0 0 (none, 0, 0) (zeros 32)) :: A) h2 := by rw [hown]; exact hs
  have eo1 : o = own.1 := by rw [hown]
  have eo2 : own.2.1 = l := by rw [hown]
  rw [eo1]
  have B : ∀ x, x < l → ∀ {A' : List Ent} {h' : H}, Sat h0 A h' → ∃ q', q = some q' ∧ hc h' (q'.add x) = some (.int .u8 (bs.getD x 0)) := fun x hx A' h' hs' => hsv_int (rd _ hs') hx
  obtain ⟨q', hq, g5⟩ := hsv_int (rd _ hs.drop.drop) (x := 5) (by omega)
  obtain ⟨q2, hq2, g6⟩ := hsv_int (rd _ hs.drop.drop) (x := 6) (by omega)
  rw [hq] at hq2
  injection hq2 with hq2
  subst hq2
  have c5 : ∀ h', Sat h0 A h' → hcs h' (q'.add 5) [.int .u8 (bs.getD 5 0)] := fun h' hs' => by
    obtain ⟨q2, hq2, g⟩ := hsv_int (rd _ hs') (x := 5) (by omega)
    rw [hq] at hq2; injection hq2 with hq2; subst hq2; exact hcs_one g
  have c6 : ∀ h', Sat h0 A h' → hcs h' (q'.add 6) [.int .u8 (bs.getD 6 0)] := fun h' hs' => by
    obtain ⟨q2, hq2, g⟩ := hsv_int (rd _ hs') (x := 6) (by omega)
    rw [hq] at hq2; injection hq2 with hq2; subst hq2; exact hcs_one g
  have b5 := byte_getD hb 5
  have b6 := byte_getD hb 6
  unfold isByte at b5 b6
  have w5 : IntKind.i64.wrap (bs.getD 5 0) = bs.getD 5 0 := by rw [IntKind.wrap_i64]; omega
  have w6 : IntKind.i64.wrap (bs.getD 6 0) = bs.getD 6 0 := by rw [IntKind.wrap_i64]; omega
  have ht32 : ((bs.drop (16 + n)).take 32).length = 32 := by rw [List.length_take, List.length_drop]; omega
  refine ⟨_, hq, by omega, by omega, _, g5, _, hq, by omega, by omega, _, g6, by omega, by omega, by omega, by omega, by omega, by omega, ?_⟩
  rw [Int.toNat_natCast, Nat.add_sub_cancel_left]
  have rd8 : ∀ h', Sat h0 A h' → hsv h' (subAddr q 8 c 1) 1 (l - 8) (ints .u8 ((bs.drop 8).take (l - 8))) := fun h' hs' => sub_rd (o := 8) (n := l - 8) (m := c) (rd _ hs') (by omega) (by omega)
  rw [w5, w6, show Nat.min (l - (16 + n)) 32 = 32 by show min _ _ = _; omega]
  constructor
  · refine number_sp (rd8 _ hs.drop.drop) (drop_bytes hb _ _) (by omega) ?_
    rw [num4_drop _ _ _ (by omega)]
    refine ⟨c6 _ hs.drop.drop, c5 _ hs.drop.drop, ?_⟩
    intro nb _ hn; replace hs := Sat.new hs hn; clear hn
    refine ⟨c6 _ hs.drop.drop.drop, c5 _ hs.drop.drop.drop, ?_⟩
    (refine ⟨Sat.can hs (i := 0) .z (by decide), ?_⟩; intro h20 e20; replace hs := Sat.wra hs (i := 0) .z e20 (by rfl); clear e20; simp only [put] at hs; replace hs : Sat h0 (blk nb (imgL (bs.getD 5 0) (bs.getD 6 0) (num4 bs 8) (subAddr own.1 16 (16 + n) 1, n, n) (zeros 32)) :: sE own 1 (ints .u8 bs) :: blk n7 (imgL 0 0 0 (none, 0, 0) (zeros 32)) :: A) h20 := hs; refine ⟨by omega, by omega, _, sub_rd (n := 32) (hs.sv (i := 1) (.s .z)) (by omega) (by omega), Or.inr ⟨_, rfl, Sat.can hs (i := 0) .z (by rw [img_len rfl]; decide)⟩, ?_⟩; intro h21 e21; replace hs := Sat.wr hs (i := 0) .z (o := 4) e21; clear e21; rw [img_s4 (by rw [List.length_take, List.length_drop]; omega)] at hs; simp only [put] at hs; refine ⟨_, Sat.ld hs (i := 0) .z rfl, _, Sat.ld hs (i := 0) .z rfl, _, Sat.ld hs (i := 0) .z rfl, _, _, _, Sat.ld hs (i := 0) .z rfl, _, ht32, img_row hs .z ht32, Sat.can hs (i := 2) (.s (.s .z)) (by decide), ?_⟩; intro h22 e22; replace hs := Sat.wra hs (i := 2) (.s (.s .z)) e22 (by rw [img_len ht32]; rfl); clear e22; simp only [put] at hs; replace hs : Sat h0 (blk nb (imgL (bs.getD 5 0) (bs.getD 6 0) (num4 bs 8) (subAddr own.1 16 (16 + n) 1, n, n) ((bs.drop (16 + n)).take 32)) :: sE own 1 (ints .u8 bs) :: blk n7 (imgL (bs.getD 5 0) (bs.getD 6 0) (num4 bs 8) (subAddr own.1 16 (16 + n) 1, n, n) ((bs.drop (16 + n)).take 32)) :: A) h22 := hs; refine ⟨_, Sat.ld hs (i := 2) (.s (.s .z)) rfl, _, Sat.ld hs (i := 2) (.s (.s .z)) rfl, _, Sat.ld hs (i := 2) (.s (.s .z)) rfl, _, _, _, Sat.ld hs (i := 2) (.s (.s .z)) rfl, _, ht32, img_row hs (.s (.s .z)) ht32, ?_⟩; exact k2 own n _ hw hnn (hs.sub (by (repeat (first | exact List.Sublist.refl _ | apply List.Sublist.cons_cons | apply List.Sublist.cons)))))
  · intro nb _ hn; replace hs := Sat.new hs hn; clear hn
    refine ⟨c6 _ hs.drop.drop.drop, c5 _ hs.drop.drop.drop, ?_⟩
    refine number_sp (rd8 _ hs.drop.drop.drop) (drop_bytes hb _ _) (by omega) ?_
    rw [num4_drop _ _ _ (by omega)]
    refine ⟨c6 _ hs.drop.drop.drop, c5 _ hs.drop.drop.drop, ?_⟩
    (refine ⟨Sat.can hs (i := 0) .z (by decide), ?_⟩; intro h20 e20; replace hs := Sat.wra hs (i := 0) .z e20 (by rfl); clear e20; simp only [put] at hs; replace hs : Sat h0 (blk nb (imgL (bs.getD 5 0) (bs.getD 6 0) (num4 bs 8) (subAddr own.1 16 (16 + n) 1, n, n) (zeros 32)) :: sE own 1 (ints .u8 bs) :: blk n7 (imgL 0 0 0 (none, 0, 0) (zeros 32)) :: A) h20 := hs; refine ⟨by omega, by omega, _, sub_rd (n := 32) (hs.sv (i := 1) (.s .z)) (by omega) (by omega), Or.inr ⟨_, rfl, Sat.can hs (i := 0) .z (by rw [img_len rfl]; decide)⟩, ?_⟩; intro h21 e21; replace hs := Sat.wr hs (i := 0) .z (o := 4) e21; clear e21; rw [img_s4 (by rw [List.length_take, List.length_drop]; omega)] at hs; simp only [put] at hs; refine ⟨_, Sat.ld hs (i := 0) .z rfl, _, Sat.ld hs (i := 0) .z rfl, _, Sat.ld hs (i := 0) .z rfl, _, _, _, Sat.ld hs (i := 0) .z rfl, _, ht32, img_row hs .z ht32, Sat.can hs (i := 2) (.s (.s .z)) (by decide), ?_⟩; intro h22 e22; replace hs := Sat.wra hs (i := 2) (.s (.s .z)) e22 (by rw [img_len ht32]; rfl); clear e22; simp only [put] at hs; replace hs : Sat h0 (blk nb (imgL (bs.getD 5 0) (bs.getD 6 0) (num4 bs 8) (subAddr own.1 16 (16 + n) 1, n, n) ((bs.drop (16 + n)).take 32)) :: sE own 1 (ints .u8 bs) :: blk n7 (imgL (bs.getD 5 0) (bs.getD 6 0) (num4 bs 8) (subAddr own.1 16 (16 + n) 1, n, n) ((bs.drop (16 + n)).take 32)) :: A) h22 := hs; refine ⟨_, Sat.ld hs (i := 2) (.s (.s .z)) rfl, _, Sat.ld hs (i := 2) (.s (.s .z)) rfl, _, Sat.ld hs (i := 2) (.s (.s .z)) rfl, _, _, _, Sat.ld hs (i := 2) (.s (.s .z)) rfl, _, ht32, img_row hs (.s (.s .z)) ht32, ?_⟩; exact k2 own n _ hw hnn (hs.sub (by (repeat (first | exact List.Sublist.refl _ | apply List.Sublist.cons_cons | apply List.Sublist.cons)))))
end
end Go.Proofs.Ytamfkofcpoglnaa
end

/- Images: taken apart by the document. Own work. -/
section
set_option maxRecDepth 100000
set_option linter.unusedVariables false
namespace Go.Proofs.Ytamfkofcpoglnaa
open Go Go.Vc

/-- The first bytes of a row are those of another one. -/
def tagTo (t : List Int) (n : Nat) : List Int := tab 32 fun x => if x < n then t.getD x 0 else 0
theorem tagTo_len (t : List Int) (n : Nat) : (tagTo t n).length = 32 := by simp [tagTo]
theorem tagTo_zero (t : List Int) : tagTo t 0 = zeros 32 := by
  unfold tagTo
  simp only [Nat.not_lt_zero, if_false]; rfl
theorem tagTo_all {t : List Int} (ht : t.length = 32) : tagTo t 32 = t := by
  refine ext_getD ((tagTo_len t 32).trans ht.symm) fun x hx => ?_
  rw [tagTo_len] at hx
  unfold tagTo
  rw [tab_getD _ hx, if_pos hx]
theorem tagTo_set (t : List Int) {n : Nat} (hn : n < 32) : (tagTo t n).set n (t.getD n 0) = tagTo t (n + 1) := by
  refine ext_getD (by simp [tagTo_len]) fun x hx => ?_
  rw [List.length_set, tagTo_len] at hx
  rw [set_getD]
  unfold tagTo
  rw [tab_getD _ hx, tab_getD _ hx]
  by_cases c : n = x
  · subst c; rw [if_pos ⟨rfl, by simp; omega⟩, if_pos (by omega)]
  · rw [if_neg (fun y => c y.1)]
    by_cases d : x < n
    · rw [if_pos d, if_pos (by omega)]
    · rw [if_neg d, if_neg (by omega)]
section
variable {h0 h : H} {A : List Ent} {i j p r b : Nat}
theorem img_s1 {a b' v w : Int} {x : Sl} {t : List Int} {n : Nat} (hn : n < t.length) : splice (imgL a b' v x t) (4 + n) [.int .u8 w] = imgL a b' v x (t.set n w) := by
  show (imgL a b' v x t).set (4 + n) (.int .u8 w) = _
  rw [show 4 + n = n + 1 + 1 + 1 + 1 by omega]
  simp only [imgL, List.set_cons_succ, ints_set]
theorem rParse_sp {Q : Int → Int → Int → Option Addr → Nat → Nat → List Int → Int → Int → H → Prop} {q : Option Addr} {l c : Nat} {bs : List Int} (hs : Sat h0 A h) (rd : ∀ h', Sat h0 A h' → hsv h' q 1 l (ints .u8 bs)) (hb : bytesOk bs) (hlc : l ≤ c) (hl : l < 2 ^ 50)
    (k1 : ∀ e at_ h', parseW bs = (e, at_) → e ≠ 0 → Sat h0 A h' → Q 0 0 0 none 0 0 (zeros 32) e at_ h')
    (k2 : ∀ (own : Sl) (n : Nat) h', parseW bs = (0, 0) → num4 bs 12 = n → own.2.1 = n → Sat h0 (sE own 1 (ints .u8 ((bs.drop 16).take n)) :: A) h' → Q (bs.getD 5 0) (bs.getD 6 0) (num4 bs 8) own.1 own.2.1 own.2.2 ((bs.drop (16 + n)).take 32) 0 0 h') :
    F_portcullisref11_Parse q l c Q h := by
  unfold F_portcullisref11_Parse G_portcullisref11_Parse
  simp only [add_mk, Nat.zero_add, List.append_nil]
  have hbl : bs.length = l := by have := (rd _ hs).1; simpa using this
  intro n7 _ hn; replace hs := Sat.new hs hn; clear hn
  intro n10 _ hn; replace hs := Sat.new hs hn; clear hn
  replace hs : Sat h0 (blk n10 [.int .i64 0, .int .i64 0] :: blk n7 (imgL 0 0 0 (none, 0, 0) (zeros 32)) :: A) _ := hs
  have bad : ∀ e at_ h', parseW bs = (e, at_) → e ≠ 0 → Sat h0 (blk n10 [.int .i64 0, .int .i64 0] :: blk n7 (imgL 0 0 0 (none, 0, 0) (zeros 32)) :: A) h' → hcan h' ⟨n7, 0, none⟩ 36 ∧ ∀ h13, h13 = hwr h' ⟨n7, 0, none⟩ (imgL 0 0 0 (none, 0, 0) (zeros 32)) → hcan h13 ⟨n10, 0, none⟩ 2 ∧ ∀ h15, h15 = hwr h13 ⟨n10, 0, none⟩ [.int .i64 e, .int .i64 at_] →
      ∃ i15 : Int, hc h15 ⟨n7, 0, none⟩ = some (.int .i64 i15) ∧ ∃ i16 : Int, hc h15 ⟨n7, 1, none⟩ = some (.int .i64 i16) ∧ ∃ i17 : Int, hc h15 ⟨n7, 2, none⟩ = some (.int .i64 i17) ∧ ∃ (o18 : Option Addr) (n19 n20 : Nat), hc h15 ⟨n7, 3, none⟩ = some (.slice o18 n19 n20) ∧
        ∃ l21 : List Int, l21.length = 32 ∧ hrow h15 ⟨n7, 4, none⟩ .u8 l21 ∧ ∃ i24 : Int, hc h15 ⟨n10, 0, none⟩ = some (.int .i64 i24) ∧ ∃ i25 : Int, hc h15 ⟨n10, 1, none⟩ = some (.int .i64 i25) ∧ Q i15 i16 i17 o18 n19 n20 l21 i24 i25 h15 := by
    intro e at_ h' hw he hs
    refine ⟨Sat.can hs (i := 1) (.s .z) (by decide), ?_⟩
    intro h13 e13
    replace hs := Sat.wra hs (i := 1) (.s .z) e13 rfl
    simp only [put] at hs
    refine ⟨Sat.can hs (i := 0) .z (by decide), ?_⟩
    intro h15 e15
    replace hs := Sat.wra hs (i := 0) .z e15 rfl
    simp only [put] at hs
    refine ⟨_, Sat.ld hs (i := 1) (.s .z) rfl, _, Sat.ld hs (i := 1) (.s .z) rfl, _, Sat.ld hs (i := 1) (.s .z) rfl, _, _, _, Sat.ld hs (i := 1) (.s .z) rfl, _, rfl, img_row hs (.s .z) rfl, _, Sat.ld hs (i := 0) .z rfl, _, Sat.ld hs (i := 0) .z rfl, ?_⟩
    exact k1 e at_ _ hw he hs.drop.drop
  by_cases g1 : 524288 < l
  · rw [ltI_eq, if_pos (by simp; omega)]
    exact bad _ _ _ (by unfold parseW; rw [if_pos (by omega)]) (by decide) hs
  rw [ltI_eq, if_neg (by simp; omega)]
  have hP : parseW bs = match headW bs 16 0 with
    | some w => w
    | none => if 524240 < num4 bs 12 then (5, 12) else if (bs.length : Int) < 48 + num4 bs 12 then (6, bs.length) else if 48 + num4 bs 12 < bs.length then (7, 48 + num4 bs 12) else (0, 0) := by
    unfold parseW; rw [if_neg (by omega)]; try rfl
  clear k1
  generalize hW : headW bs 16 0 = W at hP
  intro J hJ
  refine loop_up 16 (fun x h => Sat h0 (blk n10 [.int .i64 0, .int .i64 0] :: blk n7 (imgL 0 0 0 (none, 0, 0) (zeros 32)) :: A) h ∧ W = headW bs (16 - x) x ∧ x ≤ l) ?_ ?_ 0 _ (by omega) ⟨hs, hW.symm, by omega⟩
  · rintro x h1 hx ⟨hs, hh, hxl⟩ hk
    apply hJ
    rw [ltI_eq, if_pos (by simp; omega)]
    obtain ⟨m, hm⟩ : ∃ m, 16 - x = m + 1 := ⟨16 - x - 1, by omega⟩
    rw [hm] at hh
    unfold headW at hh
    by_cases g2 : x = l
    · rw [if_pos (show x = bs.length by omega)] at hh
      rw [if_pos (by simp; omega)]
      exact bad 6 x _ (by rw [hP, hh]) (by decide) hs
    rw [if_neg (show ¬ x = bs.length by omega)] at hh
    rw [if_neg (by simp; omega)]
    obtain ⟨q', hq, g⟩ := hsv_int (rd _ hs.drop.drop) (x := x) (by omega)
    refine ⟨_, hq, by omega, by omega, _, by rw [Int.toNat_natCast, Nat.mul_one]; exact g, ?_⟩
    refine rmust_sp x _ ?_
    by_cases g3 : mayB x (bs.getD x 0) = true
    · rw [if_pos g3] at hh
      rw [if_neg (by rw [g3]; decide), wrap_succ (by omega)]
      exact hk _ ⟨hs, by rw [hh, show 16 - (x + 1) = m by omega], by omega⟩
    · rw [if_neg g3] at hh
      rw [if_pos (by rw [Bool.not_eq_true] at g3; rw [g3]; rfl)]
      exact bad 5 x _ (by rw [hP, hh]) (by decide) hs
  rintro h1 ⟨hs, hh, hxl⟩
  apply hJ
  rw [ltI_eq, if_neg (by simp)]
  clear hJ J
  have hh : W = none := hh
  rw [hh] at hP
  dsimp only at hP
  refine ⟨by omega, by omega, ?_⟩
  have rd12 := sub_rd (o := 12) (n := l - 12) (m := c) (rd _ hs.drop.drop) (by omega) (by omega)
  refine rnumber_sp rd12 (drop_bytes hb _ _) (by omega) ?_
  rw [num4_drop _ _ _ (by omega)]
  obtain ⟨r1, r2⟩ := num4_range hb 12
  obtain ⟨n, hnn⟩ := Int.eq_ofNat_of_zero_le r1
  rw [hnn] at hP r2 ⊢
  by_cases g2 : 524240 < n
  · rw [if_pos (by omega)] at hP
    rw [ltI_eq, if_pos (by simp; omega)]
    exact bad 5 12 _ hP (by decide) hs
  rw [if_neg (by omega)] at hP
  rw [ltI_eq, if_neg (by simp; omega)]
  have ew : IntKind.i64.wrap ((n : Int) + 16) = ((16 + n : Nat) : Int) := by rw [wrap_id (by omega)]; omega
  have ew2 : IntKind.i64.wrap (((16 + n : Nat) : Int) + 32) = ((48 + n : Nat) : Int) := by rw [wrap_id (by omega)]; omega
  have ew3 : IntKind.i64.wrap (((48 + n : Nat) : Int) - 32) = ((16 + n : Nat) : Int) := by rw [wrap_id (by omega)]; omega
  rw [ew, ew2, ew3]
  by_cases g3 : l < 48 + n
  · rw [if_pos (by omega), hbl] at hP
    rw [ltI_eq, if_pos (by simp; omega)]
    exact bad 6 l _ hP (by decide) hs
  rw [if_neg (by omega)] at hP
  rw [ltI_eq, if_neg (by simp; omega)]
  by_cases g4 : 48 + n < l
  · rw [if_pos (by omega)] at hP
    rw [ltI_eq, if_pos (by simp; omega)]
    exact bad 7 _ _ (by rw [hP]; congr 1) (by decide) hs
  rw [if_neg (by omega)] at hP
  rw [ltI_eq, if_neg (by simp; omega)]
  have hw := hP
  clear bad hP
  have hl48 : l = 48 + n := by omega
  intro J100 hJ100
  have ht32 : ((bs.drop (16 + n)).take 32).length = 32 := by rw [List.length_take, List.length_drop]; omega
  have way : ∀ (nb : Nat) h', Sat h0 (blk nb (imgL (bs.getD 5 0) (bs.getD 6 0) (num4 bs 8) (none, 0, 0) (zeros 32)) :: blk n10 [.int .i64 0, .int .i64 0] :: blk n7 (imgL 0 0 0 (none, 0, 0) (zeros 32)) :: A) h' → J100 [.dv (.addr ⟨nb, 0, none⟩)] h' := by
    intro nb h2 hs
    apply hJ100
    clear hJ100 J100
    simp only [add_mk, Nat.zero_add]
    intro n103 _ hn; replace hs := Sat.new hs hn; clear hn
    rw [Int.toNat_natCast, Nat.add_sub_cancel_left]
    refine ⟨by omega, by omega, by omega, _, sub_rd (o := 16) (n := n) (rd _ hs.drop.drop.drop.drop) (by omega) (by omega), ?_⟩
    refine Sat.app_new hs (by simp; omega) rfl (ints_one _ _) (by omega) ?_
    intro o c2 h3 hs
    obtain ⟨own, hown⟩ : ∃ own : Sl, own = (o, n, c2) := ⟨_, rfl⟩
    replace hs : Sat h0 (sE own 1 (ints .u8 ((bs.drop 16).take n)) :: blk n103 [] :: blk nb (imgL (bs.getD 5 0) (bs.getD 6 0) (num4 bs 8) (none, 0, 0) (zeros 32)) :: blk n10 [.int .i64 0, .int .i64 0] :: blk n7 (imgL 0 0 0 (none, 0, 0) (zeros 32)) :: A) h3 := by rw [hown]; exact hs
    have eo1 : o = own.1 := by rw [hown]
    have eo2 : n = own.2.1 := by rw [hown]
    have eo3 : c2 = own.2.2 := by rw [hown]
    refine ⟨Sat.can hs (i := 2) (.s (.s .z)) (by rw [img_len rfl]; decide), ?_⟩
    intro h4 e4
    replace hs := Sat.wr hs (i := 2) (.s (.s .z)) (o := 3) e4
    clear e4
    simp only [put] at hs
    have e5 : splice (imgL (bs.getD 5 0) (bs.getD 6 0) (num4 bs 8) (none, 0, 0) (zeros 32)) 3 [.slice o n c2] = imgL (bs.getD 5 0) (bs.getD 6 0) (num4 bs 8) own (tagTo ((bs.drop (16 + n)).take 32) 0) := by rw [tagTo_zero, hown]; rfl
    rw [e5] at hs
    clear e5
    intro J113 hJ113
    refine loop_up 32 (fun x h => Sat h0 (sE own 1 (ints .u8 ((bs.drop 16).take n)) :: blk n103 [] :: blk nb (imgL (bs.getD 5 0) (bs.getD 6 0) (num4 bs 8) own (tagTo ((bs.drop (16 + n)).take 32) x)) :: blk n10 [.int .i64 0, .int .i64 0] :: blk n7 (imgL 0 0 0 (none, 0, 0) (zeros 32)) :: A) h) ?_ ?_ 0 _ (by omega) hs
    · intro x h5 hx hs hk
      apply hJ113
      rw [ltI_eq, if_pos (by simp; omega)]
      have e6 : IntKind.i64.wrap (((16 + n : Nat) : Int) + (x : Int)) = ((16 + n + x : Nat) : Int) := by rw [wrap_id (by omega)]; omega
      rw [e6]
      obtain ⟨q', hq, g⟩ := hsv_int (rd _ hs.drop.drop.drop.drop.drop) (x := 16 + n + x) (by omega)
      refine ⟨_, hq, by omega, by omega, _, by rw [Int.toNat_natCast, Nat.mul_one]; exact g, by omega, by omega, ?_⟩
      rw [Int.toNat_natCast, Nat.mul_one]
      refine ⟨Sat.can hs (i := 2) (.s (.s .z)) (by rw [img_len (tagTo_len _ _)]; simp; omega), ?_⟩
      intro h6 e6
      replace hs := Sat.wr hs (i := 2) (.s (.s .z)) (o := 4 + x) e6
      clear e6
      rw [img_s1 (by rw [tagTo_len]; exact hx)] at hs
      have e7 : bs.getD (16 + n + x) 0 = ((bs.drop (16 + n)).take 32).getD x 0 := (drop_getD bs (16 + n) 32 x hx).symm
      rw [e7, tagTo_set _ hx] at hs
      rw [wrap_succ (by omega)]
      exact hk _ hs
    · intro h5 hs
      rw [tagTo_all ht32] at hs
      apply hJ113
      rw [ltI_eq, if_neg (by simp)]
      refine ⟨_, Sat.ld hs (i := 2) (.s (.s .z)) rfl, _, Sat.ld hs (i := 2) (.s (.s .z)) rfl, _, Sat.ld hs (i := 2) (.s (.s .z)) rfl, _, _, _, Sat.ld hs (i := 2) (.s (.s .z)) rfl, _, ht32, img_row hs (.s (.s .z)) ht32, Sat.can hs (i := 4) (.s (.s (.s (.s .z)))) (by decide), ?_⟩
      intro h6 e6
      replace hs := Sat.wra hs (i := 4) (.s (.s (.s (.s .z)))) e6 (by rw [img_len ht32]; rfl)
      clear e6
      simp only [put] at hs
      refine ⟨Sat.can hs (i := 3) (.s (.s (.s .z))) (by decide), ?_⟩
      intro h7 e7
      replace hs := Sat.wra hs (i := 3) (.s (.s (.s .z))) e7 (by rfl)
      clear e7
      simp only [put] at hs
      replace hs : Sat h0 (sE own 1 (ints .u8 ((bs.drop 16).take n)) :: blk n103 [] :: blk nb (imgL (bs.getD 5 0) (bs.getD 6 0) (num4 bs 8) own ((bs.drop (16 + n)).take 32)) :: blk n10 [.int .i64 0, .int .i64 0] :: blk n7 (imgL (bs.getD 5 0) (bs.getD 6 0) (num4 bs 8) own ((bs.drop (16 + n)).take 32)) :: A) h7 := hs
      refine ⟨_, Sat.ld hs (i := 4) (.s (.s (.s (.s .z)))) rfl, _, Sat.ld hs (i := 4) (.s (.s (.s (.s .z)))) rfl, _, Sat.ld hs (i := 4) (.s (.s (.s (.s .z)))) rfl, _, _, _, Sat.ld hs (i := 4) (.s (.s (.s (.s .z)))) rfl, _, ht32, img_row hs (.s (.s (.s (.s .z)))) ht32, _, Sat.ld hs (i := 3) (.s (.s (.s .z))) rfl, _, Sat.ld hs (i := 3) (.s (.s (.s .z))) rfl, ?_⟩
      exact k2 own n _ hw hnn eo2.symm (hs.sub (by (repeat (first | exact List.Sublist.refl _ | apply List.Sublist.cons_cons | apply List.Sublist.cons))))
  obtain ⟨q', hq, g5⟩ := hsv_int (rd _ hs.drop.drop) (x := 5) (by omega)
  obtain ⟨q2, hq2, g6⟩ := hsv_int (rd _ hs.drop.drop) (x := 6) (by omega)
  rw [hq] at hq2
  injection hq2 with hq2
  subst hq2
  have c5 : ∀ h', Sat h0 A h' → hcs h' (q'.add 5) [.int .u8 (bs.getD 5 0)] := fun h' hs' => by
    obtain ⟨q2, hq2, g⟩ := hsv_int (rd _ hs') (x := 5) (by omega)
    rw [hq] at hq2; injection hq2 with hq2; subst hq2; exact hcs_one g
  have c6 : ∀ h', Sat h0 A h' → hcs h' (q'.add 6) [.int .u8 (bs.getD 6 0)] := fun h' hs' => by
    obtain ⟨q2, hq2, g⟩ := hsv_int (rd _ hs') (x := 6) (by omega)
    rw [hq] at hq2; injection hq2 with hq2; subst hq2; exact hcs_one g
  have b5 := byte_getD hb 5
  have b6 := byte_getD hb 6
  unfold isByte at b5 b6
  have w5 : IntKind.i64.wrap (bs.getD 5 0) = bs.getD 5 0 := by rw [IntKind.wrap_i64]; omega
  have w6 : IntKind.i64.wrap (bs.getD 6 0) = bs.getD 6 0 := by rw [IntKind.wrap_i64]; omega
  have rd8 : ∀ h', Sat h0 A h' → hsv h' (subAddr q 8 c 1) 1 (l - 8) (ints .u8 ((bs.drop 8).take (l - 8))) := fun h' hs' => sub_rd (o := 8) (n := l - 8) (m := c) (rd _ hs') (by omega) (by omega)
  refine ⟨_, hq, by omega, by omega, _, g5, _, hq, by omega, by omega, _, g6, by omega, by omega, ?_⟩
  rw [w5, w6]
  constructor
  · refine rnumber_sp (rd8 _ hs.drop.drop) (drop_bytes hb _ _) (by omega) ?_
    rw [num4_drop _ _ _ (by omega)]
    refine ⟨c6 _ hs.drop.drop, c5 _ hs.drop.drop, ?_⟩
    intro nb _ hn; replace hs := Sat.new hs hn; clear hn
    refine ⟨c6 _ hs.drop.drop.drop, c5 _ hs.drop.drop.drop, ?_⟩
    refine ⟨Sat.can hs (i := 0) .z (by decide), ?_⟩
    intro h4 e4
    replace hs := Sat.wra hs (i := 0) .z e4 (by rfl)
    exact way nb _ hs
  · intro nb _ hn; replace hs := Sat.new hs hn; clear hn
    refine ⟨c6 _ hs.drop.drop.drop, c5 _ hs.drop.drop.drop, ?_⟩
    refine rnumber_sp (rd8 _ hs.drop.drop.drop) (drop_bytes hb _ _) (by omega) ?_
    rw [num4_drop _ _ _ (by omega)]
    refine ⟨c6 _ hs.drop.drop.drop, c5 _ hs.drop.drop.drop, ?_⟩
    refine ⟨Sat.can hs (i := 0) .z (by decide), ?_⟩
    intro h4 e4
    replace hs := Sat.wra hs (i := 0) .z e4 (by rfl)
    exact way nb _ hs
end
end Go.Proofs.Ytamfkofcpoglnaa
end

/- A thing within which a slice is read that was loaded before. Own work; generic over any program. -/
section
set_option linter.unusedVariables false
namespace Go.Vc

def inF (p : Option Addr) (vs : List Value) (f : Nat → Prop) : Prop := vs = [] ∨ ∃ q, p = some q ∧ f q.block
theorem hsv_in {h h' : H} {p : Option Addr} {sz l : Nat} {vs : List Value} {f : Nat → Prop} (e : hsv h p sz l vs) (i : inF p vs f) (hs : ∀ b, f b → h'[b]? = h[b]?) : hsv h' p sz l vs := by
  obtain ⟨h1, h2, h3⟩ := e
  refine ⟨h1, h2, ?_⟩
  rcases h3 with h3 | ⟨q, rfl, h3⟩
  · exact Or.inl h3
  rcases i with i | ⟨q', hq, hf⟩
  · exact Or.inl i
  injection hq with hq
  subst hq
  refine Or.inr ⟨q, rfl, fun i v hv => ?_⟩
  have := h3 i v hv
  rw [hc_congr (h := h) (by rw [add_block]; exact hs _ hf)]
  exact this
@[irreducible] def ofP (e : Ent) (p : Option Addr) (sz l : Nat) (vs : List Value) (h : H) (f : Nat → Prop) : Prop := e.P h f ∧ hsv h p sz l vs ∧ inF p vs f
def ofE (e : Ent) (p : Option Addr) (sz l : Nat) (vs : List Value) : Ent where
  tag := e.tag
  P := ofP e p sz l vs
  st := by unfold ofP; rintro h h' f ⟨k, k2, k3⟩ hs; exact ⟨e.st k hs, hsv_in k2 k3 hs, k3⟩
  lt := by unfold ofP; rintro h f x ⟨k, _⟩ hx; exact e.lt k hx
theorem ofE_P {e : Ent} {p : Option Addr} {sz l : Nat} {vs : List Value} {h : H} {f : Nat → Prop} : (ofE e p sz l vs).P h f ↔ e.P h f ∧ hsv h p sz l vs ∧ inF p vs f := by
  show ofP e p sz l vs h f ↔ _; unfold ofP; rfl
theorem Sat.ofSv {h0 h : H} {A : List Ent} (s : Sat h0 A h) {i : Nat} {e : Ent} {p : Option Addr} {sz l : Nat} {vs : List Value} (a : At A i (ofE e p sz l vs)) : hsv h p sz l vs := by
  obtain ⟨f, hp, _⟩ := s.take a
  exact (ofE_P.1 hp).2.1
theorem Sat.ofOut {h0 h : H} {A : List Ent} (s : Sat h0 A h) {i : Nat} {e : Ent} {p : Option Addr} {sz l : Nat} {vs : List Value} (a : At A i (ofE e p sz l vs)) : Sat h0 (Vc.put A i e) h :=
  s.as a fun f hp => (ofE_P.1 hp).1
theorem SatX.sat {A : List Ent} {h : H} {O : Nat → Prop} (s : SatX A h O) : Sat #[] A h := ⟨⟨Nat.zero_le _, fun b hb _ => absurd hb (Nat.not_lt_zero _)⟩, O, s, fun _ _ => Nat.zero_le _⟩
theorem SatX.foot {A : List Ent} {h : H} {O : Nat → Prop} (s : SatX A h O) {i : Nat} {e : Ent} (a : At A i e) : ∃ f, e.P h f ∧ ∀ b, f b → O b := by
  obtain ⟨f, g, hp, _, ho, _⟩ := s.take a
  exact ⟨f, hp, fun b hb => (ho b).2 (Or.inl hb)⟩
theorem slE_in {p : Option Addr} {l c sz : Nat} {vs : List Value} {h : H} {f : Nat → Prop} (hp : (slE p l c sz vs).P h f) : hsv h p sz l vs ∧ inF p vs f := by
  obtain ⟨bs, o, hf⟩ := slE_P.1 hp
  refine ⟨o.hsv, ?_⟩
  obtain ⟨h1, h2, h3, h4⟩ := o
  rcases h4 with ⟨e1, e2, e3⟩ | ⟨b, rest, e1, e2, _, _⟩
  · left
    subst e1
    have : vs.length = 0 := by rw [h1]; simp
    exact List.length_eq_zero_iff.1 this
  · right
    exact ⟨_, e1, (hf b).2 (by rw [e2]; simp)⟩
/-- A row of a matrix, with where it lies. -/
theorem mat_row {h : H} {f : Nat → Prop} {sz : Nat} {a : Sl} {rows : List (List Int)} (hp : (matE sz a rows).P h f) {j : Nat} (hj : j < rows.length) :
    ∃ q x, a.1 = some q ∧ rows.length = a.2.1 ∧ hc h (q.add (j * 1)) = some (Sl.v x) ∧ hsv h x.1 sz x.2.1 (ints .u8 rows[j]) ∧ inF x.1 (ints .u8 rows[j]) f := by
  obtain ⟨pgs, he, s⟩ := exE_P.1 hp
  subst he
  have hj' : j < pgs.length := by simpa using hj
  obtain ⟨f0, hp0, hf0⟩ := s.foot (i := 0) (e := sE a 1 (pgSl pgs)) .z
  obtain ⟨hsv0, _⟩ := slE_in hp0
  have e : (pgSl pgs)[j]? = some (pgs[j].sl.v) := by simp [pgSl, hj']
  obtain ⟨q, hq, g⟩ := hsv_get hsv0 e
  obtain ⟨y, hy⟩ := At.mem (A := rowsE sz pgs) (e := sE pgs[j].sl sz (ints .u8 pgs[j].bytes)) (List.mem_map_of_mem (List.getElem_mem hj'))
  obtain ⟨f1, hp1, hf1⟩ := s.foot hy.s
  obtain ⟨hsv1, hin⟩ := slE_in hp1
  have er : (pgBytes pgs)[j] = pgs[j].bytes := by simp [pgBytes]
  refine ⟨q, pgs[j].sl, hq, ?_, by simpa using g, by rw [er]; exact hsv1, ?_⟩
  · have := hsv0.1; simp at this; simpa using this
  · rw [er]
    rcases hin with hin | ⟨q', e1, e2⟩
    · exact Or.inl hin
    · exact Or.inr ⟨q', e1, hf1 _ e2⟩
end Go.Vc
end

/- Areas: the image that lies in one. Own work. -/
section
set_option maxRecDepth 100000
set_option linter.unusedVariables false
namespace Go.Proofs.Ytamfkofcpoglnaa
open Go Go.Vc

/-- All bytes of an area. -/
def areaAll (C : Cm) (ar : Int) : List Int := areaB C ar (C.cfg.area.toNat * C.cfg.cells.toNat)
/-- What is read from an area. -/
def areaR (C : Cm) (ar : Int) : List Int × Int :=
  if askedM C ar 2 ≠ 0 then ([], askedM C ar 2)
  else if sizeM C.cfg < 48 then ([], 5)
  else if sizeM C.cfg < 48 + num4 (areaAll C ar) 12 then ([], 5)
  else if (parseW ((areaAll C ar).take (48 + num4 (areaAll C ar) 12).toNat)).1 ≠ 0 then ([], 5)
  else ((areaAll C ar).take (48 + num4 (areaAll C ar) 12).toNat, 0)
theorem areaB_pre (C : Cm) (ar : Int) (m : Nat) : ∀ d, ∃ r, areaB C ar (m + d) = areaB C ar m ++ r := by
  intro d
  induction d with
  | zero => exact ⟨[], by simp⟩
  | succ d ih =>
    obtain ⟨r, hr⟩ := ih
    have e : areaB C ar (m + (d + 1)) = areaB C ar (m + d) ++ (readM C (2 + ar * C.cfg.area + (((m + d) / C.cfg.cells.toNat : Nat) : Int)) (((m + d) % C.cfg.cells.toNat : Nat) : Int)).1 := rfl
    exact ⟨_, by rw [e, hr, List.append_assoc]⟩
theorem areaB_len {C : Cm} (ok : C.ok) (ar : Int) (m : Nat) : (areaB C ar m).length = 32 * m := by
  induction m with
  | zero => rfl
  | succ m ih => unfold areaB; rw [List.length_append, ih, readM_len ok]; omega
theorem areaB_take {C : Cm} (ok : C.ok) (ar : Int) {m M n : Nat} (hm : m ≤ M) (hn : n ≤ 32 * m) : (areaB C ar m).take n = (areaB C ar M).take n := by
  obtain ⟨r, hr⟩ := areaB_pre C ar m (M - m)
  rw [show m + (M - m) = M by omega] at hr
  rw [hr, List.take_append_of_le_length (by rw [areaB_len ok]; exact hn)]
theorem readM_bytes {C : Cm} (ok : C.ok) (page cell : Int) : bytesOk (readM C page cell).1 := by
  unfold readM
  split
  · intro v hv
    dsimp only at hv
    unfold zeros at hv
    have := List.eq_of_mem_replicate hv
    subst this; exact ⟨by decide, by decide⟩
  · intro v hv
    dsimp only at hv
    have hv2 := cellAt_mem hv
    by_cases c : page.toNat < C.s.pages.length
    · have e : C.s.pages.getD page.toNat [] = C.s.pages[page.toNat] := by simp [List.getD, List.getElem?_eq_getElem c]
      unfold rowOf at hv2
      rw [e] at hv2
      exact ok.typed.bytes _ (List.getElem_mem c) v hv2
    · have e : C.s.pages.getD page.toNat [] = [] := by simp [List.getD, List.getElem?_eq_none (show C.s.pages.length ≤ page.toNat by omega)]
      unfold rowOf at hv2
      rw [e] at hv2; cases hv2
theorem areaB_bytes {C : Cm} (ok : C.ok) (ar : Int) (m : Nat) : bytesOk (areaB C ar m) := by
  induction m with
  | zero => intro v hv; cases hv
  | succ m ih =>
    unfold areaB
    intro v hv
    rcases List.mem_append.1 hv with y | y
    · exact ih v y
    · exact readM_bytes ok _ _ v y
theorem size_nat {c : Cfg} (m : c.may) : sizeM c = ((32 * (c.area.toNat * c.cells.toNat) : Nat) : Int) := by
  have h1 := m.area
  have h2 := m.cells
  have h3 := m.slots
  unfold sizeM
  rw [if_pos m]
  have e1 : (c.area.toNat : Int) = c.area := by omega
  have e2 : (c.cells.toNat : Int) = c.cells := by omega
  rw [← e1, ← e2, Int.natCast_mul, Int.natCast_mul]
  simp only [Int.toNat_natCast]
  rw [Int.mul_comm]; rfl
theorem headW_ne (bs : List Int) : ∀ m x w, headW bs m x = some w → w.1 ≠ 0 := by
  intro m
  induction m with
  | zero => intro x w y; cases y
  | succ m ih =>
    intro x w y
    unfold headW at y
    split at y
    · injection y with y; rw [← y]; simp
    · split at y
      · exact ih _ _ y
      · injection y with y; rw [← y]; simp
theorem parseW_len {B : List Int} {n : Nat} (hpl : parseW B = (0, 0)) (hnn : num4 B 12 = n) : B.length = 48 + n := by
  unfold parseW at hpl
  split at hpl
  · injection hpl with e1; cases e1
  · split at hpl
    · rename_i w _ hh
      exact absurd (by rw [hpl]) (headW_ne _ _ _ _ hh)
    · split at hpl
      · injection hpl with e1; cases e1
      · split at hpl
        · injection hpl with e1; cases e1
        · split at hpl
          · injection hpl with e1; cases e1
          · omega
section
variable {h0 h : H} {A : List Ent} {i j p r b : Nat} {C : Cm}
/-- An owned slice, cut short. -/
theorem cutS (hs : Sat h0 A h) {q : Option Addr} {l c n c2 : Nat} {vs : List Value} (m : At A i (slE q l c 1 vs)) (hn : n ≤ l) (hc : n ≤ c2) (hc2 : c2 ≤ c) : Sat h0 (put A i (slE q n c2 1 (vs.take n))) h := by
  refine hs.as m fun f hp => ?_
  obtain ⟨bs, ⟨h1, h2, h3, h4⟩, e⟩ := slE_P.1 hp
  refine slE_P.2 ⟨bs, ⟨by rw [List.length_take]; omega, hc, fun v hv => h3 v (List.mem_of_mem_take hv), ?_⟩, e⟩
  rcases h4 with ⟨e1, e2, e3⟩ | ⟨b, rest, e1, e2, k, e3⟩
  · exact Or.inl ⟨by omega, by omega, e3⟩
  · refine Or.inr ⟨b, vs.drop n ++ rest, e1, e2, ?_, ?_⟩
    · rw [← List.append_assoc, List.take_append_drop]; exact k
    · rw [List.length_append, List.length_drop]; omega
theorem aRead_sp {Q : Option Addr → Nat → Nat → Int → H → Prop} (hs : Sat h0 A h) (ci : At A i (chipE p C)) (ar : Int)
    (k1 : (areaR C ar).2 ≠ 0 → ∀ h', Sat h0 A h' → Q none 0 0 (areaR C ar).2 h')
    (k2 : (areaR C ar).2 = 0 → ∀ (o : Option Addr) (n : Nat) h', 0 < n → (areaR C ar).1.length = n → Sat h0 (slE o n n 1 (ints .u8 (areaR C ar).1) :: A) h' → Q o n n 0 h') : F_area_Read ⟨p, 0, none⟩ ar Q h := by
  unfold F_area_Read G_area_Read
  simp only [add_mk, Nat.zero_add, List.append_nil]
  have ok := chip_ok hs ci
  refine aasked_sp hs ci ar ?_
  unfold areaR at k1 k2
  by_cases g0 : askedM C ar 2 = 0
  case neg =>
    rw [if_pos (by simpa using g0)] at k1
    rw [if_pos (by simpa using g0)]
    exact k1 g0 _ hs
  rw [if_neg (by simpa using g0)] at k1 k2
  rw [if_neg (by simpa using g0)]
  obtain ⟨ho, a1, a2⟩ := askedM_zero g0
  refine Config_sp hs ci ?_
  intro h1 hs
  refine aSize_sp C.cfg hs ?_
  intro h2 hs
  have hsz := size_nat ok.may
  have hsl := sizeM_le C.cfg
  by_cases g1 : sizeM C.cfg < 48
  · rw [if_pos g1] at k1
    rw [ltI_eq, if_pos (by simpa using g1)]
    exact k1 (by simp) _ hs
  rw [if_neg g1] at k1 k2
  rw [ltI_eq, if_neg (by simpa using g1)]
  obtain ⟨M, hM⟩ : ∃ M, M = C.cfg.area.toNat * C.cfg.cells.toNat := ⟨_, rfl⟩
  rw [← hM] at hsz
  have hall : areaAll C ar = areaB C ar M := by unfold areaAll; rw [hM]
  have hlen := areaB_len ok ar M
  have hbb := areaB_bytes ok ar M
  refine abytes_sp hs ci ho ar a1 a2 48 (by rw [← hM]; omega) (by decide) ?_
  intro o c m h3 hm hs hm2
  have hm : m = 2 := hm
  subst hm
  rw [if_neg (by simp)]
  obtain ⟨q', hq, sv⟩ := sub_sv hs .z (n := 48) (by decide) (by decide)
  have et : (areaB C ar 2).take 48 = (areaAll C ar).take 48 := by rw [hall]; exact areaB_take ok ar (by omega) (by decide)
  have el : ∀ x, x < 48 → ((areaB C ar 2).take 48).getD x 0 = (areaAll C ar).getD x 0 := by
    intro x hx
    rw [et, List.getD_eq_getElem?_getD, List.getD_eq_getElem?_getD, List.getElem?_take, if_pos hx]
  have ld : ∀ x, x < 48 → hc h3 (q'.add x) = some (.int .u8 ((areaAll C ar).getD x 0)) := by
    intro x hx
    obtain ⟨q2, hq2, g⟩ := hsv_int sv hx
    injection hq2 with hq2
    subst hq2
    rw [el x hx] at g
    exact g
  refine ⟨_, hq, by omega, by omega, _, ld 12 (by decide), _, hq, by omega, by omega, _, ld 13 (by decide), by omega, _, hq, by omega, by omega, _, ld 14 (by decide), by omega, _, hq, by omega, by omega, _, ld 15 (by decide), by omega, ?_⟩
  rw [← hall] at hbb hlen
  have eor := or4 (byte_getD hbb 12) (byte_getD hbb 13) (byte_getD hbb 14) (byte_getD hbb 15)
  obtain ⟨r1, r2⟩ := num4_range hbb 12
  have en : (areaAll C ar).getD 12 0 + 256 * (areaAll C ar).getD 13 0 + 65536 * (areaAll C ar).getD 14 0 + 16777216 * (areaAll C ar).getD 15 0 = num4 (areaAll C ar) 12 := rfl
  rw [en] at eor
  have m8 : min (Int.toNat 8) IntKind.i64.bits = 8 := by decide
  have m16 : min (Int.toNat 16) IntKind.i64.bits = 16 := by decide
  have m24 : min (Int.toNat 24) IntKind.i64.bits = 24 := by decide
  rw [m8, m16, m24, eor]
  obtain ⟨N, hN⟩ : ∃ N : Nat, 48 + num4 (areaAll C ar) 12 = N := ⟨(48 + num4 (areaAll C ar) 12).toNat, by omega⟩
  have hN2 : (48 + num4 (areaAll C ar) 12).toNat = N := by rw [hN]; rfl
  rw [hN, wrap_id (by omega)]
  rw [hN2, hN] at k1 k2
  clear eor en
  by_cases g2 : sizeM C.cfg < (N : Int)
  · rw [if_pos g2] at k1
    rw [ltI_eq, if_pos (by simpa using g2)]
    exact k1 (by simp) _ (hs.drop)
  rw [if_neg g2] at k1 k2
  rw [ltI_eq, if_neg (by simpa using g2)]
  replace hs := hs.drop
  refine abytes_sp hs ci ho ar a1 a2 N (by rw [← hM]; omega) (by omega) ?_
  intro o c m h4 hm hs hm2
  rw [if_neg (by simp)]
  have hN0 : 0 < N := by omega
  have hmM : m ≤ M := by omega
  have et2 : (areaB C ar m).take N = (areaAll C ar).take N := by rw [hall]; exact areaB_take ok ar hmM hm2
  have hcap := sl_cap hs .z
  obtain ⟨b0, hb0⟩ := hs.sl_some .z (by omega)
  have eo : subAddr o 0 N 1 = o := by
    unfold subAddr
    rw [if_neg (by omega), hb0]; rfl
  rw [eo]
  replace hs := cutS hs .z (n := N) (c2 := N) hm2 (Nat.le_refl _) (by omega)
  simp only [put] at hs
  have eints : (ints .u8 (areaB C ar m)).take N = ints .u8 ((areaAll C ar).take N) := by rw [← et2]; simp [ints, List.map_take]
  rw [eints] at hs
  have hbt : bytesOk ((areaAll C ar).take N) := fun v hv => hbb v (List.mem_of_mem_take hv)
  have hlt : ((areaAll C ar).take N).length = N := by rw [List.length_take]; omega
  generalize (areaAll C ar).take N = B at *
  refine Parse_sp (bs := B) hs (fun h' hs' => hs'.sv .z) hbt (Nat.le_refl _) (by omega) ?_ ?_
  · intro e at_ w h5 hw he hs
    intro n48 _ hn; replace hs := Sat.new hs hn; clear hn
    refine ⟨Sat.can hs (i := 0) .z (by decide), ?_⟩
    intro h6 e6
    replace hs := Sat.wra hs (i := 0) .z e6 (by rfl)
    clear e6
    refine ⟨rfl, ?_⟩
    rw [if_pos (by rfl)]
    rw [if_pos (by rw [hw]; exact he)] at k1
    exact k1 (by simp) _ hs.drop.drop.drop
  · intro own n h5 hw hnn hs
    intro n48 _ hn; replace hs := Sat.new hs hn; clear hn
    have ht32 : ((B.drop (16 + n)).take 32).length = 32 := by
      have hl48 := parseW_len hw hnn
      rw [List.length_take, List.length_drop]; omega
    refine ⟨Sat.can hs (i := 0) .z (by decide), ?_⟩
    intro h6 e6
    replace hs := Sat.wra hs (i := 0) .z e6 (by simp [ht32])
    clear e6
    refine ⟨rfl, ?_⟩
    rw [if_neg (by decide)]
    rw [if_neg (by rw [hw]; simp)] at k2
    exact k2 rfl o N _ hN0 hlt (by simp only [put] at hs; exact hs.drop.drop)
/-- A page of the document's chip, loaded, and kept in sight. -/
theorem rPageF (hs : Sat h0 A h) (cj : At A j (refE r C)) {k : Nat} (hk : (k : Int) < C.s.pages.length) :
    ∃ (pl pc : Nat) (q : Addr) (xp : Option Addr) (xl xc : Nat), hc h ⟨r, 7, none⟩ = some (.slice (some q) pl pc) ∧ (k : Int) < pl ∧ hc h ⟨r, 6, none⟩ = some (.int .i64 C.cfg.area) ∧ hc h (q.add k) = some (.slice xp xl xc) ∧ xl = C.cfg.cells.toNat ∧ bytesOk (C.pg k) ∧ xl < 2 ^ 60 ∧
      Sat h0 (put A j (ofE (refE r C) xp 32 xl (ints .u8 (C.pg k)))) h := by
  have ok := ref_ok hs cj
  obtain ⟨f, hp, _, hback⟩ := hs.takeK cj
  have hkn : k < C.s.pages.length := by omega
  obtain ⟨⟨w, ms⟩, hw, s⟩ := exE_P.1 hp
  have hs0 := s.sat
  dsimp only [refL] at s hs0
  obtain ⟨f1, hp1, hf1⟩ := s.foot (i := 1) (.s .z)
  obtain ⟨q, x, hq, hl, hx, hrd, hin⟩ := mat_row hp1 hkn
  have he : C.pg k = C.s.pages[k] := by unfold Cm.pg; simp [List.getD, List.getElem?_eq_getElem hkn]
  have hcl := ok.fits.cells _ (List.getElem_mem hkn)
  have hm := ok.may.cells
  have hxl : x.2.1 * 32 = C.s.pages[k].length := by have := hrd.1; simp at this; omega
  have l7 : hc h ⟨r, 7, none⟩ = some (.slice (some q) w.a.2.1 w.a.2.2) := by
    have := hs0.ld (i := 0) .z (o := 7) (v := w.a.v) rfl
    rw [this]
    obtain ⟨⟨a1, a2, a3⟩, b, c, m⟩ := w
    dsimp only at hq ⊢
    rw [← hq]
  refine ⟨w.a.2.1, w.a.2.2, q, x.1, x.2.1, x.2.2, l7, by omega, hs0.ld (i := 0) .z rfl, by rw [Nat.mul_one] at hx; exact hx, by omega, by rw [he]; exact ok.typed.bytes _ (List.getElem_mem hkn), by omega, ?_⟩
  refine hback h _ f (ofE_P.2 ⟨hp, by rw [he]; exact hrd, ?_⟩) (fun _ => Or.inl) (Ext.refl _ _)
  rw [he]
  rcases hin with hin | ⟨q', e1, e2⟩
  · exact Or.inl hin
  · exact Or.inr ⟨q', e1, hf1 _ e2⟩
theorem rBytes_sp {Q : Option Addr → Nat → Nat → H → Prop} (hs : Sat h0 A h) (cj : At A j (refE r C)) (ho : C.out = false) (ar : Int) (a1 : 0 ≤ ar) (a2 : ar < 2)
    (k : ∀ (x : Sl) h', x.2.1 = 32 * (C.cfg.area.toNat * C.cfg.cells.toNat) → Sat h0 (sE x 1 (ints .u8 (areaAll C ar)) :: A) h' → Q x.1 x.2.1 x.2.2 h') : F_portcullisref14_Bytes ⟨r, 0, none⟩ ar Q h := by
  unfold F_portcullisref14_Bytes G_portcullisref14_Bytes
  simp only [add_mk, Nat.zero_add, List.append_nil]
  have ok := ref_ok hs cj
  have hm := ok.may.area
  have hcl := ok.may.cells
  have hsl := ok.may.slots
  have hfp := ok.fits.pages
  have hnp : C.cfg.np = 2 + 2 * C.cfg.area := rfl
  obtain ⟨R, hR⟩ : ∃ R, R = C.cfg.area.toNat := ⟨_, rfl⟩
  obtain ⟨Z, hZ⟩ : ∃ Z, Z = C.cfg.cells.toNat := ⟨_, rfl⟩
  unfold areaAll at k
  rw [← hR, ← hZ] at k
  have hR64 : R ≤ 64 := by omega
  have hZ0 : 0 < Z ∧ Z ≤ 256 := by omega
  have hsz : R * Z ≤ 16384 := by
    calc R * Z ≤ 64 * Z := Nat.mul_le_mul_right _ hR64
      _ ≤ 16384 := by omega
  have z : 0 ≤ ar * C.cfg.area ∧ ar * C.cfg.area ≤ C.cfg.area := by
    have : ar = 0 ∨ ar = 1 := by omega
    rcases this with rfl | rfl <;> omega
  intro n4 h5 hn; replace hs := Sat.new hs hn; clear hn
  intro J7 hJ7
  have hs0 : Sat h0 (slE (some ⟨n4, 0, none⟩) (32 * (0 * Z)) 0 1 (ints .u8 (areaB C ar (0 * Z))) :: A) h5 := by
    have := hs.as_sl (i := 0) .z (l := 0) (sz := 1) (by rfl) (fun v hv => by cases hv)
    rw [Nat.zero_mul]
    exact this
  clear hs
  suffices hh : J7 [.dv (.one (.slice (some ⟨n4, 0, none⟩) (32 * (0 * Z)) 0)), .dv (.one (.int .i64 ((0 : Nat) : Int)))] h5 by rw [Nat.zero_mul] at hh; exact hh
  refine loop_st (J := J7) R (fun m (s : Option Addr × Nat) => [.dv (.one (.slice s.1 (32 * (m * Z)) s.2)), .dv (.one (.int .i64 (m : Int)))]) (fun m s h => Sat h0 (slE s.1 (32 * (m * Z)) s.2 1 (ints .u8 (areaB C ar (m * Z))) :: A) h) ?_ ?_ 0 (some ⟨n4, 0, none⟩, 0) _ (by omega) hs0
  · rintro m ⟨o, c⟩ h1 hm2 hs hk
    apply hJ7
    have ew : IntKind.i64.wrap (IntKind.i64.wrap (2 + IntKind.i64.wrap (ar * C.cfg.area)) + (m : Int)) = (((2 + ar * C.cfg.area).toNat + m : Nat) : Int) := by
      rw [wrap_id (n := ar * C.cfg.area) (by omega), wrap_id (n := 2 + ar * C.cfg.area) (by omega), wrap_id (by omega)]; omega
    obtain ⟨P, hP⟩ : ∃ P, P = (2 + ar * C.cfg.area).toNat := ⟨_, rfl⟩
    rw [← hP] at ew
    obtain ⟨pl, pc, q, xp, xl, xc, e7, hl, e6, hx, exl, hb, hl60, hs⟩ := rPageF hs cj.s (k := P + m) (by omega)
    refine ⟨_, e6, ?_⟩
    rw [ltI_eq, if_pos (by simp; omega)]
    refine ⟨_, _, _, e7, _, e6, ?_⟩
    rw [ew]
    refine ⟨_, rfl, by omega, by omega, _, _, _, by rw [Int.toNat_natCast, Nat.mul_one]; exact hx, ?_⟩
    rw [← hZ] at exl
    subst exl
    clear e7 hl hx e6
    simp only [put] at hs
    generalize hrow : C.pg (P + m) = row at *
    obtain ⟨A2, hA2⟩ : ∃ A2, A2 = put A j (ofE (refE r C) xp 32 xl (ints .u8 row)) := ⟨_, rfl⟩
    rw [← hA2] at hs
    have tO : At A2 j (ofE (refE r C) xp 32 xl (ints .u8 row)) := by rw [hA2]; exact cj.put _
    have back : put A2 j (refE r C) = A := by rw [hA2, put_put, cj.put_self]
    intro J22 hJ22
    have hs2 : Sat h0 (slE o (32 * (m * xl + 0)) c 1 (ints .u8 (areaB C ar (m * xl + 0))) :: A2) h1 := by rw [Nat.add_zero]; exact hs
    clear hs
    have hmx : m * xl + xl ≤ 16384 := by
      have : (m + 1) * xl ≤ R * xl := Nat.mul_le_mul_right _ (by omega)
      rw [Nat.succ_mul] at this; omega
    refine loop_st xl (fun kk (s : Option Addr × Nat) => [.dv (.one (.slice s.1 (32 * (m * xl + kk)) s.2)), .dv (.one (.int .i64 (kk : Int)))]) (fun kk s h => Sat h0 (slE s.1 (32 * (m * xl + kk)) s.2 1 (ints .u8 (areaB C ar (m * xl + kk))) :: A2) h) ?_ ?_ 0 (o, c) _ (by omega) hs2
    · rintro kk ⟨o, c⟩ h2 hkk hs hk2
      apply hJ22
      rw [ltI_eq, if_pos (by simp; omega)]
      intro J28 hJ28
      obtain ⟨q2, hq2, hlen, hcell⟩ := hsv_cell (hs.ofSv tO.s) hkk
      have hcl32 : (cellAt row kk).length = 32 := cellAt_length hlen
      have hread : (readM C (2 + ar * C.cfg.area + (((m * xl + kk) / C.cfg.cells.toNat : Nat) : Int)) (((m * xl + kk) % C.cfg.cells.toNat : Nat) : Int)).1 = cellAt row kk := by
        rw [← hZ]
        have e1 : (m * xl + kk) / xl = m := by rw [Nat.add_comm, Nat.add_mul_div_right _ _ (by omega), Nat.div_eq_of_lt hkk, Nat.zero_add]
        have e2 : (m * xl + kk) % xl = kk := by rw [Nat.add_comm, Nat.add_mul_mod_self_right, Nat.mod_eq_of_lt hkk]
        rw [e1, e2]
        have ec : asksCellM C (2 + ar * C.cfg.area + (m : Int)) (kk : Int) = 0 := by
          unfold asksCellM
          rw [askedM_in ho (by omega) (by omega), if_neg (by simp), askedM_in ho (by omega) (by omega)]
        unfold readM
        rw [ec, if_neg (by simp), Int.toNat_natCast, show (2 + ar * C.cfg.area + (m : Int)).toNat = P + m by omega]
        rw [← hrow]; rfl
      have hsB : areaB C ar (m * xl + kk + 1) = areaB C ar (m * xl + kk) ++ cellAt row kk := by rw [← hread]; rfl
      have hs3 : Sat h0 (slE o (32 * (m * xl + kk) + 0) c 1 (ints .u8 (areaB C ar (m * xl + kk) ++ (cellAt row kk).take 0)) :: A2) h2 := by rw [List.take_zero, List.append_nil, Nat.add_zero]; exact hs
      refine loop_st 32 (fun jj (s : Option Addr × Nat) => [.dv (.one (.slice s.1 (32 * (m * xl + kk) + jj) s.2)), .dv (.one (.int .i64 (jj : Int)))]) (fun jj s h => Sat h0 (slE s.1 (32 * (m * xl + kk) + jj) s.2 1 (ints .u8 (areaB C ar (m * xl + kk) ++ (cellAt row kk).take jj)) :: A2) h) ?_ ?_ 0 (o, c) _ (by omega) hs3
      · rintro jj ⟨o, c⟩ h3 hjj hs hk3
        apply hJ28
        rw [ltI_eq, if_pos (by simp; omega)]
        obtain ⟨q3, hq3, hlen3, hcell3⟩ := hsv_cell (hs.ofSv tO.s) hkk
        refine ⟨_, hq3, by omega, by omega, by omega, by omega, (cellAt row kk).getD jj 0, ?_, ?_⟩
        · rw [Int.toNat_natCast, Int.toNat_natCast, Nat.mul_one]
          refine hcell3 jj _ ?_
          rw [ints_get, List.getElem?_eq_getElem (by omega)]; simp [List.getD, List.getElem?_eq_getElem (show jj < (cellAt row kk).length by omega)]
        intro n36 h36 hn36
        replace hs := Sat.new hs hn36
        refine ⟨_, Sat.bv hs .z (l := 1) rfl (ints_one .u8 [(cellAt row kk).getD jj 0]), ?_⟩
        refine Sat.app hs (i := 1) (vs := ints .u8 [(cellAt row kk).getD jj 0]) (.s .z) (by simp) rfl (ints_one _ _) (by omega) ?_
        intro p' c1 h11 hs
        simp only [put] at hs
        rw [wrap_succ (by omega)]
        refine hk3 (p', c1) _ ?_
        have e : ints .u8 (areaB C ar (m * xl + kk) ++ (cellAt row kk).take jj) ++ ints .u8 [(cellAt row kk).getD jj 0] = ints .u8 (areaB C ar (m * xl + kk) ++ (cellAt row kk).take (jj + 1)) := by
          rw [← take_snoc _ _ (by omega), ← List.append_assoc]; simp [ints]
        rw [e] at hs
        exact hs.drop
      · rintro ⟨o, c⟩ h3 hs
        apply hJ28
        rw [ltI_eq, if_neg (by simp), wrap_succ (by omega)]
        have e32 : (cellAt row kk).take 32 = cellAt row kk := List.take_of_length_le (by omega)
        rw [e32, ← hsB] at hs
        exact hk2 (o, c) _ hs
    · rintro ⟨o, c⟩ h2 hs
      apply hJ22
      rw [ltI_eq, if_neg (by simp), wrap_succ (by omega)]
      have e : m * xl + xl = (m + 1) * xl := by rw [Nat.succ_mul]
      rw [e] at hs ⊢
      replace hs := hs.ofOut tO.s
      simp only [put] at hs
      rw [back] at hs
      exact hk (o, c) _ hs
  · rintro ⟨o, c⟩ h1 hs
    apply hJ7
    obtain ⟨w, lc⟩ := ref_cell hs cj.s
    refine ⟨_, lc 6 _ rfl, ?_⟩
    rw [ltI_eq, if_neg (by simp; omega)]
    exact k (o, 32 * (R * Z), c) _ rfl hs
end
end Go.Proofs.Ytamfkofcpoglnaa
end

/- The state of the program's chip held against the document's, in one step. Own work. -/
section
set_option maxRecDepth 100000
set_option linter.unusedVariables false
namespace Go.Proofs.Ytamfkofcpoglnaa
open Go Go.Vc

theorem at_del {A : List Ent} {i j : Nat} {e : Ent} (a : At A i e) (hj : i ≠ j) : ∃ k, At (del A j) k e := by
  induction a generalizing j with
  | z => cases j with
    | zero => exact absurd rfl hj
    | succ j => exact ⟨0, .z⟩
  | s q ih => cases j with
    | zero => exact ⟨_, q⟩
    | succ j =>
      obtain ⟨k, hk⟩ := ih (j := j) (by omega)
      exact ⟨k + 1, .s hk⟩
theorem at_inj {A : List Ent} {i : Nat} {e e' : Ent} (a : At A i e) (b : At A i e') : e = e' := by
  induction a with
  | z => cases b; rfl
  | s _ ih => cases b with | s b => exact ih b
section
variable {h0 h : H} {A : List Ent} {i j p r : Nat} {C C' : Cm}
theorem chip_refE_ne (ci : At A i (chipE p C)) (cj : At A j (refE r C')) : i ≠ j := by
  intro e
  subst e
  have := congrArg Ent.tag (at_inj ci cj)
  have e2 : Tag.of 2 = Tag.of 4 := this
  injection e2 with e2
  cases e2
theorem stateSame_sp {K : Bool → H → Prop} (hs : Sat h0 A h) (ci : At A i (chipE p C)) (cj : At A j (refE r C)) (k : ∀ h', Sat h0 A h' → K true h') :
    ∃ (o1 : Option Addr) (n1 c1 : Nat), hc h ⟨r, 7, none⟩ = some (.slice o1 n1 c1) ∧ ∃ (o2 : Option Addr) (n2 c2 : Nat), hc h ⟨r, 8, none⟩ = some (.slice o2 n2 c2) ∧ ∃ (o3 : Option Addr) (n3 c3 : Nat), hc h ⟨r, 9, none⟩ = some (.slice o3 n3 c3) ∧
      F_chip_Chip_State ⟨p, 0, none⟩ (fun a1 a2 a3 b1 b2 b3 d1 d2 d3 h1 => hcs h1 ⟨r, 7, none⟩ [.slice o1 n1 c1, .slice o2 n2 c2, .slice o3 n3 c3] ∧ F_portcullisref04_SameState a1 a2 a3 b1 b2 b3 d1 d2 d3 o1 n1 c1 o2 n2 c2 o3 n3 c3 (fun b h2 => K b h2) h1) h := by
  obtain ⟨i', ci'⟩ := at_del ci (chip_refE_ne ci cj)
  have ok := chip_ok hs ci
  have sm := ok.small
  have smp := sm.pages; have sme := sm.erases; have smb := sm.blown
  have smr : ∀ l, l ∈ C.s.pages → l.length < 2 ^ 62 := fun l hl => by have := sm.rows l hl; omega
  obtain ⟨⟨w, ms⟩, hw, hs⟩ := (hs.front cj).open_
  replace hs : Sat h0 (blk r (C.cells w.a w.b w.c w.m) :: matE 32 w.a C.s.pages :: sE w.b 1 (ints .i64 C.s.erases) :: sE w.c 1 (bools C.s.blown) :: sE w.m 1 (ints .u8 ms) :: del A j) _ := hs
  refine ⟨_, _, _, hs.ld .z rfl, _, _, _, hs.ld .z rfl, _, _, _, hs.ld .z rfl, ?_⟩
  refine State_sp hs (i := i' + 5) ci'.s.s.s.s.s ?_
  intro a1 b1 d1 h1 hs
  replace hs : Sat h0 (matE 32 a1 C.s.pages :: sE b1 1 (ints .i64 C.s.erases) :: sE d1 1 (bools C.s.blown) :: blk r (C.cells w.a w.b w.c w.m) :: matE 32 w.a C.s.pages :: sE w.b 1 (ints .i64 C.s.erases) :: sE w.c 1 (bools C.s.blown) :: sE w.m 1 (ints .u8 ms) :: del A j) _ := hs
  refine ⟨Sat.cs hs (i := 3) (by (repeat (first | exact At.z | apply At.s))) rfl, ?_⟩
  refine SameState_sp (a := a1) (b := b1) (c := d1) (a2 := w.a) (b2 := w.b) (c2 := w.c) (s := C.s) hs
    (fun h' hs' => sat_rdS hs' (i := 0) (j := 1) (k := 2) (by (repeat (first | exact At.z | apply At.s))) (by (repeat (first | exact At.z | apply At.s))) (by (repeat (first | exact At.z | apply At.s)))) (fun h' hs' => sat_rdS hs' (i := 4) (j := 5) (k := 6) (by (repeat (first | exact At.z | apply At.s))) (by (repeat (first | exact At.z | apply At.s))) (by (repeat (first | exact At.z | apply At.s)))) (by omega) (by omega) (by omega) smr ?_
  intro h2 hs
  refine k _ ?_
  have hs2 : Sat h0 (refL r C (w, ms) ++ del A j) h2 := hs.drop.drop.drop
  have : Sat h0 (put A j (refE r C)) h2 := Sat.back cj (Sat.close (n := 4) (φ := RefW C) (F := refL r C) (w, ms) hw hs2)
  rw [cj.put_self] at this
  exact this
theorem ref_ld2 (hs : Sat h0 A h) (cj : At A j (refE r C)) : hc h ⟨r, 10, none⟩ = some (.int .i64 C.acts) ∧ hc h ⟨r, 11, none⟩ = some (.bool C.out) := by
  obtain ⟨⟨w, ms⟩, _, hs⟩ := (hs.front cj).open_
  dsimp only [refL, List.cons_append, List.nil_append] at hs
  exact ⟨hs.ld .z rfl, hs.ld .z rfl⟩
/-- Acts and power held against the document's. -/
theorem actsOut_sp {X Y : H → Prop} (hs : Sat h0 A h) (ci : At A i (chipE p C)) (cj : At A j (refE r C)) (k : Y h) :
    ∃ p136 : Addr, (some (⟨r, 0, none⟩ : Addr)) = some p136 ∧ ∃ i137 : Int, hc h (p136.add 10) = some (.int .i64 i137) ∧ ∃ p138 : Addr, (some (⟨p, 0, none⟩ : Addr)) = some p138 ∧ F_chip_Chip_Acts p138 (fun i139 h140 => hcs h140 (p136.add 10) [.int .i64 i137] ∧
      if (i139 != i137) = true then X h140 else ∃ p141 : Addr, (some (⟨r, 0, none⟩ : Addr)) = some p141 ∧ ∃ b142 : Bool, hc h140 (p141.add 11) = some (.bool b142) ∧ ∃ p143 : Addr, (some (⟨p, 0, none⟩ : Addr)) = some p143 ∧ F_chip_Chip_Out p143 (fun b144 h145 => hcs h145 (p141.add 11) [.bool b142] ∧
        if (!b144 == b142) = true then X h145 else Y h145) h140) h := by
  obtain ⟨l1, l2⟩ := ref_ld2 hs cj
  refine ⟨_, rfl, _, l1, _, rfl, Acts_sp hs ci ⟨hcs_one l1, ?_⟩⟩
  rw [if_neg (by simp)]
  refine ⟨_, rfl, _, l2, _, rfl, Out_sp hs ci ⟨hcs_one l2, ?_⟩⟩
  rw [if_neg (by simp)]
  exact k
end
end Go.Proofs.Ytamfkofcpoglnaa
end

/- Areas: the statement's words; every script. Own work. -/
section
set_option maxRecDepth 100000
set_option linter.unusedVariables false
namespace Go.Proofs.Ytamfkofcpoglnaa
open Go Go.Vc

section
variable {h0 h : H} {A : List Ent} {i j p r b : Nat} {C : Cm}
theorem rRead14_sp {Q : Option Addr → Nat → Nat → Int → H → Prop} (hs : Sat h0 A h) (cj : At A j (refE r C)) (ar : Int)
    (k1 : (areaR C ar).2 ≠ 0 → ∀ h', Sat h0 A h' → Q none 0 0 (areaR C ar).2 h')
    (k2 : (areaR C ar).2 = 0 → ∀ (o : Option Addr) (n c : Nat) h', 0 < n → (areaR C ar).1.length = n → Sat h0 (slE o n c 1 (ints .u8 (areaR C ar).1) :: A) h' → Q o n c 0 h') : F_portcullisref14_Read ⟨r, 0, none⟩ ar Q h := by
  unfold F_portcullisref14_Read G_portcullisref14_Read
  simp only [add_mk, Nat.zero_add, List.append_nil]
  have ok := ref_ok hs cj
  refine rmay14_sp hs cj ar ?_
  unfold areaR at k1 k2
  by_cases g0 : askedM C ar 2 = 0
  case neg =>
    rw [if_pos (by simpa using g0)] at k1
    rw [if_pos (by simpa using g0)]
    exact k1 g0 _ hs
  rw [if_neg (by simpa using g0)] at k1 k2
  rw [if_neg (by simpa using g0)]
  obtain ⟨ho, a1, a2⟩ := askedM_zero g0
  refine rBytes_sp hs cj ho ar a1 a2 ?_
  intro x h1 hx hs
  have hsz := size_nat ok.may
  have hsl := sizeM_le C.cfg
  obtain ⟨M, hM⟩ : ∃ M, M = C.cfg.area.toNat * C.cfg.cells.toNat := ⟨_, rfl⟩
  rw [← hM] at hsz hx
  have hall : areaAll C ar = areaB C ar M := by unfold areaAll; rw [hM]
  have hlen := areaB_len ok ar M
  have hbb := areaB_bytes ok ar M
  rw [← hall] at hlen hbb
  have hM4 : M = 0 ∨ 4 ≤ M := by
    have h1 := ok.may.cells
    have h2 := ok.may.slots
    have h3 := ok.may.area
    by_cases c : C.cfg.area.toNat = 0
    · left; rw [hM, c, Nat.zero_mul]
    · right
      rw [hM]
      calc 4 ≤ 1 * C.cfg.cells.toNat := by omega
        _ ≤ _ := Nat.mul_le_mul_right _ (by omega)
  by_cases g1 : sizeM C.cfg < 48
  · rw [if_pos g1] at k1
    rw [ltI_eq, if_pos (by simp; omega)]
    exact k1 (by simp) _ hs.drop
  rw [if_neg g1] at k1 k2
  rw [ltI_eq, if_neg (by simp; omega)]
  have sv := hs.sv .z
  obtain ⟨q', hq⟩ := hs.sl_some .z (by omega)
  have ld : ∀ y, y < x.2.1 → hc h1 ((⟨q', 0, none⟩ : Addr).add y) = some (.int .u8 ((areaAll C ar).getD y 0)) := by
    intro y hy
    obtain ⟨q2, hq2, g⟩ := hsv_int sv hy
    rw [hq] at hq2
    injection hq2 with hq2
    subst hq2
    exact g
  refine ⟨_, hq, by omega, by omega, _, ld 12 (by omega), _, hq, by omega, by omega, _, ld 13 (by omega), _, hq, by omega, by omega, _, ld 14 (by omega), _, hq, by omega, by omega, _, ld 15 (by omega), ?_⟩
  have g12 := byte_getD hbb 12
  have g13 := byte_getD hbb 13
  have g14 := byte_getD hbb 14
  have g15 := byte_getD hbb 15
  unfold isByte at g12 g13 g14 g15
  have en : IntKind.i64.wrap (IntKind.i64.wrap (IntKind.i64.wrap (IntKind.i64.wrap (48 + IntKind.i64.wrap ((areaAll C ar).getD 12 0)) + IntKind.i64.wrap (256 * IntKind.i64.wrap ((areaAll C ar).getD 13 0))) + IntKind.i64.wrap (65536 * IntKind.i64.wrap ((areaAll C ar).getD 14 0))) + IntKind.i64.wrap (16777216 * IntKind.i64.wrap ((areaAll C ar).getD 15 0))) = 48 + num4 (areaAll C ar) 12 := by
    have e : num4 (areaAll C ar) 12 = (areaAll C ar).getD 12 0 + 256 * (areaAll C ar).getD 13 0 + 65536 * (areaAll C ar).getD 14 0 + 16777216 * (areaAll C ar).getD 15 0 := rfl
    rw [e]
    generalize (areaAll C ar).getD 12 0 = b12 at *
    generalize (areaAll C ar).getD 13 0 = b13 at *
    generalize (areaAll C ar).getD 14 0 = b14 at *
    generalize (areaAll C ar).getD 15 0 = b15 at *
    have w : ∀ n : Int, 0 ≤ n ∧ n < 2 ^ 40 → IntKind.i64.wrap n = n := fun n hn => by rw [IntKind.wrap_i64]; omega
    rw [w b12 (by omega), w b13 (by omega), w b14 (by omega), w b15 (by omega), w (48 + b12) (by omega), w (256 * b13) (by omega), w (65536 * b14) (by omega), w (16777216 * b15) (by omega), w (48 + b12 + 256 * b13) (by omega), w (48 + b12 + 256 * b13 + 65536 * b14) (by omega), w _ (by omega)]
    omega
  rw [en]
  obtain ⟨r1, r2⟩ := num4_range hbb 12
  obtain ⟨N, hN⟩ : ∃ N : Nat, 48 + num4 (areaAll C ar) 12 = N := ⟨(48 + num4 (areaAll C ar) 12).toNat, by omega⟩
  have hN2 : (48 + num4 (areaAll C ar) 12).toNat = N := by rw [hN]; rfl
  rw [hN]
  rw [hN2, hN] at k1 k2
  clear en ld
  by_cases g2 : sizeM C.cfg < (N : Int)
  · rw [if_pos g2] at k1
    rw [ltI_eq, if_pos (by simp; omega)]
    exact k1 (by simp) _ (hs.drop)
  rw [if_neg g2] at k1 k2
  rw [ltI_eq, if_neg (by simp; omega)]
  have hcap := sl_cap hs .z
  refine ⟨by omega, by omega, ?_⟩
  have eo : subAddr x.1 0 x.2.2 1 = x.1 := by
    unfold subAddr
    rw [if_neg (by omega), hq]; rfl
  rw [eo, Int.toNat_natCast, Nat.sub_zero, Nat.sub_zero]
  replace hs := cutS hs .z (n := N) (c2 := x.2.2) (by omega) (by omega) (Nat.le_refl _)
  simp only [put] at hs
  have eints : (ints .u8 (areaAll C ar)).take N = ints .u8 ((areaAll C ar).take N) := by simp [ints, List.map_take]
  rw [eints] at hs
  have hbt : bytesOk ((areaAll C ar).take N) := fun v hv => hbb v (List.mem_of_mem_take hv)
  have hlt : ((areaAll C ar).take N).length = N := by rw [List.length_take]; omega
  generalize (areaAll C ar).take N = B at *
  refine rParse_sp (bs := B) hs (fun h' hs' => hs'.sv .z) hbt (by omega) (by omega) ?_ ?_
  · intro e at_ h5 hw he hs
    intro n31 _ hn; replace hs := Sat.new hs hn; clear hn
    intro n34 _ hn; replace hs := Sat.new hs hn; clear hn
    refine ⟨Sat.can hs (i := 1) (.s .z) (by decide), ?_⟩
    intro h6 e6
    replace hs := Sat.wra hs (i := 1) (.s .z) e6 (by rfl)
    clear e6
    simp only [put] at hs
    (refine ⟨Sat.can hs (by (repeat (first | exact At.z | apply At.s))) (by simp), ?_⟩; intro _ e; replace hs := Sat.wr hs (by (repeat (first | exact At.z | apply At.s))) e; clear e; simp only [put, splice, List.set] at hs)
    refine ⟨_, Sat.ld hs (by (repeat (first | exact At.z | apply At.s))) (by rfl), ?_⟩
    rw [if_pos (by simpa using he)]
    rw [if_pos (by rw [hw]; exact he)] at k1
    exact k1 (by simp) _ hs.drop.drop.drop
  · intro own n h5 hw hnn hown hs
    intro n31 _ hn; replace hs := Sat.new hs hn; clear hn
    intro n34 _ hn; replace hs := Sat.new hs hn; clear hn
    have hl48 : B.length = 48 + n := by
      have hpl : parseW B = (0, 0) := hw
      exact parseW_len hpl hnn
    have ht32 : ((B.drop (16 + n)).take 32).length = 32 := by rw [List.length_take, List.length_drop]; omega
    refine ⟨Sat.can hs (i := 1) (.s .z) (by decide), ?_⟩
    intro h6 e6
    replace hs := Sat.wra hs (i := 1) (.s .z) e6 (by simp [ht32])
    clear e6
    simp only [put] at hs
    (refine ⟨Sat.can hs (by (repeat (first | exact At.z | apply At.s))) (by simp), ?_⟩; intro _ e; replace hs := Sat.wr hs (by (repeat (first | exact At.z | apply At.s))) e; clear e; simp only [put, splice, List.set] at hs)
    refine ⟨_, Sat.ld hs (by (repeat (first | exact At.z | apply At.s))) (by rfl), ?_⟩
    rw [if_neg (by simp)]
    refine ⟨by omega, by omega, ?_⟩
    rw [if_neg (by rw [hw]; simp)] at k2
    exact k2 rfl x.1 N x.2.2 _ (by omega) hlt (hs.sub (by (repeat (first | exact List.Sublist.refl _ | apply List.Sublist.cons_cons | apply List.Sublist.cons))))
/-! ### The statement's words -/
def marks4 (n : Nat) : List Int := match n with | 0 => [0, 0, 0, 0] | 1 => [161, 0, 0, 0] | 2 => [161, 162, 0, 0] | 3 => [161, 162, 163, 0] | _ => [161, 162, 163, 164]
theorem lent_sp {Q : Option Addr → Nat → Nat → H → Prop} {q : Option Addr} {l c : Nat} {bs : List Int} (hs : Sat h0 A h) (rd : hsv h0 q 1 l (ints .u8 bs)) (hl : l + 4096 ≤ 2 ^ 47)
    (k : ∀ (x : Sl) h', x.2.1 = l + 4 → x.2.2 = l + 4 → Sat h0 (sE x 1 (ints .u8 (bs ++ marks4 4)) :: A) h' → Q x.1 x.2.1 x.2.2 h') : F_portcullislaw14_lent q l c Q h := by
  unfold F_portcullislaw14_lent G_portcullislaw14_lent
  have hbl : bs.length = l := by have := rd.1; simpa using this
  have ew : IntKind.i64.wrap ((l : Int) + 4) = ((l + 4 : Nat) : Int) := by rw [wrap_id (by omega)]; omega
  rw [ew, Int.toNat_natCast]
  refine ⟨by omega, by omega, by omega, by omega, ?_⟩
  intro n5 _ hn; replace hs := Sat.new hs hn; clear hn
  have e0 : (List.replicate (l + 4) [Value.int .u8 0]).flatten = ints .u8 (zeros l ++ marks4 0) := by
    rw [← List.replicate_append_replicate, List.flatten_append]
    have : ∀ n, (List.replicate n [Value.int .u8 0]).flatten = ints .u8 (zeros n) := by
      intro n
      induction n with
      | zero => rfl
      | succ n ih => rw [List.replicate_succ, List.flatten_cons, ih]; rfl
    rw [this, this]; simp [ints]; rfl
  rw [e0] at hs
  have em : Nat.min l (l + 4) = l := by show min _ _ = _; omega
  rw [em]
  refine ⟨_, hs.base rd, Or.inr ⟨_, rfl, Sat.can hs (i := 0) .z (by simp [marks4, zeros])⟩, ?_⟩
  intro h2 e2
  replace hs := Sat.wr hs (i := 0) .z (o := 0) e2
  clear e2
  have e3 : splice (ints .u8 (zeros l ++ marks4 0)) 0 (ints .u8 bs) = ints .u8 (bs ++ marks4 0) := by
    have : ints .u8 (zeros l ++ marks4 0) = ints .u8 (zeros l) ++ ints .u8 (marks4 0) := by simp [ints]
    rw [this, splice_left _ _ _ _ (by simp [zeros, hbl]), splice_all _ _ (by simp [zeros, hbl])]
    simp [ints]
  rw [e3] at hs
  simp only [put] at hs
  intro J hJ
  refine loop_up 4 (fun n h => Sat h0 (blk n5 (ints .u8 (bs ++ marks4 n)) :: A) h) ?_ ?_ 0 _ (by omega) hs
  · intro n h3 hn hs hk
    apply hJ
    rw [ltI_eq, if_pos (by simp; omega)]
    have e4 : IntKind.i64.wrap ((l : Int) + (n : Int)) = ((l + n : Nat) : Int) := by rw [wrap_id (by omega)]; omega
    rw [e4, Int.toNat_natCast, Nat.mul_one]
    have hml : (marks4 n).length = 4 := by unfold marks4; split <;> rfl
    refine ⟨_, rfl, by omega, by omega, ?_, ?_⟩
    · rw [add_mk, Nat.zero_add]; exact Sat.can hs (i := 0) .z (by simp [hml]; omega)
    intro h4 e5
    rw [add_mk, Nat.zero_add] at e5
    replace hs := Sat.wr hs (i := 0) .z (o := l + n) e5
    clear e5
    rw [wrap_succ (by omega)]
    refine hk _ ?_
    have e6 : IntKind.u8.wrap (IntKind.i64.wrap (161 + (n : Int))) = 161 + n := by rw [wrap_id (by omega), wrap_u8_id (by omega)]
    rw [e6] at hs
    have e7 : splice (ints .u8 (bs ++ marks4 n)) (l + n) [.int .u8 (161 + n)] = ints .u8 (bs ++ marks4 (n + 1)) := by
      show (ints .u8 (bs ++ marks4 n)).set (l + n) (.int .u8 (161 + n)) = _
      rw [ints_set, List.set_append_right _ _ (by omega), hbl, Nat.add_sub_cancel_left]
      have : n = 0 ∨ n = 1 ∨ n = 2 ∨ n = 3 := by omega
      rcases this with rfl | rfl | rfl | rfl <;> rfl
    rw [e7] at hs
    exact hs
  · intro h3 hs
    apply hJ
    rw [ltI_eq, if_neg (by simp)]
    have hs2 := hs.as_sl (i := 0) .z (l := l + 4) (sz := 1) (by simp [marks4, hbl]) (ints_one _ _)
    exact k (some ⟨n5, 0, none⟩, l + 4, l + 4) _ rfl rfl hs2
theorem kept_sp {Q : Bool → H → Prop} {x y : Sl} {l : Nat} {bs : List Int} (rx : hsv h x.1 1 x.2.1 (ints .u8 (bs ++ marks4 4))) (ry : hsv h y.1 1 y.2.1 (ints .u8 bs)) (hx : x.2.1 = l + 4) (hx2 : x.2.2 = l + 4) (hy : y.2.1 = l) (hl : l < 2 ^ 50) (k : Q true h) :
    F_portcullislaw14_kept x.1 x.2.1 x.2.2 y.1 y.2.1 y.2.2 Q h := by
  unfold F_portcullislaw14_kept G_portcullislaw14_kept
  have hbl : bs.length = l := by have := ry.1; simp at this; omega
  rw [hx, hx2, hy]
  rw [hx] at rx
  rw [hy] at ry
  have sub : hsv h (subAddr x.1 0 (l + 4) 1) 1 l (ints .u8 bs) := by
    have := sub_rd (o := 0) (n := l) (m := l + 4) rx (by omega) (by omega)
    rw [List.drop_zero, List.take_left' hbl] at this
    exact this
  have loop : ∀ (J : List SV → H → Prop), (∀ (b11 : Bool) (i12 : Int) (h13 : H), (if ltI i12 4 = true then
      if b11 = true then ∃ p14, x.1 = some p14 ∧ 0 ≤ IntKind.i64.wrap ((l : Int) + i12) ∧ IntKind.i64.wrap ((l : Int) + i12) < ((l + 4 : Nat) : Int) ∧ ∃ i15 : Int, hc h13 (p14.add ((IntKind.i64.wrap ((l : Int) + i12)).toNat * 1)) = some (.int .u8 i15) ∧ J [.dv (.one (.bool (i15 == IntKind.u8.wrap (IntKind.i64.wrap (161 + i12))))), .dv (.one (.int .i64 (IntKind.i64.wrap (i12 + 1))))] h13
      else J [.dv (.one (.bool false)), .dv (.one (.int .i64 (IntKind.i64.wrap (i12 + 1))))] h13 else Q b11 h13) → J [.dv (.one (.bool b11)), .dv (.one (.int .i64 i12))] h13) → J [.dv (.one (.bool true)), .dv (.one (.int .i64 0))] h := by
    intro J hJ
    refine loop_st 4 (fun n (b : Bool) => [.dv (.one (.bool b)), si n]) (fun n b h' => h' = h ∧ b = true) ?_ ?_ 0 true _ (by omega) ⟨rfl, rfl⟩
    · rintro n b h1 hn ⟨rfl, rfl⟩ hk
      apply hJ
      rw [ltI_eq, if_pos (by simp; omega), if_pos rfl]
      have e4 : IntKind.i64.wrap ((l : Int) + (n : Int)) = ((l + n : Nat) : Int) := by rw [wrap_id (by omega)]; omega
      rw [e4]
      obtain ⟨q, hq, g⟩ := hsv_int rx (x := l + n) (by omega)
      refine ⟨_, hq, by omega, by omega, _, by rw [Int.toNat_natCast, Nat.mul_one]; exact g, ?_⟩
      rw [wrap_succ (by omega)]
      refine hk _ _ ⟨rfl, ?_⟩
      have e6 : IntKind.u8.wrap (IntKind.i64.wrap (161 + (n : Int))) = 161 + n := by rw [wrap_id (by omega), wrap_u8_id (by omega)]
      have e7 : (bs ++ marks4 4).getD (l + n) 0 = 161 + n := by
        rw [List.getD_eq_getElem?_getD, List.getElem?_append_right (by omega), hbl, Nat.add_sub_cancel_left]
        have : n = 0 ∨ n = 1 ∨ n = 2 ∨ n = 3 := by omega
        rcases this with rfl | rfl | rfl | rfl <;> rfl
      rw [e6, e7, beq_self_eq_true]
    · rintro b h1 ⟨rfl, rfl⟩
      apply hJ
      rw [ltI_eq, if_neg (by simp)]
      exact k
  rw [Int.toNat_natCast, Nat.sub_zero]
  refine ⟨by omega, by omega, ⟨_, sub, _, ry, ?_⟩, _, ry, _, sub, ?_⟩
  · rw [beq_self_eq_true]; exact loop
  · rw [beq_self_eq_true]; exact loop
end
end Go.Proofs.Ytamfkofcpoglnaa
end
