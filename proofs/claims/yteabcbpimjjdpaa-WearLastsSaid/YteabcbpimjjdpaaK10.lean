/- WearLasts: what is proved and its parts, laid together by a program of ours: Ar9 Lw1 Lw2 Lw3 St1 St5 St6 ScW Lw4 Lw5 Lx1 Lx3 Mp Wr1 -/
import Derived.Test.YteabcbpimjjdpaaK9
set_option autoImplicit false
set_option linter.all false
/- AreaWrites: what the programs of a Write leave; laws about numbers alone. Own work. -/
section
set_option maxRecDepth 100000
set_option linter.unusedVariables false
namespace Go.Proofs.Yteabcbpimjjdpaa
open Go Go.Vc

/-- A cell of an area that begins at a page. -/
def cellOf (B cells : Nat) (D : Cm) (x : Nat) : List Int := cellAt (D.pg (B + x / cells)) (x % cells)
theorem prog_step {C : Cm} {P q : Nat} {rec : List Int} (ho : C.out = false) (hP : P < C.s.pages.length) (hq : (q : Int) < C.cfg.cells) (ha : 0 ≤ C.acts ∧ C.acts < 2 ^ 60) :
    ∃ D : Cm, programM C (P : Int) (q : Int) rec = (D, errM C) ∧ D.cfg = C.cfg ∧ D.s.blown = C.s.blown ∧ D.s.pages.length = C.s.pages.length ∧ D.s.erases = C.s.erases ∧ (∀ x, x ≠ P → D.pg x = C.pg x) ∧
      D.acts = C.acts + 1 ∧ D.pg P = rowSet (C.pg P) q (progCell (cellAt (C.pg P) q) rec (maskAt C)) ∧ (C.left ≠ 0 → D.out = false) ∧ (-1 ≤ C.left → -1 ≤ D.left) := by
  have hac : C.act.acts = C.acts + 1 := by
    unfold Cm.act
    have : w64 (C.acts + 1) = C.acts + 1 := by unfold w64; rw [IntKind.wrap_i64]; omega
    split <;> exact this
  have ec : asksCellM C (P : Int) (q : Int) = 0 := by
    unfold asksCellM
    rw [askedM_in ho (by omega) (by omega), if_neg (by simp), askedM_in ho (by omega) hq]
  unfold programM
  rw [ec, if_neg (by simp), Int.toNat_natCast, Int.toNat_natCast]
  refine ⟨_, rfl, act_cfg C, ?_, ?_, ?_, ?_, hac, ?_, ?_, ?_⟩
  · show C.act.s.blown = _; rw [act_s]
  · show (C.act.s.pages.set P _).length = _; rw [List.length_set, act_s]
  · show C.act.s.erases = _; rw [act_s]
  · intro x hx
    show (C.act.s.pages.set P _).getD x [] = C.s.pages.getD x []
    simp only [List.getD, List.getElem?_set_ne (Ne.symm hx), act_s]
  · show (C.act.s.pages.set P _).getD P [] = _
    rw [getD_put _ _ _ _ (by rw [act_s]; exact hP)]
    unfold rowOf
    rw [Int.toNat_natCast]; rfl
  · intro hl
    show C.act.out = false
    exact act_out ho hl
  · intro hl
    show -1 ≤ C.act.left
    unfold Cm.act
    split
    · dsimp only; split <;> omega
    · exact Int.le_refl _
theorem cellOf_step {B cells i : Nat} {C D : Cm} {c : List Int} (hc : 0 < cells) (h1 : ∀ x, x ≠ B + i / cells → D.pg x = C.pg x) (h2 : D.pg (B + i / cells) = rowSet (C.pg (B + i / cells)) (i % cells) c) (hl : (C.pg (B + i / cells)).length = cells * 32) (hcl : c.length = 32) :
    cellOf B cells D i = c ∧ (∀ x, x ≠ i → cellOf B cells D x = cellOf B cells C x) ∧ (D.pg (B + i / cells)).length = cells * 32 := by
  have hm : i % cells < cells := Nat.mod_lt _ hc
  have hb : (i % cells + 1) * 32 ≤ (C.pg (B + i / cells)).length := by rw [hl]; exact Nat.mul_le_mul_right 32 hm
  refine ⟨?_, ?_, ?_⟩
  · unfold cellOf
    rw [h2, rowSet_same hb hcl]
  · intro x hx
    unfold cellOf
    by_cases e : x / cells = i / cells
    · rw [e, h2]
      have hmx : x % cells < cells := Nat.mod_lt _ hc
      refine rowSet_other hb (by rw [hl]; exact Nat.mul_le_mul_right 32 hmx) hcl ?_
      intro e2
      have a1 := Nat.div_add_mod x cells
      have a2 := Nat.div_add_mod i cells
      rw [e, e2] at a1
      omega
    · rw [h1 _ (by omega)]
  · rw [h2, rowSet_length hb hcl, hl]
theorem prog_whole {X : List Int} (hX : X.length = 32) (hb : bytesOk X) : progCell blankCell X (fun _ => 255) = X := by
  have hcl : (progCell blankCell X fun _ => 255).length = 32 := progCell_length _ _ _ (by simp [blankCell])
  refine ext_getD (hcl.trans hX.symm) fun i hi => ?_
  rw [hcl] at hi
  rw [prog_getD _ _ _ hi]
  exact prog_full _ (getD_byte hb _)
theorem cellM_bytes {bs : List Int} (hb : bytesOk bs) (n : Nat) : bytesOk (cellM bs n) := by
  unfold cellM
  refine tab_bytes fun k => ?_
  split
  · exact getD_byte hb _
  · exact ⟨by decide, by decide⟩
def doneP (n k x : Nat) : Prop := (1 ≤ x ∧ x ≤ k ∧ x < n) ∨ (k = n ∧ x = 0 ∧ 0 < n)
instance (n k x : Nat) : Decidable (doneP n k x) := by unfold doneP; infer_instance
theorem done_next {n k : Nat} (hk : k < n) (x : Nat) : doneP n (k + 1) x ↔ (doneP n k x ∨ x = (k + 1) % n) := by
  unfold doneP
  by_cases c : k + 1 = n
  · rw [c, Nat.mod_self]; omega
  · rw [Nat.mod_eq_of_lt (by omega)]; omega
theorem not_done {n k : Nat} (hk : k < n) : ¬ doneP n k ((k + 1) % n) := by
  unfold doneP
  by_cases c : k + 1 = n
  · rw [c, Nat.mod_self]; omega
  · rw [Nat.mod_eq_of_lt (by omega)]; omega
/-- What programs do to an area. -/
structure Pr (B area cells n k : Nat) (bs : List Int) (C D : Cm) (e : Int) : Prop where
  cfg : D.cfg = C.cfg
  bl : D.s.blown = C.s.blown
  np : D.s.pages.length = C.s.pages.length
  es : D.s.erases = C.s.erases
  pg : ∀ x, x < B ∨ B + area ≤ x → D.pg x = C.pg x
  good : e = 0 → D.acts = C.acts + (n - k : Nat) ∧ ∀ x, x < area * cells → cellOf B cells D x = if doneP n n x then cellM bs x else ffs
  bad : e ≠ 0 → e = 8 ∧ ∃ t, k < t ∧ t ≤ n ∧ D.acts = C.acts + (t - k : Nat) ∧ ∀ x, x < area * cells → x ≠ t % n → cellOf B cells D x = if doneP n (t - 1) x then cellM bs x else ffs
theorem programs (B area cells n : Nat) (bs : List Int) (hb : bytesOk bs) (hn : 0 < n) (hN : n ≤ area * cells) (hc : 0 < cells) : ∀ (m k : Nat) (C : Cm), m + k = n → C.out = false → -1 ≤ C.left → (cells : Int) = C.cfg.cells → B + area ≤ C.s.pages.length → (0 ≤ C.acts ∧ C.acts + m < 2 ^ 60) →
    (∀ x, x < area → (C.pg (B + x)).length = cells * 32) → (∀ x, x < area * cells → cellOf B cells C x = if doneP n k x then cellM bs x else ffs) → Pr B area cells n k bs C (progL (B : Int) cells bs n m k C).1 (progL (B : Int) cells bs n m k C).2 := by
  intro m
  induction m with
  | zero =>
    intro k C hk ho hl hcc hp ha hlen hcell
    have : k = n := by omega
    subst this
    unfold progL
    exact ⟨rfl, rfl, rfl, rfl, fun _ _ => rfl, fun _ => ⟨by simp, hcell⟩, fun x => absurd rfl x⟩
  | succ m ih =>
    intro k C hk ho hl hcc hp ha hlen hcell
    unfold progL
    have hin : (k + 1) % n < n := Nat.mod_lt _ hn
    have hnd := not_done (n := n) (k := k) (by omega)
    have hnx := done_next (n := n) (k := k) (by omega)
    generalize hi : (k + 1) % n = i at *
    have hdiv : i / cells < area := (Nat.div_lt_iff_lt_mul hc).2 (by omega)
    have hmod : i % cells < cells := Nat.mod_lt _ hc
    have hBle : B ≤ B + i / cells := Nat.le_add_right _ _
    have hne : ∀ x, x < B ∨ B + area ≤ x → x ≠ B + i / cells := by
      intro x hx
      generalize i / cells = dd at *
      omega
    have eB : (B : Int) + ((i / cells : Nat) : Int) = ((B + i / cells : Nat) : Int) := by simp
    rw [eB]
    obtain ⟨D, hD, d1, d2, d3, d4, d5, d6, d7, d8, d9⟩ := prog_step (C := C) (P := B + i / cells) (q := i % cells) (rec := cellM bs i) ho (by omega) (by omega) ⟨ha.1, by omega⟩
    rw [hD]
    dsimp only
    have hold : cellAt (C.pg (B + i / cells)) (i % cells) = ffs := by
      have := hcell i (by omega)
      rw [if_neg hnd] at this
      exact this
    rw [hold] at d7
    have hclen : ∀ f, (progCell ffs (cellM bs i) f).length = 32 := fun f => progCell_length _ _ _ rfl
    obtain ⟨s1, s2, s3⟩ := cellOf_step (B := B) (i := i) hc (fun x hx => d5 x hx) d7 (hlen _ hdiv) (hclen _)
    have hlen2 : ∀ x, x < area → (D.pg (B + x)).length = cells * 32 := by
      intro x hx
      by_cases e : x = i / cells
      · rw [e]; exact s3
      · rw [d5 _ (by omega)]; exact hlen x hx
    by_cases c : C.left = 0
    · have e8 : errM C = 8 := by unfold errM; rw [if_neg (by simpa using c)]
      rw [e8, if_pos (by simp)]
      refine ⟨d1, d2, d3, d4, fun x hx => d5 x (hne x hx), fun e => by simp at e, fun _ => ⟨rfl, k + 1, by omega, by omega, by rw [d6]; omega, fun x hx hx2 => ?_⟩⟩
      rw [hi] at hx2
      rw [s2 x hx2, Nat.add_sub_cancel]
      exact hcell x hx
    · have e0 : errM C = 0 := by unfold errM; rw [if_pos (by simpa using c)]
      rw [e0, if_neg (by simp)]
      have hmask : maskAt C = fun _ => 255 := by funext q; unfold maskAt; rw [if_pos (by simpa using c)]
      rw [hmask, ← blankCell_ffs, prog_whole (cellM_length bs i) (cellM_bytes hb i)] at s1
      have I := ih (k + 1) D (by omega) (d8 c) (d9 hl) (by rw [d1]; exact hcc) (by rw [d3]; exact hp) ⟨by omega, by omega⟩ hlen2 (fun x hx => by
        by_cases e : x = i
        · rw [e, s1, if_pos ((hnx i).2 (Or.inr rfl))]
        · rw [s2 x e, hcell x hx]
          by_cases dn : doneP n k x
          · rw [if_pos dn, if_pos ((hnx x).2 (Or.inl dn))]
          · rw [if_neg dn, if_neg (fun y => by rcases (hnx x).1 y with y | y; exact dn y; exact e y)])
      generalize progL (B : Int) cells bs n m (k + 1) D = X at *
      refine ⟨I.cfg.trans d1, I.bl.trans d2, I.np.trans d3, I.es.trans d4, fun x hx => (I.pg x hx).trans (d5 x (hne x hx)), fun e => ?_, fun e => ?_⟩
      · obtain ⟨g1, g2⟩ := I.good e
        exact ⟨by rw [g1, d6]; omega, g2⟩
      · obtain ⟨g1, t, g2, g3, g4, g5⟩ := I.bad e
        exact ⟨g1, t, by omega, g3, by rw [g4, d6]; omega, g5⟩
end Go.Proofs.Yteabcbpimjjdpaa
end

/- The log's laws, plain: records, pages, what one program or one erase leaves. Own work. -/
section
set_option maxRecDepth 100000
set_option linter.unusedVariables false
namespace Go.Proofs.Yteabcbpimjjdpaa
open Go Go.Vc

theorem gotI_b (l : List Int) (m : Nat) : ∀ k, (∀ i, i < k → l.getD i 0 = ((m / 2 ^ (8 * i) % 256 : Nat) : Int)) → b64 (gotI l k) = BitVec.ofNat 64 (m % 2 ^ (8 * k))
  | 0, _ => by
    show b64 0 = _
    rw [show m % 2 ^ (8 * 0) = 0 by simp [Nat.mod_one]]; rfl
  | k + 1, h => by
    have ih := gotI_b l m k fun i hi => h i (by omega)
    unfold gotI
    have hb : m / 2 ^ (8 * k) % 256 < 256 := Nat.mod_lt _ (by decide)
    rw [or_i64, ih, wrap_b64i, h k (by omega), wrap_id (by omega)]
    generalize hx : m / 2 ^ (8 * k) % 256 = x at *
    have e1 : b64 ((x : Int) * 2 ^ (8 * k)) = BitVec.ofNat 64 (x * 2 ^ (8 * k)) := by
      have : ((x : Int) * 2 ^ (8 * k)) = ((x * 2 ^ (8 * k) : Nat) : Int) := by push_cast; rfl
      rw [this]
      exact BitVec.ofInt_natCast _ _
    have e2 : m % 2 ^ (8 * (k + 1)) = 2 ^ (8 * k) * x + m % 2 ^ (8 * k) := by
      rw [show 8 * (k + 1) = 8 * k + 8 by omega, Nat.pow_add, Nat.mod_mul, ← hx, Nat.add_comm]
    have hlt : m % 2 ^ (8 * k) < 2 ^ (8 * k) := Nat.mod_lt _ (Nat.pow_pos (by decide))
    rw [e1, e2, Nat.two_pow_add_eq_or_of_lt hlt, BitVec.ofNat_or, BitVec.or_comm, Nat.mul_comm x]
theorem gotI_n {l : List Int} {n : Int} (h0 : 0 ≤ n) (h1 : n ≤ most) (h : ∀ i, i < 8 → l.getD i 0 = byteAt (IntKind.u64.wrap n) i) : gotI l 8 = n := by
  have hm := most_val
  obtain ⟨m, rfl⟩ := Int.eq_ofNat_of_zero_le h0
  have hw : IntKind.u64.wrap (m : Int) = (m : Int) := by rw [wrap_u64']; omega
  have hb := gotI_b l m 8 fun i hi => by
    rw [h i hi, hw]
    unfold byteAt
    have e1 : ((m : Int)).fdiv (2 ^ (8 * i)) = ((m / 2 ^ (8 * i) : Nat) : Int) := by
      rw [Int.fdiv_eq_ediv_of_nonneg _ (Int.le_of_lt (Int.pow_pos (by decide)))]
      push_cast; rfl
    rw [e1, IntKind.wrap_u8]
    omega
  rw [Nat.mod_eq_of_lt (show m < 2 ^ (8 * 8) by simp only [Nat.reduceMul, Nat.reducePow]; omega)] at hb
  have : b64 (gotI l 8) = b64 (m : Int) := hb.trans (BitVec.ofInt_natCast _ _).symm
  have := wrap_of_b64 this
  rw [gotI_range, wrap_id (by omega)] at this
  exact this
theorem laid_n (kind slot : Int) {n : Int} (h0 : 0 ≤ n) (h1 : n ≤ most) : gotI (((laidM kind slot n).drop 4).take 8) 8 = n := by
  refine gotI_n h0 h1 fun i hi => ?_
  have e1 : (((laidM kind slot n).drop 4).take 8).getD i 0 = (laidM kind slot n).getD (4 + i) 0 := by
    simp only [List.getD, List.getElem?_take_of_lt hi, List.getElem?_drop]
  rw [e1, (laid_get kind slot n (4 + i) (by omega)).1]
  unfold bodyM
  rw [if_neg (by omega)]
  unfold bodyF
  rw [if_neg (by omega), if_neg (by omega), if_neg (by omega), if_pos (by omega), show 4 + i - 4 = i by omega]
theorem laid9_0 (kind slot n : Int) : (laidM kind slot n).getD 0 0 = kind := by
  rw [(laid_get kind slot n 0 (by decide)).1]; rfl
theorem laid_1 (kind slot n : Int) : (laidM kind slot n).getD 1 0 = IntKind.u8.wrap slot := by
  rw [(laid_get kind slot n 1 (by decide)).1]; rfl
theorem ffs_0 : ffs.getD 0 0 = 255 := by decide
theorem rec_value {slot n : Int} (s0 : 0 ≤ slot) (s1 : slot ≤ 8) (h0 : 1 ≤ n) (h1 : n ≤ most) : recM (laidM 2 slot n) = (2, slot, n) := by
  unfold recM
  have e := laid_n 2 slot (by omega) h1
  have e0 := laid9_0 2 slot n
  have e1 := laid_1 2 slot n
  rw [wrap_u8_id (by omega)] at e1
  rw [e, e0, e1]
  rw [if_neg (by intro y; have := laid9_0 2 slot n; rw [y, ffs_0] at this; exact absurd this (by decide)), if_neg (by omega), if_neg (by omega), if_neg (by intro y; exact absurd y.1 (by decide)), if_pos ⟨rfl, s1, rfl⟩]
theorem rec_head {n : Int} (h0 : 1 ≤ n) (h1 : n ≤ most) : recM (laidM 1 0 n) = (1, 0, n) := by
  unfold recM
  have e := laid_n 1 0 (by omega) h1
  have e0 := laid9_0 1 0 n
  rw [e, e0]
  rw [if_neg (by intro y; have := laid9_0 1 0 n; rw [y, ffs_0] at this; exact absurd this (by decide)), if_neg (by omega), if_neg (by omega), if_pos ⟨rfl, rfl⟩]
theorem ffs_blank : ffs = blankCell := by decide
theorem rec_blank : recM blankCell = (0, 0, 0) := by unfold recM; rw [if_pos ffs_blank.symm]
theorem rec_zero {x : List Int} (h : (recM x).1 = 0) : x = blankCell := by
  rw [← ffs_blank]
  unfold recM at h
  by_cases e : x = ffs
  · exact e
  · rw [if_neg e] at h
    (repeat' split at h) <;> exact absurd h (by simp)

/-- What a page's cell is. -/
abbrev rk (row : List Int) (k : Nat) : Int × Int × Int := recM (cellAt row k)
theorem ofM_congr {r z : List Int} : ∀ {n : Nat}, (∀ k, k < n → rk r k = rk z k) → ofM r n = ofM z n
  | 0, _ => rfl
  | n + 1, h => by
    have := h n (by omega)
    unfold rk at this
    unfold ofM
    rw [ofM_congr (n := n) fun k hk => h k (by omega), this]
theorem lay_kind0 (I : Inf) (n slot num : Int) : layM I n 0 slot num = I := by
  unfold layM nextM layN
  rw [if_neg (by simp), if_neg (by simp), if_neg (by simp), if_neg (by simp)]
theorem ofM_tail {r : List Int} {m : Nat} : ∀ {n : Nat}, m ≤ n → (∀ k, m ≤ k → k < n → (rk r k).1 = 0) → ofM r n = ofM r m
  | 0, h, _ => by rw [show m = 0 by omega]
  | n + 1, h, hz => by
    by_cases e : m = n + 1
    · rw [e]
    · have := hz n (by omega) (by omega)
      unfold rk at this
      show layM _ _ _ _ _ = _
      rw [this, lay_kind0, ofM_tail (n := n) (by omega) fun k h1 h2 => hz k h1 (by omega)]
theorem ofM_next {r : List Int} : ∀ {n : Nat}, n < 2 ^ 60 → ∀ k : Nat, (ofM r n).next ≤ (k : Int) → k < n → (rk r k).1 = 0
  | 0, _, k, _, h => by omega
  | n + 1, hn, k, h, hk => by
    have hb := (ofM_ok r n (by omega)).next
    unfold ofM at h
    unfold layM at h
    rw [layN_next] at h
    unfold nextM at h
    by_cases c : (recM (cellAt r n)).1 = 0
    · rw [if_neg (by simpa using c)] at h
      by_cases e : k = n
      · rw [e]; exact c
      · exact ofM_next (n := n) (by omega) k h (by omega)
    · rw [if_pos c] at h
      dsimp only at h
      rw [wrap_id (by omega)] at h
      omega
/-- A page whose cells agree but for one, behind which all is blank. -/
theorem ofM_put {r z : List Int} {l q : Nat} (hq : q < l) (he : ∀ k, k < l → k ≠ q → rk z k = rk r k) (hz : ∀ k, q ≤ k → k < l → (rk r k).1 = 0) :
    ofM z l = layM (ofM r l) q (rk z q).1 (rk z q).2.1 (rk z q).2.2 := by
  have e1 : ofM z l = ofM z (q + 1) := ofM_tail (by omega) fun k h1 h2 => by rw [he k h2 (by omega)]; exact hz k (by omega) h2
  have e2 : ofM r l = ofM r q := ofM_tail (by omega) hz
  rw [e1, e2]
  show layM (ofM z q) _ _ _ _ = _
  rw [ofM_congr (n := q) fun k hk => he k (by omega) (by omega)]
theorem ofM_head {r : List Int} : ∀ {n : Nat}, 1 ≤ n → (ofM r n).head = if (rk r 0).1 = 1 then (rk r 0).2.2 else 0
  | 0, h => by omega
  | 1, _ => by
    show (layM inf0 0 (rk r 0).1 (rk r 0).2.1 (rk r 0).2.2).head = _
    generalize rk r 0 = x
    unfold layM
    have e2 : (nextM inf0 0 x.1).head = 0 := by unfold nextM; split <;> rfl
    generalize nextM inf0 0 x.1 = J at *
    unfold layN
    by_cases c : x.1 = 3
    · rw [if_pos c, if_neg (by omega)]; exact e2
    rw [if_neg c]
    by_cases d : x.1 = 1
    · rw [if_pos ⟨d, rfl⟩, if_pos d]
    · rw [if_neg (fun y => d y.1), if_neg (fun y => absurd y.2 (by decide)), if_neg d]
      exact e2
  | n + 2, _ => by
    rw [← ofM_head (n := n + 1) (by omega)]
    show (layM (ofM r (n + 1)) ((n + 1 : Nat) : Int) _ _ _).head = _
    exact lay_head _ _ _ _ _ (by omega)
theorem lay_nums (I J : Inf) (h : I.nums = J.nums) (n kind slot num : Int) : (layM I n kind slot num).nums = (layM J n kind slot num).nums := by
  unfold layM
  have h2 : (nextM I n kind).nums = (nextM J n kind).nums := by rw [nextM_nums, nextM_nums, h]
  generalize nextM I n kind = I at *
  generalize nextM J n kind = J at *
  unfold layN
  by_cases c : kind = 3
  · rw [if_pos c, if_pos c]; exact h2
  rw [if_neg c, if_neg c]
  by_cases d : kind = 1 ∧ n = 0
  · rw [if_pos d, if_pos d]; exact h2
  rw [if_neg d, if_neg d]
  by_cases e : kind = 2 ∧ 0 < n
  · rw [if_pos e, if_pos e, h2]
  · rw [if_neg e, if_neg e]; exact h2
theorem lay_nums0 (I : Inf) (kind slot num : Int) : (layM I 0 kind slot num).nums = I.nums := by
  unfold layM
  have h2 := nextM_nums I 0 kind
  generalize nextM I 0 kind = J at *
  unfold layN
  rw [← h2]
  by_cases c : kind = 3
  · rw [if_pos c]
  rw [if_neg c]
  by_cases d : kind = 1
  · rw [if_pos ⟨d, rfl⟩]
  · rw [if_neg (fun y => d y.1), if_neg (fun y => absurd y.2 (by decide))]
theorem ofM_nums {r z : List Int} : ∀ {n : Nat}, (∀ k, 1 ≤ k → k < n → rk r k = rk z k) → (ofM r n).nums = (ofM z n).nums
  | 0, _ => rfl
  | n + 1, h => by
    have ih := ofM_nums (n := n) fun k h1 h2 => h k h1 (by omega)
    show (layM (ofM r n) _ (rk r n).1 (rk r n).2.1 (rk r n).2.2).nums = (layM (ofM z n) _ (rk z n).1 (rk z n).2.1 (rk z n).2.2).nums
    by_cases e : n = 0
    · subst e
      rw [show ((0 : Nat) : Int) = 0 from rfl, lay_nums0, lay_nums0, ih]
    · rw [h n (by omega) (by omega)]
      exact lay_nums _ _ ih _ _ _ _
theorem lay_value (I : Inf) {q : Int} (hq : 0 < q) (slot num : Int) : (layM I q 2 slot num).nums = I.nums.set slot.toNat (if num > I.nums.getD slot.toNat 0 then num else I.nums.getD slot.toNat 0) := by
  unfold layM
  have h2 := nextM_nums I q 2
  generalize nextM I q 2 = J at *
  unfold layN
  rw [if_neg (by decide), if_neg (fun y => absurd y.1 (by decide)), if_pos ⟨rfl, hq⟩, h2]

/-- Sound pages; or no cut is to come. -/
def sndU (u : Bool) (C : Cm) : Prop :=
  match u with
  | true => C.left < 0
  | false => ∀ x, x < 2 → soundM (C.pg x) C.cfg.cells.toNat
theorem act_left {C : Cm} (h : C.left < 0) : C.act.left < 0 := by
  unfold Cm.act
  rw [if_pos (by omega)]
  show (if C.left - 1 > -1 then C.left - 1 else (-1 : Int)) < 0
  rw [if_neg (by omega)]
  decide
theorem prog_stp {u : Bool} {C : Cm} (ok : C.ok) (ho : C.out = false) {t q : Nat} (ht : t < 2) (hq : q < C.cfg.cells.toNat) {kind slot n : Int} (hk : isByte kind) (snd : sndU u C) (hbl : (rk (C.pg t) q).1 = 0) :
    ∃ D : Cm, programM C (t : Int) (q : Int) (laidM kind slot n) = (D, errM C) ∧ D.ok ∧ D.cfg = C.cfg ∧ D.s.erases = C.s.erases ∧ D.acts = w64 (C.acts + 1) ∧ (∀ x, x ≠ t → D.pg x = C.pg x) ∧ sndU u D ∧
      (∀ k, k < C.cfg.cells.toNat → k ≠ q → rk (D.pg t) k = rk (C.pg t) k) ∧ ((rk (D.pg t) q).1 = 0 ∨ (rk (D.pg t) q).1 = 3 ∨ rk (D.pg t) q = recM (laidM kind slot n)) ∧
      (C.left ≠ 0 → D.out = false ∧ rk (D.pg t) q = recM (laidM kind slot n)) ∧ (C.left = 0 → D.out = true) := by
  obtain ⟨hp2, he2⟩ := ok_pages ok
  have hj : t < C.s.pages.length := by omega
  have epg : C.pg t = C.s.pages[t] := by unfold Cm.pg; simp [List.getD, List.getElem?_eq_getElem hj]
  have hmem : C.pg t ∈ C.s.pages := by rw [epg]; exact List.getElem_mem hj
  have hcells := ok.may.cells
  have hlen : (C.pg t).length = C.cfg.cells.toNat * 32 := by have := ok.fits.cells _ hmem; omega
  have hbytes := ok.typed.bytes _ hmem
  have hXl := laidM_length kind slot n
  have hcb := rec_zero hbl
  have ec : asksCellM C (t : Int) (q : Int) = 0 := by
    unfold asksCellM
    rw [askedM_in ho (by omega) (by omega), if_neg (by simp), askedM_in ho (by omega) (by omega)]
  have hro : rowOf C (t : Int) = C.pg t := by unfold rowOf Cm.pg; rw [Int.toNat_natCast]
  unfold programM
  rw [ec, if_neg (by simp), Int.toNat_natCast, Int.toNat_natCast, hro]
  have half := fun sd : soundM (C.pg t) C.cfg.cells.toNat => half_prog (slot := slot) (n := n) (maskAt C) hk hlen hbytes sd hq hcb
  have full1 : C.left ≠ 0 → maskAt C = fun _ => 255 := fun hl => by funext i; unfold maskAt; rw [if_pos hl]
  have hplq : (q + 1) * 32 ≤ (C.pg t).length := by rw [hlen]; exact Nat.mul_le_mul_right 32 hq
  have hXb : bytesOk (laidM kind slot n) := tab_bytes fun k => by
    split
    · exact bodyM_byte hk _
    · exact byte_bits _ _ _
  have hpc : ∀ f, (progCell (cellAt (C.pg t) q) (laidM kind slot n) f).length = 32 := fun f => progCell_length _ _ _ (by rw [hcb]; simp [blankCell])
  have hfull : rk (rowSet (C.pg t) q (progCell (cellAt (C.pg t) q) (laidM kind slot n) fun _ => 255)) q = recM (laidM kind slot n) := by
    unfold rk
    rw [rowSet_same hplq (hpc _), hcb, prog_whole hXl hXb]
  have hpg : ∀ r, (C.act.setPage t r).pg t = r := fun r => getD_put _ _ _ _ (by rw [act_s]; exact hj)
  have hpgo : ∀ r x, x ≠ t → (C.act.setPage t r).pg x = C.pg x := by
    intro r x hx
    show (C.act.s.pages.set t _).getD x [] = C.s.pages.getD x []
    simp only [List.getD, List.getElem?_set_ne (Ne.symm hx), act_s]
  have hrl := rowSet_length hplq (hpc (maskAt C))
  have hother : ∀ f k, k < C.cfg.cells.toNat → k ≠ q → rk (rowSet (C.pg t) q (progCell (cellAt (C.pg t) q) (laidM kind slot n) f)) k = rk (C.pg t) k := by
    intro f k hk' hne
    unfold rk
    rw [rowSet_other hplq (by rw [hlen]; exact Nat.mul_le_mul_right 32 hk') (hpc _) hne]
  refine ⟨_, rfl, ?_, act_cfg C, ?_, ?_, hpgo _, ?_, ?_, ?_, ?_, ?_⟩
  · refine Cm.ok.setPage ok.act ?_ ?_
    · rw [act_cfg, hrl, hlen]; omega
    · intro v hv
      rcases rowSet_mem hv with h | h
      · exact hbytes v h
      · unfold progCell at h
        exact mapTo_mem (P := isByte) (fun v h => hbytes v (cellAt_mem h)) (fun _ _ _ => byte_bits _ _ _) v h
  · show C.act.s.erases = _; rw [act_s]
  · show C.act.acts = _
    unfold Cm.act; split <;> rfl
  · cases u with
    | true => exact act_left (C := C) snd
    | false =>
      have hc : (C.act.setPage t (rowSet (C.pg t) q (progCell (cellAt (C.pg t) q) (laidM kind slot n) (maskAt C)))).cfg = C.cfg := act_cfg C
      show ∀ x, x < 2 → soundM _ _
      rw [hc]
      intro x hx
      by_cases e : x = t
      · rw [e, hpg]; exact (half (snd t ht)).1
      · rw [hpgo _ _ e]; exact snd x hx
  · intro k h5 h6
    rw [hpg]; exact hother _ k h5 h6
  · rw [hpg]
    cases u with
    | true =>
      have hl : C.left < 0 := snd
      rw [full1 (by omega)]
      exact Or.inr (Or.inr hfull)
    | false =>
      rcases ((half (snd t ht)).2 q hq).2 with h | h | h
      · exact Or.inl h
      · exact Or.inr (Or.inl h)
      · refine Or.inr (Or.inr ?_)
        unfold rk
        rw [h]; exact hfull
  · intro hl
    refine ⟨act_out ho hl, ?_⟩
    rw [hpg, full1 hl]; exact hfull
  · intro hl
    show C.act.out = true
    unfold Cm.act
    rw [if_neg (by simpa using hl)]
theorem erase_stp {u : Bool} {C : Cm} (ok : C.ok) (ho : C.out = false) {t : Nat} (ht : t < 2) (hw : C.er t < C.cfg.erases) (snd : sndU u C) :
    ∃ D : Cm, eraseM C (t : Int) = (D, errM C) ∧ D.ok ∧ D.cfg = C.cfg ∧ D.er t = C.er t + 1 ∧ (∀ x, x ≠ t → D.er x = C.er x) ∧ D.acts = w64 (C.acts + 1) ∧ (∀ x, x ≠ t → D.pg x = C.pg x) ∧ sndU u D ∧
      (∀ k, k < C.cfg.cells.toNat → (rk (D.pg t) k).1 = 0 ∨ (rk (D.pg t) k).1 = 3 ∨ rk (D.pg t) k = rk (C.pg t) k) ∧
      (C.left ≠ 0 → D.out = false ∧ ∀ k, k < C.cfg.cells.toNat → (rk (D.pg t) k).1 = 0) ∧ (C.left = 0 → D.out = true) := by
  obtain ⟨hp2, he2⟩ := ok_pages ok
  have hj : t < C.s.pages.length := by omega
  have hje : t < C.s.erases.length := by omega
  have epg : C.pg t = C.s.pages[t] := by unfold Cm.pg; simp [List.getD, List.getElem?_eq_getElem hj]
  have hmem : C.pg t ∈ C.s.pages := by rw [epg]; exact List.getElem_mem hj
  have hcells := ok.may.cells
  have hlen : (C.pg t).length = C.cfg.cells.toNat * 32 := by have := ok.fits.cells _ hmem; omega
  have hbytes := ok.typed.bytes _ hmem
  have hro : rowOf C (t : Int) = C.pg t := by unfold rowOf Cm.pg; rw [Int.toNat_natCast]
  have hme := ok.may.erases
  have hms := ok.may.slots
  unfold eraseM
  rw [askedM_in ho (by omega) (by omega), if_neg (by simp), Int.toNat_natCast, hro]
  unfold Cm.er at hw
  rw [if_neg (by omega)]
  have full1 : C.left ≠ 0 → maskAt C = fun _ => 255 := fun hl => by funext i; unfold maskAt; rw [if_pos hl]
  have hblank : ∀ k, k < C.cfg.cells.toNat → (rk (eraseRow (C.pg t) fun _ => 255) k).1 = 0 := by
    intro k hk
    have e : cellAt (eraseRow (C.pg t) fun _ => 255) k = ffs := by
      have hl2 : (eraseRow (C.pg t) fun _ => 255).length = C.cfg.cells.toNat * 32 := by unfold eraseRow mapTo; rw [List.length_mapIdx, hlen]
      have hk32 : (k + 1) * 32 ≤ (eraseRow (C.pg t) fun _ => 255).length := by rw [hl2]; exact Nat.mul_le_mul_right 32 hk
      refine ext_getD (by rw [cellAt_length hk32]; rfl) fun i hi => ?_
      rw [cellAt_length hk32] at hi
      rw [cellAt_getD _ _ _ hi]
      unfold eraseRow
      rw [mapTo_getD _ _ _ _ (by omega) (by omega), full_or]
      unfold ffs
      rw [tab_getD _ hi]
    unfold rk
    rw [e, ffs_blank, rec_blank]
  have half := fun sd : soundM (C.pg t) C.cfg.cells.toNat => half_erase (maskAt C) hlen hbytes sd
  have hrange := ok.typed.erases (C.s.erases.getD t 0) (by
    have : C.s.erases.getD t 0 = C.s.erases[t] := by simp [List.getD, List.getElem?_eq_getElem hje]
    rw [this]; exact List.getElem_mem hje)
  have hpg : ∀ n r, ((C.act.setErase t n).setPage t r).pg t = r := fun n r => getD_put _ _ _ _ (by show t < C.act.s.pages.length; rw [act_s]; exact hj)
  have hpgo : ∀ n r x, x ≠ t → ((C.act.setErase t n).setPage t r).pg x = C.pg x := by
    intro n r x hx
    show (C.act.s.pages.set t _).getD x [] = C.s.pages.getD x []
    simp only [List.getD, List.getElem?_set_ne (Ne.symm hx), act_s]
  refine ⟨_, rfl, ?_, act_cfg C, ?_, ?_, ?_, hpgo _ _, ?_, ?_, ?_, ?_⟩
  · refine Cm.ok.setPage (ok.act.setErase (by omega)) ?_ ?_
    · show _ = 32 * C.act.cfg.cells
      rw [act_cfg]
      unfold eraseRow mapTo
      rw [List.length_mapIdx, hlen]; omega
    · intro v hv
      unfold eraseRow at hv
      exact mapTo_mem (P := isByte) (fun v h => hbytes v h) (fun _ _ _ => byte_bits _ _ _) v hv
  · show (C.act.s.erases.set t _).getD t 0 = _
    exact getD_put _ _ _ _ (by rw [act_s]; exact hje)
  · intro x hx
    show (C.act.s.erases.set t _).getD x 0 = C.s.erases.getD x 0
    simp only [List.getD, List.getElem?_set_ne (Ne.symm hx), act_s]
  · show C.act.acts = _
    unfold Cm.act; split <;> rfl
  · cases u with
    | true => exact act_left (C := C) snd
    | false =>
      have hc : ((C.act.setErase t (C.s.erases.getD t 0 + 1)).setPage t (eraseRow (C.pg t) (maskAt C))).cfg = C.cfg := act_cfg C
      show ∀ x, x < 2 → soundM _ _
      rw [hc]
      intro x hx
      by_cases e : x = t
      · rw [e, hpg]; exact (half (snd t ht)).1
      · rw [hpgo _ _ _ e]; exact snd x hx
  · intro k h5
    rw [hpg]
    cases u with
    | true =>
      have hl : C.left < 0 := snd
      rw [full1 (by omega)]
      exact Or.inl (hblank k h5)
    | false => exact (half (snd t ht)).2 k h5
  · intro hl
    refine ⟨act_out ho hl, fun k hk => ?_⟩
    rw [hpg, full1 hl]
    exact hblank k hk
  · intro hl
    show C.act.out = true
    unfold Cm.act
    rw [if_neg (by simpa using hl)]
end Go.Proofs.Yteabcbpimjjdpaa
end

/- The log's laws, plain: a turn, a lay. Own work. -/
section
set_option maxRecDepth 100000
set_option linter.unusedVariables false
namespace Go.Proofs.Yteabcbpimjjdpaa
open Go Go.Vc

abbrev nof (C : Cm) (t k : Nat) : Int := (pI C t).nums.getD k 0
abbrev numOf (C : Cm) (k : Nat) : Int := (infoM C).nums.getD k 0
abbrev lOf (C : Cm) : Nat := C.cfg.cells.toNat
def sndM (C : Cm) : Prop := ∀ x, x < 2 → soundM (C.pg x) C.cfg.cells.toNat
section
variable {u : Bool}
theorem w64_id {n : Int} (h0 : 0 ≤ n) (h1 : n < 2 ^ 61) : w64 n = n := by unfold w64; rw [IntKind.wrap_i64]; omega
theorem errM_cases (C : Cm) : (errM C = 0 ∧ C.left ≠ 0) ∨ (errM C = 8 ∧ C.left = 0) := by
  unfold errM
  by_cases c : C.left ≠ 0
  · rw [if_pos c]; exact Or.inl ⟨rfl, c⟩
  · rw [if_neg c]; exact Or.inr ⟨rfl, by simpa using c⟩
/-- What a part of a turn leaves. -/
structure Part (u : Bool) (C D : Cm) (t m : Nat) (e : Int) : Prop where
  ok : D.ok
  cfg : D.cfg = C.cfg
  pgs : ∀ y, y ≠ t → D.pg y = C.pg y
  snd : sndU u D
  ec : e = 0 ∨ e = 8
  out0 : e = 0 → D.out = false
  out8 : e = 8 → D.out = true
  acts : 0 ≤ C.acts → C.acts + m < 2 ^ 60 → C.acts ≤ D.acts ∧ D.acts ≤ C.acts + m
  un : u = true → e = 0
theorem Part.trans {C D E : Cm} {t m n : Nat} {e : Int} (a : Part u C D t m 0) (b : Part u D E t n e) : Part u C E t (m + n) e :=
  ⟨b.ok, b.cfg.trans a.cfg, fun y h => (b.pgs y h).trans (a.pgs y h), b.snd, b.ec, b.out0, b.out8, fun h1 h2 => by
    have := a.acts h1 (by omega)
    have := b.acts (by omega) (by omega)
    omega, b.un⟩
theorem Part.more {C D : Cm} {t m n : Nat} {e : Int} (a : Part u C D t m e) (h : m ≤ n) : Part u C D t n e :=
  ⟨a.ok, a.cfg, a.pgs, a.snd, a.ec, a.out0, a.out8, fun h1 h2 => by have := a.acts h1 (by omega); omega, a.un⟩
theorem Part.refl {C : Cm} (ok : C.ok) (ho : C.out = false) (snd : sndU u C) (t : Nat) : Part u C C t 0 0 :=
  ⟨ok, rfl, fun _ _ => rfl, snd, Or.inl rfl, fun _ => ho, fun h => absurd h (by decide), fun _ _ => by omega, fun _ => rfl⟩
theorem errM_un {C : Cm} (snd : sndU u C) : u = true → errM C = 0 := by
  intro hu
  subst hu
  have : C.left < 0 := snd
  unfold errM
  rw [if_pos (by omega)]
theorem prog_part {C : Cm} (ok : C.ok) (ho : C.out = false) {t q : Nat} (ht : t < 2) (hq : q < lOf C) {kind slot n : Int} (hk : isByte kind) (snd : sndU u C) (hbl : (rk (C.pg t) q).1 = 0) :
    ∃ D e, programM C (t : Int) (q : Int) (laidM kind slot n) = (D, e) ∧ Part u C D t 1 e ∧ (∀ x, D.er x = C.er x) ∧ (∀ k, k < lOf C → k ≠ q → rk (D.pg t) k = rk (C.pg t) k) ∧
      ((rk (D.pg t) q).1 = 0 ∨ (rk (D.pg t) q).1 = 3 ∨ rk (D.pg t) q = recM (laidM kind slot n)) ∧ (e = 0 → rk (D.pg t) q = recM (laidM kind slot n)) ∧ (0 ≤ C.acts → C.acts < 2 ^ 60 → D.acts = C.acts + 1) := by
  obtain ⟨D, h1, h2, h3, h4, h5, h6, h7, h8, h9, h10, h11⟩ := prog_stp ok ho ht hq (slot := slot) (n := n) hk snd hbl
  have ha : 0 ≤ C.acts → C.acts < 2 ^ 60 → D.acts = C.acts + 1 := fun a b => by rw [h5, w64_id (by omega) (by omega)]
  refine ⟨D, _, h1, ⟨h2, h3, h6, h7, ?_, ?_, ?_, ?_, errM_un snd⟩, fun x => by unfold Cm.er; rw [h4], h8, h9, ?_, ha⟩
  · rcases errM_cases C with ⟨e, _⟩ | ⟨e, _⟩
    · exact Or.inl e
    · exact Or.inr e
  · intro e
    rcases errM_cases C with ⟨_, c⟩ | ⟨e', _⟩
    · exact (h10 c).1
    · rw [e'] at e; exact absurd e (by decide)
  · intro e
    rcases errM_cases C with ⟨e', _⟩ | ⟨_, c⟩
    · rw [e'] at e; exact absurd e (by decide)
    · exact h11 c
  · intro a b
    rw [ha a (by omega)]; omega
  · intro e
    rcases errM_cases C with ⟨_, c⟩ | ⟨e', _⟩
    · exact (h10 c).2
    · rw [e'] at e; exact absurd e (by decide)
theorem value_laid {x : Nat} {v : Int} (hx : x ≤ 8) (h1 : 1 ≤ v) (h2 : v ≤ most) : (valueM (x : Int) v).1 = laidM 2 (x : Int) v := by
  unfold valueM
  rw [if_neg (by omega), if_neg (by omega), if_neg (by omega), if_neg (by omega)]
theorem head_laid {g : Int} (h1 : 1 ≤ g) (h2 : g ≤ most) : (headM g).1 = laidM 1 0 g := by
  unfold headM
  rw [if_neg (by omega), if_neg (by omega)]
/-- A value laid behind all else of a page. -/
theorem put_nums {r z : List Int} {l q x : Nat} {v : Int} (hq : q < l) (hq1 : 1 ≤ q) (he : ∀ k, k < l → k ≠ q → rk z k = rk r k) (hz : ∀ k, q ≤ k → k < l → (rk r k).1 = 0) (hx : x ≤ 8) (h1 : 1 ≤ v) (h2 : v ≤ most)
    (hv : (ofM r l).nums.getD x 0 < v) (hr : (rk z q).1 = 0 ∨ (rk z q).1 = 3 ∨ rk z q = recM (laidM 2 (x : Int) v)) :
    ((ofM z l).nums = (ofM r l).nums ∨ (ofM z l).nums = (ofM r l).nums.set x v) ∧ (rk z q = recM (laidM 2 (x : Int) v) → (ofM z l).nums = (ofM r l).nums.set x v) ∧ (ofM z l).head = (ofM r l).head := by
  have e := ofM_put hq he hz
  have full : rk z q = recM (laidM 2 (x : Int) v) → (ofM z l).nums = (ofM r l).nums.set x v := by
    intro c
    rw [e, c, rec_value (by omega) (by omega) h1 h2]
    rw [lay_value _ (by omega), Int.toNat_natCast, if_pos hv]
  refine ⟨?_, full, ?_⟩
  · rcases hr with h | h | h
    · left; rw [e]; exact (lay_idle _ _ _ _ _ (Or.inl h)).1
    · left; rw [e]; exact (lay_idle _ _ _ _ _ (Or.inr h)).1
    · exact Or.inr (full h)
  · rw [e]; exact lay_head _ _ _ _ _ (by omega)
theorem turnP_law {t : Nat} (ht : t < 2) {nums : List Int} (hnl : nums.length = 9) (hnb : ∀ k, 0 ≤ nums.getD k 0 ∧ nums.getD k 0 ≤ most) : ∀ (m x at_ : Nat) (C : Cm), C.ok → C.out = false → sndU u C → 1 ≤ at_ → at_ + m ≤ lOf C → x + m ≤ 9 →
    (rk (C.pg t) 0).1 = 0 → (∀ k, at_ ≤ k → k < lOf C → (rk (C.pg t) k).1 = 0) → (∀ k, k < x → nof C t k = nums.getD k 0) → (∀ k, x ≤ k → nof C t k = 0) →
    ∃ D e, turnP (t : Int) nums m x at_ C = (D, e) ∧ Part u C D t m e ∧ (∀ y, D.er y = C.er y) ∧ (rk (D.pg t) 0).1 = 0 ∧ (∃ at2, 1 ≤ at2 ∧ at2 ≤ at_ + m ∧ ∀ k, at2 ≤ k → k < lOf C → (rk (D.pg t) k).1 = 0) ∧
      (e = 0 → ∀ k, k < x + m → nof D t k = nums.getD k 0)
  | 0, x, at_, C, ok, ho, snd, h1, h2, h3, h4, h5, h6, h7 => ⟨C, 0, rfl, Part.refl ok ho snd t, fun _ => rfl, h4, ⟨at_, h1, by omega, h5⟩, fun _ => by simpa using h6⟩
  | m + 1, x, at_, C, ok, ho, snd, h1, h2, h3, h4, h5, h6, h7 => by
    unfold turnP
    by_cases gz : nums.getD x 0 = 0
    · rw [if_pos gz]
      obtain ⟨D, e, d1, d2, d3, d4, ⟨a2, d5, d6, d7⟩, d8⟩ := turnP_law ht hnl hnb m (x + 1) at_ C ok ho snd h1 (by omega) (by omega) h4 h5 (by
        intro k hk
        by_cases c : k < x
        · exact h6 k c
        · rw [show k = x by omega, gz]; exact h7 x (by omega)) (fun k hk => h7 k (by omega))
      exact ⟨D, e, d1, d2.more (by omega), d3, d4, ⟨a2, d5, by omega, d7⟩, fun he k hk => d8 he k (by omega)⟩
    rw [if_neg gz]
    have hb := hnb x
    rw [value_laid (by omega) (by omega) hb.2]
    have hat : at_ < lOf C := by omega
    obtain ⟨D, e, p1, p2, p3, p4, p5, p6, _⟩ := prog_part ok ho ht hat (kind := 2) (slot := (x : Int)) (n := nums.getD x 0) ⟨by decide, by decide⟩ snd (h5 at_ (by omega) hat)
    rw [p1]
    have hlo : lOf D = lOf C := by show D.cfg.cells.toNat = _; rw [p2.cfg]
    have hz0 : (rk (D.pg t) 0).1 = 0 := by rw [p4 0 (by omega) (by omega)]; exact h4
    by_cases he : e = 0
    · subst he
      rw [if_neg (by simp)]
      obtain ⟨q1, q2, q3⟩ := put_nums (r := C.pg t) (z := D.pg t) hat h1 p4 h5 (x := x) (by omega) (by omega) hb.2 (by have := h7 x (by omega); have : (ofM (C.pg t) (lOf C)).nums.getD x 0 = 0 := this; omega) p5
      have q4 := q2 (p6 rfl)
      have hnof : ∀ k, nof D t k = if x = k ∧ k < 9 then nums.getD x 0 else nof C t k := by
        intro k
        show (ofM (D.pg t) (lOf D)).nums.getD k 0 = _
        rw [hlo, q4, set_getD, ofM_len]
        rfl
      obtain ⟨E, e2, d1, d2, d3, d4, ⟨a2, d5, d6, d7⟩, d8⟩ := turnP_law ht hnl hnb m (x + 1) (at_ + 1) D p2.ok (p2.out0 rfl) p2.snd (by omega) (by omega) (by omega) hz0
        (fun k k1 k2 => by rw [hlo] at k2; rw [p4 k k2 (by omega)]; exact h5 k (by omega) k2)
        (by
          intro k hk
          rw [hnof]
          by_cases c : x = k
          · rw [if_pos ⟨c, by omega⟩, c]
          · rw [if_neg (fun y => c y.1)]; exact h6 k (by omega))
        (by
          intro k hk
          rw [hnof, if_neg (by omega)]; exact h7 k (by omega))
      exact ⟨E, e2, d1, (p2.trans d2).more (by omega), fun y => (d3 y).trans (p3 y), d4, ⟨a2, d5, by omega, by rw [← hlo]; exact d7⟩, fun he k hk => d8 he k (by omega)⟩
    · rw [if_pos he]
      exact ⟨D, e, rfl, p2.more (by omega), p3, hz0, ⟨at_ + 1, by omega, by omega, fun k k1 k2 => by rw [p4 k k2 (by omega)]; exact h5 k (by omega) k2⟩, fun y => absurd y he⟩
theorem head_of (C : Cm) (t : Nat) (hl : 1 ≤ lOf C) : (pI C t).head = if (rk (C.pg t) 0).1 = 1 then (rk (C.pg t) 0).2.2 else 0 := ofM_head hl
theorem blank_inf {r : List Int} {n : Nat} (h : ∀ k, k < n → (rk r k).1 = 0) : ofM r n = inf0 := by
  have := ofM_tail (r := r) (m := 0) (n := n) (by omega) fun k _ hk => h k hk
  exact this
theorem turnA_law {t : Nat} (ht : t < 2) {nums : List Int} (hnl : nums.length = 9) (hnb : ∀ k, 0 ≤ nums.getD k 0 ∧ nums.getD k 0 ≤ most) {m : Nat} {C : Cm} {g : Int} (ok : C.ok) (ho : C.out = false) (snd : sndU u C) (hm : 1 + m ≤ lOf C) (hm9 : m ≤ 9) (g0 : 0 ≤ g) (g1 : g < most)
    (hbl : ∀ k, k < lOf C → (rk (C.pg t) k).1 = 0) :
    ∃ D e, turnA g (t : Int) nums m C = (D, e) ∧ Part u C D t (m + 1) e ∧ (∀ y, D.er y = C.er y) ∧ ((pI D t).head = 0 ∨ ((pI D t).head = g + 1 ∧ ∀ k, k < m → nof D t k = nums.getD k 0)) ∧ (e = 0 → (pI D t).head = g + 1) ∧
      (∀ k, 1 + m ≤ k → k < lOf C → (rk (D.pg t) k).1 = 0) := by
  have hz : ∀ k, nof C t k = 0 := by
    intro k
    show (ofM (C.pg t) (lOf C)).nums.getD k 0 = 0
    rw [blank_inf hbl]
    show (zeros 9).getD k 0 = 0
    rw [List.getD_eq_getElem?_getD]
    unfold zeros
    rw [List.getElem?_replicate]; split <;> rfl
  obtain ⟨D, e, d1, d2, d3, d4, ⟨a2, d5, d6, d7⟩, d8⟩ := turnP_law ht hnl hnb m 0 1 C ok ho snd (by omega) (by omega) (by omega) (hbl 0 (by omega)) (fun k _ h => hbl k h) (fun k h => absurd h (by omega)) (fun k _ => hz k)
  have hlo : lOf D = lOf C := by show D.cfg.cells.toNat = _; rw [d2.cfg]
  unfold turnA
  rw [d1]
  by_cases he : e = 0
  · subst he
    rw [if_neg (by simp), head_laid (by omega) (by omega)]
    obtain ⟨E, e2, p1, p2, p3, p4, p5, p6, _⟩ := prog_part d2.ok (d2.out0 rfl) ht (q := 0) (by omega) (kind := 1) (slot := 0) (n := g + 1) ⟨by decide, by decide⟩ d2.snd d4
    have hlo2 : lOf E = lOf C := by show E.cfg.cells.toNat = _; rw [p2.cfg]; exact hlo
    have hrec := rec_head (n := g + 1) (by omega) (by omega)
    have hnum : ∀ k, nof E t k = nof D t k := by
      intro k
      show (ofM (E.pg t) (lOf E)).nums.getD k 0 = (ofM (D.pg t) (lOf D)).nums.getD k 0
      rw [hlo2, hlo, ofM_nums (r := E.pg t) (z := D.pg t) fun k h1 h2 => p4 k (by omega) (by omega)]
    have hfull : rk (E.pg t) 0 = recM (laidM 1 0 (g + 1)) → (pI E t).head = g + 1 := by
      intro c
      rw [head_of E t (by omega), c, hrec, if_pos rfl]
    refine ⟨E, e2, p1, d2.trans p2, fun y => (p3 y).trans (d3 y), ?_, fun h => hfull (p6 h), ?_⟩
    · rcases p5 with c | c | c
      · left; rw [head_of E t (by omega), if_neg (by omega)]
      · left; rw [head_of E t (by omega), if_neg (by omega)]
      · right; exact ⟨hfull c, fun k hk => by rw [hnum]; exact d8 rfl k (by omega)⟩
    · intro k k1 k2
      rw [p4 k (by omega) (by omega)]
      exact d7 k (by omega) k2
  · rw [if_pos he]
    refine ⟨D, e, rfl, d2.more (by omega), d3, Or.inl ?_, fun y => absurd y he, fun k k1 k2 => d7 k (by omega) k2⟩
    rw [head_of D t (by omega), if_neg (by omega)]
/-- What a turn leaves. -/
structure Turned (u : Bool) (C D : Cm) (t : Nat) (nums : List Int) (e : Int) : Prop where
  part : Part u C D t (C.cfg.slots.toNat + 3) e
  ero : ∀ y, y ≠ t → D.er y = C.er y
  ert : D.er t = C.er t ∨ (D.er t = C.er t + 1 ∧ C.er t < C.cfg.erases)
  erb : (pI C t).blank = true → D.er t = C.er t
  ern : (pI C t).blank = false → D.er t = C.er t + 1
  head : (pI D t).head = 0 ∨ (pI D t).head = (pI C t).head ∨ ((pI D t).head = (infoM C).head + 1 ∧ ∀ k : Nat, (k : Int) ≤ C.cfg.slots → nof D t k = nums.getD k 0)
  headf : e = 0 → (pI D t).head = (infoM C).head + 1 ∧ ∀ k : Nat, (k : Int) ≤ C.cfg.slots → nof D t k = nums.getD k 0
  free : e = 0 → ∀ k : Nat, C.cfg.slots.toNat + 2 ≤ k → k < lOf C → (rk (D.pg t) k).1 = 0
theorem turn_law {C : Cm} {slot : Nat} {n : Int} (ok : C.ok) (ho : C.out = false) (snd : sndU u C) (hs : (slot : Int) ≤ C.cfg.slots) (hn1 : 1 ≤ n) (hn2 : n ≤ most) (hw : wornF C = false) :
    ∃ D e, turnL C slot n = (D, e) ∧ Turned u C D (tgtM C) ((infoM C).nums.set slot n) e := by
  have ht := tgt_lt C
  have iok := infoM_ok ok
  have ilen := infoM_len C
  have hmay := ok.may.slots
  have hcells := ok.may.cells
  unfold wornF at hw
  rw [Bool.or_eq_false_iff, decide_eq_false_iff_not] at hw
  obtain ⟨w1, w2⟩ := hw
  unfold turnL
  obtain ⟨t, htd⟩ : ∃ t, t = tgtM C := ⟨_, rfl⟩
  rw [← htd] at ht w1 ⊢
  have hnl : ((infoM C).nums.set slot n).length = 9 := by rw [List.length_set, ilen]
  have hnb : ∀ x, 0 ≤ ((infoM C).nums.set slot n).getD x 0 ∧ ((infoM C).nums.set slot n).getD x 0 ≤ most := by
    intro x
    rw [set_getD]
    split
    · omega
    · exact iok.nums x
  generalize (infoM C).nums.set slot n = nums at *
  obtain ⟨m, hm⟩ : ∃ m, m = (C.cfg.slots + 1).toNat := ⟨_, rfl⟩
  have hl : lOf C = C.cfg.cells.toNat := rfl
  rw [← hm]
  by_cases g : (pI C t).blank = true
  · rw [if_pos g]
    have gz : (ofM (C.pg t) (lOf C)).next = 0 := by
      have : decide ((ofM (C.pg t) (lOf C)).next = 0) = true := g
      exact of_decide_eq_true this
    obtain ⟨D, e, d1, d2, d3, d4, d5, d6⟩ := turnA_law ht hnl hnb ok ho snd (m := m) (g := (infoM C).head) (by omega) (by omega) iok.head.1 (by omega) (fun k hk => ofM_next (by omega) k (by omega) hk)
    refine ⟨D, e, d1, d2.more (by omega), fun y _ => d3 y, Or.inl (d3 t), fun _ => d3 t, fun y => absurd (y.symm.trans g) (by decide), ?_, ?_, fun _ k k1 k2 => d6 k (by omega) k2⟩
    · rcases d4 with c | ⟨c, c2⟩
      · exact Or.inl c
      · exact Or.inr (Or.inr ⟨c, fun k hk => c2 k (by omega)⟩)
    · intro h
      have := d5 h
      rcases d4 with c | ⟨c, c2⟩
      · have := iok.head.1; omega
      · exact ⟨c, fun k hk => c2 k (by omega)⟩
  · have g' : (pI C t).blank = false := by simpa using g
    rw [if_neg g]
    have hwe : C.er t < C.cfg.erases := by
      rw [g'] at w1
      simpa using w1
    obtain ⟨D, h1, h2, h3, h4, h5, h6, h7, h8, h9, h10, h11⟩ := erase_stp ok ho ht hwe snd
    have hpart : Part u C D t 1 (errM C) := by
      refine ⟨h2, h3, h7, h8, ?_, ?_, ?_, ?_, errM_un snd⟩
      · rcases errM_cases C with ⟨e, _⟩ | ⟨e, _⟩
        · exact Or.inl e
        · exact Or.inr e
      · intro e
        rcases errM_cases C with ⟨_, c⟩ | ⟨e', _⟩
        · exact (h10 c).1
        · rw [e'] at e; exact absurd e (by decide)
      · intro e
        rcases errM_cases C with ⟨e', _⟩ | ⟨_, c⟩
        · rw [e'] at e; exact absurd e (by decide)
        · exact h11 c
      · intro a b
        rw [h6, w64_id (by omega) (by omega)]; omega
    have hlo : lOf D = lOf C := by show D.cfg.cells.toNat = _; rw [h3]
    rw [h1]
    rcases errM_cases C with ⟨e', hl0⟩ | ⟨e', hl0⟩
    · rw [e'] at hpart ⊢
      rw [if_neg (by simp)]
      obtain ⟨E, e, d1, d2, d3, d4, d5, d6⟩ := turnA_law ht hnl hnb h2 (hpart.out0 rfl) hpart.snd (m := m) (g := (infoM C).head) (by omega) (by omega) iok.head.1 (by omega) (fun k hk => (h10 hl0).2 k (by rw [hlo] at hk; exact hk))
      refine ⟨E, e, d1, (hpart.trans d2).more (by omega), fun y hy => (d3 y).trans (h5 y hy), Or.inr ⟨(d3 t).trans h4, hwe⟩, fun y => absurd y g, fun _ => (d3 t).trans h4, ?_, ?_, fun _ k k1 k2 => d6 k (by omega) (by omega)⟩
      · rcases d4 with c | ⟨c, c2⟩
        · exact Or.inl c
        · exact Or.inr (Or.inr ⟨c, fun k hk => c2 k (by omega)⟩)
      · intro h
        have := d5 h
        rcases d4 with c | ⟨c, c2⟩
        · have := iok.head.1; omega
        · exact ⟨c, fun k hk => c2 k (by omega)⟩
    · rw [e'] at hpart ⊢
      rw [if_pos (by simp)]
      refine ⟨D, 8, rfl, hpart.more (by omega), h5, Or.inr ⟨h4, hwe⟩, fun y => absurd y g, fun _ => h4, ?_, fun y => absurd y (by decide), fun y => absurd y (by decide)⟩
      rw [head_of D t (by omega), head_of C t (by omega)]
      rcases h9 0 (by omega) with c | c | c
      · left; rw [if_neg (by omega)]
      · left; rw [if_neg (by omega)]
      · right; left; rw [c]
end
end Go.Proofs.Yteabcbpimjjdpaa
end

/- The log's laws, plain: what a lay leaves of the numbers. Own work. -/
section
set_option maxRecDepth 100000
set_option linter.unusedVariables false
namespace Go.Proofs.Yteabcbpimjjdpaa
open Go Go.Vc
section
variable {u : Bool}

theorem pI_eq {C D : Cm} (hc : D.cfg = C.cfg) {y : Nat} (h : D.pg y = C.pg y) : pI D y = pI C y := by unfold pI; rw [hc, h]
theorem tgt_cases (C : Cm) : (tgtM C = 1 ∧ presM C = 0) ∨ (tgtM C = 0 ∧ presM C = 1) ∨ (tgtM C = 0 ∧ presM C = -1) := by
  unfold tgtM
  rcases presM_cases C with h | h | h <;> simp [h]
theorem same_info {C D : Cm} (hc : D.cfg = C.cfg) (hp : ∀ y, y ≠ tgtM C → D.pg y = C.pg y) (hh : (pI D (tgtM C)).head = 0 ∨ (pI D (tgtM C)).head = (pI C (tgtM C)).head) (h0 : 0 ≤ (pI C 0).head) (h1 : 0 ≤ (pI C 1).head) :
    presM D = presM C ∧ infoM D = infoM C := by
  have key : presM D = presM C := by
    rcases tgt_cases C with ⟨t, p⟩ | ⟨t, p⟩ | ⟨t, p⟩
    · rw [t] at hp hh
      have e := pI_eq hc (hp 0 (by omega))
      rw [p]
      unfold presM presH at p ⊢
      rw [e]
      generalize (pI D 1).head = x at *
      generalize (pI C 1).head = y at *
      generalize (pI C 0).head = z at *
      split at p
      · rw [if_pos (by omega)]
      · split at p <;> exact absurd p (by decide)
    · rw [t] at hp hh
      have e := pI_eq hc (hp 1 (by omega))
      rw [p]
      unfold presM presH at p ⊢
      rw [e]
      generalize (pI D 0).head = x at *
      generalize (pI C 1).head = y at *
      generalize (pI C 0).head = z at *
      split at p
      · exact absurd p (by decide)
      · split at p
        · rw [if_neg (by omega), if_pos (by omega)]
        · exact absurd p (by decide)
    · rw [t] at hp hh
      have e := pI_eq hc (hp 1 (by omega))
      rw [p]
      unfold presM presH at p ⊢
      rw [e]
      generalize (pI D 0).head = x at *
      generalize (pI C 1).head = y at *
      generalize (pI C 0).head = z at *
      split at p
      · exact absurd p (by decide)
      · split at p
        · exact absurd p (by decide)
        · rw [if_neg (by omega), if_neg (by omega)]
  refine ⟨key, ?_⟩
  unfold infoM
  rw [key]
  rcases tgt_cases C with ⟨t, p⟩ | ⟨t, p⟩ | ⟨t, p⟩
  · rw [p, if_neg (by decide), if_neg (by decide)]
    exact pI_eq hc (hp 0 (by omega))
  · rw [p, if_neg (by decide), if_neg (by decide)]
    exact pI_eq hc (hp 1 (by omega))
  · rw [p, if_pos (by decide), if_pos (by decide)]
theorem turned_info {C D : Cm} (hc : D.cfg = C.cfg) (hp : ∀ y, y ≠ tgtM C → D.pg y = C.pg y) (hh : (pI D (tgtM C)).head = (infoM C).head + 1) (h0 : 0 ≤ (pI C 0).head) (h1 : 0 ≤ (pI C 1).head) (h2 : 0 ≤ (infoM C).head) :
    presM D = (tgtM C : Int) ∧ infoM D = pI D (tgtM C) := by
  have key : presM D = (tgtM C : Int) := by
    rcases tgt_cases C with ⟨t, p⟩ | ⟨t, p⟩ | ⟨t, p⟩
    · rw [t] at hp hh ⊢
      have e := pI_eq hc (hp 0 (by omega))
      have ei : infoM C = pI C 0 := by unfold infoM; rw [p]; rfl
      rw [ei] at hh h2
      unfold presM presH
      rw [e, if_neg (by omega), if_pos (by omega)]; rfl
    · rw [t] at hp hh ⊢
      have e := pI_eq hc (hp 1 (by omega))
      have ei : infoM C = pI C 1 := by unfold infoM; rw [p]; rfl
      rw [ei] at hh h2
      unfold presM presH
      rw [e, if_pos (by omega)]; rfl
    · rw [t] at hp hh ⊢
      have e := pI_eq hc (hp 1 (by omega))
      unfold presM presH at p ⊢
      rw [e]
      split at p
      · exact absurd p (by decide)
      · split at p
        · exact absurd p (by decide)
        · rw [if_pos (by omega)]; rfl
  refine ⟨key, ?_⟩
  unfold infoM
  rw [key, if_neg (by omega), Int.toNat_natCast]
theorem head_eq (C : Cm) (t : Nat) : (pI C t).head = (ofM (C.pg t) (lOf C)).head := rfl
/-- What a lay leaves. -/
structure Laid (u : Bool) (C D : Cm) (slot : Nat) (n e : Int) : Prop where
  ok : D.ok
  cfg : D.cfg = C.cfg
  snd : sndU u D
  ec : e = 0 ∨ e = 8 ∨ e = 9
  e9 : e = 9 → D = C
  out0 : e = 0 → D.out = false
  other : ∀ k : Nat, (k : Int) ≤ C.cfg.slots → k ≠ slot → numOf D k = numOf C k
  me : numOf D slot = numOf C slot ∨ numOf D slot = n
  done : e = 0 → numOf D slot = n
theorem place_law {C : Cm} {slot : Nat} {n : Int} (ok : C.ok) (ho : C.out = false) (snd : sndU u C) (hs : (slot : Int) ≤ C.cfg.slots) (hn1 : 1 ≤ n) (hn2 : n ≤ most) (hv : numOf C slot < n) (hp : 0 ≤ presM C) (hx : (infoM C).next < C.cfg.cells) :
    ∃ D e, programM C (presM C) (infoM C).next (valueM (slot : Int) n).1 = (D, e) ∧ Laid u C D slot n e ∧ Part u C D (presM C).toNat 1 e ∧ (∀ x, D.er x = C.er x) ∧ (0 ≤ C.acts → C.acts < 2 ^ 60 → D.acts = C.acts + 1) ∧ presM D = presM C ∧
      (∀ k : Nat, (infoM C).next + 1 ≤ (k : Int) → k < lOf C → (rk (D.pg (presM C).toNat) k).1 = 0) ∧ (infoM D).head = (infoM C).head ∧ (∀ k : Nat, (k : Int) = (infoM C).next → e = 0 → (rk (D.pg (presM C).toNat) k).1 ≠ 0) := by
  have hms := ok.may.slots
  have hcells := ok.may.cells
  obtain ⟨t, ht⟩ : ∃ t : Nat, presM C = (t : Int) := Int.eq_ofNat_of_zero_le hp
  have ht2 : t < 2 := by have := presM_cases C; omega
  have ei : infoM C = pI C t := by unfold infoM; rw [if_neg (by omega), ht, Int.toNat_natCast]
  have iok := pI_ok ok t
  have hh : 0 < (pI C t).head := by
    have : presM C = t := ht
    unfold presM presH at this
    have h2 : t = 0 ∨ t = 1 := by omega
    rcases h2 with rfl | rfl
    · split at this
      · omega
      · split at this <;> exact absurd this (by decide)
    · split at this
      · exact absurd this (by decide)
      · split at this
        · omega
        · exact absurd this (by decide)
  have hnx1 : 1 ≤ (pI C t).next := by
    have hb := ofM_blank (C.pg t) (lOf C) (by show C.cfg.cells.toNat < _; omega)
    rcases Int.lt_or_le 0 (pI C t).next with h | h
    · omega
    · have := iok.next.1
      have e : (ofM (C.pg t) (lOf C)).next = 0 := by show (pI C t).next = 0; omega
      have : ofM (C.pg t) (lOf C) = inf0 := hb.1 e
      rw [head_eq, this] at hh
      exact absurd hh (by decide)
  rw [ei, ht]
  rw [ei] at hx
  obtain ⟨q, hq⟩ : ∃ q : Nat, (pI C t).next = (q : Int) := Int.eq_ofNat_of_zero_le (by omega)
  rw [hq] at hx hnx1 ⊢
  have hql : q < lOf C := by show q < C.cfg.cells.toNat; omega
  have hbl : ∀ k : Nat, q ≤ k → k < lOf C → (rk (C.pg t) k).1 = 0 := fun k k1 k2 => ofM_next (r := C.pg t) (n := lOf C) (by show C.cfg.cells.toNat < _; omega) k (by show (pI C t).next ≤ _; omega) k2
  rw [value_laid (by omega) hn1 hn2, Int.toNat_natCast]
  obtain ⟨D, e, p1, p2, p3, p4, p5, p6, p7⟩ := prog_part ok ho ht2 hql (kind := 2) (slot := (slot : Int)) (n := n) ⟨by decide, by decide⟩ snd (hbl q (by omega) hql)
  have hlo : lOf D = lOf C := by show D.cfg.cells.toNat = _; rw [p2.cfg]
  have hv' : (ofM (C.pg t) (lOf C)).nums.getD slot 0 < n := by
    have : numOf C slot = (ofM (C.pg t) (lOf C)).nums.getD slot 0 := by show (infoM C).nums.getD slot 0 = _; rw [ei]; rfl
    omega
  obtain ⟨q1, q2, q3⟩ := put_nums (r := C.pg t) (z := D.pg t) hql (by omega) p4 hbl (x := slot) (by omega) hn1 hn2 hv' p5
  have hhd : (pI D t).head = (pI C t).head := by rw [head_eq, head_eq, hlo]; exact q3
  have hpr : presM D = presM C := by
    unfold presM
    have h2 : t = 0 ∨ t = 1 := by omega
    rcases h2 with rfl | rfl
    · rw [hhd, pI_eq p2.cfg (p2.pgs 1 (by omega))]
    · rw [hhd, pI_eq p2.cfg (p2.pgs 0 (by omega))]
  have eiD : infoM D = pI D t := by unfold infoM; rw [hpr, if_neg (by omega), ht, Int.toNat_natCast]
  have nC : ∀ k, numOf C k = (ofM (C.pg t) (lOf C)).nums.getD k 0 := fun k => by show (infoM C).nums.getD k 0 = _; rw [ei]; rfl
  have nD : ∀ k, numOf D k = (ofM (D.pg t) (lOf C)).nums.getD k 0 := fun k => by show (infoM D).nums.getD k 0 = _; rw [eiD, ← hlo]; rfl
  have hset : ∀ k, ((ofM (C.pg t) (lOf C)).nums.set slot n).getD k 0 = if slot = k ∧ k < 9 then n else (ofM (C.pg t) (lOf C)).nums.getD k 0 := fun k => by rw [set_getD, ofM_len]
  refine ⟨D, e, p1, ⟨p2.ok, p2.cfg, p2.snd, ?_, ?_, p2.out0, ?_, ?_, ?_⟩, p2, p3, p7, hpr.trans ht, ?_, by rw [eiD]; exact hhd, ?_⟩
  · rcases p2.ec with h | h
    · exact Or.inl h
    · exact Or.inr (Or.inl h)
  · intro h
    have := p2.ec
    omega
  · intro k hk hne
    rw [nC, nD]
    rcases q1 with h | h
    · rw [h]
    · rw [h, hset, if_neg (fun y => hne y.1.symm)]
  · rw [nC, nD]
    rcases q1 with h | h
    · left; rw [h]
    · right; rw [h, hset, if_pos ⟨rfl, by omega⟩]
  · intro h
    rw [nD, q2 (p6 h), hset, if_pos ⟨rfl, by omega⟩]
  · intro k k1 k2
    rw [p4 k k2 (by omega)]
    exact hbl k (by omega) k2
  · intro k k1 he
    have : k = q := by omega
    rw [this, p6 he, rec_value (by omega) (by omega) hn1 hn2]
    exact fun y => absurd (show (2 : Int) = 0 from y) (by decide)
theorem lay_law {C : Cm} {slot : Nat} {n : Int} (ok : C.ok) (ho : C.out = false) (snd : sndU u C) (hs : (slot : Int) ≤ C.cfg.slots) (hn1 : 1 ≤ n) (hn2 : n ≤ most) (hv : numOf C slot < n) :
    ∃ D e, layL C (slot : Int) n = (D, e) ∧ Laid u C D slot n e := by
  unfold layL
  rw [if_neg (by simp [ho]), if_neg (fun y => y ⟨by omega, hs, hn1, hn2⟩), Int.toNat_natCast, if_neg (by unfold numOf at hv; omega)]
  by_cases g : 0 ≤ presM C ∧ (infoM C).next < C.cfg.cells
  · rw [if_pos g]
    obtain ⟨D, e, d1, d2, _⟩ := place_law ok ho snd hs hn1 hn2 hv g.1 g.2
    exact ⟨D, e, d1, d2⟩
  rw [if_neg g]
  by_cases gw : wornF C = true
  · rw [if_pos gw]
    exact ⟨C, 9, rfl, ok, rfl, snd, Or.inr (Or.inr rfl), fun _ => rfl, fun y => absurd y (by decide), fun _ _ _ => rfl, Or.inl rfl, fun y => absurd y (by decide)⟩
  rw [if_neg gw]
  obtain ⟨D, e, d1, d2⟩ := turn_law ok ho snd hs hn1 hn2 (by simpa using gw)
  have hms := ok.may.slots
  have h0 := (pI_ok ok 0).head.1
  have h1 := (pI_ok ok 1).head.1
  have h2 := (infoM_ok ok).head.1
  have ilen := infoM_len C
  have set9 : ∀ k, ((infoM C).nums.set slot n).getD k 0 = if slot = k ∧ k < 9 then n else numOf C k := fun k => by rw [set_getD, ilen]
  have turned : ((pI D (tgtM C)).head = (infoM C).head + 1 ∧ ∀ k : Nat, (k : Int) ≤ C.cfg.slots → nof D (tgtM C) k = ((infoM C).nums.set slot n).getD k 0) → (∀ k : Nat, (k : Int) ≤ C.cfg.slots → k ≠ slot → numOf D k = numOf C k) ∧ numOf D slot = n := by
    rintro ⟨y1, y2⟩
    obtain ⟨_, ei⟩ := turned_info d2.part.cfg d2.part.pgs y1 h0 h1 h2
    have nD : ∀ k, numOf D k = nof D (tgtM C) k := fun k => by show (infoM D).nums.getD k 0 = _; rw [ei]
    refine ⟨fun k hk hne => ?_, ?_⟩
    · rw [nD, y2 k hk, set9, if_neg (fun y => hne y.1.symm)]
    · rw [nD, y2 slot hs, set9, if_pos ⟨rfl, by omega⟩]
  have keep : ((pI D (tgtM C)).head = 0 ∨ (pI D (tgtM C)).head = (pI C (tgtM C)).head) → ∀ k, numOf D k = numOf C k := by
    intro y k
    obtain ⟨_, ei⟩ := same_info d2.part.cfg d2.part.pgs y h0 h1
    show (infoM D).nums.getD k 0 = _
    rw [ei]
  refine ⟨D, e, d1, d2.part.ok, d2.part.cfg, d2.part.snd, ?_, ?_, d2.part.out0, ?_, ?_, fun y => (turned (d2.headf y)).2⟩
  · rcases d2.part.ec with h | h
    · exact Or.inl h
    · exact Or.inr (Or.inl h)
  · intro h
    have := d2.part.ec
    omega
  · intro k hk hne
    rcases d2.head with h | h | h
    · exact keep (Or.inl h) k
    · exact keep (Or.inr h) k
    · exact (turned h).1 k hk hne
  · rcases d2.head with h | h | h
    · exact Or.inl (keep (Or.inl h) slot)
    · exact Or.inl (keep (Or.inr h) slot)
    · exact Or.inr (turned h).2
end
end Go.Proofs.Yteabcbpimjjdpaa
end

/- The store: contracts of the program's. Own work. -/
section
set_option maxRecDepth 100000
set_option linter.unusedVariables false
namespace Go.Proofs.Yteabcbpimjjdpaa
open Go Go.Vc

abbrev storeE (s p r : Nat) : Ent := blk s [.pointer (some ⟨p, 0, none⟩), .pointer (some ⟨r, 0, none⟩)]
section
variable {h0 h : H} {A : List Ent} {i j p r b s m : Nat} {C : Cm}
end
end Go.Proofs.Yteabcbpimjjdpaa
end

/- StoreDoes: the world and its steps. Own work. -/
section
set_option maxRecDepth 100000
set_option linter.unusedVariables false
namespace Go.Proofs.Yteabcbpimjjdpaa
open Go Go.Vc

abbrev wld (w px pr : Nat) (x : Value) : Ent := blk w [.pointer (some ⟨px, 0, none⟩), x, .pointer (some ⟨pr, 0, none⟩)]
abbrev wld2 (w px pr s l : Nat) (C : Cm) (B : List Ent) : List Ent := wld w px pr (.pointer (some ⟨s, 0, none⟩)) :: storeE s px l :: logE l px :: chipE px C :: refE pr C :: B
def Wst (h0 : H) (w px pr : Nat) (C : Cm) (B : List Ent) (h : H) : Prop :=
  Sat h0 (wld w px pr (.pointer none) :: chipE px C :: refE pr C :: B) h ∨ ∃ s l, Sat h0 (wld2 w px pr s l C B) h
/-- A call of a script. -/
structure OpE where
  kind : Int
  n : Int
  v : Int
  mask : List Int
structure OpE.ok (s : OpE) : Prop where
  n : s.n < 2 ^ 63
  mb : bytesOk s.mask
  ml : s.mask.length + 4096 ≤ 2 ^ 47
section
variable {h0 h : H} {A B : List Ent} {i j p r b w px pr s m : Nat} {C : Cm}
theorem Wst.any (W : Wst h0 w px pr C B h) : ∃ x, Sat h0 (wld w px pr x :: chipE px C :: refE pr C :: B) h := by
  rcases W with hs | ⟨s, l, hs⟩
  · exact ⟨_, hs⟩
  · exact ⟨_, hs.sub (by (repeat (first | exact List.Sublist.refl _ | apply List.Sublist.cons_cons | apply List.Sublist.cons)))⟩
end
end Go.Proofs.Yteabcbpimjjdpaa
end

/- StoreDoes: how it begins; scripts. Own work. -/
section
set_option maxRecDepth 100000
set_option linter.unusedVariables false
namespace Go.Proofs.Yteabcbpimjjdpaa
open Go Go.Vc

section
variable {h0 h : H} {A : List Ent}
end
structure ScriptO (h : H) (p : Option Addr) (l : Nat) (sc : List OpE) : Prop where
  len : sc.length = l
  lt : l < 2 ^ 50
  at_ : ∀ i (hi : i < sc.length), ∃ q mp ml mc, p = some q ∧ hc h (q.add (i * 4)) = some (.int .i64 sc[i].kind) ∧ hc h ((q.add (i * 4)).add 1) = some (.int .i64 sc[i].n) ∧ hc h ((q.add (i * 4)).add 2) = some (.int .i64 sc[i].v) ∧
    hc h ((q.add (i * 4)).add 3) = some (.slice mp ml mc) ∧ hsv h mp 1 ml (ints .u8 sc[i].mask) ∧ sc[i].ok
end Go.Proofs.Yteabcbpimjjdpaa
end

/- How scripts over a log came in. Own work. -/
section
set_option maxRecDepth 100000
set_option linter.unusedVariables false
namespace Go.Proofs.Yteabcbpimjjdpaa
open Go Go.Vc Go.ChangeShapes Go.WideShapes Go.ChangeAt Go.RowKit

theorem xOpW : xsh PP 8 64 = some [.int .i64, .int .i64, .int .i64, .slc 5] := by kernel_rfl
theorem scriptW_of {D : Type} {enc : TypeId × Value → D} {W : World} {p : Option Addr} {l c : Nat} (h : Sli enc PP W 64 p l c) : ∃ sc : List OpE, ScriptO W.heap p l sc := by
  have hb : Try.prog.bytesOf 64 = 48 := by kernel_rfl
  have hc : Try.prog.cellsOf 64 = 4 := by kernel_rfl
  obtain ⟨ess, h1, h2, _, h4⟩ := h.els xOpW
  have hlc := h.1
  have hr := h.2.1
  rw [hb] at hr
  unfold reachBytes at hr
  have key : ∀ es, es ∈ ess → ∃ (s : OpE) (mp : Option Addr) (ml mc : Nat), s.ok ∧ es = [.int .i64 s.kind, .int .i64 s.n, .int .i64 s.v, .slice mp ml mc] ∧ hsv W.heap mp 1 ml (ints .u8 s.mask) := by
    intro es hes
    obtain ⟨k, _, rfl, _, a, _, rfl, ha, b, _, rfl, hb, mp, ml, mc, _, rfl, hm, hr⟩ := (h2 es hes).2
    simp only [XM] at hr
    subst hr
    obtain ⟨ms, m1, m2, m3⟩ := bytes_of hm
    exact ⟨⟨k, a, b, ms⟩, mp, ml, mc, ⟨(has_i64 ha).2, m2, m3⟩, rfl, m1⟩
  have key2 : ∀ ess : List (List Value), (∀ es, es ∈ ess → ∃ (s : OpE) (mp : Option Addr) (ml mc : Nat), s.ok ∧ es = [.int .i64 s.kind, .int .i64 s.n, .int .i64 s.v, .slice mp ml mc] ∧ hsv W.heap mp 1 ml (ints .u8 s.mask)) →
      ∃ sc : List OpE, sc.length = ess.length ∧ ∀ i (hi : i < sc.length) (hi2 : i < ess.length), ∃ (mp : Option Addr) (ml mc : Nat), sc[i].ok ∧ ess[i] = [.int .i64 sc[i].kind, .int .i64 sc[i].n, .int .i64 sc[i].v, .slice mp ml mc] ∧ hsv W.heap mp 1 ml (ints .u8 sc[i].mask) := by
    intro ess
    induction ess with
    | nil => intro _; exact ⟨[], rfl, fun i hi => by simp at hi⟩
    | cons y r ih =>
      intro h
      obtain ⟨sc, e1, e2⟩ := ih fun es hes => h es (by simp [hes])
      obtain ⟨s, hs⟩ := h y (by simp)
      refine ⟨s :: sc, by simp [e1], ?_⟩
      intro i hi hi2
      cases i with
      | zero => exact hs
      | succ i => exact e2 i (by simpa using hi) (by simpa using hi2)
  obtain ⟨sc, e1, e2⟩ := key2 ess key
  refine ⟨sc, by omega, by omega, ?_⟩
  intro i hi
  obtain ⟨mp, ml, mc, ok, e3, e4⟩ := e2 i hi (by omega)
  obtain ⟨q, hq, hc2⟩ := h4 i (by omega)
  rw [hc, e3] at hc2
  refine ⟨q, mp, ml, mc, hq, ?_, hc2 1 _ rfl, hc2 2 _ rfl, hc2 3 _ rfl, e4, ok⟩
  have := hc2 0 _ rfl; simpa [Addr.add] using this
end Go.Proofs.Yteabcbpimjjdpaa
end

/- The log's laws, plain: how lays wear the pages. Own work. -/
section
set_option maxRecDepth 100000
set_option linter.unusedVariables false
namespace Go.Proofs.Yteabcbpimjjdpaa
open Go Go.Vc

def bet (C : Cm) (t : Nat) : Int := if (pI C t).blank = true then 1 else 0
def kap (C : Cm) : Int := if presM C = 0 then 1 else 0
structure Wear (C : Cm) (cuts : Int) : Prop where
  inv : ∃ x y : Int, 0 ≤ x ∧ 0 ≤ y ∧ x + y ≤ cuts ∧ C.er 0 - C.er 1 = kap C + (bet C 0 - bet C 1) + (x - y)
  e0 : 0 ≤ C.er 0 ∧ C.er 0 ≤ C.cfg.erases
  e1 : 0 ≤ C.er 1 ∧ C.er 1 ≤ C.cfg.erases
theorem bet_cases (C : Cm) (t : Nat) : (bet C t = 0 ∧ (pI C t).blank = false) ∨ (bet C t = 1 ∧ (pI C t).blank = true) := by
  unfold bet
  by_cases g : (pI C t).blank = true
  · rw [if_pos g]; exact Or.inr ⟨rfl, g⟩
  · rw [if_neg g]; exact Or.inl ⟨rfl, by simpa using g⟩
theorem bet_head {C : Cm} (ok : C.ok) {t : Nat} (h : 0 < (pI C t).head) : bet C t = 0 := by
  have hm := ok.may.cells
  rcases bet_cases C t with g | ⟨_, g⟩
  · exact g.1
  · have : decide ((ofM (C.pg t) (lOf C)).next = 0) = true := g
    have e := (ofM_blank (C.pg t) (lOf C) (by show C.cfg.cells.toNat < _; omega)).1 (of_decide_eq_true this)
    rw [head_eq, e] at h
    exact absurd h (by decide)
theorem bet_eq {C D : Cm} (hc : D.cfg = C.cfg) {y : Nat} (h : D.pg y = C.pg y) : bet D y = bet C y := by unfold bet; rw [pI_eq hc h]
theorem pres_head {C : Cm} {t : Nat} (h : presM C = (t : Int)) : 0 < (pI C t).head := by
  have h2 : t = 0 ∨ t = 1 := by have := presM_cases C; omega
  unfold presM presH at h
  rcases h2 with rfl | rfl
  · split at h
    · omega
    · split at h <;> exact absurd h (by decide)
  · split at h
    · exact absurd h (by decide)
    · split at h
      · omega
      · exact absurd h (by decide)
theorem lay_wear {u : Bool} {C : Cm} {slot : Nat} {n cuts : Int} (ok : C.ok) (ho : C.out = false) (snd : sndU u C) (hs : (slot : Int) ≤ C.cfg.slots) (hn1 : 1 ≤ n) (hn2 : n ≤ most) (hv : numOf C slot < n) (w : Wear C cuts) (a0 : 0 ≤ C.acts) (a1 : C.acts < 2 ^ 59) :
    ∃ D e, layL C (slot : Int) n = (D, e) ∧ Laid u C D slot n e ∧ Wear D (if e = 8 then cuts + 1 else cuts) ∧ (0 < freeT C → D.acts = C.acts + 1 ∧ e ≠ 9) ∧ C.acts ≤ D.acts ∧ D.acts ≤ C.acts + C.cfg.slots + 3 := by
  obtain ⟨D, e, hL, L⟩ := lay_law ok ho snd hs hn1 hn2 hv
  have hms := ok.may.slots
  obtain ⟨⟨x, y, x0, y0, xy, eq⟩, w0, w1⟩ := w
  refine ⟨D, e, hL, L, ?_⟩
  unfold layL at hL
  rw [if_neg (by simp [ho]), if_neg (fun y => y ⟨by omega, hs, hn1, hn2⟩), Int.toNat_natCast, if_neg (by unfold numOf at hv; omega)] at hL
  by_cases g : 0 ≤ presM C ∧ (infoM C).next < C.cfg.cells
  · rw [if_pos g] at hL
    obtain ⟨D', e', d1, d2, d3, d4, d5, d6, _⟩ := place_law ok ho snd hs hn1 hn2 hv g.1 g.2
    rw [d1] at hL
    injection hL with hD he
    subst hD he
    have ha := d5 a0 (by omega)
    have e9 : e' ≠ 9 := by have := d3.ec; omega
    refine ⟨⟨⟨x, y, x0, y0, by split <;> omega, ?_⟩, by rw [d4, d2.cfg]; exact w0, by rw [d4, d2.cfg]; exact w1⟩, fun _ => ⟨ha, e9⟩, by omega, by omega⟩
    rw [d4, d4, eq]
    have ek : kap D' = kap C := by unfold kap; rw [d6]
    rw [ek]
    obtain ⟨t, ht⟩ : ∃ t : Nat, presM C = (t : Int) := Int.eq_ofNat_of_zero_le g.1
    have ht2 : t = 0 ∨ t = 1 := by have := presM_cases C; omega
    have b1 := bet_head ok (pres_head ht)
    have b2 := bet_head d2.ok (pres_head (d6.trans ht))
    rw [ht, Int.toNat_natCast] at d3
    rcases ht2 with rfl | rfl
    · rw [b1, b2, bet_eq d2.cfg (d3.pgs 1 (by omega))]
    · rw [b1, b2, bet_eq d2.cfg (d3.pgs 0 (by omega))]
  rw [if_neg g] at hL
  have hf : ¬ 0 < freeT C := by
    unfold freeT
    rw [if_neg (by simp [ho])]
    split
    · omega
    · intro z; exact g ⟨by omega, by omega⟩
  by_cases gw : wornF C = true
  · rw [if_pos gw] at hL
    injection hL with hD he
    subst hD he
    exact ⟨⟨⟨x, y, x0, y0, by rw [if_neg (by decide)]; exact xy, eq⟩, w0, w1⟩, fun z => absurd z hf, by omega, by omega⟩
  rw [if_neg gw] at hL
  obtain ⟨D', e', d1, d2⟩ := turn_law ok ho snd hs hn1 hn2 (by simpa using gw)
  rw [d1] at hL
  injection hL with hD he
  subst hD he
  have h0 := (pI_ok ok 0).head.1
  have h1 := (pI_ok ok 1).head.1
  have h2 := (infoM_ok ok).head.1
  have ha := d2.part.acts a0 (by omega)
  have hec := d2.part.ec
  have cuts' : cuts ≤ (if e' = 8 then cuts + 1 else cuts) := by split <;> omega
  -- a turn that went on to its end, or to its head
  have flip : (pI D' (tgtM C)).head = (infoM C).head + 1 → Wear D' (if e' = 8 then cuts + 1 else cuts) := by
    intro hh
    obtain ⟨ep, _⟩ := turned_info d2.part.cfg d2.part.pgs hh h0 h1 h2
    have bt := bet_head d2.part.ok (t := tgtM C) (by omega)
    have er1 := d2.ert
    have erb := d2.erb
    have ern := d2.ern
    have ero := d2.ero
    have pgs := d2.part.pgs
    have cfg := d2.part.cfg
    rcases tgt_cases C with ⟨t, pc⟩ | ⟨t, pc⟩ | ⟨t, pc⟩
    · rw [t] at ep bt er1 erb ern ero pgs
      have k1 : kap D' = 0 := by unfold kap; rw [ep]; rfl
      have k2 : kap C = 1 := by unfold kap; rw [pc]; rfl
      have b0 := bet_eq cfg (pgs 0 (by decide))
      have e0 := ero 0 (by decide)
      refine ⟨⟨x, y, x0, y0, by omega, ?_⟩, by rw [e0, cfg]; exact w0, by rw [cfg]; omega⟩
      rw [e0, b0, k1, bt]
      rcases bet_cases C 1 with ⟨c1, c2⟩ | ⟨c1, c2⟩
      · rw [ern c2]; omega
      · rw [erb c2]; omega
    · rw [t] at ep bt er1 erb ern ero pgs
      have k1 : kap D' = 1 := by unfold kap; rw [ep]; rfl
      have k2 : kap C = 0 := by unfold kap; rw [pc]; rfl
      have b0 := bet_eq cfg (pgs 1 (by decide))
      have e0 := ero 1 (by decide)
      refine ⟨⟨x, y, x0, y0, by omega, ?_⟩, by rw [cfg]; omega, by rw [e0, cfg]; exact w1⟩
      rw [e0, b0, k1, bt]
      rcases bet_cases C 0 with ⟨c1, c2⟩ | ⟨c1, c2⟩
      · rw [ern c2]; omega
      · rw [erb c2]; omega
    · rw [t] at ep bt er1 erb ern ero pgs
      have k1 : kap D' = 1 := by unfold kap; rw [ep]; rfl
      have k2 : kap C = 0 := by unfold kap; rw [pc]; rfl
      have b0 := bet_eq cfg (pgs 1 (by decide))
      have e0 := ero 1 (by decide)
      refine ⟨⟨x, y, x0, y0, by omega, ?_⟩, by rw [cfg]; omega, by rw [e0, cfg]; exact w1⟩
      rw [e0, b0, k1, bt]
      rcases bet_cases C 0 with ⟨c1, c2⟩ | ⟨c1, c2⟩
      · rw [ern c2]; omega
      · rw [erb c2]; omega
  have stay : e' = 8 → ((pI D' (tgtM C)).head = 0 ∨ (pI D' (tgtM C)).head = (pI C (tgtM C)).head) → Wear D' (if e' = 8 then cuts + 1 else cuts) := by
    intro h8 hh
    rw [if_pos h8]
    obtain ⟨ep, _⟩ := same_info d2.part.cfg d2.part.pgs hh h0 h1
    have ek : kap D' = kap C := by unfold kap; rw [ep]
    have er1 := d2.ert
    have erb := d2.erb
    have ern := d2.ern
    have ero := d2.ero
    have pgs := d2.part.pgs
    have cfg := d2.part.cfg
    have t2 : tgtM C = 0 ∨ tgtM C = 1 := by have := tgt_lt C; omega
    rcases t2 with t | t
    · rw [t] at er1 erb ern ero pgs
      have b0 := bet_eq cfg (pgs 1 (by decide))
      have e0 := ero 1 (by decide)
      have bD : bet D' 0 = 0 ∨ bet D' 0 = 1 := by rcases bet_cases D' 0 with z | z; exact Or.inl z.1; exact Or.inr z.1
      refine ⟨⟨x + 1 - bet D' 0, y, by omega, y0, by omega, ?_⟩, by rw [cfg]; omega, by rw [e0, cfg]; exact w1⟩
      rw [e0, b0, ek]
      rcases bet_cases C 0 with ⟨c1, c2⟩ | ⟨c1, c2⟩
      · rw [ern c2]; omega
      · rw [erb c2]; omega
    · rw [t] at er1 erb ern ero pgs
      have b0 := bet_eq cfg (pgs 0 (by decide))
      have e0 := ero 0 (by decide)
      have bD : bet D' 1 = 0 ∨ bet D' 1 = 1 := by rcases bet_cases D' 1 with z | z; exact Or.inl z.1; exact Or.inr z.1
      refine ⟨⟨x, y + 1 - bet D' 1, x0, by omega, by omega, ?_⟩, by rw [e0, cfg]; exact w0, by rw [cfg]; omega⟩
      rw [e0, b0, ek]
      rcases bet_cases C 1 with ⟨c1, c2⟩ | ⟨c1, c2⟩
      · rw [ern c2]; omega
      · rw [erb c2]; omega
  refine ⟨?_, fun z => absurd z hf, ha.1, by omega⟩
  rcases d2.head with hh | hh | hh
  · refine stay ?_ (Or.inl hh)
    rcases hec with z | z
    · have := (d2.headf z).1; omega
    · exact z
  · rcases hec with z | z
    · exact flip (d2.headf z).1
    · exact stay z (Or.inr hh)
  · exact flip hh.1
theorem blank_cells {C : Cm} {t : Nat} (h : ∀ k, k < lOf C → (rk (C.pg t) k).1 = 0) : pI C t = { inf0 with blank := true } := by
  unfold pI pageI
  have : ofM (C.pg t) C.cfg.cells.toNat = inf0 := blank_inf h
  rw [this]; rfl
end Go.Proofs.Yteabcbpimjjdpaa
end

/- The log's laws, plain: what a lay costs of what a chip may bear. Own work. -/
section
set_option maxRecDepth 100000
set_option linter.unusedVariables false
namespace Go.Proofs.Yteabcbpimjjdpaa
open Go Go.Vc
section
variable {u : Bool}
def lpt (c : Cfg) : Int := c.cells - c.slots - 1
def rest (E e : Int) : Int := if 0 < E - e then E - e else 0
def avl (C : Cm) (t : Nat) : Int := rest C.cfg.erases (C.er t) + bet C t
def trnI (a b : Int) : Int := if b < a then 2 * b + 1 else 2 * a
def trn (C : Cm) : Int := trnI (avl C (tgtM C)) (avl C (1 - tgtM C))
def frn (C : Cm) : Int := if presM C < 0 then 0 else C.cfg.cells - (infoM C).next
theorem rest_nn (E e : Int) : 0 ≤ rest E e := by unfold rest; split <;> omega
theorem rest_succ {E e : Int} (h : e < E) : rest E (e + 1) = rest E e - 1 := by unfold rest; (repeat' split) <;> omega
theorem rest_zero {E e : Int} (h : E ≤ e) : rest E e = 0 := by unfold rest; rw [if_neg (by omega)]
theorem bet_nn (C : Cm) (t : Nat) : 0 ≤ bet C t ∧ bet C t ≤ 1 := by unfold bet; split <;> omega
theorem avl_nn (C : Cm) (t : Nat) : 0 ≤ avl C t := by have := rest_nn C.cfg.erases (C.er t); have := bet_nn C t; unfold avl; omega
theorem trnI_flip {a b : Int} (h : 1 ≤ a) : trnI b (a - 1) = trnI a b - 1 := by unfold trnI; (repeat' split) <;> omega
theorem trnI_stay {a c b : Int} (h : a - 1 ≤ c) : trnI a b ≤ trnI c b + 2 := by unfold trnI; (repeat' split) <;> omega
theorem frn_nn {C : Cm} (ok : C.ok) : 0 ≤ frn C := by
  have := (infoM_ok ok).next
  have := ok.may.cells
  have := ok.may.slots
  unfold frn; split <;> omega
theorem next_le {r : List Int} {m n : Nat} (hn : n < 2 ^ 60) (h : m ≤ n) (hz : ∀ k, m ≤ k → k < n → (rk r k).1 = 0) : (ofM r n).next ≤ m := by
  rw [ofM_tail h hz]
  exact (ofM_ok r m (by omega)).next.2
structure Cost (u : Bool) (C D : Cm) (e : Int) : Prop where
  e9 : e = 9 → frn C = 0 ∧ (trn C = 0 ∨ most ≤ (infoM C).head)
  put : e = 0 → 0 < frn C → frn D = frn C - 1 ∧ trn D = trn C ∧ (infoM D).head = (infoM C).head
  turn : e = 0 → frn C = 0 → trn D = trn C - 1 ∧ lpt C.cfg - 1 ≤ frn D ∧ frn D ≤ C.cfg.cells - 1 ∧ (infoM D).head = (infoM C).head + 1
  cut : e = 8 → (frn C ≤ frn D + 1 ∧ trn D = trn C ∧ 0 < frn C) ∨ (frn C = 0 ∧ trn C ≤ trn D + 2)
  gen : (infoM D).head = (infoM C).head ∨ (infoM D).head = (infoM C).head + 1
  far : ∀ x, 2 ≤ x → D.er x = C.er x
  out8 : e = 8 → D.out = true
  un : u = true → e ≠ 8
theorem lay_cost {C D : Cm} {slot : Nat} {n e : Int} (ok : C.ok) (ho : C.out = false) (snd : sndU u C) (hs : (slot : Int) ≤ C.cfg.slots) (hn1 : 1 ≤ n) (hn2 : n ≤ most) (hv : numOf C slot < n) (hL : layL C (slot : Int) n = (D, e)) :
    Cost u C D e := by
  have hms := ok.may.slots
  have hmc := ok.may.cells
  have hnx := (infoM_ok ok).next
  unfold layL at hL
  rw [if_neg (by simp [ho]), if_neg (fun y => y ⟨by omega, hs, hn1, hn2⟩), Int.toNat_natCast, if_neg (by unfold numOf at hv; omega)] at hL
  by_cases g : 0 ≤ presM C ∧ (infoM C).next < C.cfg.cells
  · rw [if_pos g] at hL
    obtain ⟨D', e', d1, d2, d3, d4, d5, d6, d7, d8, d9⟩ := place_law ok ho snd hs hn1 hn2 hv g.1 g.2
    rw [d1] at hL
    injection hL with hD he
    subst hD he
    have ec := d3.ec
    obtain ⟨t, ht⟩ : ∃ t : Nat, presM C = (t : Int) := Int.eq_ofNat_of_zero_le g.1
    have ht2 : t = 0 ∨ t = 1 := by have := presM_cases C; omega
    have eiD : infoM D' = pI D' t := by unfold infoM; rw [d6, if_neg (by omega), ht, Int.toNat_natCast]
    have b1 := bet_head ok (pres_head ht)
    have b2 := bet_head d2.ok (pres_head (d6.trans ht))
    have fC : frn C = C.cfg.cells - (infoM C).next := by unfold frn; rw [if_neg (by omega)]
    have fD : frn D' = C.cfg.cells - (infoM D').next := by unfold frn; rw [d6, if_neg (by omega), d2.cfg]
    have et : tgtM D' = tgtM C := by unfold tgtM; rw [d6]
    have eb : ∀ x, x < 2 → bet D' x = bet C x := by
      intro x hx
      by_cases c : x = t
      · rw [c, b1, b2]
      · rw [ht, Int.toNat_natCast] at d3
        exact bet_eq d2.cfg (d3.pgs x c)
    have ea : ∀ x, x < 2 → avl D' x = avl C x := by
      intro x hx
      unfold avl
      rw [eb x hx, d4, d2.cfg]
    have etr : trn D' = trn C := by
      unfold trn
      rw [et, ea _ (tgt_lt C), ea _ (by have := tgt_lt C; omega)]
    rw [ht, Int.toNat_natCast] at d7 d9
    have hlo : lOf D' = lOf C := by show D'.cfg.cells.toNat = _; rw [d2.cfg]
    have hlc : (lOf C : Int) = C.cfg.cells := by show (C.cfg.cells.toNat : Int) = _; omega
    obtain ⟨q, hq⟩ : ∃ q : Nat, (infoM C).next = (q : Int) := Int.eq_ofNat_of_zero_le (by omega)
    rw [hq] at d7 d9 fC g hnx
    have n1 : (infoM D').next ≤ ((q + 1 : Nat) : Int) := by
      rw [eiD]
      show (ofM (D'.pg t) (lOf D')).next ≤ _
      rw [hlo]
      exact next_le (by omega) (by omega) fun k k1 k2 => d7 k (by omega) k2
    have n2 : e' = 0 → (q : Int) < (infoM D').next := by
      intro h
      have := d9 q rfl h
      rcases Int.lt_or_le (q : Int) (infoM D').next with y | y
      · exact y
      · rw [eiD] at y
        have y' : (ofM (D'.pg t) (lOf D')).next ≤ (q : Int) := y
        rw [hlo] at y'
        exact absurd (ofM_next (by omega) q y' (by omega)) this
    push_cast at n1
    refine ⟨fun h => by omega, fun h _ => ⟨by have := n2 h; omega, etr, d8⟩, fun _ h => by omega, fun _ => Or.inl ⟨by omega, etr, by omega⟩, Or.inl d8, fun x _ => d4 x, d3.out8, fun h => by have := d3.un h; omega⟩
  rw [if_neg g] at hL
  have hf : frn C = 0 := by
    unfold frn
    split
    · rfl
    · have : ¬ (infoM C).next < C.cfg.cells := fun z => g ⟨by omega, z⟩
      omega
  by_cases gw : wornF C = true
  · rw [if_pos gw] at hL
    injection hL with hD he
    subst hD he
    refine ⟨fun _ => ⟨hf, ?_⟩, fun h => absurd h (by decide), fun h => absurd h (by decide), fun h => absurd h (by decide), Or.inl rfl, fun _ _ => rfl, fun h => absurd h (by decide), fun _ h => absurd h (by decide)⟩
    unfold wornF at gw
    rw [Bool.or_eq_true, Bool.and_eq_true, decide_eq_true_iff, decide_eq_true_iff] at gw
    rcases gw with ⟨g1, g2⟩ | g1
    · left
      have : avl C (tgtM C) = 0 := by
        unfold avl
        rw [rest_zero g2]
        rcases bet_cases C (tgtM C) with ⟨z, _⟩ | ⟨_, z⟩
        · rw [z]; rfl
        · rw [z] at g1; exact absurd g1 (by decide)
      unfold trn
      rw [this]
      have := avl_nn C (1 - tgtM C)
      unfold trnI
      rw [if_neg (by omega)]; rfl
    · exact Or.inr g1
  rw [if_neg gw] at hL
  obtain ⟨D', e', d1, d2⟩ := turn_law ok ho snd hs hn1 hn2 (by simpa using gw)
  rw [d1] at hL
  injection hL with hD he
  subst hD he
  have h0 := (pI_ok ok 0).head.1
  have h1 := (pI_ok ok 1).head.1
  have h2 := (infoM_ok ok).head.1
  have hec := d2.part.ec
  have cfg := d2.part.cfg
  have htl := tgt_lt C
  have far : ∀ x, 2 ≤ x → D'.er x = C.er x := fun x hx => d2.ero x (by omega)
  have hother : avl D' (1 - tgtM C) = avl C (1 - tgtM C) := by
    unfold avl
    rw [cfg, d2.ero _ (by omega), bet_eq cfg (d2.part.pgs _ (by omega))]
  have havl : avl D' (tgtM C) = avl C (tgtM C) - 1 + bet D' (tgtM C) ∧ 1 ≤ avl C (tgtM C) := by
    unfold avl
    rw [cfg]
    rcases bet_cases C (tgtM C) with ⟨c1, c2⟩ | ⟨c1, c2⟩
    · have e1 := d2.ern c2
      have e2 : C.er (tgtM C) < C.cfg.erases := by
        rcases d2.ert with y | y
        · omega
        · exact y.2
      have := rest_succ e2
      have := rest_nn C.cfg.erases (C.er (tgtM C) + 1)
      rw [e1, c1]; omega
    · have := rest_nn C.cfg.erases (C.er (tgtM C))
      rw [d2.erb c2, c1]; omega
  have flip : (pI D' (tgtM C)).head = (infoM C).head + 1 → trn D' = trn C - 1 ∧ presM D' = (tgtM C : Int) ∧ infoM D' = pI D' (tgtM C) := by
    intro hh
    obtain ⟨ep, ei⟩ := turned_info cfg d2.part.pgs hh h0 h1 h2
    have bt := bet_head d2.part.ok (t := tgtM C) (by omega)
    refine ⟨?_, ep, ei⟩
    have et : tgtM D' = 1 - tgtM C := by
      unfold tgtM at ep ⊢
      rw [ep]
      split <;> rfl
    unfold trn
    have e1 : 1 - (1 - tgtM C) = tgtM C := by omega
    rw [et, e1, hother, havl.1, bt]
    rw [show avl C (tgtM C) - 1 + 0 = avl C (tgtM C) - 1 by omega]
    exact trnI_flip havl.2
  have stay : ((pI D' (tgtM C)).head = 0 ∨ (pI D' (tgtM C)).head = (pI C (tgtM C)).head) → trn C ≤ trn D' + 2 ∧ (infoM D').head = (infoM C).head := by
    intro hh
    obtain ⟨ep, ei⟩ := same_info cfg d2.part.pgs hh h0 h1
    have et : tgtM D' = tgtM C := by unfold tgtM; rw [ep]
    refine ⟨?_, by rw [ei]⟩
    unfold trn
    rw [et, hother]
    exact trnI_stay (by have := bet_nn D' (tgtM C); omega)
  refine ⟨fun h => by omega, fun _ h => by omega, ?_, ?_, ?_, far, d2.part.out8, fun h => by have := d2.part.un h; omega⟩
  · intro h _
    obtain ⟨hh, _⟩ := d2.headf h
    obtain ⟨f1, f2, f3⟩ := flip hh
    have hlo : lOf D' = lOf C := by show D'.cfg.cells.toNat = _; rw [cfg]
    have hlc : (lOf C : Int) = C.cfg.cells := by show (C.cfg.cells.toNat : Int) = _; omega
    have fD : frn D' = C.cfg.cells - (infoM D').next := by unfold frn; rw [f2, if_neg (by omega), cfg]
    have n1 : (infoM D').next ≤ ((C.cfg.slots.toNat + 2 : Nat) : Int) := by
      rw [f3]
      show (ofM (D'.pg (tgtM C)) (lOf D')).next ≤ _
      rw [hlo]
      exact next_le (by omega) (by omega) fun k k1 k2 => d2.free h k k1 k2
    have n2 : 1 ≤ (infoM D').next := by
      have bt := bet_head d2.part.ok (t := tgtM C) (by omega)
      have := (pI_ok d2.part.ok (tgtM C)).next.1
      rw [f3]
      rcases bet_cases D' (tgtM C) with ⟨_, z⟩ | ⟨z, _⟩
      · have z' : decide ((ofM (D'.pg (tgtM C)) (lOf D')).next = 0) = false := z
        have z2 : ¬ (pI D' (tgtM C)).next = 0 := of_decide_eq_false z'
        omega
      · omega
    refine ⟨f1, by unfold lpt; omega, by omega, by rw [f3]; exact hh⟩
  · intro h
    refine Or.inr ⟨hf, ?_⟩
    rcases d2.head with y | y | y
    · exact (stay (Or.inl y)).1
    · exact (stay (Or.inr y)).1
    · have := (flip y.1).1; omega
  · rcases d2.head with y | y | y
    · exact Or.inl (stay (Or.inl y)).2
    · exact Or.inl (stay (Or.inr y)).2
    · right; rw [(flip y.1).2.2]; exact y.1
def phi (C : Cm) : Int := frn C + trn C * lpt C.cfg
theorem lay_phi {C D : Cm} {e : Int} (ok : C.ok) (okD : D.ok) (hc : D.cfg = C.cfg) (c : Cost u C D e) : (e = 0 → phi C ≤ phi D + 1) ∧ (e = 8 → phi C ≤ phi D + 2 * lpt C.cfg) ∧ (e = 9 → (infoM C).head < most → phi C = 0) := by
  have hl : 2 ≤ lpt C.cfg := by have := ok.may.cells; unfold lpt; omega
  have f0 := frn_nn ok
  have f1 := frn_nn okD
  unfold phi
  rw [hc]
  refine ⟨fun h => ?_, fun h => ?_, fun h hm => ?_⟩
  · by_cases g : 0 < frn C
    · obtain ⟨a, b, _⟩ := c.put h g
      rw [b]; omega
    · obtain ⟨a, b, _⟩ := c.turn h (by omega)
      rw [a, Int.sub_mul, Int.one_mul]; omega
  · rcases c.cut h with ⟨a, b, _⟩ | ⟨a, b⟩
    · rw [b]; omega
    · have := Int.mul_le_mul_of_nonneg_right b (show 0 ≤ lpt C.cfg by omega)
      rw [Int.add_mul] at this; omega
  · obtain ⟨a, b⟩ := c.e9 h
    have : trn C = 0 := by omega
    rw [this, Int.zero_mul]; omega
end
end Go.Proofs.Yteabcbpimjjdpaa
end

/- The log's laws: round, numbers, fixed; LogWhole. Own work. -/
section
set_option maxRecDepth 100000
set_option linter.unusedVariables false
namespace Go.Proofs.Yteabcbpimjjdpaa
open Go Go.Vc

def rndM (c n : Int) : Int := if c.tmod n < 0 then c.tmod n + n else c.tmod n
theorem rnd_in (c : Int) {n : Int} (hn : 1 ≤ n) : 0 ≤ rndM c n ∧ rndM c n < n := by
  have h2 := Int.tmod_lt_of_pos c (show 0 < n by omega)
  have h3 : -n < c.tmod n := by
    have := Int.tmod_lt_of_pos (-c) (show 0 < n by omega)
    rw [Int.neg_tmod] at this
    omega
  unfold rndM
  split <;> omega
section
variable {h0 h : H} {A : List Ent} {i j p r b : Nat} {C : Cm}
end

/-- A lay of a script. -/
structure LyE where
  slot : Int
  over : Int
  at_ : Int
  mask : List Int
structure LyE.ok (s : LyE) : Prop where
  at_ : s.at_ < 2 ^ 63
  mb : bytesOk s.mask
  ml : s.mask.length + 4096 ≤ 2 ^ 47
structure ScriptL (h : H) (p : Option Addr) (l : Nat) (sc : List LyE) : Prop where
  len : sc.length = l
  lt : l < 2 ^ 50
  at_ : ∀ i (hi : i < sc.length), ∃ q mp ml mc, p = some q ∧ hc h (q.add (i * 4)) = some (.int .i64 sc[i].slot) ∧ hc h ((q.add (i * 4)).add 1) = some (.int .i64 sc[i].over) ∧ hc h ((q.add (i * 4)).add 2) = some (.int .i64 sc[i].at_) ∧
    hc h ((q.add (i * 4)).add 3) = some (.slice mp ml mc) ∧ hsv h mp 1 ml (ints .u8 sc[i].mask) ∧ sc[i].ok
end Go.Proofs.Yteabcbpimjjdpaa
end

/- The log's laws: LogWears. Own work. -/
section
set_option maxRecDepth 100000
set_option linter.unusedVariables false
namespace Go.Proofs.Yteabcbpimjjdpaa
open Go Go.Vc

theorem fresh_row (c : Cfg) : blankRow c = List.replicate (c.cells.toNat * 32) 255 := by
  unfold blankRow blankCell
  rw [List.flatten_replicate_replicate]
theorem fresh_pg {c : Cfg} (hm : c.may) {t : Nat} (ht : t < 2) : (freshC c).pg t = blankRow c := by
  have h := hm.area
  have hnp : c.np = 2 + 2 * c.area := rfl
  show (List.replicate c.np.toNat (blankRow c)).getD t [] = _
  rw [List.getD_eq_getElem?_getD, List.getElem?_replicate, if_pos (by omega)]; rfl
theorem rep_getD (n j : Nat) (h : j < n) : (List.replicate n (255 : Int)).getD j 0 = 255 := by
  rw [List.getD_eq_getElem?_getD, List.getElem?_replicate, if_pos h]; rfl
theorem fresh_snd {c : Cfg} (hm : c.may) : sndM (freshC c) := by
  intro x hx
  rw [fresh_pg hm hx, fresh_row]
  intro i hi k hk
  have hi' : i < c.cells.toNat := hi
  rw [rep_getD _ _ (by omega), rep_getD _ _ (by omega)]
  decide
theorem fresh_rk {c : Cfg} (hm : c.may) {t : Nat} (ht : t < 2) : ∀ k, k < lOf (freshC c) → (rk ((freshC c).pg t) k).1 = 0 := by
  intro k hk
  have hk' : k < c.cells.toNat := hk
  rw [fresh_pg hm ht, fresh_row]
  have e : cellAt (List.replicate (c.cells.toNat * 32) (255 : Int)) k = blankCell := by
    have hl : (k + 1) * 32 ≤ (List.replicate (c.cells.toNat * 32) (255 : Int)).length := by rw [List.length_replicate]; omega
    refine ext_getD ((cellAt_length hl).trans (by simp [blankCell])) fun i hi => ?_
    rw [cellAt_length hl] at hi
    rw [cellAt_getD _ _ _ hi, rep_getD _ _ (by omega)]
    unfold blankCell
    rw [rep_getD _ _ hi]
  unfold rk
  rw [e, rec_blank]
theorem fresh_er (c : Cfg) (t : Nat) : (freshC c).er t = 0 := by
  show (zeros c.np.toNat).getD t 0 = 0
  rw [List.getD_eq_getElem?_getD]
  unfold zeros
  rw [List.getElem?_replicate]; split <;> rfl
theorem fresh_wear {c : Cfg} (hm : c.may) : Wear (freshC c) 0 := by
  have p0 := blank_cells (fresh_rk hm (t := 0) (by decide))
  have p1 := blank_cells (fresh_rk hm (t := 1) (by decide))
  have he := hm.erases
  have k0 : kap (freshC c) = 0 := by unfold kap presM; rw [p0, p1]; rfl
  have b0 : bet (freshC c) 0 = 1 := by unfold bet; rw [p0]; rfl
  have b1 : bet (freshC c) 1 = 1 := by unfold bet; rw [p1]; rfl
  refine ⟨⟨0, 0, by decide, by decide, by decide, ?_⟩, ?_, ?_⟩
  · rw [fresh_er, fresh_er, k0, b0, b1]; rfl
  · rw [fresh_er]; exact ⟨by decide, he.1⟩
  · rw [fresh_er]; exact ⟨by decide, he.1⟩
end Go.Proofs.Yteabcbpimjjdpaa
end

/- Maps as owned things. Own work; generic over any program. -/
section
set_option linter.unusedVariables false
namespace Go.Vc

@[irreducible] def mapP (r : Nat) (es : List (Value × DV)) (h : H) (f : Nat → Prop) : Prop := hmap h r es ∧ ∀ x, f x ↔ x = r
theorem hmap_lt {h : H} {r : Nat} {es : List (Value × DV)} (m : hmap h r es) : r < h.size := by
  obtain ⟨a, cl, e, _⟩ := m
  exact (Array.getElem?_eq_some_iff.1 e).1
def mapE (r : Nat) (es : List (Value × DV)) : Ent where
  tag := .of r
  P := mapP r es
  st := by unfold mapP; rintro h h' f ⟨⟨a, cl, k, ke⟩, e⟩ hs; exact ⟨⟨a, cl, by rw [hs r ((e r).2 rfl)]; exact k, ke⟩, e⟩
  lt := by unfold mapP; rintro h f x ⟨k, e⟩ hx; rw [(e x).1 hx]; exact hmap_lt k
theorem mapE_P {r : Nat} {es : List (Value × DV)} {h : H} {f : Nat → Prop} : (mapE r es).P h f ↔ hmap h r es ∧ ∀ x, f x ↔ x = r := by
  show mapP r es h f ↔ _; unfold mapP; rfl
theorem Sat.mapNew {h0 h h' : H} {A : List Ent} (s : Sat h0 A h) {b : Nat} (n : hmnew h b h') : Sat h0 (mapE b [] :: A) h' := by
  obtain ⟨rfl, rfl⟩ := n
  refine s.add ⟨by simp, fun x hx _ => by rw [Array.getElem?_push, if_neg (by omega)]⟩ (f := fun x => x = h.size) (mapE_P.2 ⟨⟨#[], 0, by simp, rfl, fun e he => by cases he⟩, fun _ => Iff.rfl⟩) fun x hx => by rw [hx]; exact Nat.le_refl _
theorem Sat.mapAt {h0 h : H} {A : List Ent} (s : Sat h0 A h) {i r : Nat} {es : List (Value × DV)} (a : At A i (mapE r es)) : hmap h r es := by
  obtain ⟨f, hp, _⟩ := s.take a
  exact (mapE_P.1 hp).1
theorem Sat.mapSet {h0 h h' : H} {A : List Ent} (s : Sat h0 A h) {i r : Nat} {es es' : List (Value × DV)} (a : At A i (mapE r es)) (e : hmset h r es' h') : Sat h0 (Vc.put A i (mapE r es')) h' := by
  refine s.upd a fun f hp => ?_
  obtain ⟨k, hf⟩ := mapE_P.1 hp
  have hlt := hmap_lt k
  obtain ⟨m, cl, rfl, hent⟩ := e
  refine ⟨f, mapE_P.2 ⟨⟨m, cl, by rw [Array.getElem?_setIfInBounds_self_of_lt hlt], hent⟩, hf⟩, fun _ => Or.inl, ⟨by simp, fun x _ hx => ?_⟩⟩
  rw [Array.getElem?_setIfInBounds_ne]
  intro y; exact hx ((hf x).2 y.symm)
/-- The same entries, told otherwise. -/
theorem hmap_as {h : H} {r : Nat} {es es' : List (Value × DV)} (m : hmap h r es) (e : es.map (fun e => (e.1, e.2.flat)) = es'.map (fun e => (e.1, e.2.flat))) (ok : ∀ x, x ∈ es' → x.2.ok) : hmap h r es' := by
  obtain ⟨a, cl, h1, h2, h3⟩ := m
  exact ⟨a, cl, h1, h2.trans e, ok⟩
theorem take_snoc (l : List Int) (n : Nat) (h : n < l.length) : l.take n ++ [l.getD n 0] = l.take (n + 1) := by
  rw [List.take_succ]; simp [List.getD, List.getElem?_eq_getElem h]
/-- A function value, of whatever is bound, is called. -/
theorem callFn_dv {P : Program} {f : FuncId} {run : Run} (hr : RunOk P f run) {xs ys args : List DV} {Q : List DV → H → Prop} {h : H} (hx : ∀ x, x ∈ xs ++ args ++ ys → x.ok) (hrun : run (xs ++ args ++ ys) Q h) :
    callFn P (.func (.func f) (xs.map DV.flat).toArray (ys.map DV.flat).toArray) args Q h := by
  refine ⟨f, _, _, rfl, ?_⟩
  have := hr _ _ _ hx hrun
  simpa using this
end Go.Vc
end

/- Wear: budgets, acts, how a chip stands. Own work. -/
section
set_option maxRecDepth 100000
set_option linter.unusedVariables false
namespace Go.Proofs.Yteabcbpimjjdpaa
open Go Go.Vc

section
variable {h0 h : H} {A : List Ent} {i j p r l b : Nat} {C : Cm}
def wRaiseM (c : Cfg) : Int := IntKind.i64.wrap (IntKind.i64.wrap (c.slots + 3) + c.fuses)
def wStageM (c : Cfg) : Int := IntKind.i64.wrap (IntKind.i64.wrap (IntKind.i64.wrap (c.slots + 3) + c.area) + IntKind.i64.wrap (c.area * c.cells))
def wLaysM (c : Cfg) : Int := IntKind.i64.wrap (IntKind.i64.wrap (c.cells - c.slots) - 1)
theorem raise_sp (c : Cfg) {Q : Int → H → Prop} (hs : Sat h0 A h) (k : ∀ h', Sat h0 A h' → Q (wRaiseM c) h') : F_wear_config_raise c.cells c.slots c.fuses c.step c.keys c.erases c.area Q h := by
  unfold F_wear_config_raise G_wear_config_raise
  simp only [add_mk, Nat.zero_add]
  (repeat first | refine ⟨_, Sat.ld hs (by (repeat (first | exact At.z | apply At.s))) (by rfl), ?_⟩ | refine ⟨_, _, _, Sat.ld hs (by (repeat (first | exact At.z | apply At.s))) (by rfl), ?_⟩ | (intro _ _ hn; replace hs := Sat.new hs hn; clear hn) | refine ⟨Sat.cs hs (by (repeat (first | exact At.z | apply At.s))) (by rfl), ?_⟩ | (refine ⟨Sat.can hs (by (repeat (first | exact At.z | apply At.s))) (by simp), ?_⟩; intro _ e; replace hs := Sat.wr hs (by (repeat (first | exact At.z | apply At.s))) e; clear e; simp only [put, splice, List.set] at hs) | refine ⟨_, rfl, ?_⟩)
  exact k _ hs.drop
theorem revoke_sp (c : Cfg) {Q : Int → H → Prop} (hs : Sat h0 A h) (k : ∀ h', Sat h0 A h' → Q 1 h') : F_wear_config_revoke c.cells c.slots c.fuses c.step c.keys c.erases c.area Q h := by
  unfold F_wear_config_revoke G_wear_config_revoke
  (repeat first | refine ⟨_, Sat.ld hs (by (repeat (first | exact At.z | apply At.s))) (by rfl), ?_⟩ | refine ⟨_, _, _, Sat.ld hs (by (repeat (first | exact At.z | apply At.s))) (by rfl), ?_⟩ | (intro _ _ hn; replace hs := Sat.new hs hn; clear hn) | refine ⟨Sat.cs hs (by (repeat (first | exact At.z | apply At.s))) (by rfl), ?_⟩ | (refine ⟨Sat.can hs (by (repeat (first | exact At.z | apply At.s))) (by simp), ?_⟩; intro _ e; replace hs := Sat.wr hs (by (repeat (first | exact At.z | apply At.s))) e; clear e; simp only [put, splice, List.set] at hs) | refine ⟨_, rfl, ?_⟩)
  exact k _ hs.drop
theorem stage_sp (c : Cfg) {Q : Int → H → Prop} (hs : Sat h0 A h) (k : ∀ h', Sat h0 A h' → Q (wStageM c) h') : F_wear_config_stage c.cells c.slots c.fuses c.step c.keys c.erases c.area Q h := by
  unfold F_wear_config_stage G_wear_config_stage
  simp only [add_mk, Nat.zero_add]
  (repeat first | refine ⟨_, Sat.ld hs (by (repeat (first | exact At.z | apply At.s))) (by rfl), ?_⟩ | refine ⟨_, _, _, Sat.ld hs (by (repeat (first | exact At.z | apply At.s))) (by rfl), ?_⟩ | (intro _ _ hn; replace hs := Sat.new hs hn; clear hn) | refine ⟨Sat.cs hs (by (repeat (first | exact At.z | apply At.s))) (by rfl), ?_⟩ | (refine ⟨Sat.can hs (by (repeat (first | exact At.z | apply At.s))) (by simp), ?_⟩; intro _ e; replace hs := Sat.wr hs (by (repeat (first | exact At.z | apply At.s))) e; clear e; simp only [put, splice, List.set] at hs) | refine ⟨_, rfl, ?_⟩)
  exact k _ hs.drop
theorem lays_sp (c : Cfg) {Q : Int → H → Prop} (hs : Sat h0 A h) (k : ∀ h', Sat h0 A h' → Q (wLaysM c) h') : F_wear_config_lays c.cells c.slots c.fuses c.step c.keys c.erases c.area Q h := by
  unfold F_wear_config_lays G_wear_config_lays
  simp only [add_mk, Nat.zero_add]
  (repeat first | refine ⟨_, Sat.ld hs (by (repeat (first | exact At.z | apply At.s))) (by rfl), ?_⟩ | refine ⟨_, _, _, Sat.ld hs (by (repeat (first | exact At.z | apply At.s))) (by rfl), ?_⟩ | (intro _ _ hn; replace hs := Sat.new hs hn; clear hn) | refine ⟨Sat.cs hs (by (repeat (first | exact At.z | apply At.s))) (by rfl), ?_⟩ | (refine ⟨Sat.can hs (by (repeat (first | exact At.z | apply At.s))) (by simp), ?_⟩; intro _ e; replace hs := Sat.wr hs (by (repeat (first | exact At.z | apply At.s))) e; clear e; simp only [put, splice, List.set] at hs) | refine ⟨_, rfl, ?_⟩)
  exact k _ hs.drop
abbrev cfgA (c : Cfg) : Value := .agg #[.int .i64 c.cells, .int .i64 c.slots, .int .i64 c.fuses, .int .i64 c.step, .int .i64 c.keys, .int .i64 c.erases, .int .i64 c.area]
abbrev fnA (f : Nat) (c : Cfg) : Value := .func (.func f) #[cfgA c] #[]
def actsE (c : Cfg) : List (Value × DV) := [(.int .i64 2, .one (fnA id_wear_config_raise c)), (.int .i64 3, .one (fnA id_wear_config_raise c)), (.int .i64 7, .one (fnA id_wear_config_raise c)), (.int .i64 4, .one (fnA id_wear_config_revoke c)), (.int .i64 8, .one (fnA id_wear_config_stage c))]
theorem acts_sp (c : Cfg) {Q : Option Nat → H → Prop} (hs : Sat h0 A h) (k : ∀ m h', Sat h0 (mapE m (actsE c) :: A) h' → Q (some m) h') : F_wear_config_acts c.cells c.slots c.fuses c.step c.keys c.erases c.area Q h := by
  unfold F_wear_config_acts G_wear_config_acts
  simp only [add_mk, Nat.zero_add]
  intro n9 _ hn; replace hs := Sat.new hs hn; clear hn
  intro m _ hn; replace hs := Sat.mapNew hs hn; clear hn
  (repeat refine ⟨_, Sat.ld hs (by (repeat (first | exact At.z | apply At.s))) (by rfl), ?_⟩)
  refine ⟨_, _, _, rfl, hs.mapAt .z, rfl, ?_⟩
  intro _ e; replace hs := hs.mapSet .z e; clear e
  (repeat refine ⟨_, Sat.ld hs (by (repeat (first | exact At.z | apply At.s))) (by rfl), ?_⟩)
  refine ⟨_, _, _, rfl, hs.mapAt .z, rfl, ?_⟩
  intro _ e; replace hs := hs.mapSet .z e; clear e
  (repeat refine ⟨_, Sat.ld hs (by (repeat (first | exact At.z | apply At.s))) (by rfl), ?_⟩)
  refine ⟨_, _, _, rfl, hs.mapAt .z, rfl, ?_⟩
  intro _ e; replace hs := hs.mapSet .z e; clear e
  (repeat refine ⟨_, Sat.ld hs (by (repeat (first | exact At.z | apply At.s))) (by rfl), ?_⟩)
  refine ⟨_, _, _, rfl, hs.mapAt .z, rfl, ?_⟩
  intro _ e; replace hs := hs.mapSet .z e; clear e
  (repeat refine ⟨_, Sat.ld hs (by (repeat (first | exact At.z | apply At.s))) (by rfl), ?_⟩)
  refine ⟨_, _, _, rfl, hs.mapAt .z, rfl, ?_⟩
  intro _ e; replace hs := hs.mapSet .z e; clear e
  refine k m _ ?_
  exact hs.sub (by (repeat (first | exact List.Sublist.refl _ | apply List.Sublist.cons_cons | apply List.Sublist.cons)))
def actsM (c : Cfg) (kind : Int) : Int := if c.may then (if kind = 2 ∨ kind = 3 ∨ kind = 7 then wRaiseM c else if kind = 4 then 1 else if kind = 8 then wStageM c else 0) else 0
def actsF (c : Cfg) : List (Value × DV) := [(.int .i64 2, .fnv (fnA id_wear_config_raise c)), (.int .i64 3, .fnv (fnA id_wear_config_raise c)), (.int .i64 7, .fnv (fnA id_wear_config_raise c)), (.int .i64 4, .fnv (fnA id_wear_config_revoke c)), (.int .i64 8, .fnv (fnA id_wear_config_stage c))]
theorem ok_cfgA (c : Cfg) : ∀ x, x ∈ [DV.agg (c.vals.map .c)] ++ [] ++ [] → x.ok := by
  intro x hx
  simp at hx
  subst hx
  intro y hy
  simp only [List.mem_map] at hy
  obtain ⟨v, hv, rfl⟩ := hy
  simp only [Cfg.vals, List.mem_cons, List.not_mem_nil, or_false] at hv
  rcases hv with rfl | rfl | rfl | rfl | rfl | rfl | rfl <;> rfl
theorem Acts20_sp (c : Cfg) (kind : Int) {Q : Int → H → Prop} (hs : Sat h0 A h) (k : ∀ h', Sat h0 A h' → Q (actsM c kind) h') : F_wear_Acts c.cells c.slots c.fuses c.step c.keys c.erases c.area kind Q h := by
  unfold F_wear_Acts G_wear_Acts
  simp only [add_mk, Nat.zero_add]
  intro n9 _ hn; replace hs := Sat.new hs hn; clear hn
  (repeat first | refine ⟨_, Sat.ld hs (by (repeat (first | exact At.z | apply At.s))) (by rfl), ?_⟩ | refine ⟨_, _, _, Sat.ld hs (by (repeat (first | exact At.z | apply At.s))) (by rfl), ?_⟩ | (intro _ _ hn; replace hs := Sat.new hs hn; clear hn) | refine ⟨Sat.cs hs (by (repeat (first | exact At.z | apply At.s))) (by rfl), ?_⟩ | (refine ⟨Sat.can hs (by (repeat (first | exact At.z | apply At.s))) (by simp), ?_⟩; intro _ e; replace hs := Sat.wr hs (by (repeat (first | exact At.z | apply At.s))) e; clear e; simp only [put, splice, List.set] at hs) | refine ⟨_, rfl, ?_⟩)
  refine May_sp c hs ?_
  intro h1 hs
  unfold actsM at k
  by_cases m : c.may
  case neg =>
    rw [if_neg m] at k
    have e : c.may? = 1 := by unfold Cfg.may?; rw [if_neg m]
    rw [e, if_pos (by simp)]
    exact k _ hs.drop
  rw [if_pos m] at k
  have e : c.may? = 0 := by unfold Cfg.may?; rw [if_pos m]
  rw [e, if_neg (by simp)]
  (repeat first | refine ⟨_, Sat.ld hs (by (repeat (first | exact At.z | apply At.s))) (by rfl), ?_⟩ | refine ⟨_, _, _, Sat.ld hs (by (repeat (first | exact At.z | apply At.s))) (by rfl), ?_⟩ | (intro _ _ hn; replace hs := Sat.new hs hn; clear hn) | refine ⟨Sat.cs hs (by (repeat (first | exact At.z | apply At.s))) (by rfl), ?_⟩ | (refine ⟨Sat.can hs (by (repeat (first | exact At.z | apply At.s))) (by simp), ?_⟩; intro _ e; replace hs := Sat.wr hs (by (repeat (first | exact At.z | apply At.s))) e; clear e; simp only [put, splice, List.set] at hs) | refine ⟨_, rfl, ?_⟩)
  refine acts_sp c hs ?_
  intro mm h2 hs
  have hm : hmapO h2 (some mm) (actsF c) := hmap_as (hs.mapAt .z) rfl (by
    intro x hx
    simp only [actsF, List.mem_cons, List.not_mem_nil, or_false] at hx
    rcases hx with rfl | rfl | rfl | rfl | rfl <;> rfl)
  have look : ∀ (v : Value) (b : Bool), mlook (.int .i64 kind) (.fnv .nilFunc) (actsF c) = some (.fnv v, b) → (b = false → ∀ h', Sat h0 A h' → Q 0 h') → (b = true → callFn PP v [] (fun l37 h38 => ∃ x39 l40, l37 = x39 :: l40 ∧ ∃ i41, x39 = DV.one (Value.int IntKind.i64 i41) ∧ l40 = [] ∧ Q i41 h38) h2) →
      ∃ l33 x34 b35, hmapO h2 (some mm) l33 ∧ mlook (.int .i64 kind) (.fnv .nilFunc) l33 = some (x34, b35) ∧ ∃ v36, x34 = DV.fnv v36 ∧ if (!b35) = true then Q 0 h2 else callFn PP v36 [] (fun l37 h38 => ∃ x39 l40, l37 = x39 :: l40 ∧ ∃ i41, x39 = DV.one (Value.int IntKind.i64 i41) ∧ l40 = [] ∧ Q i41 h38) h2 := by
    intro v b e1 e2 e3
    refine ⟨_, _, _, hm, e1, _, rfl, ?_⟩
    cases b with
    | false => exact e2 rfl _ hs.drop.drop
    | true => exact e3 rfl
  by_cases g2 : kind = 2
  · subst g2
    refine look _ true rfl (fun y => by cases y) fun _ => ?_
    refine callFn_dv (R_wear_config_raise) (xs := [.agg (c.vals.map .c)]) (ys := []) (args := []) (ok_cfgA c) ?_
    show F_wear_config_raise c.cells c.slots c.fuses c.step c.keys c.erases c.area _ h2
    refine raise_sp c hs ?_
    intro h3 hs
    exact ⟨_, _, rfl, _, rfl, rfl, k _ hs.drop.drop⟩
  by_cases g3 : kind = 3
  · subst g3
    refine look _ true rfl (fun y => by cases y) fun _ => ?_
    refine callFn_dv (R_wear_config_raise) (xs := [.agg (c.vals.map .c)]) (ys := []) (args := []) (ok_cfgA c) ?_
    show F_wear_config_raise c.cells c.slots c.fuses c.step c.keys c.erases c.area _ h2
    refine raise_sp c hs ?_
    intro h3 hs
    exact ⟨_, _, rfl, _, rfl, rfl, k _ hs.drop.drop⟩
  by_cases g7 : kind = 7
  · subst g7
    refine look _ true rfl (fun y => by cases y) fun _ => ?_
    refine callFn_dv (R_wear_config_raise) (xs := [.agg (c.vals.map .c)]) (ys := []) (args := []) (ok_cfgA c) ?_
    show F_wear_config_raise c.cells c.slots c.fuses c.step c.keys c.erases c.area _ h2
    refine raise_sp c hs ?_
    intro h3 hs
    exact ⟨_, _, rfl, _, rfl, rfl, k _ hs.drop.drop⟩
  rw [if_neg (by omega)] at k
  by_cases g4 : kind = 4
  · subst g4
    refine look _ true rfl (fun y => by cases y) fun _ => ?_
    refine callFn_dv (R_wear_config_revoke) (xs := [.agg (c.vals.map .c)]) (ys := []) (args := []) (ok_cfgA c) ?_
    show F_wear_config_revoke c.cells c.slots c.fuses c.step c.keys c.erases c.area _ h2
    refine revoke_sp c hs ?_
    intro h3 hs
    exact ⟨_, _, rfl, _, rfl, rfl, k _ hs.drop.drop⟩
  rw [if_neg g4] at k
  by_cases g8 : kind = 8
  · subst g8
    refine look _ true rfl (fun y => by cases y) fun _ => ?_
    refine callFn_dv (R_wear_config_stage) (xs := [.agg (c.vals.map .c)]) (ys := []) (args := []) (ok_cfgA c) ?_
    show F_wear_config_stage c.cells c.slots c.fuses c.step c.keys c.erases c.area _ h2
    refine stage_sp c hs ?_
    intro h3 hs
    exact ⟨_, _, rfl, _, rfl, rfl, k _ hs.drop.drop⟩
  rw [if_neg g8] at k
  refine look .nilFunc false ?_ (fun _ => k) (fun y => by cases y)
  have e2 : (kind == 2) = false := by simpa using g2
  have e3 : (kind == 3) = false := by simpa using g3
  have e7 : (kind == 7) = false := by simpa using g7
  have e4 : (kind == 4) = false := by simpa using g4
  have e8 : (kind == 8) = false := by simpa using g8
  simp [mlook, actsF, keyEq, e2, e3, e7, e4, e8]
def budgM (c : Cfg) (cuts : Int) : Int := if c.may ∧ 0 ≤ cuts ∧ cuts ≤ c.erases then IntKind.i64.wrap (IntKind.i64.wrap (IntKind.i64.wrap (2 * IntKind.i64.wrap (c.erases - cuts)) + 2) * wLaysM c) else 0
theorem Budget_sp (c : Cfg) (cuts : Int) {Q : Int → H → Prop} (hs : Sat h0 A h) (k : ∀ h', Sat h0 A h' → Q (budgM c cuts) h') : F_wear_Budget c.cells c.slots c.fuses c.step c.keys c.erases c.area cuts Q h := by
  unfold F_wear_Budget G_wear_Budget
  simp only [add_mk, Nat.zero_add]
  intro n9 _ hn; replace hs := Sat.new hs hn; clear hn
  intro J hJ
  (repeat first | refine ⟨_, Sat.ld hs (by (repeat (first | exact At.z | apply At.s))) (by rfl), ?_⟩ | refine ⟨_, _, _, Sat.ld hs (by (repeat (first | exact At.z | apply At.s))) (by rfl), ?_⟩ | (intro _ _ hn; replace hs := Sat.new hs hn; clear hn) | refine ⟨Sat.cs hs (by (repeat (first | exact At.z | apply At.s))) (by rfl), ?_⟩ | (refine ⟨Sat.can hs (by (repeat (first | exact At.z | apply At.s))) (by simp), ?_⟩; intro _ e; replace hs := Sat.wr hs (by (repeat (first | exact At.z | apply At.s))) e; clear e; simp only [put, splice, List.set] at hs) | refine ⟨_, rfl, ?_⟩)
  refine May_sp c hs ?_
  intro h1 hs
  unfold budgM at k
  by_cases m : c.may
  case neg =>
    rw [if_neg (fun y => m y.1)] at k
    have e : c.may? = 1 := by unfold Cfg.may?; rw [if_neg m]
    rw [e, if_pos (by simp)]
    exact k _ hs.drop
  have e : c.may? = 0 := by unfold Cfg.may?; rw [if_pos m]
  rw [e, if_neg (by simp), ltI_eq]
  by_cases g1 : cuts < 0
  · rw [if_pos (by simpa using g1)]
    rw [if_neg (fun y => by omega)] at k
    exact k _ hs.drop
  rw [if_neg (by simpa using g1)]
  refine ⟨_, Sat.ld hs (by (repeat (first | exact At.z | apply At.s))) (by rfl), ?_⟩
  rw [ltI_eq]
  by_cases g2 : c.erases < cuts
  · rw [if_pos (by simpa using g2)]
    rw [if_neg (fun y => by omega)] at k
    exact k _ hs.drop
  rw [if_neg (by simpa using g2)]
  rw [if_pos ⟨m, by omega, by omega⟩] at k
  apply hJ
  (repeat first | refine ⟨_, Sat.ld hs (by (repeat (first | exact At.z | apply At.s))) (by rfl), ?_⟩ | refine ⟨_, _, _, Sat.ld hs (by (repeat (first | exact At.z | apply At.s))) (by rfl), ?_⟩ | (intro _ _ hn; replace hs := Sat.new hs hn; clear hn) | refine ⟨Sat.cs hs (by (repeat (first | exact At.z | apply At.s))) (by rfl), ?_⟩ | (refine ⟨Sat.can hs (by (repeat (first | exact At.z | apply At.s))) (by simp), ?_⟩; intro _ e; replace hs := Sat.wr hs (by (repeat (first | exact At.z | apply At.s))) e; clear e; simp only [put, splice, List.set] at hs) | refine ⟨_, rfl, ?_⟩)
  refine lays_sp c hs ?_
  intro h2 hs
  refine ⟨Sat.cs hs (by (repeat (first | exact At.z | apply At.s))) (by rfl), ?_⟩
  exact k _ hs.drop
end
end Go.Proofs.Yteabcbpimjjdpaa
end
