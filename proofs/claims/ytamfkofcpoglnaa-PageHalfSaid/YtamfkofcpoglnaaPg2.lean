/- Contracts of pages: what a page tells, in the program and in the document. Own work. -/
import Derived.Test.YtamfkofcpoglnaaFa7
import Derived.Test.YtamfkofcpoglnaaFa8
import Derived.Test.YtamfkofcpoglnaaFa9
import Derived.Test.YtamfkofcpoglnaaCe4
set_option autoImplicit false
set_option linter.all false
set_option maxRecDepth 100000
set_option linter.unusedVariables false
namespace Go.Proofs.Ytamfkofcpoglnaa
open Go Go.Vc

/-- What a page tells. -/
structure Inf where
  head : Int
  nums : List Int
  next : Int
  blank : Bool
  torn : Int
abbrev infV (a : Int) (l : List Int) (n : Int) (b : Bool) (t : Int) : List Value := .int .i64 a :: (ints .i64 l ++ [.int .i64 n, .bool b, .int .i64 t])
abbrev infI (I : Inf) : List Value := infV I.head I.nums I.next I.blank I.torn
def inf0 : Inf := ⟨0, zeros 9, 0, false, 0⟩
theorem inf_10 {a n t : Int} {l : List Int} {b : Bool} (h : l.length = 9) : (infV a l n b t)[10]? = some (.int .i64 n) := by
  have : (ints .i64 l).length = 9 := by simpa using h
  simp [infV, this]
theorem inf_11 {a n t : Int} {l : List Int} {b : Bool} (h : l.length = 9) : (infV a l n b t)[11]? = some (.bool b) := by
  have : (ints .i64 l).length = 9 := by simpa using h
  simp [infV, this]
theorem inf_12 {a n t : Int} {l : List Int} {b : Bool} (h : l.length = 9) : (infV a l n b t)[12]? = some (.int .i64 t) := by
  have : (ints .i64 l).length = 9 := by simpa using h
  simp [infV, this]
theorem inf_num {a n t : Int} {l : List Int} {b : Bool} (h : l.length = 9) {i : Nat} (hi : i < 9) : (infV a l n b t)[1 + i]? = some (.int .i64 (l.getD i 0)) := by
  have : (ints .i64 l).length = 9 := by simpa using h
  rw [infV, Nat.add_comm, List.getElem?_cons_succ, List.getElem?_append_left (by omega), ints_get, List.getElem?_eq_getElem (by omega)]
  simp [List.getD, List.getElem?_eq_getElem (show i < l.length by omega)]
theorem inf_row {a n t : Int} {l : List Int} {b : Bool} (h : l.length = 9) : ∀ i, i < l.length → (infV a l n b t)[1 + i]? = l[i]?.map (Value.int .i64) := by
  intro i hi
  rw [inf_num h (by omega), List.getElem?_eq_getElem hi]
  simp [List.getD, List.getElem?_eq_getElem hi]
theorem inf_len {a n t : Int} {l : List Int} {b : Bool} (h : l.length = 9) : (infV a l n b t).length = 13 := by simp [infV, h]
theorem inf_s0 {a n t v : Int} {l : List Int} {b : Bool} : splice (infV a l n b t) 0 [.int .i64 v] = infV v l n b t := rfl
theorem set_app (l : List Value) (x y : List Value) (i : Nat) (v : Value) : (l ++ x).set (l.length + i) v = l ++ x.set i v := by
  rw [List.set_append_right _ _ (by omega), Nat.add_sub_cancel_left]
theorem inf_s10 {a n t v : Int} {l : List Int} {b : Bool} (h : l.length = 9) : splice (infV a l n b t) 10 [.int .i64 v] = infV a l v b t := by
  have h9 : (ints .i64 l).length = 9 := by simpa using h
  show (infV a l n b t).set 10 (.int .i64 v) = _
  unfold infV
  rw [List.set_cons_succ, show 9 = (ints .i64 l).length + 0 by omega, set_app _ _ []]
  rfl
theorem inf_s11 {a n t : Int} {l : List Int} {b v : Bool} (h : l.length = 9) : splice (infV a l n b t) 11 [.bool v] = infV a l n v t := by
  have h9 : (ints .i64 l).length = 9 := by simpa using h
  show (infV a l n b t).set 11 (.bool v) = _
  unfold infV
  rw [List.set_cons_succ, show 10 = (ints .i64 l).length + 1 by omega, set_app _ _ []]
  rfl
theorem inf_s12 {a n t v : Int} {l : List Int} {b : Bool} (h : l.length = 9) : splice (infV a l n b t) 12 [.int .i64 v] = infV a l n b v := by
  have h9 : (ints .i64 l).length = 9 := by simpa using h
  show (infV a l n b t).set 12 (.int .i64 v) = _
  unfold infV
  rw [List.set_cons_succ, show 11 = (ints .i64 l).length + 2 by omega, set_app _ _ []]
  rfl
theorem inf_sn {a n t v : Int} {l : List Int} {b : Bool} (h : l.length = 9) {i : Nat} (hi : i < 9) : splice (infV a l n b t) (1 + i) [.int .i64 v] = infV a (l.set i v) n b t := by
  have h9 : (ints .i64 l).length = 9 := by simpa using h
  show (infV a l n b t).set (1 + i) (.int .i64 v) = _
  unfold infV
  rw [Nat.add_comm, List.set_cons_succ, List.set_append_left _ _ (by omega), ints_set]
def nextM (I : Inf) (n kind : Int) : Inf := if kind ≠ 0 then { I with next := IntKind.i64.wrap (n + 1) } else I
def layN (I : Inf) (n kind slot num : Int) : Inf :=
  if kind = 3 then { I with torn := IntKind.i64.wrap (I.torn + 1) }
  else if kind = 1 ∧ n = 0 then { I with head := num }
  else if kind = 2 ∧ 0 < n then { I with nums := I.nums.set slot.toNat (if num > I.nums.getD slot.toNat 0 then num else I.nums.getD slot.toNat 0) }
  else I
def layM (I : Inf) (n kind slot num : Int) : Inf := layN (nextM I n kind) n kind slot num
theorem nextM_nums (I : Inf) (n kind : Int) : (nextM I n kind).nums = I.nums := by unfold nextM; split <;> rfl
theorem layN_len (I : Inf) (n kind slot num : Int) : (layN I n kind slot num).nums.length = I.nums.length := by
  unfold layN
  split
  · rfl
  · split
    · rfl
    · split
      · simp
      · rfl
theorem layM_len (I : Inf) (n kind slot num : Int) : (layM I n kind slot num).nums.length = I.nums.length := by
  unfold layM; rw [layN_len, nextM_nums]
section
variable {h0 h : H} {A : List Ent} {i j p r b : Nat} {C : Cm}
theorem lay_sp {Q : H → Prop} (I : Inf) (hl : I.nums.length = 9) (hs : Sat h0 A h) (m : At A i (blk b (infI I))) (n kind slot num : Int) (hslot : kind = 2 → 0 ≤ slot ∧ slot ≤ 8)
    (k : ∀ h', Sat h0 (put A i (blk b (infI (layM I n kind slot num)))) h' → Q h') : F_page_Info_lay ⟨b, 0, none⟩ n kind slot num Q h := by
  unfold F_page_Info_lay G_page_Info_lay
  simp only [add_mk, Nat.zero_add, List.append_nil]
  intro n1 _ hn; replace hs := Sat.new hs hn; clear hn
  intro J hJ
  unfold layM at k
  -- behind the first if
  have main : ∀ (I : Inf), I.nums.length = 9 → (∀ h', Sat h0 (put A i (blk b (infI (layN I n kind slot num)))) h' → Q h') → ∀ h2, Sat h0 (blk n1 [.int .i64 kind, .int .i64 slot, .int .i64 num] :: put A i (blk b (infI I))) h2 → J [] h2 := by
    intro I hl k h2 hs
    unfold layN at k
    have m2 := (m.put (blk b (infI I))).s (x := blk n1 [.int .i64 kind, .int .i64 slot, .int .i64 num])
    apply hJ
    refine ⟨_, Sat.ld hs (by (repeat (first | exact At.z | apply At.s))) (by rfl), ?_⟩
    by_cases c1 : kind = 3
    · rw [if_pos c1] at k
      rw [if_pos (by simpa using c1)]
      refine ⟨_, hs.ld m2 (inf_12 hl), hs.can m2 (by rw [inf_len hl]; decide), ?_⟩
      intro h3 e
      replace hs := hs.wr m2 e
      rw [inf_s12 hl] at hs
      refine k _ ?_
      have := hs
      simp only [put_succ, put_put] at this
      exact this.drop
    rw [if_neg c1] at k
    rw [if_neg (by simpa using c1)]
    intro J2 hJ2
    have two : ∀ bb : Bool, (bb = true ↔ kind = 1 ∧ n = 0) → J2 [.dv (.one (.bool bb))] h2 := by
      intro bb c2
      apply hJ2
      by_cases c3 : bb = true
      · rw [if_pos c3]
        rw [if_pos (c2.1 c3)] at k
        refine ⟨_, Sat.ld hs (by (repeat (first | exact At.z | apply At.s))) (by rfl), ?_⟩
        refine ⟨hs.can m2 (by rw [inf_len hl]; decide), ?_⟩
        intro h3 e
        replace hs := hs.wr m2 e
        rw [inf_s0] at hs
        refine k _ ?_
        have := hs
        simp only [put_succ, put_put] at this
        exact this.drop
      rw [if_neg c3]
      rw [if_neg (fun y => c3 (c2.2 y))] at k
      refine ⟨_, Sat.ld hs (by (repeat (first | exact At.z | apply At.s))) (by rfl), ?_⟩
      by_cases c4 : kind = 2
      case neg =>
        rw [if_neg (fun y => c4 y.1)] at k
        rw [if_neg (by rw [beq_iff_eq]; exact c4)]
        exact k _ hs.drop
      rw [if_pos (by rw [beq_iff_eq]; exact c4)]
      by_cases c5 : 0 < n
      case neg =>
        rw [if_neg (fun y => c5 y.2)] at k
        rw [ltI_eq, if_neg (by simpa using c5)]
        exact k _ hs.drop
      rw [if_pos ⟨c4, c5⟩] at k
      rw [ltI_eq, if_pos (by simpa using c5)]
      obtain ⟨s1, s2⟩ := hslot c4
      refine ⟨_, Sat.ld hs (by (repeat (first | exact At.z | apply At.s))) (by rfl), ?_⟩
      refine ⟨_, Sat.ld hs (by (repeat (first | exact At.z | apply At.s))) (by rfl), ?_⟩
      refine ⟨by omega, by omega, _, by rw [Nat.mul_one]; exact hs.ld m2 (inf_num hl (by omega)), ?_⟩
      refine ⟨_, Sat.ld hs (by (repeat (first | exact At.z | apply At.s))) (by rfl), ?_⟩
      refine ⟨by omega, by omega, by rw [Nat.mul_one]; exact hs.can m2 (by rw [inf_len hl]; omega), ?_⟩
      intro h3 e
      rw [Nat.mul_one] at e
      replace hs := hs.wr m2 e
      rw [inf_sn hl (by omega)] at hs
      refine k _ ?_
      have := hs
      simp only [put_succ, put_put] at this
      exact this.drop
    refine ⟨_, Sat.ld hs (by (repeat (first | exact At.z | apply At.s))) (by rfl), ?_⟩
    by_cases c2 : kind = 1
    · rw [if_pos (by rw [beq_iff_eq]; exact c2)]
      exact two _ (by rw [beq_iff_eq]; exact ⟨fun y => ⟨c2, y⟩, fun y => y.2⟩)
    · rw [if_neg (by rw [beq_iff_eq]; exact c2)]
      exact two _ ⟨fun y => by simp at y, fun y => absurd y.1 c2⟩
  refine ⟨_, Sat.ld hs (by (repeat (first | exact At.z | apply At.s))) (by rfl), ?_⟩
  by_cases c0 : kind = 0
  · rw [if_neg (by simpa using c0)]
    have e : nextM I n kind = I := if_neg (by simpa using c0)
    rw [e] at k
    exact main I hl k _ (by rw [m.put_self]; exact hs)
  · rw [if_pos (by simpa using c0)]
    have e : nextM I n kind = { I with next := IntKind.i64.wrap (n + 1) } := if_pos (by simpa using c0)
    rw [e] at k
    refine ⟨hs.can m.s (by rw [inf_len hl]; decide), ?_⟩
    intro h3 e
    replace hs := hs.wr m.s e
    rw [inf_s10 hl, put_succ] at hs
    exact main { I with next := IntKind.i64.wrap (n + 1) } hl k _ hs
theorem hsv_cell {q : Option Addr} {l k : Nat} {row : List Int} (rd : hsv h q 32 l (ints .u8 row)) (hk : k < l) : ∃ q', q = some q' ∧ (k + 1) * 32 ≤ row.length ∧ hrow h (q'.add (k * 32)) .u8 (cellAt row k) := by
  obtain ⟨e1, e2, e3⟩ := rd
  have hl : row.length = l * 32 := by simpa using e1
  have hk2 : (k + 1) * 32 ≤ row.length := by omega
  rcases e3 with e3 | ⟨q', hq, g⟩
  · have : row.length = 0 := by have := congrArg List.length e3; simpa using this
    omega
  · refine ⟨q', hq, hk2, ?_⟩
    intro i v hv
    have hi : i < 32 := by
      have := (List.getElem?_eq_some_iff.1 hv).1
      rw [ints_length, cellAt_length hk2] at this; exact this
    rw [ints_get, cellAt_get _ _ _ hi] at hv
    have : (q'.add (k * 32)).add i = q'.add (k * 32 + i) := by
      cases q' with | mk b o s => unfold Addr.add; by_cases h1 : k * 32 = 0 <;> by_cases h2 : i = 0 <;> simp [h1, h2, Nat.add_assoc]
    rw [this]
    exact g _ _ (by rw [ints_get]; exact hv)
/-- What the first cells of a page tell. -/
def ofM (row : List Int) : Nat → Inf
  | 0 => inf0
  | n + 1 => layM (ofM row n) n (recM (cellAt row n)).1 (recM (cellAt row n)).2.1 (recM (cellAt row n)).2.2
theorem ofM_len (row : List Int) (n : Nat) : (ofM row n).nums.length = 9 := by
  induction n with
  | zero => rfl
  | succ n ih => unfold ofM; rw [layM_len, ih]
theorem layN_next (I : Inf) (n kind slot num : Int) : (layN I n kind slot num).next = I.next := by
  unfold layN; (repeat' split) <;> rfl
theorem ofM_blank (row : List Int) (n : Nat) (hn : n < 2 ^ 60) : ((ofM row n).next = 0 → ofM row n = inf0) ∧ (ofM row n).blank = false := by
  induction n with
  | zero => exact ⟨fun _ => rfl, rfl⟩
  | succ n ih =>
    obtain ⟨i1, i2⟩ := ih (by omega)
    unfold ofM layM
    generalize (recM (cellAt row n)).1 = kind
    generalize (recM (cellAt row n)).2.1 = slot
    generalize (recM (cellAt row n)).2.2 = num
    by_cases c : kind = 0
    · have e : nextM (ofM row n) n kind = ofM row n := if_neg (by simpa using c)
      rw [e, layN_next]
      have e2 : layN (ofM row n) n kind slot num = ofM row n := by
        unfold layN; rw [if_neg (by omega), if_neg (by omega), if_neg (by omega)]
      rw [e2]
      exact ⟨i1, i2⟩
    · have e : nextM (ofM row n) n kind = { ofM row n with next := IntKind.i64.wrap (n + 1) } := if_pos (by simpa using c)
      rw [e, layN_next]
      refine ⟨fun x => ?_, ?_⟩
      · dsimp only at x
        rw [wrap_id (by omega)] at x; omega
      · unfold layN; (repeat' split) <;> exact i2
theorem recM_slot (x : List Int) (hb : bytesOk x) (h : (recM x).1 = 2) : 0 ≤ (recM x).2.1 ∧ (recM x).2.1 ≤ 8 := by
  unfold recM at *
  split
  · rename_i c; rw [if_pos c] at h; simp at h
  · rename_i c; rw [if_neg c] at h
    split
    · rename_i c; rw [if_pos c] at h; simp at h
    · rename_i c; rw [if_neg c] at h
      split
      · rename_i c; rw [if_pos c] at h; simp at h
      · rename_i c; rw [if_neg c] at h
        split
        · rename_i c; rw [if_pos c] at h; simp at h
        · rename_i c; rw [if_neg c] at h
          split
          · rename_i c
            refine ⟨?_, c.2.1⟩
            show 0 ≤ x.getD 1 0
            rw [List.getD_eq_getElem?_getD]
            cases e : x[1]? with
            | none => exact Int.le_refl _
            | some v => exact (hb v (List.mem_iff_getElem?.2 ⟨1, e⟩)).1
          · rename_i c; rw [if_neg c] at h; simp at h
/-- The whole page. -/
def pageI (row : List Int) (n : Nat) : Inf := { ofM row n with blank := decide ((ofM row n).next = 0) }
def lookM (C : Cm) (page : Int) : Inf × Int :=
  if askedM C page C.s.pages.length ≠ 0 then (inf0, askedM C page C.s.pages.length) else (pageI (C.s.pages.getD page.toNat []) C.cfg.cells.toNat, 0)
theorem Look_sp {Q : Int → List Int → Int → Bool → Int → Int → H → Prop} (hs : Sat h0 A h) (ci : At A i (chipE p C)) (page : Int)
    (k : ∀ h', Sat h0 A h' → Q (lookM C page).1.head (lookM C page).1.nums (lookM C page).1.next (lookM C page).1.blank (lookM C page).1.torn (lookM C page).2 h') : F_page_Look ⟨p, 0, none⟩ page Q h := by
  unfold F_page_Look G_page_Look
  simp only [add_mk, Nat.zero_add, List.append_nil]
  have ok := chip_ok hs ci
  intro n1 _ hn; replace hs := Sat.new hs hn; clear hn
  intro n2 _ hn; replace hs := Sat.new hs hn; clear hn
  have z9 : (zeros 9).length = 9 := rfl
  refine Erases_sp hs ci.s.s page ?_
  unfold lookM at k
  by_cases e : askedM C page C.s.pages.length = 0
  case neg =>
    have ee : erasesM C page = (0, askedM C page C.s.pages.length) := by unfold erasesM; rw [if_pos (by simpa using e)]
    rw [ee, if_pos (by simpa using e)]
    rw [if_pos (by simpa using e)] at k
    refine ⟨_, Sat.ld hs (by (repeat (first | exact At.z | apply At.s))) rfl, _, z9, Sat.row hs (by (repeat (first | exact At.z | apply At.s))) (inf_row z9), _, Sat.ld hs (by (repeat (first | exact At.z | apply At.s))) (inf_10 z9), _, Sat.ld hs (by (repeat (first | exact At.z | apply At.s))) (inf_11 z9), _, Sat.ld hs (by (repeat (first | exact At.z | apply At.s))) (inf_12 z9), ?_⟩
    (refine ⟨Sat.can hs (by (repeat (first | exact At.z | apply At.s))) (by decide), ?_⟩; intro _ e; replace hs := Sat.wra hs (by (repeat (first | exact At.z | apply At.s))) e ((inf_len z9).trans rfl); clear e; simp only [put] at hs)
    refine ⟨_, Sat.ld hs (by (repeat (first | exact At.z | apply At.s))) rfl, _, z9, Sat.row hs (by (repeat (first | exact At.z | apply At.s))) (inf_row z9), _, Sat.ld hs (by (repeat (first | exact At.z | apply At.s))) (inf_10 z9), _, Sat.ld hs (by (repeat (first | exact At.z | apply At.s))) (inf_11 z9), _, Sat.ld hs (by (repeat (first | exact At.z | apply At.s))) (inf_12 z9), ?_⟩
    exact k _ hs.drop.drop
  have ee : erasesM C page = (C.s.erases.getD page.toNat 0, 0) := by unfold erasesM; rw [if_neg (by simpa using e)]
  rw [ee, if_neg (by simp)]
  rw [if_neg (by simpa using e)] at k
  obtain ⟨ho, p1, p2⟩ := askedM_zero e
  refine Config_sp hs ci.s.s ?_
  intro h1 hs
  have hcells := ok.may.cells
  have hj : page.toNat < C.s.pages.length := by omega
  have erow : C.s.pages.getD page.toNat [] = C.s.pages[page.toNat] := by simp [List.getD, List.getElem?_eq_getElem hj]
  have hrl := ok.fits.cells _ (List.getElem_mem hj)
  have hrb := ok.typed.bytes _ (List.getElem_mem hj)
  rw [erow] at k
  generalize hrow : C.s.pages[page.toNat] = row at *
  have eread : ∀ n : Nat, n < C.cfg.cells.toNat → readM C page n = (cellAt row n, 0) := by
    intro n hn
    have ec : asksCellM C page n = 0 := by
      unfold asksCellM
      rw [askedM_in ho p1 p2, if_neg (by simp), askedM_in ho (by omega) (by omega)]
    unfold readM
    rw [ec, if_neg (by simp), erow, Int.toNat_natCast]
  intro J hJ
  refine loop_up C.cfg.cells.toNat (fun n h => Sat h0 (blk n2 (infI (ofM row n)) :: blk n1 (infI inf0) :: A) h) ?_ ?_ 0 _ (by omega) hs
  · intro n h2 hn hs hk
    apply hJ
    rw [ltI_eq, if_pos (by simp; omega)]
    refine Read_sp hs ci.s.s page n ?_
    intro h3 hs
    rw [eread n hn]
    have hcl : (cellAt row n).length = 32 := cellAt_length (by omega)
    have hcb : bytesOk (cellAt row n) := fun v hv => hrb v (cellAt_mem hv)
    have hnl := ofM_len row n
    have hslot := recM_slot (cellAt row n) hcb
    intro n3 _ hn3; replace hs := Sat.new hs hn3; clear hn3
    refine ⟨Sat.can hs (by (repeat (first | exact At.z | apply At.s))) (by simp [hcl]), ?_⟩
    intro _ e; replace hs := Sat.wra hs (by (repeat (first | exact At.z | apply At.s))) e (by rw [ints_length, ints_length, hcl]; rfl); clear e; simp only [put] at hs
    rw [if_neg (by simp)]
    refine ⟨_, hcl, hs.row0 .z, ?_⟩
    refine Read3_sp _ hcl hcb hs ?_
    intro h4 hs
    refine lay_sp (i := 1) (ofM row n) hnl hs (.s .z) n _ _ _ hslot ?_
    intro h5 hs
    rw [wrap_succ (by omega)]
    exact hk _ hs.drop
  · intro h2 hs
    apply hJ
    rw [ltI_eq, if_neg (by simp; omega)]
    have hnl := ofM_len row C.cfg.cells.toNat
    have hbl := ofM_blank row C.cfg.cells.toNat (by omega)
    generalize hO : ofM row C.cfg.cells.toNat = O at *
    refine ⟨_, Sat.ld hs (by (repeat (first | exact At.z | apply At.s))) rfl, _, hnl, Sat.row hs (by (repeat (first | exact At.z | apply At.s))) (inf_row hnl), _, Sat.ld hs (by (repeat (first | exact At.z | apply At.s))) (inf_10 hnl), _, Sat.ld hs (by (repeat (first | exact At.z | apply At.s))) (inf_11 hnl), _, Sat.ld hs (by (repeat (first | exact At.z | apply At.s))) (inf_12 hnl), ?_⟩
    have ebl : (O.head == 0 && (O.nums == zeros 9 && (O.next == 0 && (O.blank == false && (O.torn == 0 && true))))) = decide (O.next = 0) := by
      by_cases c : O.next = 0
      · rw [hbl.1 c]; decide
      · rw [decide_eq_false c]
        have : (O.next == 0) = false := by simpa using c
        rw [this]; simp
    rw [ebl]
    refine ⟨hs.can .z (by rw [inf_len hnl]; decide), ?_⟩
    intro h3 e
    replace hs := hs.wr .z e
    rw [inf_s11 hnl, put_zero] at hs
    refine ⟨_, Sat.ld hs (by (repeat (first | exact At.z | apply At.s))) rfl, _, hnl, Sat.row hs (by (repeat (first | exact At.z | apply At.s))) (inf_row hnl), _, Sat.ld hs (by (repeat (first | exact At.z | apply At.s))) (inf_10 hnl), _, Sat.ld hs (by (repeat (first | exact At.z | apply At.s))) (inf_11 hnl), _, Sat.ld hs (by (repeat (first | exact At.z | apply At.s))) (inf_12 hnl), ?_⟩
    (refine ⟨Sat.can hs (by (repeat (first | exact At.z | apply At.s))) (by decide), ?_⟩; intro _ e; replace hs := Sat.wra hs (by (repeat (first | exact At.z | apply At.s))) e ((inf_len hnl).trans rfl); clear e; simp only [put] at hs)
    refine ⟨_, Sat.ld hs (by (repeat (first | exact At.z | apply At.s))) rfl, _, hnl, Sat.row hs (by (repeat (first | exact At.z | apply At.s))) (inf_row hnl), _, Sat.ld hs (by (repeat (first | exact At.z | apply At.s))) (inf_10 hnl), _, Sat.ld hs (by (repeat (first | exact At.z | apply At.s))) (inf_11 hnl), _, Sat.ld hs (by (repeat (first | exact At.z | apply At.s))) (inf_12 hnl), ?_⟩
    unfold pageI at k
    rw [hO] at k
    exact k _ hs.drop.drop
end
end Go.Proofs.Ytamfkofcpoglnaa

/- Contracts of the document's pages; PageLooks. Own work. -/
set_option autoImplicit false
set_option maxRecDepth 100000
set_option linter.unusedVariables false
namespace Go.Proofs.Ytamfkofcpoglnaa
open Go Go.Vc

section
variable {h0 h : H} {A : List Ent} {i j p r b : Nat} {C : Cm}
theorem Of_sp {Q : Int → List Int → Int → Bool → Int → H → Prop} {q : Option Addr} {l c : Nat} {row : List Int} (hs : Sat h0 A h) (rd : ∀ h', Sat h0 A h' → hsv h' q 32 l (ints .u8 row)) (hb : bytesOk row) (hl : l < 2 ^ 60)
    (k : ∀ h', Sat h0 A h' → Q (pageI row l).head (pageI row l).nums (pageI row l).next (pageI row l).blank (pageI row l).torn h') : F_portcullisref08_Of q l c Q h := by
  unfold F_portcullisref08_Of G_portcullisref08_Of
  simp only [add_mk, Nat.zero_add, List.append_nil]
  intro n6 _ hn; replace hs := Sat.new hs hn; clear hn
  intro n9 _ hn; replace hs := Sat.new hs hn; clear hn
  have z9 : (zeros 9).length = 9 := rfl
  (refine ⟨Sat.can hs (by (repeat (first | exact At.z | apply At.s))) (by decide), ?_⟩; intro _ e; replace hs := Sat.wra hs (by (repeat (first | exact At.z | apply At.s))) e ((inf_len z9).trans rfl); clear e; simp only [put] at hs)
  intro J hJ
  refine loop_up l (fun n h => Sat h0 (blk n9 (infI (ofM row n)) :: blk n6 (infI inf0) :: A) h) ?_ ?_ 0 _ (by omega) hs
  · intro n h1 hn hs hk
    apply hJ
    rw [ltI_eq, if_pos (by simp; omega)]
    obtain ⟨q', hq, hk2, hr⟩ := hsv_cell (rd _ hs.drop.drop) hn
    have hcl : (cellAt row n).length = 32 := cellAt_length hk2
    have hcb : bytesOk (cellAt row n) := fun v hv => hb v (cellAt_mem hv)
    have hnl := ofM_len row n
    have hslot := recM_slot (cellAt row n) hcb
    refine ⟨_, hq, by omega, by omega, _, hcl, by rw [Int.toNat_natCast]; exact hr, ?_⟩
    refine rRead6_sp _ hcl hcb hs ?_
    intro h2 hs
    replace hk : ∀ h', Sat h0 (blk n9 (infI (layM (ofM row n) n (recM (cellAt row n)).1 (recM (cellAt row n)).2.1 (recM (cellAt row n)).2.2)) :: blk n6 (infI inf0) :: A) h' → J [si (n + 1)] h' := hk
    generalize (recM (cellAt row n)).1 = kind at *
    generalize (recM (cellAt row n)).2.1 = slot at *
    generalize (recM (cellAt row n)).2.2 = num at *
    generalize ofM row n = I at *
    rw [wrap_succ (by omega)]
    intro n23 _ hn23; replace hs := Sat.new hs hn23; clear hn23
    (refine ⟨Sat.can hs (by (repeat (first | exact At.z | apply At.s))) (by simp), ?_⟩; intro _ e; replace hs := Sat.wr hs (by (repeat (first | exact At.z | apply At.s))) e; clear e; simp only [put, splice, List.set] at hs)
    intro J2 hJ2
    have main : ∀ (I : Inf), I.nums.length = 9 → (∀ h', Sat h0 (blk n9 (infI (layN I n kind slot num)) :: blk n6 (infI inf0) :: A) h' → J [si (n + 1)] h') →
        ∀ h2, Sat h0 (blk n23 [.int .i64 kind, .int .i64 slot, .int .i64 num] :: blk n9 (infI I) :: blk n6 (infI inf0) :: A) h2 → J2 [] h2 := by
      intro I hl k h2 hs
      unfold layN at k
      apply hJ2
      refine ⟨_, Sat.ld hs (by (repeat (first | exact At.z | apply At.s))) (by rfl), ?_⟩
      by_cases c1 : kind = 3
      · rw [if_pos c1] at k
        rw [if_pos (by simpa using c1)]
        refine ⟨_, hs.ld (.s .z) (inf_12 hl), hs.can (.s .z) (by rw [inf_len hl]; decide), ?_⟩
        intro h3 e
        replace hs := hs.wr (.s .z) e
        rw [inf_s12 hl] at hs
        exact k _ hs.drop
      rw [if_neg c1] at k
      rw [if_neg (by simpa using c1)]
      intro J3 hJ3
      have two : ∀ bb : Bool, (bb = true ↔ kind = 1 ∧ (n : Int) = 0) → J3 [.dv (.one (.bool bb))] h2 := by
        intro bb c2
        apply hJ3
        by_cases c3 : bb = true
        · rw [if_pos c3]
          rw [if_pos (c2.1 c3)] at k
          refine ⟨_, Sat.ld hs (by (repeat (first | exact At.z | apply At.s))) (by rfl), ?_⟩
          refine ⟨hs.can (.s .z) (by rw [inf_len hl]; decide), ?_⟩
          intro h3 e
          replace hs := hs.wr (.s .z) e
          rw [inf_s0] at hs
          exact k _ hs.drop
        rw [if_neg c3]
        rw [if_neg (fun y => c3 (c2.2 y))] at k
        intro J4 hJ4
        have three : ∀ bb : Bool, (bb = true ↔ kind = 2 ∧ 0 < (n : Int)) → J4 [.dv (.one (.bool bb))] h2 := by
          intro bb c4
          apply hJ4
          by_cases c5 : bb = true
          · rw [if_pos c5]
            rw [if_pos (c4.1 c5)] at k
            obtain ⟨s1, s2⟩ := hslot (c4.1 c5).1
            refine ⟨_, Sat.ld hs (by (repeat (first | exact At.z | apply At.s))) (by rfl), ?_⟩
            refine ⟨_, Sat.ld hs (by (repeat (first | exact At.z | apply At.s))) (by rfl), ?_⟩
            refine ⟨by omega, by omega, _, by rw [Nat.mul_one]; exact hs.ld (.s .z) (inf_num hl (by omega)), ?_⟩
            refine ⟨_, Sat.ld hs (by (repeat (first | exact At.z | apply At.s))) (by rfl), ?_⟩
            refine ⟨by omega, by omega, by rw [Nat.mul_one]; exact hs.can (.s .z) (by rw [inf_len hl]; omega), ?_⟩
            intro h3 e
            rw [Nat.mul_one] at e
            replace hs := hs.wr (.s .z) e
            rw [inf_sn hl (by omega)] at hs
            exact k _ hs.drop
          · rw [if_neg c5]
            rw [if_neg (fun y => c5 (c4.2 y))] at k
            exact k _ hs.drop
        refine ⟨_, Sat.ld hs (by (repeat (first | exact At.z | apply At.s))) (by rfl), ?_⟩
        by_cases c4 : kind = 2
        case neg =>
          rw [if_neg (by rw [beq_iff_eq]; exact c4)]
          exact three _ ⟨fun y => by simp at y, fun y => absurd y.1 c4⟩
        rw [if_pos (by rw [beq_iff_eq]; exact c4)]
        by_cases c5 : 0 < (n : Int)
        case neg =>
          rw [ltI_eq, if_neg (by rw [decide_eq_true_eq]; exact c5)]
          exact three _ ⟨fun y => by simp at y, fun y => absurd y.2 c5⟩
        rw [ltI_eq, if_pos (by rw [decide_eq_true_eq]; exact c5)]
        obtain ⟨s1, s2⟩ := hslot c4
        refine ⟨_, Sat.ld hs (by (repeat (first | exact At.z | apply At.s))) (by rfl), ?_⟩
        rw [leI_eq, if_pos (by rw [decide_eq_true_eq]; exact s1)]
        refine ⟨_, Sat.ld hs (by (repeat (first | exact At.z | apply At.s))) (by rfl), ?_⟩
        rw [leI_eq]
        exact three _ ⟨fun y => ⟨c4, c5⟩, fun y => by rw [decide_eq_true_eq]; exact s2⟩
      refine ⟨_, Sat.ld hs (by (repeat (first | exact At.z | apply At.s))) (by rfl), ?_⟩
      by_cases c2 : kind = 1
      · rw [if_pos (by rw [beq_iff_eq]; exact c2)]
        exact two _ (by rw [beq_iff_eq]; exact ⟨fun y => ⟨c2, y⟩, fun y => y.2⟩)
      · rw [if_neg (by rw [beq_iff_eq]; exact c2)]
        exact two _ ⟨fun y => by simp at y, fun y => absurd y.1 c2⟩
    unfold layM at hk
    refine ⟨_, Sat.ld hs (by (repeat (first | exact At.z | apply At.s))) (by rfl), ?_⟩
    by_cases c0 : kind = 0
    · rw [if_neg (by simpa using c0)]
      have e : nextM I n kind = I := if_neg (by simpa using c0)
      rw [e] at hk
      exact main I hnl hk _ hs
    · rw [if_pos (by simpa using c0)]
      have e : nextM I n kind = { I with next := IntKind.i64.wrap (n + 1) } := if_pos (by simpa using c0)
      rw [e] at hk
      refine ⟨hs.can (.s .z) (by rw [inf_len hnl]; decide), ?_⟩
      intro h3 e
      replace hs := hs.wr (.s .z) e
      rw [wrap_succ (by omega)] at hk
      rw [inf_s10 hnl] at hs
      exact main { I with next := ((n + 1 : Nat) : Int) } hnl hk _ hs
  · intro h1 hs
    apply hJ
    rw [ltI_eq, if_neg (by simp)]
    have hnl := ofM_len row l
    unfold pageI at k
    generalize hO : ofM row l = O at *
    refine ⟨_, hs.ld .z (inf_10 hnl), ?_⟩
    have ebl : (O.next == 0) = decide (O.next = 0) := by
      by_cases c : O.next = 0
      · rw [c]; decide
      · rw [decide_eq_false c]; simpa using c
    rw [ebl]
    refine ⟨hs.can .z (by rw [inf_len hnl]; decide), ?_⟩
    intro h3 e
    replace hs := hs.wr .z e
    rw [inf_s11 hnl, put_zero] at hs
    refine ⟨_, Sat.ld hs (by (repeat (first | exact At.z | apply At.s))) rfl, _, hnl, Sat.row hs (by (repeat (first | exact At.z | apply At.s))) (inf_row hnl), _, Sat.ld hs (by (repeat (first | exact At.z | apply At.s))) (inf_10 hnl), _, Sat.ld hs (by (repeat (first | exact At.z | apply At.s))) (inf_11 hnl), _, Sat.ld hs (by (repeat (first | exact At.z | apply At.s))) (inf_12 hnl), ?_⟩
    (refine ⟨Sat.can hs (by (repeat (first | exact At.z | apply At.s))) (by decide), ?_⟩; intro _ e; replace hs := Sat.wra hs (by (repeat (first | exact At.z | apply At.s))) e ((inf_len hnl).trans rfl); clear e; simp only [put] at hs)
    refine ⟨_, Sat.ld hs (by (repeat (first | exact At.z | apply At.s))) rfl, _, hnl, Sat.row hs (by (repeat (first | exact At.z | apply At.s))) (inf_row hnl), _, Sat.ld hs (by (repeat (first | exact At.z | apply At.s))) (inf_10 hnl), _, Sat.ld hs (by (repeat (first | exact At.z | apply At.s))) (inf_11 hnl), _, Sat.ld hs (by (repeat (first | exact At.z | apply At.s))) (inf_12 hnl), ?_⟩
    exact k _ hs.drop.drop
theorem ref_pg (hs : Sat h0 A h) (cj : At A j (refE r C)) : ∃ w : Pl, C.ok ∧ (∀ o v, (C.cells w.a w.b w.c w.m)[o]? = some v → hc h ⟨r, o, none⟩ = some v) ∧ RdM h 32 w.a C.s.pages := by
  obtain ⟨⟨w, ms⟩, ⟨ok, _, _, _⟩, hs⟩ := (hs.front cj).open_
  dsimp only [refL, List.cons_append, List.nil_append] at hs
  exact ⟨w, ok, fun o v e => hs.ld .z e, hs.rdM (.s .z)⟩
theorem rLook_sp {Q : Int → List Int → Int → Bool → Int → Int → H → Prop} (hs : Sat h0 A h) (ci : At A i (refE p C)) (page : Int)
    (k : ∀ h', Sat h0 A h' → Q (lookM C page).1.head (lookM C page).1.nums (lookM C page).1.next (lookM C page).1.blank (lookM C page).1.torn (lookM C page).2 h') : F_portcullisref08_Look ⟨p, 0, none⟩ page Q h := by
  unfold F_portcullisref08_Look G_portcullisref08_Look
  simp only [add_mk, Nat.zero_add, List.append_nil]
  obtain ⟨_, ok, _⟩ := ref_pg hs ci
  intro n6 _ hn; replace hs := Sat.new hs hn; clear hn
  have z9 : (zeros 9).length = 9 := rfl
  refine rRead_sp hs ci.s page 0 ?_
  intro h1 hs
  have ea := asksCellM_page ok page
  have hrd : (readM C page 0).1.length = 32 := by
    unfold readM
    split
    · rfl
    · rename_i e
      obtain ⟨_, _, _, _, _, hj, _, hk⟩ := asksCellM_zero ok (by simpa using e)
      have : C.s.pages.getD page.toNat [] = C.s.pages[page.toNat] := by simp [List.getD, List.getElem?_eq_getElem hj]
      rw [this]
      exact cellAt_length hk
  have herr : (readM C page 0).2 = askedM C page C.s.pages.length := by
    unfold readM
    rw [← ea]
    split
    · rfl
    · rename_i e
      have : asksCellM C page 0 = 0 := by simpa using e
      rw [this]
  intro n12 _ hn; replace hs := Sat.new hs hn; clear hn
  refine ⟨Sat.can hs (by (repeat (first | exact At.z | apply At.s))) (by simp [hrd]), ?_⟩
  intro _ e; replace hs := Sat.wra hs (by (repeat (first | exact At.z | apply At.s))) e (by rw [ints_length, ints_length, hrd]; rfl); clear e; simp only [put] at hs
  rw [herr]
  unfold lookM at k
  by_cases e : askedM C page C.s.pages.length = 0
  case neg =>
    rw [if_pos (by simpa using e)]
    rw [if_pos (by simpa using e)] at k
    (refine ⟨Sat.can hs (by (repeat (first | exact At.z | apply At.s))) (by decide), ?_⟩; intro _ e; replace hs := Sat.wra hs (by (repeat (first | exact At.z | apply At.s))) e ((inf_len z9).trans rfl); clear e; simp only [put] at hs)
    refine ⟨_, Sat.ld hs (by (repeat (first | exact At.z | apply At.s))) rfl, _, z9, Sat.row hs (by (repeat (first | exact At.z | apply At.s))) (inf_row z9), _, Sat.ld hs (by (repeat (first | exact At.z | apply At.s))) (inf_10 z9), _, Sat.ld hs (by (repeat (first | exact At.z | apply At.s))) (inf_11 z9), _, Sat.ld hs (by (repeat (first | exact At.z | apply At.s))) (inf_12 z9), ?_⟩
    exact k _ hs.drop.drop
  rw [if_neg (by simpa using e)]
  rw [if_neg (by simpa using e)] at k
  obtain ⟨ho, p1, p2⟩ := askedM_zero e
  obtain ⟨w, _, ld, rdp⟩ := ref_pg hs ci.s.s
  have hj : page.toNat < C.s.pages.length := by omega
  have erow : C.s.pages.getD page.toNat [] = C.s.pages[page.toNat] := by simp [List.getD, List.getElem?_eq_getElem hj]
  have hrl := ok.fits.cells _ (List.getElem_mem hj)
  have hrb := ok.typed.bytes _ (List.getElem_mem hj)
  have hplen := rdp.len
  have hcells := ok.may.cells
  obtain ⟨q, x, hq, hx, hrow⟩ := rdp.at hj
  rw [erow] at k
  generalize C.s.pages[page.toNat] = row at *
  refine ⟨_, _, _, ld 7 _ rfl, ?_⟩
  refine ⟨_, hq, p1, by omega, _, _, _, hx, ?_⟩
  have exl : x.2.1 = C.cfg.cells.toNat := by
    have := hrow.1
    rw [ints_length] at this; omega
  refine Of_sp (A := []) (Sat.init _) (fun h' hs' => hsv_ext hs'.ex hrow (fun _ _ y => y)) hrb (by omega) ?_
  intro h2 hs2
  replace hs := hs.ext hs2.ex
  rw [exl]
  have hnl : (pageI row C.cfg.cells.toNat).nums.length = 9 := ofM_len row C.cfg.cells.toNat
  (refine ⟨Sat.can hs (by (repeat (first | exact At.z | apply At.s))) (by decide), ?_⟩; intro _ e; replace hs := Sat.wra hs (by (repeat (first | exact At.z | apply At.s))) e ((inf_len hnl).trans rfl); clear e; simp only [put] at hs)
  refine ⟨_, Sat.ld hs (by (repeat (first | exact At.z | apply At.s))) rfl, _, hnl, Sat.row hs (by (repeat (first | exact At.z | apply At.s))) (inf_row hnl), _, Sat.ld hs (by (repeat (first | exact At.z | apply At.s))) (inf_10 hnl), _, Sat.ld hs (by (repeat (first | exact At.z | apply At.s))) (inf_11 hnl), _, Sat.ld hs (by (repeat (first | exact At.z | apply At.s))) (inf_12 hnl), ?_⟩
  exact k _ hs.drop.drop
theorem like_sp {Q : Bool → H → Prop} {a n t : Int} {l : List Int} {b : Bool} (hl : l.length = 9) (hs : Sat h0 A h) (k : ∀ h', Sat h0 A h' → Q true h') : F_portcullislaw08_like a l n b t a l n b t Q h := by
  unfold F_portcullislaw08_like G_portcullislaw08_like
  simp only [add_mk, Nat.zero_add, List.append_nil]
  intro n1 _ hn; replace hs := Sat.new hs hn; clear hn
  intro n2 _ hn; replace hs := Sat.new hs hn; clear hn
  refine ⟨_, Sat.ld hs (by (repeat (first | exact At.z | apply At.s))) (by rfl), ?_⟩
  refine ⟨_, Sat.ld hs (by (repeat (first | exact At.z | apply At.s))) (by rfl), ?_⟩
  rw [if_pos (by simp)]
  refine ⟨_, hl, Sat.row hs (by (repeat (first | exact At.z | apply At.s))) (inf_row hl), _, hl, Sat.row hs (by (repeat (first | exact At.z | apply At.s))) (inf_row hl), ?_⟩
  rw [if_pos (by simp)]
  refine ⟨_, Sat.ld hs (i := 1) (by (repeat (first | exact At.z | apply At.s))) (inf_10 hl), _, Sat.ld hs (i := 0) (by (repeat (first | exact At.z | apply At.s))) (inf_10 hl), ?_⟩
  rw [if_pos (by simp)]
  refine ⟨_, Sat.ld hs (i := 1) (by (repeat (first | exact At.z | apply At.s))) (inf_11 hl), _, Sat.ld hs (i := 0) (by (repeat (first | exact At.z | apply At.s))) (inf_11 hl), ?_⟩
  rw [if_pos (by simp)]
  refine ⟨_, Sat.ld hs (i := 1) (by (repeat (first | exact At.z | apply At.s))) (inf_12 hl), _, Sat.ld hs (i := 0) (by (repeat (first | exact At.z | apply At.s))) (inf_12 hl), ?_⟩
  have := k _ hs.drop.drop
  simpa using this
end
end Go.Proofs.Ytamfkofcpoglnaa
