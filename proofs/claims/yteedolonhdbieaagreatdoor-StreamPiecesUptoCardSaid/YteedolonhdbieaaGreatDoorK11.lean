/- StreamPieces: what is proved and its parts, laid together by a program of ours: Pg2 Pg3 Pg4 Pg5 Pg6 Ar1 Ar2 Ar3 Ar5 Ar8 Lg1 Ly1 Lg2 Ly2 Ar9 Lw1 Lw2 Lw3 St1 St4 Tq2 Tq4 Up Im1 -/
import Derived.Test.YteedolonhdbieaaGreatDoorRows
import Derived.Test.YteedolonhdbieaaGreatDoorK10
set_option autoImplicit false
set_option linter.all false
/- Contracts of pages: what a page tells, in the program and in the document. Own work. -/
section
set_option maxRecDepth 100000
set_option linter.unusedVariables false
namespace Go.Proofs.YteedolonhdbieaaGreatDoor
open Go Go.Vc

structure Inf where
 head : Int
 nums : List Int
 next : Int
 blank : Bool
 torn : Int
abbrev infV (a : Int) (l : List Int) (n : Int) (b : Bool) (t : Int) : List Value := .int .i64 a :: (ints .i64 l ++ [.int .i64 n, .bool b, .int .i64 t])
abbrev infI (I : Inf) : List Value := infV I.head I.nums I.next I.blank I.torn
def inf0 : Inf := ⟨0, zeros 9, 0, false, 0⟩
theorem inf_10 {a n t : Int} {l : List Int} {b : Bool} (h : l.length = 9) : (infV a l n b t)[10]? = some (.int .i64 n) := by
 have : (ints .i64 l).length = 9 := by simpa using h
 simp [infV, this]
theorem inf_11 {a n t : Int} {l : List Int} {b : Bool} (h : l.length = 9) : (infV a l n b t)[11]? = some (.bool b) := by
 have : (ints .i64 l).length = 9 := by simpa using h
 simp [infV, this]
theorem inf_12 {a n t : Int} {l : List Int} {b : Bool} (h : l.length = 9) : (infV a l n b t)[12]? = some (.int .i64 t) := by
 have : (ints .i64 l).length = 9 := by simpa using h
 simp [infV, this]
theorem inf_num {a n t : Int} {l : List Int} {b : Bool} (h : l.length = 9) {i : Nat} (hi : i < 9) : (infV a l n b t)[1 + i]? = some (.int .i64 (l.getD i 0)) := by
 have : (ints .i64 l).length = 9 := by simpa using h
 rw [infV, Nat.add_comm, List.getElem?_cons_succ, List.getElem?_append_left (by omega), ints_get, List.getElem?_eq_getElem (by omega)]
 simp [List.getD, List.getElem?_eq_getElem (show i < l.length by omega)]
theorem inf_row {a n t : Int} {l : List Int} {b : Bool} (h : l.length = 9) : ∀ i, i < l.length → (infV a l n b t)[1 + i]? = l[i]?.map (Value.int .i64) := by
 intro i hi
 rw [inf_num h (by omega), List.getElem?_eq_getElem hi]
 simp [List.getD, List.getElem?_eq_getElem hi]
theorem inf_len {a n t : Int} {l : List Int} {b : Bool} (h : l.length = 9) : (infV a l n b t).length = 13 := by simp [infV, h]
theorem inf_s0 {a n t v : Int} {l : List Int} {b : Bool} : splice (infV a l n b t) 0 [.int .i64 v] = infV v l n b t := rfl
theorem set_app (l : List Value) (x y : List Value) (i : Nat) (v : Value) : (l ++ x).set (l.length + i) v = l ++ x.set i v := by
 rw [List.set_append_right _ _ (by omega), Nat.add_sub_cancel_left]
theorem inf_s10 {a n t v : Int} {l : List Int} {b : Bool} (h : l.length = 9) : splice (infV a l n b t) 10 [.int .i64 v] = infV a l v b t := by
 have h9 : (ints .i64 l).length = 9 := by simpa using h
 show (infV a l n b t).set 10 (.int .i64 v) = _
 unfold infV
 rw [List.set_cons_succ, show 9 = (ints .i64 l).length + 0 by omega, set_app _ _ []]
 rfl
theorem inf_s11 {a n t : Int} {l : List Int} {b v : Bool} (h : l.length = 9) : splice (infV a l n b t) 11 [.bool v] = infV a l n v t := by
 have h9 : (ints .i64 l).length = 9 := by simpa using h
 show (infV a l n b t).set 11 (.bool v) = _
 unfold infV
 rw [List.set_cons_succ, show 10 = (ints .i64 l).length + 1 by omega, set_app _ _ []]
 rfl
theorem inf_s12 {a n t v : Int} {l : List Int} {b : Bool} (h : l.length = 9) : splice (infV a l n b t) 12 [.int .i64 v] = infV a l n b v := by
 have h9 : (ints .i64 l).length = 9 := by simpa using h
 show (infV a l n b t).set 12 (.int .i64 v) = _
 unfold infV
 rw [List.set_cons_succ, show 11 = (ints .i64 l).length + 2 by omega, set_app _ _ []]
 rfl
theorem inf_sn {a n t v : Int} {l : List Int} {b : Bool} (h : l.length = 9) {i : Nat} (hi : i < 9) : splice (infV a l n b t) (1 + i) [.int .i64 v] = infV a (l.set i v) n b t := by
 have h9 : (ints .i64 l).length = 9 := by simpa using h
 show (infV a l n b t).set (1 + i) (.int .i64 v) = _
 unfold infV
 rw [Nat.add_comm, List.set_cons_succ, List.set_append_left _ _ (by omega), ints_set]
def nextM (I : Inf) (n kind : Int) : Inf := if kind ≠ 0 then { I with next := IntKind.i64.wrap (n + 1) } else I
def layN (I : Inf) (n kind slot num : Int) : Inf :=
 if kind = 3 then { I with torn := IntKind.i64.wrap (I.torn + 1) }
 else if kind = 1 ∧ n = 0 then { I with head := num }
 else if kind = 2 ∧ 0 < n then { I with nums := I.nums.set slot.toNat (if num > I.nums.getD slot.toNat 0 then num else I.nums.getD slot.toNat 0) }
 else I
def layM (I : Inf) (n kind slot num : Int) : Inf := layN (nextM I n kind) n kind slot num
theorem nextM_nums (I : Inf) (n kind : Int) : (nextM I n kind).nums = I.nums := by unfold nextM; split <;> rfl
theorem layN_len (I : Inf) (n kind slot num : Int) : (layN I n kind slot num).nums.length = I.nums.length := by
 unfold layN
 split
 ·rfl
 ·split
  ·rfl
  ·split
   ·simp
   ·rfl
theorem layM_len (I : Inf) (n kind slot num : Int) : (layM I n kind slot num).nums.length = I.nums.length := by
 unfold layM; rw [layN_len, nextM_nums]
section
variable {h0 h : H} {A : List Ent} {i j p r b : Nat} {C : Cm}
theorem lay_sp {Q : H → Prop} (I : Inf) (hl : I.nums.length = 9) (hs : Sat h0 A h) (m : At A i (blk b (infI I))) (n kind slot num : Int) (hslot : kind = 2 → 0 ≤ slot ∧ slot ≤ 8)
  (k : ∀ h', Sat h0 (put A i (blk b (infI (layM I n kind slot num)))) h' → Q h') : F_page_Info_lay ⟨b, 0, none⟩ n kind slot num Q h := by
 unfold F_page_Info_lay G_page_Info_lay
 try simp only [add_mk, Nat.zero_add, List.append_nil]
 intro n1 _ hn; replace hs := Sat.new hs hn; clear hn
 intro J hJ
 unfold layM at k
 -- behind the first if
 have main : ∀ (I : Inf), I.nums.length = 9 → (∀ h', Sat h0 (put A i (blk b (infI (layN I n kind slot num)))) h' → Q h') → ∀ h2, Sat h0 (blk n1 [.int .i64 kind, .int .i64 slot, .int .i64 num] :: put A i (blk b (infI I))) h2 → J [] h2 := by
  intro I hl k h2 hs
  unfold layN at k
  have m2 := (m.put (blk b (infI I))).s (x := blk n1 [.int .i64 kind, .int .i64 slot, .int .i64 num])
  apply hJ
  refine ⟨_, Sat.ld hs (by (repeat (first | exact At.z | apply At.s))) (by rfl), ?_⟩
  by_cases c1 : kind = 3
  ·rw [if_pos c1] at k
   rw [if_pos (by simpa using c1)]
   refine ⟨_, hs.ld m2 (inf_12 hl), hs.can m2 (by rw [inf_len hl]; decide), ?_⟩
   intro h3 e
   replace hs := hs.wr m2 e
   rw [inf_s12 hl] at hs
   refine k _ ?_
   have := hs
   simp only [put_succ, put_put] at this
   exact this.drop
  rw [if_neg c1] at k
  rw [if_neg (by simpa using c1)]
  intro J2 hJ2
  have two : ∀ bb : Bool, (bb = true ↔ kind = 1 ∧ n = 0) → J2 [.dv (.one (.bool bb))] h2 := by
   intro bb c2
   apply hJ2
   by_cases c3 : bb = true
   ·rw [if_pos c3]
    rw [if_pos (c2.1 c3)] at k
    refine ⟨_, Sat.ld hs (by (repeat (first | exact At.z | apply At.s))) (by rfl), ?_⟩
    refine ⟨hs.can m2 (by rw [inf_len hl]; decide), ?_⟩
    intro h3 e
    replace hs := hs.wr m2 e
    rw [inf_s0] at hs
    refine k _ ?_
    have := hs
    simp only [put_succ, put_put] at this
    exact this.drop
   rw [if_neg c3]
   rw [if_neg (fun y => c3 (c2.2 y))] at k
   refine ⟨_, Sat.ld hs (by (repeat (first | exact At.z | apply At.s))) (by rfl), ?_⟩
   by_cases c4 : kind = 2
   case neg =>
    rw [if_neg (fun y => c4 y.1)] at k
    rw [if_neg (by rw [beq_iff_eq]; exact c4)]
    exact k _ hs.drop
   rw [if_pos (by rw [beq_iff_eq]; exact c4)]
   by_cases c5 : 0 < n
   case neg =>
    rw [if_neg (fun y => c5 y.2)] at k
    rw [ltI_eq, if_neg (by simpa using c5)]
    exact k _ hs.drop
   rw [if_pos ⟨c4, c5⟩] at k
   rw [ltI_eq, if_pos (by simpa using c5)]
   obtain ⟨s1, s2⟩ := hslot c4
   refine ⟨_, Sat.ld hs (by (repeat (first | exact At.z | apply At.s))) (by rfl), ?_⟩
   refine ⟨_, Sat.ld hs (by (repeat (first | exact At.z | apply At.s))) (by rfl), ?_⟩
   refine ⟨by omega, by omega, _, by rw [Nat.mul_one]; exact hs.ld m2 (inf_num hl (by omega)), ?_⟩
   refine ⟨_, Sat.ld hs (by (repeat (first | exact At.z | apply At.s))) (by rfl), ?_⟩
   refine ⟨by omega, by omega, by rw [Nat.mul_one]; exact hs.can m2 (by rw [inf_len hl]; omega), ?_⟩
   intro h3 e
   rw [Nat.mul_one] at e
   replace hs := hs.wr m2 e
   rw [inf_sn hl (by omega)] at hs
   refine k _ ?_
   have := hs
   simp only [put_succ, put_put] at this
   exact this.drop
  refine ⟨_, Sat.ld hs (by (repeat (first | exact At.z | apply At.s))) (by rfl), ?_⟩
  by_cases c2 : kind = 1
  ·rw [if_pos (by rw [beq_iff_eq]; exact c2)]
   exact two _ (by rw [beq_iff_eq]; exact ⟨fun y => ⟨c2, y⟩, fun y => y.2⟩)
  ·rw [if_neg (by rw [beq_iff_eq]; exact c2)]
   exact two _ ⟨fun y => by simp at y, fun y => absurd y.1 c2⟩
 refine ⟨_, Sat.ld hs (by (repeat (first | exact At.z | apply At.s))) (by rfl), ?_⟩
 by_cases c0 : kind = 0
 ·rw [if_neg (by simpa using c0)]
  have e : nextM I n kind = I := if_neg (by simpa using c0)
  rw [e] at k
  exact main I hl k _ (by rw [m.put_self]; exact hs)
 ·rw [if_pos (by simpa using c0)]
  have e : nextM I n kind = { I with next := IntKind.i64.wrap (n + 1) } := if_pos (by simpa using c0)
  rw [e] at k
  refine ⟨hs.can m.s (by rw [inf_len hl]; decide), ?_⟩
  intro h3 e
  replace hs := hs.wr m.s e
  rw [inf_s10 hl, put_succ] at hs
  exact main { I with next := IntKind.i64.wrap (n + 1) } hl k _ hs
def ofM (row : List Int) : Nat → Inf
 | 0 => inf0
 | n + 1 => layM (ofM row n) n (recM (cellAt row n)).1 (recM (cellAt row n)).2.1 (recM (cellAt row n)).2.2
theorem ofM_len (row : List Int) (n : Nat) : (ofM row n).nums.length = 9 := by
 induction n with
 | zero => rfl
 | succ n ih => unfold ofM; rw [layM_len, ih]
theorem layN_next (I : Inf) (n kind slot num : Int) : (layN I n kind slot num).next = I.next := by
 unfold layN; (repeat' split) <;> rfl
theorem ofM_blank (row : List Int) (n : Nat) (hn : n < 2 ^ 60) : ((ofM row n).next = 0 → ofM row n = inf0) ∧ (ofM row n).blank = false := by
 induction n with
 | zero => exact ⟨fun _ => rfl, rfl⟩
 | succ n ih =>
  obtain ⟨i1, i2⟩ := ih (by omega)
  unfold ofM layM
  generalize (recM (cellAt row n)).1 = kind
  generalize (recM (cellAt row n)).2.1 = slot
  generalize (recM (cellAt row n)).2.2 = num
  by_cases c : kind = 0
  ·have e : nextM (ofM row n) n kind = ofM row n := if_neg (by simpa using c)
   rw [e, layN_next]
   have e2 : layN (ofM row n) n kind slot num = ofM row n := by
    unfold layN; rw [if_neg (by omega), if_neg (by omega), if_neg (by omega)]
   rw [e2]
   exact ⟨i1, i2⟩
  ·have e : nextM (ofM row n) n kind = { ofM row n with next := IntKind.i64.wrap (n + 1) } := if_pos (by simpa using c)
   rw [e, layN_next]
   refine ⟨fun x => ?_, ?_⟩
   ·dsimp only at x
    rw [wrap_id (by omega)] at x; omega
   ·unfold layN; (repeat' split) <;> exact i2
theorem recM_slot (x : List Int) (hb : bytesOk x) (h : (recM x).1 = 2) : 0 ≤ (recM x).2.1 ∧ (recM x).2.1 ≤ 8 := by
 unfold recM at *
 split
 ·rename_i c; rw [if_pos c] at h; simp at h
 ·rename_i c; rw [if_neg c] at h
  split
  ·rename_i c; rw [if_pos c] at h; simp at h
  ·rename_i c; rw [if_neg c] at h
   split
   ·rename_i c; rw [if_pos c] at h; simp at h
   ·rename_i c; rw [if_neg c] at h
    split
    ·rename_i c; rw [if_pos c] at h; simp at h
    ·rename_i c; rw [if_neg c] at h
     split
     ·rename_i c
      refine ⟨?_, c.2.1⟩
      show 0 ≤ x.getD 1 0
      rw [List.getD_eq_getElem?_getD]
      cases e : x[1]? with
      | none => exact Int.le_refl _
      | some v => exact (hb v (List.mem_iff_getElem?.2 ⟨1, e⟩)).1
     ·rename_i c; rw [if_neg c] at h; simp at h
def pageI (row : List Int) (n : Nat) : Inf := { ofM row n with blank := decide ((ofM row n).next = 0) }
def lookM (C : Cm) (page : Int) : Inf × Int :=
 if askedM C page C.s.pages.length ≠ 0 then (inf0, askedM C page C.s.pages.length) else (pageI (C.s.pages.getD page.toNat []) C.cfg.cells.toNat, 0)
theorem Look_sp {Q : Int → List Int → Int → Bool → Int → Int → H → Prop} (hs : Sat h0 A h) (ci : At A i (chipE p C)) (page : Int)
  (k : ∀ h', Sat h0 A h' → Q (lookM C page).1.head (lookM C page).1.nums (lookM C page).1.next (lookM C page).1.blank (lookM C page).1.torn (lookM C page).2 h') : F_page_Look ⟨p, 0, none⟩ page Q h := by
 unfold F_page_Look G_page_Look
 try simp only [add_mk, Nat.zero_add, List.append_nil]
 have ok := chip_ok hs ci
 intro n1 _ hn; replace hs := Sat.new hs hn; clear hn
 intro n2 _ hn; replace hs := Sat.new hs hn; clear hn
 have z9 : (zeros 9).length = 9 := rfl
 refine Erases_sp hs ci.s.s page ?_
 unfold lookM at k
 by_cases e : askedM C page C.s.pages.length = 0
 case neg =>
  have ee : erasesM C page = (0, askedM C page C.s.pages.length) := by unfold erasesM; rw [if_pos (by simpa using e)]
  rw [ee, if_pos (by simpa using e)]
  rw [if_pos (by simpa using e)] at k
  refine ⟨_, Sat.ld hs (by (repeat (first | exact At.z | apply At.s))) rfl, _, z9, Sat.row hs (by (repeat (first | exact At.z | apply At.s))) (inf_row z9), _, Sat.ld hs (by (repeat (first | exact At.z | apply At.s))) (inf_10 z9), _, Sat.ld hs (by (repeat (first | exact At.z | apply At.s))) (inf_11 z9), _, Sat.ld hs (by (repeat (first | exact At.z | apply At.s))) (inf_12 z9), ?_⟩
  (refine ⟨Sat.can hs (by (repeat (first | exact At.z | apply At.s))) (by decide), ?_⟩; intro _ e; replace hs := Sat.wra hs (by (repeat (first | exact At.z | apply At.s))) e ((inf_len z9).trans rfl); clear e; simp only [put] at hs)
  refine ⟨_, Sat.ld hs (by (repeat (first | exact At.z | apply At.s))) rfl, _, z9, Sat.row hs (by (repeat (first | exact At.z | apply At.s))) (inf_row z9), _, Sat.ld hs (by (repeat (first | exact At.z | apply At.s))) (inf_10 z9), _, Sat.ld hs (by (repeat (first | exact At.z | apply At.s))) (inf_11 z9), _, Sat.ld hs (by (repeat (first | exact At.z | apply At.s))) (inf_12 z9), ?_⟩
  exact k _ hs.drop.drop
 have ee : erasesM C page = (C.s.erases.getD page.toNat 0, 0) := by unfold erasesM; rw [if_neg (by simpa using e)]
 rw [ee, if_neg (by simp)]
 rw [if_neg (by simpa using e)] at k
 obtain ⟨ho, p1, p2⟩ := askedM_zero e
 refine Config_sp hs ci.s.s ?_
 intro h1 hs
 have hcells := ok.may.cells
 have hj : page.toNat < C.s.pages.length := by omega
 have erow : C.s.pages.getD page.toNat [] = C.s.pages[page.toNat] := by simp [List.getD, List.getElem?_eq_getElem hj]
 have hrl := ok.fits.cells _ (List.getElem_mem hj)
 have hrb := ok.typed.bytes _ (List.getElem_mem hj)
 rw [erow] at k
 generalize hrow : C.s.pages[page.toNat] = row at *
 have eread : ∀ n : Nat, n < C.cfg.cells.toNat → readM C page n = (cellAt row n, 0) := by
  intro n hn
  have ec : asksCellM C page n = 0 := by
   unfold asksCellM
   rw [askedM_in ho p1 p2, if_neg (by simp), askedM_in ho (by omega) (by omega)]
  unfold readM
  rw [ec, if_neg (by simp), erow, Int.toNat_natCast]
 intro J hJ
 refine loop_up C.cfg.cells.toNat (fun n h => Sat h0 (blk n2 (infI (ofM row n)) :: blk n1 (infI inf0) :: A) h) ?_ ?_ 0 _ (by omega) hs
 ·intro n h2 hn hs hk
  apply hJ
  rw [ltI_eq, if_pos (by simp; omega)]
  refine Read_sp hs ci.s.s page n ?_
  intro h3 hs
  rw [eread n hn]
  have hcl : (cellAt row n).length = 32 := cellAt_length (by omega)
  have hcb : bytesOk (cellAt row n) := fun v hv => hrb v (cellAt_mem hv)
  have hnl := ofM_len row n
  have hslot := recM_slot (cellAt row n) hcb
  intro n3 _ hn3; replace hs := Sat.new hs hn3; clear hn3
  refine ⟨Sat.can hs (by (repeat (first | exact At.z | apply At.s))) (by simp [hcl]), ?_⟩
  intro _ e; replace hs := Sat.wra hs (by (repeat (first | exact At.z | apply At.s))) e (by rw [ints_length, ints_length, hcl]; rfl); clear e; simp only [put] at hs
  rw [if_neg (by simp)]
  refine ⟨_, hcl, hs.row0 .z, ?_⟩
  refine Read3_sp _ hcl hcb hs ?_
  intro h4 hs
  refine lay_sp (i := 1) (ofM row n) hnl hs (.s .z) n _ _ _ hslot ?_
  intro h5 hs
  rw [wrap_succ (by omega)]
  exact hk _ hs.drop
 ·intro h2 hs
  apply hJ
  rw [ltI_eq, if_neg (by simp; omega)]
  have hnl := ofM_len row C.cfg.cells.toNat
  have hbl := ofM_blank row C.cfg.cells.toNat (by omega)
  generalize hO : ofM row C.cfg.cells.toNat = O at *
  refine ⟨_, Sat.ld hs (by (repeat (first | exact At.z | apply At.s))) rfl, _, hnl, Sat.row hs (by (repeat (first | exact At.z | apply At.s))) (inf_row hnl), _, Sat.ld hs (by (repeat (first | exact At.z | apply At.s))) (inf_10 hnl), _, Sat.ld hs (by (repeat (first | exact At.z | apply At.s))) (inf_11 hnl), _, Sat.ld hs (by (repeat (first | exact At.z | apply At.s))) (inf_12 hnl), ?_⟩
  have ebl : (O.head == 0 && (O.nums == zeros 9 && (O.next == 0 && (O.blank == false && (O.torn == 0 && true))))) = decide (O.next = 0) := by
   by_cases c : O.next = 0
   ·rw [hbl.1 c]; decide
   ·rw [decide_eq_false c]
    have : (O.next == 0) = false := by simpa using c
    rw [this]; simp
  rw [ebl]
  refine ⟨hs.can .z (by rw [inf_len hnl]; decide), ?_⟩
  intro h3 e
  replace hs := hs.wr .z e
  rw [inf_s11 hnl, put_zero] at hs
  refine ⟨_, Sat.ld hs (by (repeat (first | exact At.z | apply At.s))) rfl, _, hnl, Sat.row hs (by (repeat (first | exact At.z | apply At.s))) (inf_row hnl), _, Sat.ld hs (by (repeat (first | exact At.z | apply At.s))) (inf_10 hnl), _, Sat.ld hs (by (repeat (first | exact At.z | apply At.s))) (inf_11 hnl), _, Sat.ld hs (by (repeat (first | exact At.z | apply At.s))) (inf_12 hnl), ?_⟩
  (refine ⟨Sat.can hs (by (repeat (first | exact At.z | apply At.s))) (by decide), ?_⟩; intro _ e; replace hs := Sat.wra hs (by (repeat (first | exact At.z | apply At.s))) e ((inf_len hnl).trans rfl); clear e; simp only [put] at hs)
  refine ⟨_, Sat.ld hs (by (repeat (first | exact At.z | apply At.s))) rfl, _, hnl, Sat.row hs (by (repeat (first | exact At.z | apply At.s))) (inf_row hnl), _, Sat.ld hs (by (repeat (first | exact At.z | apply At.s))) (inf_10 hnl), _, Sat.ld hs (by (repeat (first | exact At.z | apply At.s))) (inf_11 hnl), _, Sat.ld hs (by (repeat (first | exact At.z | apply At.s))) (inf_12 hnl), ?_⟩
  unfold pageI at k
  rw [hO] at k
  exact k _ hs.drop.drop
end
end Go.Proofs.YteedolonhdbieaaGreatDoor

/- Contracts of the document's pages; PageLooks. Own work. -/
set_option maxRecDepth 100000
set_option linter.unusedVariables false
namespace Go.Proofs.YteedolonhdbieaaGreatDoor
open Go Go.Vc

section
variable {h0 h : H} {A : List Ent} {i j p r b : Nat} {C : Cm}
end
end Go.Proofs.YteedolonhdbieaaGreatDoor
end

/- Contracts of the pages' statements: PageLooks. Own work. -/
section
set_option maxRecDepth 100000
set_option linter.unusedVariables false
namespace Go.Proofs.YteedolonhdbieaaGreatDoor
open Go Go.Vc

section
variable {h0 h : H} {A : List Ent} {i j p r b : Nat} {C : Cm}
theorem lookM_len (C : Cm) (page : Int) : (lookM C page).1.nums.length = 9 := by
 unfold lookM
 split
 ·rfl
 ·exact ofM_len _ _
end
end Go.Proofs.YteedolonhdbieaaGreatDoor
end

/- PageHalf: what a cut act leaves of a sound page; laws about numbers alone. Own work. -/
section
set_option maxRecDepth 100000
set_option linter.unusedVariables false
namespace Go.Proofs.YteedolonhdbieaaGreatDoor
open Go Go.Vc

def sub8 (a b : Int) : Prop := bits .or .u8 a b = b
theorem byte_eq {x y : Int} (hx : isByte x) (hy : isByte y) (e : b8 x = b8 y) : x = y := by
 have h2 := congrArg BitVec.toNat e
 simp only [BitVec.toNat_ofInt] at h2
 obtain ⟨a1, a2⟩ := hx
 obtain ⟨a3, a4⟩ := hy
 omega
theorem b8_andNot (x y : Int) : b8 (bits .andNot .u8 x y) = b8 x &&& ~~~ b8 y := by rw [bits_andNot8, b8_nat]
theorem b8_255 : b8 255 = BitVec.allOnes 8 := by decide
theorem prog_full (x : Int) (hx : isByte x) : bits .andNot .u8 255 (bits .andNot .u8 255 x) = x := by
 refine byte_eq (byte_bits _ _ _) hx ?_
 rw [b8_andNot, b8_andNot, b8_255]
 ext i hi
 simp only [BitVec.getElem_and, BitVec.getElem_not, BitVec.getElem_allOnes]
 cases (b8 x)[i] <;> rfl

theorem tab_getD {n : Nat} (f : Nat → Int) {k : Nat} (h : k < n) : (tab n f).getD k 0 = f k := by rw [List.getD_eq_getElem?_getD, tab_get, if_pos h]; rfl
theorem getD_byte {x : List Int} (hb : bytesOk x) (k : Nat) : isByte (x.getD k 0) := by
 rw [List.getD_eq_getElem?_getD]
 cases e : x[k]? with
 | none => exact ⟨by decide, by decide⟩
 | some v => exact hb v (List.mem_iff_getElem?.2 ⟨k, e⟩)
def soundM (row : List Int) (l : Nat) : Prop := ∀ i, i < l → ∀ k, k < 16 → bits .or .u8 (row.getD (i * 32 + k) 0) (row.getD (i * 32 + (16 + k)) 0) = 255
instance (row : List Int) (l : Nat) : Decidable (soundM row l) := by unfold soundM; infer_instance
end Go.Proofs.YteedolonhdbieaaGreatDoor
end

/- PageHalf: rows after a cut act; soundness of rows. Own work. -/
section
set_option maxRecDepth 100000
set_option linter.unusedVariables false
namespace Go.Proofs.YteedolonhdbieaaGreatDoor
open Go Go.Vc

theorem ext_getD {x y : List Int} (h : x.length = y.length) (e : ∀ i, i < x.length → x.getD i 0 = y.getD i 0) : x = y := by
 apply List.ext_getElem h
 intro i h1 h2
 have := e i h1
 rw [List.getD_eq_getElem?_getD, List.getD_eq_getElem?_getD, List.getElem?_eq_getElem h1, List.getElem?_eq_getElem h2] at this
 exact this
theorem cellAt_getD (row : List Int) (k i : Nat) (hi : i < 32) : (cellAt row k).getD i 0 = row.getD (k * 32 + i) 0 := by
 rw [List.getD_eq_getElem?_getD, cellAt_get row k i hi, List.getD_eq_getElem?_getD]
theorem mapTo_getD (g : Nat → Int → Int) (n : Nat) (ns : List Int) (j : Nat) (hj : j < ns.length) (hn : j < n) : (mapTo g n ns).getD j 0 = g j (ns.getD j 0) := by
 rw [List.getD_eq_getElem?_getD, mapTo_get, List.getElem?_eq_getElem hj]
 simp [hn, List.getD, List.getElem?_eq_getElem hj]
theorem rowSet_same {row c : List Int} {k : Nat} (hk : (k + 1) * 32 ≤ row.length) (hc : c.length = 32) : cellAt (rowSet row k c) k = c := by
 unfold cellAt rowSet
 rw [List.append_assoc, List.drop_append_of_le_length (by simp; omega), List.drop_eq_nil_of_le (by simp; omega), List.nil_append, List.take_append_of_le_length (by omega), List.take_of_length_le (by omega)]
theorem rowSet_getD {row c : List Int} {k q : Nat} (hk : (k + 1) * 32 ≤ row.length) (hc : c.length = 32) (hq : q < k * 32 ∨ k * 32 + 32 ≤ q) : (rowSet row k c).getD q 0 = row.getD q 0 := by
 unfold rowSet
 rw [List.getD_eq_getElem?_getD, List.getD_eq_getElem?_getD]
 congr 1
 rcases hq with hq | hq
 ·rw [List.append_assoc, List.getElem?_append_left (by simp; omega), List.getElem?_take, if_pos hq]
 ·rw [List.getElem?_append_right (by simp; omega), List.getElem?_drop]
  congr 1
  simp; omega
theorem rowSet_other {row c : List Int} {k j : Nat} (hk : (k + 1) * 32 ≤ row.length) (hj : (j + 1) * 32 ≤ row.length) (hc : c.length = 32) (h : j ≠ k) : cellAt (rowSet row k c) j = cellAt row j := by
 have l1 : (cellAt (rowSet row k c) j).length = 32 := cellAt_length (by rw [rowSet_length hk hc]; exact hj)
 have l2 : (cellAt row j).length = 32 := cellAt_length hj
 refine ext_getD (l1.trans l2.symm) fun i hi => ?_
 rw [l1] at hi
 rw [cellAt_getD _ _ _ hi, cellAt_getD _ _ _ hi, rowSet_getD hk hc (by omega)]
theorem prog_getD (x : List Int) (f : Nat → Int) (i : Nat) (hi : i < 32) : (progCell blankCell x f).getD i 0 = bits .andNot .u8 255 (bits .andNot .u8 (f i) (x.getD i 0)) := by
 unfold progCell
 rw [mapTo_getD _ _ _ _ (by simpa [blankCell] using hi) hi]
 have : blankCell.getD i 0 = 255 := by
  unfold blankCell
  rw [List.getD_eq_getElem?_getD, List.getElem?_replicate, if_pos hi]; rfl
 rw [this]
theorem progCell_length (old x : List Int) (f : Nat → Int) (h : old.length = 32) : (progCell old x f).length = 32 := by
 unfold progCell mapTo; simpa using h
section
variable {h0 h : H} {A : List Ent} {i j p r b : Nat} {C : Cm}
end
end Go.Proofs.YteedolonhdbieaaGreatDoor
end

/- Contracts of the pages' statements: PageHalf. Own work. -/
section
set_option maxRecDepth 100000
set_option linter.unusedVariables false
namespace Go.Proofs.YteedolonhdbieaaGreatDoor
open Go Go.Vc

structure Half (c : Cfg) (s : St) (pg : Nat) (row : List Int) (l : Nat) (D E : Cm) : Prop where
 dc : D.cfg = c
 ec : E.cfg = c
 eo : E.out = false
 dp : D.s.pages.length = s.pages.length
 ep : E.s.pages.length = s.pages.length
 ds : soundM (D.s.pages.getD pg []) l
 z : ∃ z, (z = row ∨ z = E.s.pages.getD pg []) ∧ (∀ k, k < l → bytesOk (cellAt z k)) ∧
  ∀ k, k < l → (recM (cellAt (D.s.pages.getD pg []) k)).1 = 0 ∨ (recM (cellAt (D.s.pages.getD pg []) k)).1 = 3 ∨ recM (cellAt (D.s.pages.getD pg []) k) = recM (cellAt z k)
section
variable {c : Cfg} {s : St} {C0 : Cm} {pg : Int} {row : List Int} {l : Nat}
end
section
variable {h0 h : H} {A : List Ent} {i j p r b : Nat} {C : Cm}
end
end Go.Proofs.YteedolonhdbieaaGreatDoor
end

/- Contracts of areas: sizes, places, what is used, Worn. Own work. -/
section
set_option maxRecDepth 100000
set_option linter.unusedVariables false
namespace Go.Proofs.YteedolonhdbieaaGreatDoor
open Go Go.Vc

section
variable {h0 h : H} {A : List Ent} {i j p r b : Nat} {C : Cm}
def usedP (C : Cm) (page : Int) (l : Nat) : Prop := ∃ n, n < l ∧ (readM C page n).2 = 0 ∧ (readM C page n).1 ≠ ffs
instance (C : Cm) (page : Int) (l : Nat) : Decidable (usedP C page l) := by unfold usedP; infer_instance
def usedM (C : Cm) (page : Int) : Bool := decide (usedP C page C.cfg.cells.toNat)
def wornP (C : Cm) (ar : Int) (l : Nat) : Prop := ∃ n : Nat, n < l ∧ (erasesM C (2 + ar * C.cfg.area + n)).2 = 0 ∧ C.cfg.erases ≤ (erasesM C (2 + ar * C.cfg.area + n)).1 ∧ usedM C (2 + ar * C.cfg.area + n) = true
instance (C : Cm) (ar : Int) (l : Nat) : Decidable (wornP C ar l) := by unfold wornP; infer_instance
end
end Go.Proofs.YteedolonhdbieaaGreatDoor
end

/- Contracts of the document's areas: blank, Worn; what is filled. Own work. -/
section
set_option maxRecDepth 100000
set_option linter.unusedVariables false
namespace Go.Proofs.YteedolonhdbieaaGreatDoor
open Go Go.Vc

def blankP (row : List Int) (l : Nat) : Prop := ∀ n, n < l → cellAt row n = ffs
instance (row : List Int) (l : Nat) : Decidable (blankP row l) := by unfold blankP; infer_instance
theorem blankCell_ffs : blankCell = ffs := by decide
section
variable {h0 h : H} {A : List Ent} {i j p r b : Nat} {C : Cm}
end
end Go.Proofs.YteedolonhdbieaaGreatDoor
end

/- Contracts of areas: Write. Own work. -/
section
set_option maxRecDepth 100000
set_option linter.unusedVariables false
namespace Go.Proofs.YteedolonhdbieaaGreatDoor
open Go Go.Vc

def cellM (bs : List Int) (n : Nat) : List Int := tab 32 fun k => if n * 32 + k < bs.length then bs.getD (n * 32 + k) 0 else 255
theorem cellM_length (bs : List Int) (n : Nat) : (cellM bs n).length = 32 := rfl
section
variable {h0 h : H} {A : List Ent} {i j p r b : Nat} {C : Cm}
theorem add_add (q : Addr) (a b : Nat) : (q.add a).add b = q.add (a + b) := by
 cases q with | mk b' o s => unfold Addr.add; by_cases h1 : a = 0 <;> by_cases h2 : b = 0 <;> simp [h1, h2, Nat.add_assoc]
def eraseL (base : Int) : Nat → Nat → Cm → Cm × Int
 | 0, _, C => (C, 0)
 | m + 1, j, C => if usedM C (base + j) = true then (if (eraseM C (base + j)).2 ≠ 0 then eraseM C (base + j) else eraseL base m (j + 1) (eraseM C (base + j)).1) else eraseL base m (j + 1) C
def progL (base : Int) (cells : Nat) (bs : List Int) (n : Nat) : Nat → Nat → Cm → Cm × Int
 | 0, _, C => (C, 0)
 | m + 1, k, C =>
  if (programM C (base + (((k + 1) % n / cells : Nat) : Int)) (((k + 1) % n % cells : Nat) : Int) (cellM bs ((k + 1) % n))).2 ≠ 0 then programM C (base + (((k + 1) % n / cells : Nat) : Int)) (((k + 1) % n % cells : Nat) : Int) (cellM bs ((k + 1) % n))
  else progL base cells bs n m (k + 1) (programM C (base + (((k + 1) % n / cells : Nat) : Int)) (((k + 1) % n % cells : Nat) : Int) (cellM bs ((k + 1) % n))).1
end
end Go.Proofs.YteedolonhdbieaaGreatDoor
end

/- Contracts of areas: bytes that are read. Own work. -/
section
set_option maxRecDepth 100000
set_option linter.unusedVariables false
namespace Go.Proofs.YteedolonhdbieaaGreatDoor
open Go Go.Vc

section
variable {h0 h : H} {A : List Ent} {i j p r b : Nat} {C : Cm}
theorem sl_cap (hs : Sat h0 A h) {q : Option Addr} {l c sz : Nat} {vs : List Value} (m : At A i (slE q l c sz vs)) : l ≤ c := by
 obtain ⟨f, hp, _⟩ := hs.take m
 obtain ⟨bs, ⟨_, h2, _⟩, _⟩ := slE_P.1 hp
 exact h2
end
end Go.Proofs.YteedolonhdbieaaGreatDoor
end

/- AreaWrites: what the erases of a Write leave; laws about numbers alone. Own work. -/
section
set_option maxRecDepth 100000
set_option linter.unusedVariables false
namespace Go.Proofs.YteedolonhdbieaaGreatDoor
open Go Go.Vc

def Cm.er (C : Cm) (x : Nat) : Int := C.s.erases.getD x 0
def Cm.pg (C : Cm) (x : Nat) : List Int := C.s.pages.getD x []
def dif (C D : Cm) : Nat → Nat → Int
 | _, 0 => 0
 | B, m + 1 => (D.er B - C.er B) + dif C D (B + 1) m
theorem dif_succ (C D : Cm) (B m : Nat) : dif C D B (m + 1) = (D.er B - C.er B) + dif C D (B + 1) m := rfl
theorem dif_congr {C C' D : Cm} (m : Nat) : ∀ B, (∀ x, B ≤ x → x < B + m → C.er x = C'.er x) → dif C D B m = dif C' D B m := by
 induction m with
 | zero => intro B _; rfl
 | succ m ih =>
  intro B h
  unfold dif
  rw [h B (by omega) (by omega), ih (B + 1) fun x h1 h2 => h x (by omega) (by omega)]
theorem dif_zero {C D : Cm} (m : Nat) : ∀ B, (∀ x, B ≤ x → x < B + m → D.er x = C.er x) → dif C D B m = 0 := by
 induction m with
 | zero => intro B _; rfl
 | succ m ih =>
  intro B h
  unfold dif
  rw [h B (by omega) (by omega), ih (B + 1) fun x h1 h2 => h x (by omega) (by omega)]; omega
theorem usedM_congr {C D : Cm} {page : Int} (hc : D.cfg = C.cfg) (ho : D.out = C.out) (hl : D.s.pages.length = C.s.pages.length) (hp : D.pg page.toNat = C.pg page.toNat) : usedM D page = usedM C page := by
 have e : ∀ n : Int, readM D page n = readM C page n := by
  intro n
  unfold readM asksCellM askedM
  unfold Cm.pg at hp
  rw [hc, ho, hl, hp]
 unfold usedM usedP
 rw [hc]
 simp only [e]
structure Er (B m : Nat) (C D : Cm) (e : Int) : Prop where
 cfg : D.cfg = C.cfg
 bl : D.s.blown = C.s.blown
 np : D.s.pages.length = C.s.pages.length
 ne : D.s.erases.length = C.s.erases.length
 pg : ∀ x, x < B ∨ B + m ≤ x → D.pg x = C.pg x
 er : ∀ x, x < B ∨ B + m ≤ x → D.er x = C.er x
 acts : D.acts = C.acts + dif C D B m
 ab : C.acts ≤ D.acts ∧ D.acts ≤ C.acts + m
 good : e = 0 → D.out = false ∧ -1 ≤ D.left ∧ ∀ x, B ≤ x → x < B + m → (D.pg x).length = C.cfg.cells.toNat * 32 ∧ blankP (D.pg x) C.cfg.cells.toNat
 bad : e ≠ 0 → e = 8
theorem erased_blank {row : List Int} {l : Nat} (hl : row.length = l * 32) (f : Nat → Int) (hf : ∀ i, f i = 255) : (eraseRow row f).length = l * 32 ∧ blankP (eraseRow row f) l := by
 refine ⟨by unfold eraseRow; rw [mapTo_length]; exact hl, ?_⟩
 intro n hn
 have h1 : (cellAt (eraseRow row f) n).length = 32 := cellAt_length (by unfold eraseRow; rw [mapTo_length]; omega)
 refine ext_getD (h1.trans rfl) fun i hi => ?_
 rw [h1] at hi
 rw [cellAt_getD _ _ _ hi]
 unfold eraseRow
 rw [mapTo_getD _ _ _ _ (by omega) (by omega), hf, full_or]
 unfold ffs
 rw [tab_getD _ hi]
theorem getD_put {α : Type} (l : List α) (j : Nat) (v d : α) (h : j < l.length) : (l.set j v).getD j d = v := by
 simp [List.getD, h]
theorem erase_step {C : Cm} {B : Nat} (ho : C.out = false) (hB : B < C.s.pages.length) (hB2 : B < C.s.erases.length) (hw : C.er B < C.cfg.erases) (ha : 0 ≤ C.acts ∧ C.acts < 2 ^ 60) :
  ∃ D : Cm, eraseM C (B : Int) = (D, errM C) ∧ D.cfg = C.cfg ∧ D.s.blown = C.s.blown ∧ D.s.pages.length = C.s.pages.length ∧ D.s.erases.length = C.s.erases.length ∧ (∀ x, x ≠ B → D.pg x = C.pg x) ∧ (∀ x, x ≠ B → D.er x = C.er x) ∧
   D.er B = C.er B + 1 ∧ D.acts = C.acts + 1 ∧ D.pg B = eraseRow (C.pg B) (maskAt C) ∧ (C.left ≠ 0 → D.out = false) ∧ (-1 ≤ C.left → -1 ≤ D.left) := by
 have hac : C.act.acts = C.acts + 1 := by
  unfold Cm.act
  have : w64 (C.acts + 1) = C.acts + 1 := by unfold w64; rw [IntKind.wrap_i64]; omega
  split <;> exact this
 unfold eraseM
 rw [askedM_in ho (by omega) (by omega), if_neg (by simp), Int.toNat_natCast]
 unfold Cm.er at hw
 rw [if_neg (by omega)]
 refine ⟨_, rfl, act_cfg C, ?_, ?_, ?_, ?_, ?_, ?_, hac, ?_, ?_, ?_⟩
 ·show C.act.s.blown = _; rw [act_s]
 ·show (C.act.s.pages.set B _).length = _; rw [List.length_set, act_s]
 ·show (C.act.s.erases.set B _).length = _; rw [List.length_set, act_s]
 ·intro x hx
  show (C.act.s.pages.set B _).getD x [] = C.s.pages.getD x []
  simp only [List.getD, List.getElem?_set_ne (Ne.symm hx), act_s]
 ·intro x hx
  show (C.act.s.erases.set B _).getD x 0 = C.s.erases.getD x 0
  simp only [List.getD, List.getElem?_set_ne (Ne.symm hx), act_s]
 ·show (C.act.s.erases.set B _).getD B 0 = _
  exact getD_put _ _ _ _ (by rw [act_s]; exact hB2)
 ·show (C.act.s.pages.set B _).getD B [] = _
  rw [getD_put _ _ _ _ (by rw [act_s]; exact hB)]
  unfold rowOf
  rw [Int.toNat_natCast]; rfl
 ·intro hl
  show C.act.out = false
  exact act_out ho hl
 ·intro hl
  show -1 ≤ C.act.left
  unfold Cm.act
  split
  ·dsimp only; split <;> omega
  ·exact Int.le_refl _
theorem erases (base : Int) : ∀ (m j B : Nat) (C : Cm), base + j = (B : Int) → C.out = false → -1 ≤ C.left → B + m ≤ C.s.pages.length → B + m ≤ C.s.erases.length → (0 ≤ C.acts ∧ C.acts + m < 2 ^ 60) →
  (∀ x, B ≤ x → x < B + m → (C.pg x).length = C.cfg.cells.toNat * 32) → (∀ x, B ≤ x → x < B + m → usedM C (x : Int) = true → C.er x < C.cfg.erases) →
  (∀ x, B ≤ x → x < B + m → usedM C (x : Int) = false → blankP (C.pg x) C.cfg.cells.toNat) → Er B m C (eraseL base m j C).1 (eraseL base m j C).2 := by
 intro m
 induction m with
 | zero =>
  intro j B C hB ho hl _ _ _ _ _ _
  unfold eraseL
  exact ⟨rfl, rfl, rfl, rfl, fun _ _ => rfl, fun _ _ => rfl, by simp [dif], ⟨Int.le_refl _, by (try dsimp only); omega⟩, fun _ => ⟨ho, hl, fun x h1 h2 => by omega⟩, fun x => absurd rfl x⟩
 | succ m ih =>
  intro j B C hB ho hl hp he ha hlen hw hbl
  unfold eraseL
  rw [hB]
  by_cases u : usedM C (B : Int) = true
  case neg =>
   rw [if_neg u]
   have I := ih (j + 1) (B + 1) C (by omega) ho hl (by omega) (by omega) ⟨ha.1, by omega⟩ (fun x h1 h2 => hlen x (by omega) (by omega)) (fun x h1 h2 => hw x (by omega) (by omega)) (fun x h1 h2 => hbl x (by omega) (by omega))
   generalize eraseL base m (j + 1) C = X at *
   have hBp := I.pg B (by omega)
   have hBe := I.er B (by omega)
   refine ⟨I.cfg, I.bl, I.np, I.ne, fun x hx => I.pg x (by omega), fun x hx => I.er x (by omega), ?_, ⟨I.ab.1, by have := I.ab.2; omega⟩, fun e => ?_, I.bad⟩
   ·rw [I.acts, dif_succ, hBe]; omega
   ·obtain ⟨g1, g2, g3⟩ := I.good e
    refine ⟨g1, g2, fun x h1 h2 => ?_⟩
    by_cases c : x = B
    ·subst c
     rw [hBp]
     exact ⟨hlen x (by omega) (by omega), hbl x (by omega) (by omega) (by simpa using u)⟩
    ·exact g3 x (by omega) (by omega)
  rw [if_pos u]
  obtain ⟨D, hD, d1, d2, d3, d4, d5, d6, d7, d8, d9, d10, d11⟩ := erase_step ho (show B < C.s.pages.length by omega) (by omega) (hw B (by omega) (by omega) u) ⟨ha.1, by omega⟩
  rw [hD]
  dsimp only
  by_cases c : C.left = 0
  ·have e8 : errM C = 8 := by unfold errM; rw [if_neg (by simpa using c)]
   rw [e8, if_pos (by simp)]
   refine ⟨d1, d2, d3, d4, fun x hx => d5 x (by omega), fun x hx => d6 x (by omega), ?_, ⟨by (try dsimp only); omega, by (try dsimp only); omega⟩, fun e => by simp at e, fun _ => rfl⟩
   rw [dif_succ, dif_zero m (B + 1) fun x h1 h2 => d6 x (by omega), d7, d8]; omega
  ·have e0 : errM C = 0 := by unfold errM; rw [if_pos (by simpa using c)]
   rw [e0, if_neg (by simp)]
   have hu : ∀ x, B + 1 ≤ x → usedM D (x : Int) = usedM C (x : Int) := fun x h1 => usedM_congr d1 (by rw [d10 c, ho]) d3 (by rw [Int.toNat_natCast]; exact d5 x (by omega))
   have I := ih (j + 1) (B + 1) D (by omega) (d10 c) (d11 hl) (by omega) (by omega) ⟨by omega, by omega⟩
    (fun x h1 h2 => by rw [d5 x (by omega), d1]; exact hlen x (by omega) (by omega))
    (fun x h1 h2 h3 => by rw [d6 x (by omega), d1]; rw [hu x h1] at h3; exact hw x (by omega) (by omega) h3)
    (fun x h1 h2 h3 => by rw [d5 x (by omega), d1]; rw [hu x h1] at h3; exact hbl x (by omega) (by omega) h3)
   generalize eraseL base m (j + 1) D = X at *
   have hBp := I.pg B (by omega)
   have hBe := I.er B (by omega)
   refine ⟨I.cfg.trans d1, I.bl.trans d2, I.np.trans d3, I.ne.trans d4, fun x hx => (I.pg x (by omega)).trans (d5 x (by omega)), fun x hx => (I.er x (by omega)).trans (d6 x (by omega)), ?_, ⟨by have := I.ab.1; omega, by have := I.ab.2; omega⟩, fun e => ?_, I.bad⟩
   ·rw [I.acts, dif_succ, hBe, d7, d8, dif_congr m (B + 1) fun x h1 h2 => d6 x (by omega)]; omega
   ·obtain ⟨g1, g2, g3⟩ := I.good e
    rw [d1] at g3
    refine ⟨g1, g2, fun x h1 h2 => ?_⟩
    by_cases c2 : x = B
    ·subst c2
     rw [hBp, d9]
     exact erased_blank (hlen x (by omega) (by omega)) _ fun i => by unfold maskAt; rw [if_pos (by simpa using c)]
    ·exact g3 x (by omega) (by omega)
end Go.Proofs.YteedolonhdbieaaGreatDoor
end

/- The log: what both pages say; which is present. Own work. -/
section
set_option maxRecDepth 100000
set_option linter.unusedVariables false
namespace Go.Proofs.YteedolonhdbieaaGreatDoor
open Go Go.Vc

theorem len9 {l : List Int} (h : l.length = 9) : ∃ a b c d e f g i j, l = [a, b, c, d, e, f, g, i, j] := by
 match l, h with
 | [a, b, c, d, e, f, g, i, j], _ => exact ⟨a, b, c, d, e, f, g, i, j, rfl⟩
abbrev fndI (p q : Inf) (n : Int) : List Value := .int .i64 p.head :: (ints .i64 p.nums ++ .int .i64 p.next :: .bool p.blank :: .int .i64 p.torn :: .int .i64 q.head :: (ints .i64 q.nums ++ [.int .i64 q.next, .bool q.blank, .int .i64 q.torn, .int .i64 n]))
theorem fnd_len {p q : Inf} {n : Int} (hp : p.nums.length = 9) (hq : q.nums.length = 9) : (fndI p q n).length = 27 := by simp [fndI, hp, hq]
structure FndAt (h : H) (b : Nat) (p q : Inf) (n : Int) : Prop where
 a0 : hc h ⟨b, 0, none⟩ = some (.int .i64 p.head)
 a1 : hrow h ⟨b, 1, none⟩ .i64 p.nums
 a10 : hc h ⟨b, 10, none⟩ = some (.int .i64 p.next)
 a11 : hc h ⟨b, 11, none⟩ = some (.bool p.blank)
 a12 : hc h ⟨b, 12, none⟩ = some (.int .i64 p.torn)
 a13 : hc h ⟨b, 13, none⟩ = some (.int .i64 q.head)
 a14 : hrow h ⟨b, 14, none⟩ .i64 q.nums
 a23 : hc h ⟨b, 23, none⟩ = some (.int .i64 q.next)
 a24 : hc h ⟨b, 24, none⟩ = some (.bool q.blank)
 a25 : hc h ⟨b, 25, none⟩ = some (.int .i64 q.torn)
 a26 : hc h ⟨b, 26, none⟩ = some (.int .i64 n)
section
variable {h0 h : H} {A : List Ent} {i j p r b : Nat} {C : Cm}
theorem _root_.Go.Vc.Sat.fnd (hs : Sat h0 A h) {P Q : Inf} {n : Int} (m : At A i (blk b (fndI P Q n))) (hp : P.nums.length = 9) (hq : Q.nums.length = 9) : FndAt h b P Q n := by
 obtain ⟨ph, pn, px, pb, pt⟩ := P
 obtain ⟨qh, qn, qx, qb, qt⟩ := Q
 obtain ⟨a1, a2, a3, a4, a5, a6, a7, a8, a9, rfl⟩ := len9 hp
 obtain ⟨b1, b2, b3, b4, b5, b6, b7, b8, b9, rfl⟩ := len9 hq
 exact ⟨hs.ld m rfl, hs.cs m rfl, hs.ld m rfl, hs.ld m rfl, hs.ld m rfl, hs.ld m rfl, hs.cs m rfl, hs.ld m rfl, hs.ld m rfl, hs.ld m rfl, hs.ld m rfl⟩
theorem fnd_s0 {P Q R : Inf} {n : Int} (hp : P.nums.length = 9) (hr : R.nums.length = 9) : splice (fndI P Q n) 0 (infI R) = fndI R Q n := by
 obtain ⟨ph, pn, px, pb, pt⟩ := P
 obtain ⟨qh, qn, qx, qb, qt⟩ := R
 obtain ⟨a1, a2, a3, a4, a5, a6, a7, a8, a9, rfl⟩ := len9 hp
 obtain ⟨b1, b2, b3, b4, b5, b6, b7, b8, b9, rfl⟩ := len9 hr
 rfl
theorem fnd_s13 {P Q R : Inf} {n : Int} (hp : P.nums.length = 9) (hq : Q.nums.length = 9) (hr : R.nums.length = 9) : splice (fndI P Q n) 13 (infI R) = fndI P R n := by
 obtain ⟨ph, pn, px, pb, pt⟩ := P
 obtain ⟨qh, qn, qx, qb, qt⟩ := Q
 obtain ⟨rh, rn, rx, rb, rt⟩ := R
 obtain ⟨a1, a2, a3, a4, a5, a6, a7, a8, a9, rfl⟩ := len9 hp
 obtain ⟨b1, b2, b3, b4, b5, b6, b7, b8, b9, rfl⟩ := len9 hq
 obtain ⟨c1, c2, c3, c4, c5, c6, c7, c8, c9, rfl⟩ := len9 hr
 rfl
theorem fnd_s26 {P Q : Inf} {n m : Int} (hp : P.nums.length = 9) (hq : Q.nums.length = 9) : splice (fndI P Q n) 26 [.int .i64 m] = fndI P Q m := by
 obtain ⟨ph, pn, px, pb, pt⟩ := P
 obtain ⟨qh, qn, qx, qb, qt⟩ := Q
 obtain ⟨a1, a2, a3, a4, a5, a6, a7, a8, a9, rfl⟩ := len9 hp
 obtain ⟨b1, b2, b3, b4, b5, b6, b7, b8, b9, rfl⟩ := len9 hq
 rfl
theorem _root_.Go.Vc.Sat.infAt (hs : Sat h0 A h) {P : Inf} (m : At A i (blk b (infI P))) (hp : P.nums.length = 9) : hc h ⟨b, 0, none⟩ = some (.int .i64 P.head) ∧ hrow h ⟨b, 1, none⟩ .i64 P.nums ∧ hc h ⟨b, 10, none⟩ = some (.int .i64 P.next) ∧ hc h ⟨b, 11, none⟩ = some (.bool P.blank) ∧ hc h ⟨b, 12, none⟩ = some (.int .i64 P.torn) := by
 obtain ⟨ph, pn, px, pb, pt⟩ := P
 obtain ⟨a1, a2, a3, a4, a5, a6, a7, a8, a9, rfl⟩ := len9 hp
 exact ⟨hs.ld m rfl, hs.cs m rfl, hs.ld m rfl, hs.ld m rfl, hs.ld m rfl⟩

/-! ### What the log says -/
def pI (C : Cm) (k : Nat) : Inf := pageI (C.pg k) C.cfg.cells.toNat
theorem pI_len (C : Cm) (k : Nat) : (pI C k).nums.length = 9 := ofM_len _ _
def presH (a b : Int) : Int := if 0 < a ∧ b ≤ a then 0 else if 0 < b then 1 else -1
def presM (C : Cm) : Int := presH (pI C 0).head (pI C 1).head
def infoM (C : Cm) : Inf := if presM C < 0 then inf0 else pI C (presM C).toNat
theorem presM_cases (C : Cm) : presM C = -1 ∨ presM C = 0 ∨ presM C = 1 := by unfold presM presH; (repeat' split) <;> simp
theorem look_pg {C : Cm} (ho : C.out = false) (ok : C.ok) {k : Nat} (hk : k < 2) : lookM C (k : Int) = (pI C k, 0) := by
 have h1 := ok.fits.pages
 have h2 := ok.may.area
 have h3 : C.cfg.np = 2 + 2 * C.cfg.area := rfl
 unfold lookM
 rw [askedM_in ho (by omega) (by omega), if_neg (by simp), Int.toNat_natCast]; rfl
theorem look_out {C : Cm} (ho : C.out = true) (k : Int) : lookM C k = (inf0, 8) := by
 unfold lookM askedM
 rw [if_pos ho, if_pos (by decide)]
structure Fnd where
 p : Inf
 q : Inf
 n : Int
def lookF (C : Cm) : Fnd × Int := if C.out = true then (⟨inf0, inf0, 0⟩, 8) else (⟨pI C 0, pI C 1, presM C⟩, 0)
theorem lookF_len (C : Cm) : (lookF C).1.p.nums.length = 9 ∧ (lookF C).1.q.nums.length = 9 := by
 unfold lookF; split
 ·exact ⟨rfl, rfl⟩
 ·exact ⟨pI_len C 0, pI_len C 1⟩
abbrev logE (l p : Nat) : Ent := blk l [.pointer (some ⟨p, 0, none⟩)]
theorem logLook_sp {Q : Int → List Int → Int → Bool → Int → Int → List Int → Int → Bool → Int → Int → Int → H → Prop} (hs : Sat h0 A h) (ci : At A i (chipE p C)) (cl : At A j (logE r p))
  (k : ∀ h', Sat h0 A h' → Q (lookF C).1.p.head (lookF C).1.p.nums (lookF C).1.p.next (lookF C).1.p.blank (lookF C).1.p.torn (lookF C).1.q.head (lookF C).1.q.nums (lookF C).1.q.next (lookF C).1.q.blank (lookF C).1.q.torn (lookF C).1.n (lookF C).2 h') :
  F_log_Log_look ⟨r, 0, none⟩ Q h := by
 unfold F_log_Log_look G_log_Log_look
 try simp only [add_mk, Nat.zero_add]
 have ok := chip_ok hs ci
 have z9 : inf0.nums.length = 9 := rfl
 intro n4 _ hn; replace hs := Sat.new hs hn; clear hn
 intro n7 _ hn; replace hs := Sat.new hs hn; clear hn
 replace hs : Sat h0 (blk n7 (fndI inf0 inf0 0) :: blk n4 (fndI inf0 inf0 0) :: A) _ := hs
 refine ⟨Sat.can hs (i := 0) (by (repeat (first | exact At.z | apply At.s))) (by decide), ?_⟩
 intro h2 e
 replace hs := Sat.wra hs (i := 0) (by (repeat (first | exact At.z | apply At.s))) e (by rfl)
 clear e
 replace hs : Sat h0 (blk n7 (fndI inf0 inf0 (-1)) :: blk n4 (fndI inf0 inf0 0) :: A) _ := hs
 intro J hJ
 obtain ⟨G, hG⟩ : ∃ G : Nat → Inf × Inf, G = fun n => (if 0 < n then pI C 0 else inf0, if 1 < n then pI C 1 else inf0) := ⟨_, rfl⟩
 have hG0 : G 0 = (inf0, inf0) := by rw [hG]; rfl
 have hG2 : G 2 = (pI C 0, pI C 1) := by rw [hG]; rfl
 have hGl : ∀ n, (G n).1.nums.length = 9 ∧ (G n).2.nums.length = 9 := by
  intro n; rw [hG]; dsimp only
  exact ⟨by split; exact pI_len C 0; rfl, by split; exact pI_len C 1; rfl⟩
 have hs1 : Sat h0 (blk n7 (fndI (G 0).1 (G 0).2 (-1)) :: blk n4 (fndI inf0 inf0 0) :: A) h2 := by rw [hG0]; exact hs
 clear hs
 refine loop_up 2 (fun n h => (n ≠ 0 → C.out = false) ∧ Sat h0 (blk n7 (fndI (G n).1 (G n).2 (-1)) :: blk n4 (fndI inf0 inf0 0) :: A) h) ?_ ?_ 0 _ (by omega) ⟨fun y => absurd rfl y, hs1⟩
 ·rintro n h3 hn ⟨hno, hs⟩ hk
  apply hJ
  rw [ltI_eq, if_pos (by simp; omega)]
  refine ⟨_, hs.ld cl.s.s rfl, _, rfl, ?_⟩
  refine Look_sp hs ci.s.s (n : Int) ?_
  intro h4 hs
  have hll := lookM_len C (n : Int)
  intro n24 _ hn24; replace hs := Sat.new hs hn24; clear hn24
  refine ⟨Sat.can hs (by (repeat (first | exact At.z | apply At.s))) (by decide), ?_⟩
  intro h5 e
  replace hs := Sat.wra hs (by (repeat (first | exact At.z | apply At.s))) e ((inf_len hll).trans rfl)
  clear e
  simp only [put] at hs
  by_cases ho : C.out = true
  ·rw [look_out ho] at hs ⊢
   rw [if_pos (by simp)]
   refine ⟨Sat.can hs (by (repeat (first | exact At.z | apply At.s))) (by decide), ?_⟩
   intro h6 e
   replace hs := Sat.wra hs (i := 2) (by (repeat (first | exact At.z | apply At.s))) e (by rfl)
   clear e
   simp only [put] at hs
   replace hs : Sat h0 (blk n24 (infI inf0) :: blk n7 (fndI (G n).1 (G n).2 (-1)) :: blk n4 (fndI inf0 inf0 0) :: A) h6 := hs
   have L := hs.fnd (i := 2) (by (repeat (first | exact At.z | apply At.s))) z9 z9
   refine ⟨_, L.a0, _, ‹_›, L.a1, _, L.a10, _, L.a11, _, L.a12, _, L.a13, _, ‹_›, L.a14, _, L.a23, _, L.a24, _, L.a25, _, L.a26, ?_⟩
   have e : lookF C = (⟨inf0, inf0, 0⟩, 8) := by unfold lookF; rw [if_pos ho]
   rw [e] at k
   exact k _ hs.drop.drop.drop
  ·have ho' : C.out = false := by simpa using ho
   have el := look_pg ho' ok (k := n) hn
   rw [el] at hs ⊢
   rw [if_neg (by simp)]
   have hpl := pI_len C n
   obtain ⟨L0, L1, L10, L11, L12⟩ := hs.infAt (i := 0) (by (repeat (first | exact At.z | apply At.s))) hpl
   refine ⟨_, L0, _, hpl, L1, _, L10, _, L11, _, L12, by omega, by omega, ?_⟩
   rw [Int.toNat_natCast]
   refine ⟨Sat.can hs (i := 1) (by (repeat (first | exact At.z | apply At.s))) (by rw [fnd_len (hGl n).1 (hGl n).2]; omega), ?_⟩
   intro h6 e
   replace hs := Sat.wr hs (i := 1) (by (repeat (first | exact At.z | apply At.s))) e
   clear e
   simp only [put] at hs
   rw [wrap_succ (by omega)]
   refine hk _ ⟨fun _ => ho', ?_⟩
   have hn2 : n = 0 ∨ n = 1 := by omega
   have e2 : splice (fndI (G n).1 (G n).2 (-1)) (n * 13) (infI (pI C n)) = fndI (G (n + 1)).1 (G (n + 1)).2 (-1) := by
    rcases hn2 with rfl | rfl
    ·rw [hG0]
     show splice _ 0 _ = _
     rw [fnd_s0 z9 hpl, hG]; rfl
    ·have : G 1 = (pI C 0, inf0) := by rw [hG]; rfl
     rw [this]
     show splice _ 13 _ = _
     rw [fnd_s13 (pI_len C 0) z9 hpl, hG]; rfl
   rw [e2] at hs
   exact hs.drop
 ·rintro h3 ⟨hno, hs⟩
  have ho : C.out = false := hno (by decide)
  rw [hG2] at hs
  dsimp only at hs
  apply hJ
  rw [ltI_eq, if_neg (by simp)]
  clear hJ J hG0 hG2 hGl hG hs1
  have l0 := pI_len C 0
  have l1 := pI_len C 1
  have L := hs.fnd .z l0 l1
  refine ⟨by decide, by decide, _, L.a0, by decide, by decide, _, L.a13, ?_⟩
  have e : lookF C = (⟨pI C 0, pI C 1, presM C⟩, 0) := by unfold lookF; rw [if_neg (by simp [ho])]
  rw [e] at k
  dsimp only at k
  have pc : presM C = presH (pI C 0).head (pI C 1).head := rfl
  unfold presH at pc
  have w26 : ∀ (m : Int) (h' : H) (A' : List Ent), Sat h0 (blk n7 (splice (fndI (pI C 0) (pI C 1) (-1)) 26 [.int .i64 m]) :: A') h' → Sat h0 (blk n7 (fndI (pI C 0) (pI C 1) m) :: A') h' := fun m h' A' y => by rw [fnd_s26 l0 l1] at y; exact y
  have c26 : ∀ h', Sat h0 (blk n7 (fndI (pI C 0) (pI C 1) (-1)) :: blk n4 (fndI inf0 inf0 0) :: A) h' → hcan h' ⟨n7, 26, none⟩ 1 := fun h' y => Sat.can y .z (by rw [fnd_len l0 l1]; omega)
  by_cases g1 : 0 < (pI C 0).head
  ·rw [ltI_eq, if_pos (by simpa using g1)]
   by_cases g2 : (pI C 1).head ≤ (pI C 0).head
   ·rw [leI_eq, if_pos (by simpa using g2)]
    refine ⟨c26 _ hs, ?_⟩
    intro h4 e4
    replace hs := Sat.wr hs .z e4
    clear e4
    replace hs := w26 _ _ _ hs
    (have L := hs.fnd .z l0 l1; refine ⟨_, L.a0, _, ‹_›, L.a1, _, L.a10, _, L.a11, _, L.a12, _, L.a13, _, ‹_›, L.a14, _, L.a23, _, L.a24, _, L.a25, _, L.a26, ?_⟩; refine ⟨Sat.can hs (by (repeat (first | exact At.z | apply At.s))) (by decide), ?_⟩; intro h9 e9; replace hs := Sat.wra hs (i := 1) (by (repeat (first | exact At.z | apply At.s))) e9 (by rw [fnd_len z9 z9]; exact (fnd_len (n := 0) l0 l1)); clear e9; simp only [put] at hs; replace hs : Sat h0 (blk n7 (fndI (pI C 0) (pI C 1) (0)) :: blk n4 (fndI (pI C 0) (pI C 1) (0)) :: A) h9 := hs; have L := hs.fnd (i := 1) (.s .z) l0 l1; refine ⟨_, L.a0, _, ‹_›, L.a1, _, L.a10, _, L.a11, _, L.a12, _, L.a13, _, ‹_›, L.a14, _, L.a23, _, L.a24, _, L.a25, _, L.a26, ?_⟩; rw [show presM C = 0 by rw [pc]; simp [*]] at k; exact k _ hs.drop.drop)
   ·rw [leI_eq, if_neg (by simpa using g2), ltI_eq, if_pos (by simp; omega)]
    refine ⟨c26 _ hs, ?_⟩
    intro h4 e4
    replace hs := Sat.wr hs .z e4
    clear e4
    replace hs := w26 _ _ _ hs
    have g3 : 0 < (pI C 1).head := by omega
    (have L := hs.fnd .z l0 l1; refine ⟨_, L.a0, _, ‹_›, L.a1, _, L.a10, _, L.a11, _, L.a12, _, L.a13, _, ‹_›, L.a14, _, L.a23, _, L.a24, _, L.a25, _, L.a26, ?_⟩; refine ⟨Sat.can hs (by (repeat (first | exact At.z | apply At.s))) (by decide), ?_⟩; intro h9 e9; replace hs := Sat.wra hs (i := 1) (by (repeat (first | exact At.z | apply At.s))) e9 (by rw [fnd_len z9 z9]; exact (fnd_len (n := 1) l0 l1)); clear e9; simp only [put] at hs; replace hs : Sat h0 (blk n7 (fndI (pI C 0) (pI C 1) (1)) :: blk n4 (fndI (pI C 0) (pI C 1) (1)) :: A) h9 := hs; have L := hs.fnd (i := 1) (.s .z) l0 l1; refine ⟨_, L.a0, _, ‹_›, L.a1, _, L.a10, _, L.a11, _, L.a12, _, L.a13, _, ‹_›, L.a14, _, L.a23, _, L.a24, _, L.a25, _, L.a26, ?_⟩; rw [show presM C = 1 by rw [pc]; simp [*]] at k; exact k _ hs.drop.drop)
  ·rw [ltI_eq, if_neg (by simpa using g1)]
   by_cases g3 : 0 < (pI C 1).head
   ·rw [ltI_eq, if_pos (by simpa using g3)]
    refine ⟨c26 _ hs, ?_⟩
    intro h4 e4
    replace hs := Sat.wr hs .z e4
    clear e4
    replace hs := w26 _ _ _ hs
    (have L := hs.fnd .z l0 l1; refine ⟨_, L.a0, _, ‹_›, L.a1, _, L.a10, _, L.a11, _, L.a12, _, L.a13, _, ‹_›, L.a14, _, L.a23, _, L.a24, _, L.a25, _, L.a26, ?_⟩; refine ⟨Sat.can hs (by (repeat (first | exact At.z | apply At.s))) (by decide), ?_⟩; intro h9 e9; replace hs := Sat.wra hs (i := 1) (by (repeat (first | exact At.z | apply At.s))) e9 (by rw [fnd_len z9 z9]; exact (fnd_len (n := 1) l0 l1)); clear e9; simp only [put] at hs; replace hs : Sat h0 (blk n7 (fndI (pI C 0) (pI C 1) (1)) :: blk n4 (fndI (pI C 0) (pI C 1) (1)) :: A) h9 := hs; have L := hs.fnd (i := 1) (.s .z) l0 l1; refine ⟨_, L.a0, _, ‹_›, L.a1, _, L.a10, _, L.a11, _, L.a12, _, L.a13, _, ‹_›, L.a14, _, L.a23, _, L.a24, _, L.a25, _, L.a26, ?_⟩; rw [show presM C = 1 by rw [pc]; simp [*]] at k; exact k _ hs.drop.drop)
   ·rw [ltI_eq, if_neg (by simpa using g3)]
    (have L := hs.fnd .z l0 l1; refine ⟨_, L.a0, _, ‹_›, L.a1, _, L.a10, _, L.a11, _, L.a12, _, L.a13, _, ‹_›, L.a14, _, L.a23, _, L.a24, _, L.a25, _, L.a26, ?_⟩; refine ⟨Sat.can hs (by (repeat (first | exact At.z | apply At.s))) (by decide), ?_⟩; intro h9 e9; replace hs := Sat.wra hs (i := 1) (by (repeat (first | exact At.z | apply At.s))) e9 (by rw [fnd_len z9 z9]; exact (fnd_len (n := -1) l0 l1)); clear e9; simp only [put] at hs; replace hs : Sat h0 (blk n7 (fndI (pI C 0) (pI C 1) (-1)) :: blk n4 (fndI (pI C 0) (pI C 1) (-1)) :: A) h9 := hs; have L := hs.fnd (i := 1) (.s .z) l0 l1; refine ⟨_, L.a0, _, ‹_›, L.a1, _, L.a10, _, L.a11, _, L.a12, _, L.a13, _, ‹_›, L.a14, _, L.a23, _, L.a24, _, L.a25, _, L.a26, ?_⟩; rw [show presM C = -1 by rw [pc]; simp [*]] at k; exact k _ hs.drop.drop)
def finfo (p q : Inf) (n : Int) : Inf := if n < 0 then inf0 else if n = 0 then p else q
theorem infoM_f (C : Cm) : infoM C = finfo (pI C 0) (pI C 1) (presM C) := by
 unfold infoM finfo
 rcases presM_cases C with e | e | e <;> rw [e] <;> simp
theorem finfo_sp {Q : Int → List Int → Int → Bool → Int → H → Prop} {P R : Inf} {n : Int} (hp : P.nums.length = 9) (hr : R.nums.length = 9) (hn : n < 2) (hs : Sat h0 A h)
  (k : ∀ h', Sat h0 A h' → Q (finfo P R n).head (finfo P R n).nums (finfo P R n).next (finfo P R n).blank (finfo P R n).torn h') : F_log_found_info P.head P.nums P.next P.blank P.torn R.head R.nums R.next R.blank R.torn n Q h := by
 unfold F_log_found_info G_log_found_info
 try simp only [add_mk, Nat.zero_add]
 intro n13 _ hn13; replace hs := Sat.new hs hn13; clear hn13
 intro n16 _ hn16; replace hs := Sat.new hs hn16; clear hn16
 replace hs : Sat h0 (blk n16 (infI inf0) :: blk n13 (fndI P R n) :: A) _ := hs
 have z9 : inf0.nums.length = 9 := rfl
 have L := hs.fnd (i := 1) (.s .z) hp hr
 refine ⟨_, L.a26, ?_⟩
 by_cases g : n < 0
 ·rw [ltI_eq, if_pos (by simpa using g)]
  refine ⟨Sat.can hs (i := 0) .z (by decide), ?_⟩
  intro h4 e
  replace hs := Sat.wra hs (i := 0) .z e (by rfl)
  clear e
  replace hs : Sat h0 (blk n16 (infI inf0) :: blk n13 (fndI P R n) :: A) _ := hs
  obtain ⟨L0, L1, L10, L11, L12⟩ := hs.infAt .z z9
  refine ⟨_, L0, _, z9, L1, _, L10, _, L11, _, L12, ?_⟩
  have e : finfo P R n = inf0 := by unfold finfo; rw [if_pos g]
  rw [e] at k
  exact k _ hs.drop.drop
 rw [ltI_eq, if_neg (by simpa using g)]
 refine ⟨_, L.a26, by omega, by omega, ?_⟩
 -- either page
 have fin : ∀ (S : Inf), S.nums.length = 9 → finfo P R n = S → ∀ h', Sat h0 (blk n16 (infI inf0) :: blk n13 (fndI P R n) :: A) h' → hcan h' ⟨n16, 0, none⟩ 13 ∧ ∀ h2, h2 = hwr h' ⟨n16, 0, none⟩ (infI S) →
   ∃ i0, hc h2 ⟨n16, 0, none⟩ = some (.int .i64 i0) ∧ ∃ l1 : List Int, l1.length = 9 ∧ hrow h2 ⟨n16, 1, none⟩ .i64 l1 ∧ ∃ i10, hc h2 ⟨n16, 10, none⟩ = some (.int .i64 i10) ∧ ∃ b11, hc h2 ⟨n16, 11, none⟩ = some (.bool b11) ∧ ∃ i12, hc h2 ⟨n16, 12, none⟩ = some (.int .i64 i12) ∧ Q i0 l1 i10 b11 i12 h2 := by
  intro S hS e h' hs
  refine ⟨Sat.can hs (i := 0) .z (by decide), ?_⟩
  intro h4 e4
  replace hs := Sat.wra hs (i := 0) .z e4 ((inf_len hS).trans rfl)
  clear e4
  replace hs : Sat h0 (blk n16 (infI S) :: blk n13 (fndI P R n) :: A) _ := hs
  obtain ⟨L0, L1, L10, L11, L12⟩ := hs.infAt .z hS
  refine ⟨_, L0, _, hS, L1, _, L10, _, L11, _, L12, ?_⟩
  rw [e] at k
  exact k _ hs.drop.drop
 have h01 : n = 0 ∨ n = 1 := by omega
 rcases h01 with rfl | rfl
 ·simp only [Int.toNat_zero, Nat.zero_mul, Nat.zero_add]
  exact ⟨_, L.a0, _, hp, L.a1, _, L.a10, _, L.a11, _, L.a12, fin P hp (by unfold finfo; simp) _ hs⟩
 ·simp only [Int.toNat_one, Nat.one_mul, Nat.reduceAdd]
  exact ⟨_, L.a13, _, hr, L.a14, _, L.a23, _, L.a24, _, L.a25, fin R hr (by unfold finfo; simp) _ hs⟩
theorem Mount_sp {Q : Option Addr → Int → H → Prop} (hs : Sat h0 A h) (ci : At A i (chipE p C)) (k1 : C.out = true → Q none 8 h) (k2 : C.out = false → ∀ l h', Sat h0 (logE l p :: A) h' → Q (some ⟨l, 0, none⟩) 0 h') : F_log_Mount ⟨p, 0, none⟩ Q h := by
 unfold F_log_Mount G_log_Mount
 refine Out_sp hs ci ?_
 by_cases ho : C.out = true
 ·rw [if_pos ho]; exact k1 ho
 ·rw [if_neg ho]
  intro l _ hn; replace hs := Sat.new hs hn; clear hn
  exact k2 (by simpa using ho) _ _ hs
end
end Go.Proofs.YteedolonhdbieaaGreatDoor
end

/- The log: numbers, turns and lays of the program. Own work. -/
section
set_option maxRecDepth 100000
set_option linter.unusedVariables false
namespace Go.Proofs.YteedolonhdbieaaGreatDoor
open Go Go.Vc

def numberM (C : Cm) (slot : Int) : Int × Int := if C.out = true then (0, 8) else if ¬ (0 ≤ slot ∧ slot ≤ C.cfg.slots) then (0, 2) else ((infoM C).nums.getD slot.toNat 0, 0)
section
variable {h0 h : H} {A : List Ent} {i j p r b : Nat} {C : Cm}
theorem slot_sp {Q : Bool → H → Prop} (hs : Sat h0 A h) (ci : At A i (chipE p C)) (cl : At A j (logE r p)) (n : Int) (k : ∀ h', Sat h0 A h' → Q (decide (0 ≤ n ∧ n ≤ C.cfg.slots)) h') : F_log_Log_slot ⟨r, 0, none⟩ n Q h := by
 unfold F_log_Log_slot G_log_Log_slot
 by_cases g : 0 ≤ n
 ·rw [leI_eq, if_pos (by simpa using g)]
  refine ⟨_, hs.ld cl rfl, _, rfl, ?_⟩
  refine Config_sp hs ci ?_
  intro h1 hs
  have := k _ hs
  rw [leI_eq]
  simpa [g] using this
 ·rw [leI_eq, if_neg (by simpa using g)]
  have := k _ hs
  simpa [g] using this
theorem Number_sp {Q : Int → Int → H → Prop} (hs : Sat h0 A h) (ci : At A i (chipE p C)) (cl : At A j (logE r p)) (slot : Int) (k : ∀ h', Sat h0 A h' → Q (numberM C slot).1 (numberM C slot).2 h') : F_log_Log_Number ⟨r, 0, none⟩ slot Q h := by
 unfold F_log_Log_Number G_log_Log_Number
 try simp only [add_mk, Nat.zero_add]
 have ok := chip_ok hs ci
 refine logLook_sp hs ci cl ?_
 intro h1 hs
 obtain ⟨lp, lq⟩ := lookF_len C
 intro n17 _ hn; replace hs := Sat.new hs hn; clear hn
 refine ⟨Sat.can hs (i := 0) .z (by decide), ?_⟩
 intro h2 e
 replace hs := Sat.wra hs (i := 0) .z e (by rw [fnd_len lp lq]; rfl)
 clear e
 replace hs : Sat h0 (blk n17 (fndI (lookF C).1.p (lookF C).1.q (lookF C).1.n) :: A) h2 := hs
 unfold numberM at k
 by_cases ho : C.out = true
 ·have e : lookF C = (⟨inf0, inf0, 0⟩, 8) := by unfold lookF; rw [if_pos ho]
  rw [if_pos ho] at k
  rw [e, if_pos (by simp)]
  exact k _ hs.drop
 have e : lookF C = (⟨pI C 0, pI C 1, presM C⟩, 0) := by unfold lookF; rw [if_neg ho]
 rw [if_neg ho] at k
 rw [e] at hs lp lq ⊢
 dsimp only at hs lp lq ⊢
 rw [if_neg (by simp)]
 refine slot_sp hs ci.s cl.s slot ?_
 intro h3 hs
 by_cases g : 0 ≤ slot ∧ slot ≤ C.cfg.slots
 case neg =>
  rw [if_pos g] at k
  rw [if_pos (by rw [decide_eq_false g]; rfl)]
  exact k _ hs.drop
 rw [if_neg (fun y => y g)] at k
 rw [if_neg (by rw [decide_eq_true g]; decide)]
 have L := hs.fnd .z lp lq
 refine ⟨_, L.a0, _, ‹_›, L.a1, _, L.a10, _, L.a11, _, L.a12, _, L.a13, _, ‹_›, L.a14, _, L.a23, _, L.a24, _, L.a25, _, L.a26, ?_⟩
 have hc2 := presM_cases C
 refine finfo_sp lp lq (by omega) hs ?_
 intro h4 hs
 rw [← infoM_f]
 have := ok.may.slots
 exact ⟨by omega, by omega, k _ hs.drop⟩
end
end Go.Proofs.YteedolonhdbieaaGreatDoor
end

/- The log: bounds of what pages say; the document's log. Own work. -/
section
set_option maxRecDepth 100000
set_option linter.unusedVariables false
namespace Go.Proofs.YteedolonhdbieaaGreatDoor
open Go Go.Vc

theorem recM_num (x : List Int) : 0 ≤ (recM x).2.2 ∧ (recM x).2.2 ≤ most := by
 unfold recM
 (repeat' split) <;> simp only [most] at * <;> omega
structure InfOk (I : Inf) (l : Nat) : Prop where
 head : 0 ≤ I.head ∧ I.head ≤ most
 next : 0 ≤ I.next ∧ I.next ≤ l
 torn : 0 ≤ I.torn ∧ I.torn ≤ l
 nums : ∀ k, 0 ≤ I.nums.getD k 0 ∧ I.nums.getD k 0 ≤ most
theorem set_getD (l : List Int) (j k : Nat) (v : Int) : (l.set j v).getD k 0 = if j = k ∧ k < l.length then v else l.getD k 0 := by
 rw [List.getD_eq_getElem?_getD, List.getElem?_set]
 by_cases c : j = k
 ·subst c
  by_cases d : j < l.length
  ·simp [d]
  ·simp [d]
 ·simp [c]
theorem ofM_ok (row : List Int) (n : Nat) (hn : n < 2 ^ 60) : InfOk (ofM row n) n := by
 induction n with
 | zero =>
  refine ⟨by show (0 : Int) ≤ 0 ∧ (0 : Int) ≤ most; decide, by show (0 : Int) ≤ 0 ∧ (0 : Int) ≤ 0; decide, by show (0 : Int) ≤ 0 ∧ (0 : Int) ≤ 0; decide, fun k => ?_⟩
  show 0 ≤ (zeros 9).getD k 0 ∧ (zeros 9).getD k 0 ≤ most
  have : (zeros 9).getD k 0 = 0 := by
   rw [List.getD_eq_getElem?_getD]
   unfold zeros
   rw [List.getElem?_replicate]; split <;> rfl
  rw [this]; decide
 | succ n ih =>
  obtain ⟨i1, i2, i3, i4⟩ := ih (by omega)
  obtain ⟨r1, r2⟩ := recM_num (cellAt row n)
  have hl := ofM_len row n
  unfold ofM layM
  generalize (recM (cellAt row n)).1 = kind
  generalize (recM (cellAt row n)).2.1 = slot
  generalize (recM (cellAt row n)).2.2 = num at *
  generalize ofM row n = I at *
  have hN : InfOk (nextM I n kind) (n + 1) ∧ (nextM I n kind).torn ≤ n := by
   unfold nextM
   split
   ·exact ⟨⟨i1, by dsimp only; rw [wrap_id (by omega)]; omega, by dsimp only; omega, i4⟩, i3.2⟩
   ·exact ⟨⟨i1, by omega, by omega, i4⟩, i3.2⟩
  obtain ⟨⟨j1, j2, j3, j4⟩, j5⟩ := hN
  generalize nextM I n kind = J at *
  unfold layN
  split
  ·exact ⟨j1, j2, by dsimp only; rw [wrap_id (by omega)]; omega, j4⟩
  ·split
   ·exact ⟨⟨r1, r2⟩, j2, j3, j4⟩
   ·split
    ·refine ⟨j1, j2, j3, fun k => ?_⟩
     dsimp only
     rw [set_getD]
     split
     ·have := j4 slot.toNat
      split <;> omega
     ·exact j4 k
    ·exact ⟨j1, j2, j3, j4⟩
theorem pageI_ok (row : List Int) (n : Nat) (hn : n < 2 ^ 60) : InfOk (pageI row n) n := ⟨(ofM_ok row n hn).1, (ofM_ok row n hn).2, (ofM_ok row n hn).3, (ofM_ok row n hn).4⟩
theorem pI_ok {C : Cm} (ok : C.ok) (k : Nat) : InfOk (pI C k) C.cfg.cells.toNat := pageI_ok _ _ (by have := ok.may.cells; omega)
theorem infoM_ok {C : Cm} (ok : C.ok) : InfOk (infoM C) C.cfg.cells.toNat := by
 unfold infoM
 split
 ·refine ⟨by decide, ⟨by decide, by show (0 : Int) ≤ _; omega⟩, ⟨by decide, by show (0 : Int) ≤ _; omega⟩, fun k => ?_⟩
  have := (ofM_ok [] 0 (by decide)).nums k
  exact this
 ·exact pI_ok ok _
section
variable {h0 h : H} {A : List Ent} {i j p r l b : Nat} {C : Cm}
end
end Go.Proofs.YteedolonhdbieaaGreatDoor
end

/- The log: a turn, a lay of the program. Own work. -/
section
set_option maxRecDepth 100000
set_option linter.unusedVariables false
namespace Go.Proofs.YteedolonhdbieaaGreatDoor
open Go Go.Vc

theorem most_val : most = 4611686018427387904 := rfl
section
variable {h0 h : H} {A : List Ent} {i j p r b : Nat} {C : Cm}
end
end Go.Proofs.YteedolonhdbieaaGreatDoor
end

/- AreaWrites: what the programs of a Write leave; laws about numbers alone. Own work. -/
section
set_option maxRecDepth 100000
set_option linter.unusedVariables false
namespace Go.Proofs.YteedolonhdbieaaGreatDoor
open Go Go.Vc

def cellOf (B cells : Nat) (D : Cm) (x : Nat) : List Int := cellAt (D.pg (B + x / cells)) (x % cells)
theorem prog_step {C : Cm} {P q : Nat} {rec : List Int} (ho : C.out = false) (hP : P < C.s.pages.length) (hq : (q : Int) < C.cfg.cells) (ha : 0 ≤ C.acts ∧ C.acts < 2 ^ 60) :
  ∃ D : Cm, programM C (P : Int) (q : Int) rec = (D, errM C) ∧ D.cfg = C.cfg ∧ D.s.blown = C.s.blown ∧ D.s.pages.length = C.s.pages.length ∧ D.s.erases = C.s.erases ∧ (∀ x, x ≠ P → D.pg x = C.pg x) ∧
   D.acts = C.acts + 1 ∧ D.pg P = rowSet (C.pg P) q (progCell (cellAt (C.pg P) q) rec (maskAt C)) ∧ (C.left ≠ 0 → D.out = false) ∧ (-1 ≤ C.left → -1 ≤ D.left) := by
 have hac : C.act.acts = C.acts + 1 := by
  unfold Cm.act
  have : w64 (C.acts + 1) = C.acts + 1 := by unfold w64; rw [IntKind.wrap_i64]; omega
  split <;> exact this
 have ec : asksCellM C (P : Int) (q : Int) = 0 := by
  unfold asksCellM
  rw [askedM_in ho (by omega) (by omega), if_neg (by simp), askedM_in ho (by omega) hq]
 unfold programM
 rw [ec, if_neg (by simp), Int.toNat_natCast, Int.toNat_natCast]
 refine ⟨_, rfl, act_cfg C, ?_, ?_, ?_, ?_, hac, ?_, ?_, ?_⟩
 ·show C.act.s.blown = _; rw [act_s]
 ·show (C.act.s.pages.set P _).length = _; rw [List.length_set, act_s]
 ·show C.act.s.erases = _; rw [act_s]
 ·intro x hx
  show (C.act.s.pages.set P _).getD x [] = C.s.pages.getD x []
  simp only [List.getD, List.getElem?_set_ne (Ne.symm hx), act_s]
 ·show (C.act.s.pages.set P _).getD P [] = _
  rw [getD_put _ _ _ _ (by rw [act_s]; exact hP)]
  unfold rowOf
  rw [Int.toNat_natCast]; rfl
 ·intro hl
  show C.act.out = false
  exact act_out ho hl
 ·intro hl
  show -1 ≤ C.act.left
  unfold Cm.act
  split
  ·dsimp only; split <;> omega
  ·exact Int.le_refl _
theorem cellOf_step {B cells i : Nat} {C D : Cm} {c : List Int} (hc : 0 < cells) (h1 : ∀ x, x ≠ B + i / cells → D.pg x = C.pg x) (h2 : D.pg (B + i / cells) = rowSet (C.pg (B + i / cells)) (i % cells) c) (hl : (C.pg (B + i / cells)).length = cells * 32) (hcl : c.length = 32) :
  cellOf B cells D i = c ∧ (∀ x, x ≠ i → cellOf B cells D x = cellOf B cells C x) ∧ (D.pg (B + i / cells)).length = cells * 32 := by
 have hm : i % cells < cells := Nat.mod_lt _ hc
 have hb : (i % cells + 1) * 32 ≤ (C.pg (B + i / cells)).length := by rw [hl]; exact Nat.mul_le_mul_right 32 hm
 refine ⟨?_, ?_, ?_⟩
 ·unfold cellOf
  rw [h2, rowSet_same hb hcl]
 ·intro x hx
  unfold cellOf
  by_cases e : x / cells = i / cells
  ·rw [e, h2]
   have hmx : x % cells < cells := Nat.mod_lt _ hc
   refine rowSet_other hb (by rw [hl]; exact Nat.mul_le_mul_right 32 hmx) hcl ?_
   intro e2
   have a1 := Nat.div_add_mod x cells
   have a2 := Nat.div_add_mod i cells
   rw [e, e2] at a1
   omega
  ·rw [h1 _ (by omega)]
 ·rw [h2, rowSet_length hb hcl, hl]
theorem prog_whole {X : List Int} (hX : X.length = 32) (hb : bytesOk X) : progCell blankCell X (fun _ => 255) = X := by
 have hcl : (progCell blankCell X fun _ => 255).length = 32 := progCell_length _ _ _ (by simp [blankCell])
 refine ext_getD (hcl.trans hX.symm) fun i hi => ?_
 rw [hcl] at hi
 rw [prog_getD _ _ _ hi]
 exact prog_full _ (getD_byte hb _)
theorem cellM_bytes {bs : List Int} (hb : bytesOk bs) (n : Nat) : bytesOk (cellM bs n) := by
 unfold cellM
 refine tab_bytes fun k => ?_
 split
 ·exact getD_byte hb _
 ·exact ⟨by decide, by decide⟩
def doneP (n k x : Nat) : Prop := (1 ≤ x ∧ x ≤ k ∧ x < n) ∨ (k = n ∧ x = 0 ∧ 0 < n)
instance (n k x : Nat) : Decidable (doneP n k x) := by unfold doneP; infer_instance
theorem done_next {n k : Nat} (hk : k < n) (x : Nat) : doneP n (k + 1) x ↔ (doneP n k x ∨ x = (k + 1) % n) := by
 unfold doneP
 by_cases c : k + 1 = n
 ·rw [c, Nat.mod_self]; omega
 ·rw [Nat.mod_eq_of_lt (by omega)]; omega
theorem not_done {n k : Nat} (hk : k < n) : ¬ doneP n k ((k + 1) % n) := by
 unfold doneP
 by_cases c : k + 1 = n
 ·rw [c, Nat.mod_self]; omega
 ·rw [Nat.mod_eq_of_lt (by omega)]; omega
structure Pr (B area cells n k : Nat) (bs : List Int) (C D : Cm) (e : Int) : Prop where
 cfg : D.cfg = C.cfg
 bl : D.s.blown = C.s.blown
 np : D.s.pages.length = C.s.pages.length
 es : D.s.erases = C.s.erases
 pg : ∀ x, x < B ∨ B + area ≤ x → D.pg x = C.pg x
 good : e = 0 → D.acts = C.acts + (n - k : Nat) ∧ ∀ x, x < area * cells → cellOf B cells D x = if doneP n n x then cellM bs x else ffs
 bad : e ≠ 0 → e = 8 ∧ ∃ t, k < t ∧ t ≤ n ∧ D.acts = C.acts + (t - k : Nat) ∧ ∀ x, x < area * cells → x ≠ t % n → cellOf B cells D x = if doneP n (t - 1) x then cellM bs x else ffs
theorem programs (B area cells n : Nat) (bs : List Int) (hb : bytesOk bs) (hn : 0 < n) (hN : n ≤ area * cells) (hc : 0 < cells) : ∀ (m k : Nat) (C : Cm), m + k = n → C.out = false → -1 ≤ C.left → (cells : Int) = C.cfg.cells → B + area ≤ C.s.pages.length → (0 ≤ C.acts ∧ C.acts + m < 2 ^ 60) →
  (∀ x, x < area → (C.pg (B + x)).length = cells * 32) → (∀ x, x < area * cells → cellOf B cells C x = if doneP n k x then cellM bs x else ffs) → Pr B area cells n k bs C (progL (B : Int) cells bs n m k C).1 (progL (B : Int) cells bs n m k C).2 := by
 intro m
 induction m with
 | zero =>
  intro k C hk ho hl hcc hp ha hlen hcell
  have : k = n := by omega
  subst this
  unfold progL
  exact ⟨rfl, rfl, rfl, rfl, fun _ _ => rfl, fun _ => ⟨by simp, hcell⟩, fun x => absurd rfl x⟩
 | succ m ih =>
  intro k C hk ho hl hcc hp ha hlen hcell
  unfold progL
  have hin : (k + 1) % n < n := Nat.mod_lt _ hn
  have hnd := not_done (n := n) (k := k) (by omega)
  have hnx := done_next (n := n) (k := k) (by omega)
  generalize hi : (k + 1) % n = i at *
  have hdiv : i / cells < area := (Nat.div_lt_iff_lt_mul hc).2 (by omega)
  have hmod : i % cells < cells := Nat.mod_lt _ hc
  have hBle : B ≤ B + i / cells := Nat.le_add_right _ _
  have hne : ∀ x, x < B ∨ B + area ≤ x → x ≠ B + i / cells := by
   intro x hx
   generalize i / cells = dd at *
   omega
  have eB : (B : Int) + ((i / cells : Nat) : Int) = ((B + i / cells : Nat) : Int) := by simp
  rw [eB]
  obtain ⟨D, hD, d1, d2, d3, d4, d5, d6, d7, d8, d9⟩ := prog_step (C := C) (P := B + i / cells) (q := i % cells) (rec := cellM bs i) ho (by omega) (by omega) ⟨ha.1, by omega⟩
  rw [hD]
  dsimp only
  have hold : cellAt (C.pg (B + i / cells)) (i % cells) = ffs := by
   have := hcell i (by omega)
   rw [if_neg hnd] at this
   exact this
  rw [hold] at d7
  have hclen : ∀ f, (progCell ffs (cellM bs i) f).length = 32 := fun f => progCell_length _ _ _ rfl
  obtain ⟨s1, s2, s3⟩ := cellOf_step (B := B) (i := i) hc (fun x hx => d5 x hx) d7 (hlen _ hdiv) (hclen _)
  have hlen2 : ∀ x, x < area → (D.pg (B + x)).length = cells * 32 := by
   intro x hx
   by_cases e : x = i / cells
   ·rw [e]; exact s3
   ·rw [d5 _ (by omega)]; exact hlen x hx
  by_cases c : C.left = 0
  ·have e8 : errM C = 8 := by unfold errM; rw [if_neg (by simpa using c)]
   rw [e8, if_pos (by simp)]
   refine ⟨d1, d2, d3, d4, fun x hx => d5 x (hne x hx), fun e => by simp at e, fun _ => ⟨rfl, k + 1, by omega, by omega, by rw [d6]; omega, fun x hx hx2 => ?_⟩⟩
   rw [hi] at hx2
   rw [s2 x hx2, Nat.add_sub_cancel]
   exact hcell x hx
  ·have e0 : errM C = 0 := by unfold errM; rw [if_pos (by simpa using c)]
   rw [e0, if_neg (by simp)]
   have hmask : maskAt C = fun _ => 255 := by funext q; unfold maskAt; rw [if_pos (by simpa using c)]
   rw [hmask, ← blankCell_ffs, prog_whole (cellM_length bs i) (cellM_bytes hb i)] at s1
   have I := ih (k + 1) D (by omega) (d8 c) (d9 hl) (by rw [d1]; exact hcc) (by rw [d3]; exact hp) ⟨by omega, by omega⟩ hlen2 (fun x hx => by
    by_cases e : x = i
    ·rw [e, s1, if_pos ((hnx i).2 (Or.inr rfl))]
    ·rw [s2 x e, hcell x hx]
     by_cases dn : doneP n k x
     ·rw [if_pos dn, if_pos ((hnx x).2 (Or.inl dn))]
     ·rw [if_neg dn, if_neg (fun y => by rcases (hnx x).1 y with y | y; exact dn y; exact e y)])
   generalize progL (B : Int) cells bs n m (k + 1) D = X at *
   refine ⟨I.cfg.trans d1, I.bl.trans d2, I.np.trans d3, I.es.trans d4, fun x hx => (I.pg x hx).trans (d5 x (hne x hx)), fun e => ?_, fun e => ?_⟩
   ·obtain ⟨g1, g2⟩ := I.good e
    exact ⟨by rw [g1, d6]; omega, g2⟩
   ·obtain ⟨g1, t, g2, g3, g4, g5⟩ := I.bad e
    exact ⟨g1, t, by omega, g3, by rw [g4, d6]; omega, g5⟩
end Go.Proofs.YteedolonhdbieaaGreatDoor
end

/- The log's laws, plain: records, pages, what one program or one erase leaves. Own work. -/
section
set_option maxRecDepth 100000
set_option linter.unusedVariables false
namespace Go.Proofs.YteedolonhdbieaaGreatDoor
open Go Go.Vc

abbrev rk (row : List Int) (k : Nat) : Int × Int × Int := recM (cellAt row k)
def sndU (u : Bool) (C : Cm) : Prop :=
 match u with
 | true => C.left < 0
 | false => ∀ x, x < 2 → soundM (C.pg x) C.cfg.cells.toNat
theorem act_left {C : Cm} (h : C.left < 0) : C.act.left < 0 := by
 unfold Cm.act
 rw [if_pos (by omega)]
 show (if C.left - 1 > -1 then C.left - 1 else (-1 : Int)) < 0
 rw [if_neg (by omega)]
 decide
end Go.Proofs.YteedolonhdbieaaGreatDoor
end

/- The log's laws, plain: a turn, a lay. Own work. -/
section
set_option maxRecDepth 100000
set_option linter.unusedVariables false
namespace Go.Proofs.YteedolonhdbieaaGreatDoor
open Go Go.Vc

abbrev nof (C : Cm) (t k : Nat) : Int := (pI C t).nums.getD k 0
abbrev numOf (C : Cm) (k : Nat) : Int := (infoM C).nums.getD k 0
abbrev lOf (C : Cm) : Nat := C.cfg.cells.toNat
section
variable {u : Bool}
structure Part (u : Bool) (C D : Cm) (t m : Nat) (e : Int) : Prop where
 ok : D.ok
 cfg : D.cfg = C.cfg
 pgs : ∀ y, y ≠ t → D.pg y = C.pg y
 snd : sndU u D
 ec : e = 0 ∨ e = 8
 out0 : e = 0 → D.out = false
 out8 : e = 8 → D.out = true
 acts : 0 ≤ C.acts → C.acts + m < 2 ^ 60 → C.acts ≤ D.acts ∧ D.acts ≤ C.acts + m
 un : u = true → e = 0
theorem Part.trans {C D E : Cm} {t m n : Nat} {e : Int} (a : Part u C D t m 0) (b : Part u D E t n e) : Part u C E t (m + n) e :=
 ⟨b.ok, b.cfg.trans a.cfg, fun y h => (b.pgs y h).trans (a.pgs y h), b.snd, b.ec, b.out0, b.out8, fun h1 h2 => by
  have := a.acts h1 (by omega)
  have := b.acts (by omega) (by omega)
  omega, b.un⟩
theorem Part.more {C D : Cm} {t m n : Nat} {e : Int} (a : Part u C D t m e) (h : m ≤ n) : Part u C D t n e :=
 ⟨a.ok, a.cfg, a.pgs, a.snd, a.ec, a.out0, a.out8, fun h1 h2 => by have := a.acts h1 (by omega); omega, a.un⟩
theorem Part.refl {C : Cm} (ok : C.ok) (ho : C.out = false) (snd : sndU u C) (t : Nat) : Part u C C t 0 0 :=
 ⟨ok, rfl, fun _ _ => rfl, snd, Or.inl rfl, fun _ => ho, fun h => absurd h (by decide), fun _ _ => by omega, fun _ => rfl⟩
structure Turned (u : Bool) (C D : Cm) (t : Nat) (nums : List Int) (e : Int) : Prop where
 part : Part u C D t (C.cfg.slots.toNat + 3) e
 ero : ∀ y, y ≠ t → D.er y = C.er y
 ert : D.er t = C.er t ∨ (D.er t = C.er t + 1 ∧ C.er t < C.cfg.erases)
 erb : (pI C t).blank = true → D.er t = C.er t
 ern : (pI C t).blank = false → D.er t = C.er t + 1
 head : (pI D t).head = 0 ∨ (pI D t).head = (pI C t).head ∨ ((pI D t).head = (infoM C).head + 1 ∧ ∀ k : Nat, (k : Int) ≤ C.cfg.slots → nof D t k = nums.getD k 0)
 headf : e = 0 → (pI D t).head = (infoM C).head + 1 ∧ ∀ k : Nat, (k : Int) ≤ C.cfg.slots → nof D t k = nums.getD k 0
 free : e = 0 → ∀ k : Nat, C.cfg.slots.toNat + 2 ≤ k → k < lOf C → (rk (D.pg t) k).1 = 0
end
end Go.Proofs.YteedolonhdbieaaGreatDoor
end

/- The log's laws, plain: what a lay leaves of the numbers. Own work. -/
section
set_option maxRecDepth 100000
set_option linter.unusedVariables false
namespace Go.Proofs.YteedolonhdbieaaGreatDoor
open Go Go.Vc
section
variable {u : Bool}

structure Laid (u : Bool) (C D : Cm) (slot : Nat) (n e : Int) : Prop where
 ok : D.ok
 cfg : D.cfg = C.cfg
 snd : sndU u D
 ec : e = 0 ∨ e = 8 ∨ e = 9
 e9 : e = 9 → D = C
 out0 : e = 0 → D.out = false
 other : ∀ k : Nat, (k : Int) ≤ C.cfg.slots → k ≠ slot → numOf D k = numOf C k
 me : numOf D slot = numOf C slot ∨ numOf D slot = n
 done : e = 0 → numOf D slot = n
end
end Go.Proofs.YteedolonhdbieaaGreatDoor
end

/- The store: contracts of the program's. Own work. -/
section
set_option maxRecDepth 100000
set_option linter.unusedVariables false
namespace Go.Proofs.YteedolonhdbieaaGreatDoor
open Go Go.Vc

abbrev storeE (s p r : Nat) : Ent := blk s [.pointer (some ⟨p, 0, none⟩), .pointer (some ⟨r, 0, none⟩)]
def lastM (c : Cfg) : Int := c.step * c.fuses + c.step - 1
theorem lastM_in {c : Cfg} (m : c.may) : 0 ≤ lastM c ∧ lastM c ≤ 4259839 ∧ c.step * c.fuses ≤ 4194304 ∧ 0 ≤ c.step * c.fuses := by
 have h1 := m.step
 have h2 := m.fuses
 have a : c.step * c.fuses ≤ 65536 * 64 := Int.mul_le_mul h1.2 h2.2 (by omega) (by decide)
 have b : 0 ≤ c.step * c.fuses := Int.mul_nonneg (by omega) (by omega)
 unfold lastM
 omega
def valS (C : Cm) (slot : Int) : Int := if (countM C slot).1 * C.cfg.step < numOf C slot.toNat then numOf C slot.toNat else (countM C slot).1 * C.cfg.step
def sRead (C : Cm) (slot : Int) : Int × Int := if askedM C slot C.cfg.slots ≠ 0 then (0, askedM C slot C.cfg.slots) else (valS C slot, 0)
theorem count_in {C : Cm} (ok : C.ok) (slot : Int) : 0 ≤ (countM C slot).1 ∧ (countM C slot).1 ≤ C.cfg.fuses := by
 have h2 := ok.may.fuses
 unfold countM
 split
 ·exact ⟨Int.le_refl 0, by show (0 : Int) ≤ _; omega⟩
 ·have := cnt_le C.s.blown (slot * C.cfg.fuses).toNat C.cfg.fuses.toNat
  dsimp only
  omega
theorem valS_in {C : Cm} (ok : C.ok) (slot : Int) : 0 ≤ (countM C slot).1 * C.cfg.step ∧ (countM C slot).1 * C.cfg.step ≤ 4194304 ∧ 0 ≤ valS C slot ∧ valS C slot ≤ most := by
 have h1 := ok.may.step
 have h2 := ok.may.fuses
 obtain ⟨c0, c1⟩ := count_in ok slot
 have a : (countM C slot).1 * C.cfg.step ≤ 64 * 65536 := Int.mul_le_mul (by omega) h1.2 (by omega) (by decide)
 have b : 0 ≤ (countM C slot).1 * C.cfg.step := Int.mul_nonneg c0 (by omega)
 have d := (infoM_ok ok).nums slot.toNat
 have hm := most_val
 refine ⟨b, by omega, ?_⟩
 unfold valS
 split
 ·exact d
 ·omega
section
variable {h0 h : H} {A : List Ent} {i j p r b s m : Nat} {C : Cm}
theorem sMount_sp {Q : Option Addr → Int → H → Prop} (hs : Sat h0 A h) (ci : At A i (chipE p C)) (k1 : C.out = true → Q none 8 h) (k2 : C.out = false → ∀ s l h', Sat h0 (storeE s p l :: logE l p :: A) h' → Q (some ⟨s, 0, none⟩) 0 h') : F_store_Mount ⟨p, 0, none⟩ Q h := by
 unfold F_store_Mount G_store_Mount
 refine Mount_sp hs ci ?_ ?_
 ·intro ho
  rw [if_pos (by simp)]
  exact k1 ho
 ·intro ho l h1 hs
  rw [if_neg (by simp)]
  intro n7 _ hn; replace hs := Sat.new hs hn; clear hn
  exact k2 ho n7 l _ hs
theorem sLast_sp {Q : Int → H → Prop} (hs : Sat h0 A h) (ci : At A i (chipE p C)) (st : At A m (storeE s p r)) (k : ∀ h', Sat h0 A h' → Q (lastM C.cfg) h') : F_store_Store_Last ⟨s, 0, none⟩ Q h := by
 unfold F_store_Store_Last G_store_Store_Last
 try simp only [add_mk, Nat.zero_add]
 have ok := chip_ok hs ci
 obtain ⟨l0, l1, l2, l3⟩ := lastM_in ok.may
 have h1 := ok.may.step
 refine ⟨_, hs.ld st rfl, _, rfl, ?_⟩
 refine Config_sp hs ci ?_
 intro h1 hs
 intro n14 _ hn; replace hs := Sat.new hs hn; clear hn
 refine ⟨Sat.can hs (i := 0) .z (by decide), ?_⟩
 intro h2 e
 replace hs := Sat.wra hs (i := 0) .z e rfl
 clear e
 simp only [put] at hs
 refine ⟨_, hs.ld (i := 0) .z rfl, _, hs.ld (i := 0) .z rfl, _, hs.ld (i := 0) .z rfl, ?_⟩
 rw [wrap_id (n := C.cfg.step * C.cfg.fuses) (by omega), wrap_id (n := C.cfg.step * C.cfg.fuses + C.cfg.step) (by omega), wrap_id (by unfold lastM at l0 l1; omega)]
 exact k _ hs.drop
theorem sAsked_sp {Q : Int → H → Prop} (hs : Sat h0 A h) (ci : At A i (chipE p C)) (st : At A m (storeE s p r)) (x n : Int) (k : Q (askedM C x n) h) : F_store_Store_asked ⟨s, 0, none⟩ x n Q h := by
 unfold F_store_Store_asked G_store_Store_asked
 refine ⟨_, hs.ld st rfl, _, rfl, ?_⟩
 refine Out_sp hs ci ?_
 unfold askedM at k
 by_cases ho : C.out = true
 ·rw [if_pos ho] at k; rw [if_pos ho]; exact k
 rw [if_neg ho] at k; rw [if_neg ho]
 by_cases g1 : x < 0
 ·rw [if_pos g1] at k; rw [ltI_eq, if_pos (by simpa using g1)]; exact k
 rw [if_neg g1] at k; rw [ltI_eq, if_neg (by simpa using g1)]
 by_cases g2 : n ≤ x
 ·rw [if_pos g2] at k; rw [leI_eq, if_pos (by simpa using g2)]; exact k
 rw [if_neg g2] at k; rw [leI_eq, if_neg (by simpa using g2)]; exact k
theorem sRead_sp {Q : Int → Int → H → Prop} (hs : Sat h0 A h) (ci : At A i (chipE p C)) (cl : At A j (logE r p)) (st : At A m (storeE s p r)) (slot : Int) (k : ∀ h', Sat h0 A h' → Q (sRead C slot).1 (sRead C slot).2 h') : F_store_Store_Read ⟨s, 0, none⟩ slot Q h := by
 unfold F_store_Store_Read G_store_Store_Read
 try simp only [add_mk, Nat.zero_add, List.append_nil]
 have ok := chip_ok hs ci
 refine ⟨_, hs.ld st rfl, _, rfl, ?_⟩
 refine Config_sp hs ci ?_
 intro h1 hs
 refine sAsked_sp hs ci st _ _ ?_
 unfold sRead at k
 by_cases ha : askedM C slot C.cfg.slots = 0
 case neg =>
  rw [if_pos (by simpa using ha)]
  rw [if_pos ha] at k
  exact k _ hs
 rw [if_neg (fun y => y ha)] at k
 rw [if_neg (by simpa using ha)]
 obtain ⟨ho, g0, g1⟩ := askedM_zero ha
 refine ⟨_, hs.ld st rfl, _, rfl, ?_⟩
 refine Count_sp hs ci slot ?_
 intro h2 hs
 have ec : (countM C slot).2 = 0 := by unfold countM; rw [if_neg (fun y => y ha)]
 rw [ec, if_neg (by simp)]
 refine ⟨_, hs.ld st rfl, _, rfl, ?_⟩
 refine Number_sp hs ci cl slot ?_
 intro h3 hs
 have en : numberM C slot = (numOf C slot.toNat, 0) := by
  unfold numberM
  rw [if_neg (by simp [ho]), if_neg (fun y => y ⟨g0, by omega⟩)]
 rw [en, if_neg (by simp)]
 refine ⟨_, hs.ld st rfl, _, rfl, ?_⟩
 refine Config_sp hs ci ?_
 intro h4 hs
 obtain ⟨v0, v1, _⟩ := valS_in ok slot
 rw [wrap_id (by omega)]
 intro n40 _ hn; replace hs := Sat.new hs hn; clear hn
 refine ⟨Sat.can hs (i := 0) .z (by simp [zeros]), ?_⟩
 intro h5 e
 replace hs := Sat.wra hs (i := 0) .z e (by simp [zeros])
 clear e
 simp only [put] at hs
 refine ⟨by decide, by decide, _, hs.ld (i := 0) .z rfl, by decide, by decide, _, hs.ld (i := 0) .z rfl, ?_⟩
 exact k _ hs.drop
theorem sRevoke_sp {Q : Int → H → Prop} (hs : Sat h0 A h) (ci : At A i (chipE p C)) (st : At A m (storeE s p r)) (key : Int)
  (k : ∀ h', Sat h0 (put A i (chipE p (revokeM C key).1)) h' → Q (revokeM C key).2 h') : F_store_Store_Revoke ⟨s, 0, none⟩ key Q h := by
 unfold F_store_Store_Revoke G_store_Store_Revoke
 refine ⟨_, hs.ld st rfl, _, rfl, ?_⟩
 refine Config_sp hs ci ?_
 intro h1 hs
 refine sAsked_sp hs ci st _ _ ?_
 by_cases ha : askedM C key C.cfg.keys = 0
 case neg =>
  rw [if_pos (by simpa using ha)]
  have e : revokeM C key = (C, askedM C key C.cfg.keys) := by
   have e1 : (revokedM C key).2 = askedM C key C.cfg.keys := by unfold revokedM; rw [if_pos ha]
   unfold revokeM
   rw [e1, if_pos ha]
  rw [e] at k
  exact k _ (by rw [ci.put_self]; exact hs)
 rw [if_neg (by simpa using ha)]
 refine ⟨_, hs.ld st rfl, _, rfl, ?_⟩
 exact Revoke_sp hs ci key k
theorem sRevoked_sp {Q : Bool → Int → H → Prop} (hs : Sat h0 A h) (ci : At A i (chipE p C)) (st : At A m (storeE s p r)) (key : Int)
  (k : ∀ h', Sat h0 A h' → Q (revokedM C key).1 (revokedM C key).2 h') : F_store_Store_Revoked ⟨s, 0, none⟩ key Q h := by
 unfold F_store_Store_Revoked G_store_Store_Revoked
 refine ⟨_, hs.ld st rfl, _, rfl, ?_⟩
 refine Config_sp hs ci ?_
 intro h1 hs
 refine sAsked_sp hs ci st _ _ ?_
 by_cases ha : askedM C key C.cfg.keys = 0
 case neg =>
  rw [if_pos (by simpa using ha)]
  have e1 : revokedM C key = (false, askedM C key C.cfg.keys) := by unfold revokedM; rw [if_pos ha]
  rw [e1] at k
  exact k _ hs
 rw [if_neg (by simpa using ha)]
 refine ⟨_, hs.ld st rfl, _, rfl, ?_⟩
 exact Revoked_sp hs ci key k
end
end Go.Proofs.YteedolonhdbieaaGreatDoor
end

/- The document's store. Own work. -/
section
set_option maxRecDepth 100000
set_option linter.unusedVariables false
namespace Go.Proofs.YteedolonhdbieaaGreatDoor
open Go Go.Vc

def sActive (C : Cm) : Int × Int := numberM C C.cfg.slots
section
variable {h0 h : H} {A : List Ent} {i j p r b s m : Nat} {C : Cm}
theorem sActive_sp {Q : Int → Int → H → Prop} (hs : Sat h0 A h) (ci : At A i (chipE p C)) (cl : At A j (logE r p)) (st : At A m (storeE s p r)) (k : ∀ h', Sat h0 A h' → Q (sActive C).1 (sActive C).2 h') : F_store_Store_Active ⟨s, 0, none⟩ Q h := by
 unfold F_store_Store_Active G_store_Store_Active
 try simp only [add_mk, Nat.zero_add]
 refine ⟨_, hs.ld st rfl, _, rfl, ?_⟩
 refine Out_sp hs ci ?_
 by_cases ho : C.out = true
 ·rw [if_pos ho]
  have e : sActive C = (0, 8) := by unfold sActive numberM; rw [if_pos ho]
  rw [e] at k
  exact k _ hs
 rw [if_neg ho]
 refine ⟨_, hs.ld st rfl, _, hs.ld st rfl, _, rfl, ?_⟩
 refine Config_sp hs ci ?_
 intro h1 hs
 refine ⟨hcs_one (hs.ld st rfl), _, rfl, ?_⟩
 refine Number_sp hs ci cl C.cfg.slots ?_
 intro h2 hs
 exact k _ hs
end
end Go.Proofs.YteedolonhdbieaaGreatDoor
end

/- Tokens: what keeps a wish from meeting a caveat; whether a token lets somebody do that. Own work. -/
section
set_option maxRecDepth 100000
set_option linter.unusedVariables false
namespace Go.Proofs.YteedolonhdbieaaGreatDoor
open Go Go.Vc
attribute [local irreducible] macM

structure WiM where
 kind : Int
 slot : Int
 ver : Int
section
variable {h0 h : H} {A : List Ent} {i j p r b s m : Nat} {C : Cm}
theorem sActive_out (ok : C.ok) : (sActive C).2 = if C.out = true then 8 else 0 := by
 have hm := ok.may.slots
 unfold sActive numberM
 by_cases ho : C.out = true
 ·rw [if_pos ho, if_pos ho]
 ·rw [if_neg ho, if_neg ho, if_neg (fun y => y ⟨by omega, Int.le_refl _⟩)]
theorem revoked_err (ho : ¬ C.out = true) {key : Int} (hk : 0 ≤ key) : (revokedM C key).2 = if C.cfg.keys ≤ key then 2 else 0 := by
 have a : askedM C key C.cfg.keys = if C.cfg.keys ≤ key then 2 else 0 := by unfold askedM; rw [if_neg ho, if_neg (by omega)]
 unfold revokedM
 rw [a]
 by_cases g : C.cfg.keys ≤ key
 ·rw [if_pos g, if_pos (by decide)]
 ·rw [if_neg g, if_neg (by decide)]
end
end Go.Proofs.YteedolonhdbieaaGreatDoor
end

/- Law 24: the scene: a chip, its store, keys, the program's and the document's. Own work. -/
section
set_option maxRecDepth 100000
set_option linter.unusedVariables false
namespace Go.Proofs.YteedolonhdbieaaGreatDoor
open Go Go.Vc
attribute [local irreducible] macM

theorem goM_ne (L : List Sec) : ∀ k e i, goM L k = some (e, i) → e ≠ 0
 | 0, e, i, h => by cases h
 | k + 1, e, i, h => by
  unfold goM at h
  by_cases c : badM (L.take (L.length - (k + 1))) (L.getD (L.length - (k + 1)) (0, [])) = 0
  ·rw [if_pos c] at h
   exact goM_ne L k e i h
  ·rw [if_neg c] at h
   injection h with h
   injection h with h1 h2
   rw [← h1]; exact c
theorem newM_ne {L : List Sec} {e i : Int} (h : newM L = some (e, i)) : e ≠ 0 := by
 unfold newM at h
 by_cases c : 64 < L.length
 ·rw [if_pos c] at h
  injection h with h
  injection h with h1 h2
  omega
 ·rw [if_neg c] at h
  exact goM_ne L _ _ _ h
section
variable {h0 h : H} {A : List Ent} {i j p r b s m : Nat} {C : Cm}
end
end Go.Proofs.YteedolonhdbieaaGreatDoor
end

/- The frame of a law's row where what it reads is of bounded bulk. Own work. -/
section
set_option maxRecDepth 100000
set_option linter.unusedVariables false
namespace Go.Proofs.YteedolonhdbieaaGreatDoor
open Go Go.Vc Go.ChangeShapes Go.WideShapes Go.ChangeAt Go.RowKit
section
variable {D : Type} {enc : TypeId × Value → D} {P : Program} {W : World}
theorem bulk_pos (d : DataW D) : 1 ≤ Rows.uptoBulk d := by
 cases d with
 | lit l => cases l <;> simp [Rows.uptoBulk]
 | _ => simp [Rows.uptoBulk]
theorem bulk_len (l : List (DataW D)) : l.length ≤ Rows.uptoBulkAll l := by
 induction l with
 | nil => simp
 | cons d r ih =>
  have := bulk_pos d
  simp only [List.length_cons, Rows.uptoBulkAll]
  omega
def SizOk (P : Program) (N : Nat) (ts : List TypeId) (vs : List Value) : Prop := ∀ (j : Nat) t e p l c, ts[j]? = some t → P.underlying t = some (.slice e) → vs[j]? = some (.slice p l c) → l ≤ N
theorem whole_siz {ts : List TypeId} {vs : List Value} {ds : List (DataW D)} {N : Nat}
  (h : ∃ p, DataW.TrodAll enc P W 0 (fun _ => true) true ts vs ds p) (hz : Rows.uptoBulkAll ds ≤ N) : SizOk P N ts vs := by
 obtain ⟨p, h⟩ := h
 induction ts generalizing vs ds p with
 | nil => intro j t e q l c ht; simp at ht
 | cons t0 ts ih =>
  cases vs with
  | nil => cases h
  | cons v0 vs => cases ds with
   | nil => cases h
   | cons d ds =>
    obtain ⟨a, b, ha, hb', rfl⟩ := h
    simp only [Rows.uptoBulkAll] at hz
    intro j t e q l c ht hu hv
    cases j with
    | zero =>
     simp only [List.getElem?_cons_zero, Option.some.injEq] at ht hv
     subst ht; subst hv
     obtain ⟨fuel, hf⟩ := ha
     rcases DataW.trod_slice hu hf with ⟨hcs, _⟩ | ⟨a', len, cap, elems, rest, n, _, hcs, hd, _, hl, hc, he, _⟩
     ·have hcs : [Value.slice q l c] = [.slice none 0 0] := hcs
      injection hcs with hcs _
      injection hcs with _ h2 _
      omega
     ·have hcs : [Value.slice q l c] = [.slice (some a') len cap] := hcs
      injection hcs with hcs _
      injection hcs with _ h2 _
      have hd' : d = .slice (elems.map (·.1)) (rest.map (·.1)) := congrArg Prod.fst hd
      rw [hd'] at hz
      simp only [Rows.uptoBulk] at hz
      have := bulk_len (elems.map (·.1))
      rw [List.length_map] at this
      omega
    | succ j => exact ih (by omega) b hb' j t e q l c (by simpa using ht) hu (by simpa using hv)
theorem law_goB {f : FuncId} {fn : Func} {s : ChangeSpec} {args : Array Value} {ds gs : List (DataW D)} {before : List MemPlace} {tb : TypeId} {base N : Nat} (ts : List TypeId) (hts : fn.params = ts.toArray) (hl : laidOutB P = true) (hvars : s.vars = [])
  (hty : (ts.all fun t => P.readableRec t && decide (t < P.types.size)) = true) (hres : fn.resultTypes = #[tb]) (ub : P.underlying tb = some .bool)
  (hfn : ∀ ds : List (DataW D), ds.length = ts.length → s.fn D ds = { results := [.lit (.bool true)], args := ds })
  (hval : ∀ (j : Nat) t v, fn.params[j]? = some t → args[j]? = some v → Value.okWide P W .any base t v)
  (hW : DataW.Whole enc P fn.params.toList s.vars false W args.toList ds gs before) (hsz : (DataW.weightsEach P (fn.params.toList ++ s.plain.varTypes P) (ds ++ gs)).all (· ≤ reachBytes) = true) (hbk : Rows.uptoBulkAll (ds ++ gs) ≤ N)
  (main : ∀ vs, ArgsOk enc P W base ts vs → SizOk P N ts vs → CallsTrue P f vs W) :
  Calls P f args W fun e W' => ∃ v, e = .returned v ∧ s.post enc P fn false true false false W args v W' := by
 have hW0 := hW
 obtain ⟨p, q, h1, h2, rfl, h3, h4⟩ := hW
 have h2' := h2
 rw [hvars] at h2'
 obtain ⟨rfl, rfl⟩ := trodVars_none h2'
 have hpl : fn.params.toList = ts := by rw [hts]
 rw [List.append_nil] at hbk
 have hsiz : SizOk P N ts args.toList := by
  have h1' := h1
  rw [hpl] at h1'
  exact whole_siz ⟨p, h1'⟩ hbk
 have hlen := trodAll_len h1
 have hrd := whole_rdt ⟨p, h1⟩ hsz
 rw [hpl] at hrd hlen
 have hm := main args.toList ⟨hlen.1, fun j t v ht hv => ⟨hrd j t v ht hv, hval j t v (by rw [hts]; simpa using ht) (by simpa using hv)⟩⟩ hsiz
 have hc := hm.2 W rfl
 rw [show args.toList.toArray = args by simp] at hc
 refine hc.mono fun e W' he => ?_
 obtain ⟨xs, _, rfl, hr, rfl, hx⟩ := he
 refine ⟨.bool true, rfl, ?_⟩
 refine law_post hl hvars ?_ hres ub (by rw [List.append_nil]; exact hfn ds hlen.2) hW0 (below_of hr hx trivial)
 intro t ht
 rw [hpl] at ht
 have := List.all_eq_true.1 hty t ht
 simp only [Bool.and_eq_true, decide_eq_true_eq] at this
 exact this
theorem sized_of {f : Func} {s : OpenSpec} {apart : Bool} {w : World} {args : Array Value} {fuel : Nat} (h : s.bare.sizedB enc P f apart w args fuel = true) : sizedMet enc P f s apart w args := by
 obtain ⟨p, ds, gs, before, h1, h2⟩ := sizedMet_of_sizedB (s := s.bare) h
 exact ⟨p, ds, gs, before, h1, h2⟩
end
end Go.Proofs.YteedolonhdbieaaGreatDoor
end

/- Images: numbers of four bytes; what is wrong with bytes. Own work. -/
section
set_option maxRecDepth 100000
set_option linter.unusedVariables false
namespace Go.Proofs.YteedolonhdbieaaGreatDoor
open Go Go.Vc

theorem b64_ofNat (n : Nat) : b64 (n : Int) = BitVec.ofNat 64 n := by
 apply BitVec.eq_of_toNat_eq
 simp only [BitVec.toNat_ofInt, BitVec.toNat_ofNat]; omega
theorem or_low {x y : Int} (k : Nat) (hx : 0 ≤ x ∧ x < 2 ^ k) (hy : 0 ≤ y) (hxy : x + y * 2 ^ k < 2 ^ 63) : bits .or .i64 x (y * 2 ^ k) = x + y * 2 ^ k := by
 obtain ⟨a, rfl⟩ := Int.eq_ofNat_of_zero_le hx.1
 obtain ⟨b, rfl⟩ := Int.eq_ofNat_of_zero_le hy
 have ha : a < 2 ^ k := by have := hx.2; exact_mod_cast this
 have e1 : ((b : Int) * 2 ^ k) = ((b * 2 ^ k : Nat) : Int) := by simp
 rw [e1] at hxy ⊢
 have : bits .or .i64 (a : Int) ((b * 2 ^ k : Nat) : Int) = IntKind.i64.wrap ((b64 (a : Int) ||| b64 ((b * 2 ^ k : Nat) : Int)).toNat : Int) := rfl
 rw [this, b64_ofNat, b64_ofNat]
 have e2 : a ||| (b * 2 ^ k) = a + b * 2 ^ k := by
  have := Nat.shiftLeft_add_eq_or_of_lt ha b
  rw [Nat.shiftLeft_eq] at this
  rw [Nat.or_comm, ← this]; omega
 have e3 : (BitVec.ofNat 64 a ||| BitVec.ofNat 64 (b * 2 ^ k)).toNat = a + b * 2 ^ k := by
  rw [BitVec.toNat_or, BitVec.toNat_ofNat, BitVec.toNat_ofNat, Nat.mod_eq_of_lt (by omega), Nat.mod_eq_of_lt (by omega), e2]
 rw [e3, IntKind.wrap_i64]; omega
def num4 (bs : List Int) (o : Nat) : Int := bs.getD o 0 + 256 * bs.getD (o + 1) 0 + 65536 * bs.getD (o + 2) 0 + 16777216 * bs.getD (o + 3) 0
theorem or4 {a b c d : Int} (ha : isByte a) (hb : isByte b) (hc : isByte c) (hd : isByte d) :
  bits .or .i64 (bits .or .i64 (bits .or .i64 (IntKind.i64.wrap a) (IntKind.i64.wrap (IntKind.i64.wrap b * 2 ^ 8))) (IntKind.i64.wrap (IntKind.i64.wrap c * 2 ^ 16))) (IntKind.i64.wrap (IntKind.i64.wrap d * 2 ^ 24)) = a + 256 * b + 65536 * c + 16777216 * d := by
 obtain ⟨a1, a2⟩ := ha; obtain ⟨b1, b2⟩ := hb; obtain ⟨c1, c2⟩ := hc; obtain ⟨d1, d2⟩ := hd
 have w : ∀ n : Int, 0 ≤ n ∧ n < 2 ^ 40 → IntKind.i64.wrap n = n := fun n hn => by rw [IntKind.wrap_i64]; omega
 rw [w a (by omega), w b (by omega), w c (by omega), w d (by omega), w (b * 2 ^ 8) (by omega), w (c * 2 ^ 16) (by omega), w (d * 2 ^ 24) (by omega)]
 rw [or_low 8 (by omega) b1 (by omega), or_low 16 (by omega) c1 (by omega), or_low 24 (by omega) d1 (by omega)]
 omega
theorem num4_range {bs : List Int} (hb : bytesOk bs) (o : Nat) : 0 ≤ num4 bs o ∧ num4 bs o < 2 ^ 32 := by
 have g : ∀ x, isByte (bs.getD x 0) := fun x => by
  rw [List.getD_eq_getElem?_getD]
  cases e : bs[x]? with
  | none => exact ⟨by decide, by decide⟩
  | some v => exact hb v (List.mem_iff_getElem?.2 ⟨x, e⟩)
 have g0 := g o; have g1 := g (o + 1); have g2 := g (o + 2); have g3 := g (o + 3)
 unfold isByte at *
 unfold num4; omega
theorem byte_getD {bs : List Int} (hb : bytesOk bs) (x : Nat) : isByte (bs.getD x 0) := by
 rw [List.getD_eq_getElem?_getD]
 cases e : bs[x]? with
 | none => exact ⟨by decide, by decide⟩
 | some v => exact hb v (List.mem_iff_getElem?.2 ⟨x, e⟩)
theorem sub_rd {h : H} {q : Option Addr} {l o n m : Nat} {k : IntKind} {bs : List Int} (rd : hsv h q 1 l (ints k bs)) (ho : o + n ≤ l) (hm : m = o → n = 0) : hsv h (subAddr q o m 1) 1 n (ints k ((bs.drop o).take n)) := by
 have hl : bs.length = l := by have := rd.1; simpa using this
 refine ⟨by rw [ints_length, List.length_take, List.length_drop]; omega, ints_one _ _, ?_⟩
 by_cases c : n = 0
 ·subst c; exact Or.inl rfl
 unfold subAddr
 rw [if_neg (fun y => c (hm y))]
 obtain ⟨_, _, rd⟩ := rd
 rcases rd with rd | ⟨q', rfl, g⟩
 ·have := congrArg List.length rd
  rw [ints_length, List.length_nil] at this; omega
 ·refine Or.inr ⟨_, rfl, ?_⟩
  intro i v hv
  have hi : i < n := by
   have h1 : i < (ints k ((bs.drop o).take n)).length := (List.getElem?_eq_some_iff.1 hv).1
   rw [ints_length, List.length_take] at h1
   exact Nat.lt_of_lt_of_le h1 (Nat.min_le_left _ _)
  have e := g (o + i) v (by
   rw [ints_get] at hv ⊢
   rw [List.getElem?_take_of_lt hi, List.getElem?_drop] at hv
   exact hv)
  rw [Nat.mul_one, add_add]
  exact e
theorem drop_getD (bs : List Int) (o n x : Nat) (hx : x < n) : ((bs.drop o).take n).getD x 0 = bs.getD (o + x) 0 := by
 rw [List.getD_eq_getElem?_getD, List.getD_eq_getElem?_getD, List.getElem?_take_of_lt hx, List.getElem?_drop]
theorem drop_bytes {bs : List Int} (hb : bytesOk bs) (o n : Nat) : bytesOk ((bs.drop o).take n) := fun v hv => hb v (List.mem_of_mem_drop (List.mem_of_mem_take hv))
theorem num4_drop (bs : List Int) (o n : Nat) (hn : 4 ≤ n) : num4 ((bs.drop o).take n) 0 = num4 bs o := by
 unfold num4
 rw [drop_getD _ _ _ _ (by omega), drop_getD _ _ _ _ (by omega), drop_getD _ _ _ _ (by omega), drop_getD _ _ _ _ (by omega)]
 rfl
def markB (x : Nat) : Int := (((ByteArray.mk #[80, 67, 85, 76]).data.toList.getD x 0).toNat : Int)
def mayB (x : Nat) (c : Int) : Bool := if x < 4 then c == markB x else if x = 4 then c == 1 else if x = 5 then decide (c < 8) else if x = 6 then decide (c < 64) else if x = 7 then c == 0 else true
def headW (bs : List Int) : Nat → Nat → Option (Int × Int)
 | 0, _ => none
 | m + 1, x => if x = bs.length then some (6, x) else if mayB x (bs.getD x 0) = true then headW bs m (x + 1) else some (5, x)
def parseW (bs : List Int) : Int × Int :=
 if 524288 < bs.length then (4, 524288) else match headW bs 16 0 with
 | some w => w
 | none => if 524240 < num4 bs 12 then (5, 12) else if (bs.length : Int) < 48 + num4 bs 12 then (6, bs.length) else if 48 + num4 bs 12 < bs.length then (7, 48 + num4 bs 12) else (0, 0)
section
variable {h0 h : H} {A : List Ent} {i j p r b : Nat}
theorem number_sp {Q : Int → H → Prop} {q : Option Addr} {l c : Nat} {bs : List Int} (rd : hsv h q 1 l (ints .u8 bs)) (hb : bytesOk bs) (hl : 4 ≤ l) (k : Q (num4 bs 0) h) : F_image_number q l c Q h := by
 unfold F_image_number G_image_number
 have g : ∀ x, x < l → ∃ q', q = some q' ∧ hc h (q'.add x) = some (.int .u8 (bs.getD x 0)) := fun x hx => hsv_int rd hx
 obtain ⟨q0, e0, g0⟩ := g 0 (by omega)
 obtain ⟨q1, e1, g1⟩ := g 1 (by omega)
 obtain ⟨q2, e2, g2⟩ := g 2 (by omega)
 obtain ⟨q3, e3, g3⟩ := g 3 (by omega)
 rw [add_zero] at g0
 refine ⟨_, e0, by omega, by omega, _, g0, _, e1, by omega, by omega, _, g1, by omega, _, e2, by omega, by omega, _, g2, by omega, _, e3, by omega, by omega, _, g3, by omega, ?_⟩
 rw [or4 (byte_getD hb _) (byte_getD hb _) (byte_getD hb _) (byte_getD hb _)]
 exact k
theorem rnumber_sp {Q : Int → H → Prop} {q : Option Addr} {l c : Nat} {bs : List Int} (rd : hsv h q 1 l (ints .u8 bs)) (hb : bytesOk bs) (hl : 4 ≤ l) (k : Q (num4 bs 0) h) : F_portcullisref11_number q l c Q h := by
 unfold F_portcullisref11_number G_portcullisref11_number
 intro J hJ
 have g : ∀ x, x < l → ∃ q', q = some q' ∧ hc h (q'.add x) = some (.int .u8 (bs.getD x 0)) := fun x hx => hsv_int rd hx
 have S : ∀ n, n ≤ 4 → 0 ≤ n → True := fun _ _ _ => trivial
 have key : num4 bs 0 = gotI bs 4 := by
  have e0 : bits .or .i64 0 (IntKind.i64.wrap (IntKind.i64.wrap (bs.getD 0 0) * 2 ^ (8 * 0))) = IntKind.i64.wrap (bs.getD 0 0) := by
   have := byte_getD hb 0
   unfold isByte at this
   have w : IntKind.i64.wrap (bs.getD 0 0) = bs.getD 0 0 := by rw [IntKind.wrap_i64]; omega
   rw [w]
   have e : IntKind.i64.wrap (bs.getD 0 0 * 2 ^ (8 * 0)) = bs.getD 0 0 * 2 ^ 0 := by rw [IntKind.wrap_i64]; omega
   rw [e, or_low 0 (by omega) this.1 (by omega)]; omega
  unfold gotI gotI gotI gotI gotI
  rw [e0]
  exact (or4 (byte_getD hb _) (byte_getD hb _) (byte_getD hb _) (byte_getD hb _)).symm
 rw [key] at k
 refine loop_st 4 (fun n (x : Int) => [.dv (.one (.int .i64 x)), si n]) (fun n x h' => h' = h ∧ x = gotI bs n) ?_ ?_ 0 0 _ (by omega) ⟨rfl, rfl⟩
 ·rintro n x h1 hn ⟨rfl, rfl⟩ hk
  apply hJ
  rw [ltI_eq, if_pos (by simp; omega)]
  obtain ⟨q1, e1, g1⟩ := g n (by omega)
  have e8 : IntKind.i64.wrap (8 * (n : Int)) = ((8 * n : Nat) : Int) := by rw [wrap_id (by omega)]; omega
  refine ⟨_, e1, by omega, by omega, _, by rw [Int.toNat_natCast, Nat.mul_one]; exact g1, by rw [e8]; omega, ?_⟩
  rw [wrap_succ (by omega), step8_eq (by omega)]
  exact hk _ _ ⟨rfl, rfl⟩
 ·rintro x h1 ⟨rfl, rfl⟩
  apply hJ
  rw [ltI_eq, if_neg (by simp)]
  exact k
theorem may_sp {Q : Bool → H → Prop} (x : Nat) (c : Int) (k : Q (mayB x c) h) : F_image_may (x : Int) c Q h := by
 unfold F_image_may G_image_may
 unfold mayB at k
 by_cases g : x < 4
 ·rw [if_pos g] at k
  rw [ltI_eq, if_pos (by simp; omega)]
  refine ⟨by omega, by omega, ?_⟩
  rw [Int.toNat_natCast]; exact k
 rw [if_neg g] at k
 rw [ltI_eq, if_neg (by simp; omega)]
 by_cases g4 : x = 4
 ·rw [if_pos g4] at k; rw [if_pos (by simp; omega)]; exact k
 rw [if_neg g4] at k; rw [if_neg (by simp; omega)]
 by_cases g5 : x = 5
 ·rw [if_pos g5] at k; rw [if_pos (by simp; omega), ltI_eq]; exact k
 rw [if_neg g5] at k; rw [if_neg (by simp; omega)]
 by_cases g6 : x = 6
 ·rw [if_pos g6] at k; rw [if_pos (by simp; omega), ltI_eq]; exact k
 rw [if_neg g6] at k; rw [if_neg (by simp; omega)]
 by_cases g7 : x = 7
 ·rw [if_pos g7] at k; rw [if_pos (by simp; omega)]; exact k
 rw [if_neg g7] at k; rw [if_neg (by simp; omega)]
 exact k
theorem rmust_sp {Q : Bool → H → Prop} (x : Nat) (c : Int) (k : Q (mayB x c) h) : F_portcullisref11_must (x : Int) c Q h := by
 unfold F_portcullisref11_must G_portcullisref11_must
 intro J hJ
 have way : ∀ bb : Bool, (bb = true ↔ x < 4) → J [.dv (.one (.bool bb))] h := by
  intro bb hbb
  apply hJ
  unfold mayB at k
  by_cases g : x < 4
  ·rw [if_pos g] at k
   rw [if_pos (hbb.2 g)]
   refine ⟨by omega, by omega, ?_⟩
   rw [Int.toNat_natCast]; exact k
  rw [if_neg g] at k
  rw [if_neg (fun y => g (hbb.1 y))]
  by_cases g4 : x = 4
  ·rw [if_pos g4] at k; rw [if_pos (by simp; omega)]; exact k
  rw [if_neg g4] at k; rw [if_neg (by simp; omega)]
  by_cases g5 : x = 5
  ·rw [if_pos g5] at k; rw [if_pos (by simp; omega), ltI_eq]; exact k
  rw [if_neg g5] at k; rw [if_neg (by simp; omega)]
  by_cases g6 : x = 6
  ·rw [if_pos g6] at k; rw [if_pos (by simp; omega), ltI_eq]; exact k
  rw [if_neg g6] at k; rw [if_neg (by simp; omega)]
  by_cases g7 : x = 7
  ·rw [if_pos g7] at k; rw [if_pos (by simp; omega)]; exact k
  rw [if_neg g7] at k; rw [if_neg (by simp; omega)]
  exact k
 by_cases g0 : x = 0
 ·rw [if_pos (by simp; omega)]; exact way _ (by simp; omega)
 rw [if_neg (by simp; omega)]
 by_cases g1 : x = 1
 ·rw [if_pos (by simp; omega)]; exact way _ (by simp; omega)
 rw [if_neg (by simp; omega)]
 by_cases g2 : x = 2
 ·rw [if_pos (by simp; omega)]; exact way _ (by simp; omega)
 rw [if_neg (by simp; omega)]
 exact way _ (by simp; omega)
end
end Go.Proofs.YteedolonhdbieaaGreatDoor
end
