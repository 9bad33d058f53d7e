/- GateKeeps: what is proved and its parts, laid together by a program of ours: Pg2 Pg3 Pg4 Pg5 Pg6 Ar1 Ar2 Ar3 Ar5 Ar8 Lg1 Ly1 Lg2 Ly2 Ar9 -/
import Derived.Test.YtaglicdidpgkpaaGreatDoorK11
set_option autoImplicit false
set_option linter.all false
/- Contracts of pages: what a page tells, in the program and in the document. Own work. -/
section
set_option maxRecDepth 100000
set_option linter.unusedVariables false
namespace Go.Proofs.YtaglicdidpgkpaaGreatDoor
open Go Go.Vc

structure Inf where
 head : Int
 nums : List Int
 next : Int
 blank : Bool
 torn : Int
abbrev infV (a : Int) (l : List Int) (n : Int) (b : Bool) (t : Int) : List Value := .int .i64 a :: (ints .i64 l ++ [.int .i64 n, .bool b, .int .i64 t])
abbrev infI (I : Inf) : List Value := infV I.head I.nums I.next I.blank I.torn
def inf0 : Inf := ⟨0, zeros 9, 0, false, 0⟩
theorem inf_10 {a n t : Int} {l : List Int} {b : Bool} (h : l.length = 9) : (infV a l n b t)[10]? = some (.int .i64 n) := by
 have : (ints .i64 l).length = 9 := by simpa using h
 simp [infV, this]
theorem inf_11 {a n t : Int} {l : List Int} {b : Bool} (h : l.length = 9) : (infV a l n b t)[11]? = some (.bool b) := by
 have : (ints .i64 l).length = 9 := by simpa using h
 simp [infV, this]
theorem inf_12 {a n t : Int} {l : List Int} {b : Bool} (h : l.length = 9) : (infV a l n b t)[12]? = some (.int .i64 t) := by
 have : (ints .i64 l).length = 9 := by simpa using h
 simp [infV, this]
theorem inf_num {a n t : Int} {l : List Int} {b : Bool} (h : l.length = 9) {i : Nat} (hi : i < 9) : (infV a l n b t)[1 + i]? = some (.int .i64 (l.getD i 0)) := by
 have : (ints .i64 l).length = 9 := by simpa using h
 rw [infV, Nat.add_comm, List.getElem?_cons_succ, List.getElem?_append_left (by omega), ints_get, List.getElem?_eq_getElem (by omega)]
 simp [List.getD, List.getElem?_eq_getElem (show i < l.length by omega)]
theorem inf_row {a n t : Int} {l : List Int} {b : Bool} (h : l.length = 9) : ∀ i, i < l.length → (infV a l n b t)[1 + i]? = l[i]?.map (Value.int .i64) := by
 intro i hi
 rw [inf_num h (by omega), List.getElem?_eq_getElem hi]
 simp [List.getD, List.getElem?_eq_getElem hi]
theorem inf_len {a n t : Int} {l : List Int} {b : Bool} (h : l.length = 9) : (infV a l n b t).length = 13 := by simp [infV, h]
theorem inf_s0 {a n t v : Int} {l : List Int} {b : Bool} : splice (infV a l n b t) 0 [.int .i64 v] = infV v l n b t := rfl
theorem set_app (l : List Value) (x y : List Value) (i : Nat) (v : Value) : (l ++ x).set (l.length + i) v = l ++ x.set i v := by
 rw [List.set_append_right _ _ (by omega), Nat.add_sub_cancel_left]
theorem inf_s10 {a n t v : Int} {l : List Int} {b : Bool} (h : l.length = 9) : splice (infV a l n b t) 10 [.int .i64 v] = infV a l v b t := by
 have h9 : (ints .i64 l).length = 9 := by simpa using h
 show (infV a l n b t).set 10 (.int .i64 v) = _
 unfold infV
 rw [List.set_cons_succ, show 9 = (ints .i64 l).length + 0 by omega, set_app _ _ []]
 rfl
theorem inf_s11 {a n t : Int} {l : List Int} {b v : Bool} (h : l.length = 9) : splice (infV a l n b t) 11 [.bool v] = infV a l n v t := by
 have h9 : (ints .i64 l).length = 9 := by simpa using h
 show (infV a l n b t).set 11 (.bool v) = _
 unfold infV
 rw [List.set_cons_succ, show 10 = (ints .i64 l).length + 1 by omega, set_app _ _ []]
 rfl
theorem inf_s12 {a n t v : Int} {l : List Int} {b : Bool} (h : l.length = 9) : splice (infV a l n b t) 12 [.int .i64 v] = infV a l n b v := by
 have h9 : (ints .i64 l).length = 9 := by simpa using h
 show (infV a l n b t).set 12 (.int .i64 v) = _
 unfold infV
 rw [List.set_cons_succ, show 11 = (ints .i64 l).length + 2 by omega, set_app _ _ []]
 rfl
theorem inf_sn {a n t v : Int} {l : List Int} {b : Bool} (h : l.length = 9) {i : Nat} (hi : i < 9) : splice (infV a l n b t) (1 + i) [.int .i64 v] = infV a (l.set i v) n b t := by
 have h9 : (ints .i64 l).length = 9 := by simpa using h
 show (infV a l n b t).set (1 + i) (.int .i64 v) = _
 unfold infV
 rw [Nat.add_comm, List.set_cons_succ, List.set_append_left _ _ (by omega), ints_set]
def nextM (I : Inf) (n kind : Int) : Inf := if kind ≠ 0 then { I with next := IntKind.i64.wrap (n + 1) } else I
def layN (I : Inf) (n kind slot num : Int) : Inf :=
 if kind = 3 then { I with torn := IntKind.i64.wrap (I.torn + 1) }
 else if kind = 1 ∧ n = 0 then { I with head := num }
 else if kind = 2 ∧ 0 < n then { I with nums := I.nums.set slot.toNat (if num > I.nums.getD slot.toNat 0 then num else I.nums.getD slot.toNat 0) }
 else I
def layM (I : Inf) (n kind slot num : Int) : Inf := layN (nextM I n kind) n kind slot num
theorem nextM_nums (I : Inf) (n kind : Int) : (nextM I n kind).nums = I.nums := by unfold nextM; split <;> rfl
theorem layN_len (I : Inf) (n kind slot num : Int) : (layN I n kind slot num).nums.length = I.nums.length := by
 unfold layN
 split
 ·rfl
 ·split
  ·rfl
  ·split
   ·simp
   ·rfl
theorem layM_len (I : Inf) (n kind slot num : Int) : (layM I n kind slot num).nums.length = I.nums.length := by
 unfold layM; rw [layN_len, nextM_nums]
section
variable {h0 h : H} {A : List Ent} {i j p r b : Nat} {C : Cm}
theorem lay_sp {Q : H → Prop} (I : Inf) (hl : I.nums.length = 9) (hs : Sat h0 A h) (m : At A i (blk b (infI I))) (n kind slot num : Int) (hslot : kind = 2 → 0 ≤ slot ∧ slot ≤ 8)
  (k : ∀ h', Sat h0 (put A i (blk b (infI (layM I n kind slot num)))) h' → Q h') : F_page_Info_lay ⟨b, 0, none⟩ n kind slot num Q h := by
 unfold F_page_Info_lay G_page_Info_lay
 try simp only [add_mk, Nat.zero_add, List.append_nil]
 intro n1 _ hn; replace hs := Sat.new hs hn; clear hn
 intro J hJ
 unfold layM at k
 -- behind the first if
 have main : ∀ (I : Inf), I.nums.length = 9 → (∀ h', Sat h0 (put A i (blk b (infI (layN I n kind slot num)))) h' → Q h') → ∀ h2, Sat h0 (blk n1 [.int .i64 kind, .int .i64 slot, .int .i64 num] :: put A i (blk b (infI I))) h2 → J [] h2 := by
  intro I hl k h2 hs
  unfold layN at k
  have m2 := (m.put (blk b (infI I))).s (x := blk n1 [.int .i64 kind, .int .i64 slot, .int .i64 num])
  apply hJ
  refine ⟨_, Sat.ld hs (by (repeat (first | exact At.z | apply At.s))) (by rfl), ?_⟩
  by_cases c1 : kind = 3
  ·rw [if_pos c1] at k
   rw [if_pos (by simpa using c1)]
   refine ⟨_, hs.ld m2 (inf_12 hl), hs.can m2 (by rw [inf_len hl]; decide), ?_⟩
   intro h3 e
   replace hs := hs.wr m2 e
   rw [inf_s12 hl] at hs
   refine k _ ?_
   have := hs
   simp only [put_succ, put_put] at this
   exact this.drop
  rw [if_neg c1] at k
  rw [if_neg (by simpa using c1)]
  intro J2 hJ2
  have two : ∀ bb : Bool, (bb = true ↔ kind = 1 ∧ n = 0) → J2 [.dv (.one (.bool bb))] h2 := by
   intro bb c2
   apply hJ2
   by_cases c3 : bb = true
   ·rw [if_pos c3]
    rw [if_pos (c2.1 c3)] at k
    refine ⟨_, Sat.ld hs (by (repeat (first | exact At.z | apply At.s))) (by rfl), ?_⟩
    refine ⟨hs.can m2 (by rw [inf_len hl]; decide), ?_⟩
    intro h3 e
    replace hs := hs.wr m2 e
    rw [inf_s0] at hs
    refine k _ ?_
    have := hs
    simp only [put_succ, put_put] at this
    exact this.drop
   rw [if_neg c3]
   rw [if_neg (fun y => c3 (c2.2 y))] at k
   refine ⟨_, Sat.ld hs (by (repeat (first | exact At.z | apply At.s))) (by rfl), ?_⟩
   by_cases c4 : kind = 2
   case neg =>
    rw [if_neg (fun y => c4 y.1)] at k
    rw [if_neg (by rw [beq_iff_eq]; exact c4)]
    exact k _ hs.drop
   rw [if_pos (by rw [beq_iff_eq]; exact c4)]
   by_cases c5 : 0 < n
   case neg =>
    rw [if_neg (fun y => c5 y.2)] at k
    rw [ltI_eq, if_neg (by simpa using c5)]
    exact k _ hs.drop
   rw [if_pos ⟨c4, c5⟩] at k
   rw [ltI_eq, if_pos (by simpa using c5)]
   obtain ⟨s1, s2⟩ := hslot c4
   refine ⟨_, Sat.ld hs (by (repeat (first | exact At.z | apply At.s))) (by rfl), ?_⟩
   refine ⟨_, Sat.ld hs (by (repeat (first | exact At.z | apply At.s))) (by rfl), ?_⟩
   refine ⟨by omega, by omega, _, by rw [Nat.mul_one]; exact hs.ld m2 (inf_num hl (by omega)), ?_⟩
   refine ⟨_, Sat.ld hs (by (repeat (first | exact At.z | apply At.s))) (by rfl), ?_⟩
   refine ⟨by omega, by omega, by rw [Nat.mul_one]; exact hs.can m2 (by rw [inf_len hl]; omega), ?_⟩
   intro h3 e
   rw [Nat.mul_one] at e
   replace hs := hs.wr m2 e
   rw [inf_sn hl (by omega)] at hs
   refine k _ ?_
   have := hs
   simp only [put_succ, put_put] at this
   exact this.drop
  refine ⟨_, Sat.ld hs (by (repeat (first | exact At.z | apply At.s))) (by rfl), ?_⟩
  by_cases c2 : kind = 1
  ·rw [if_pos (by rw [beq_iff_eq]; exact c2)]
   exact two _ (by rw [beq_iff_eq]; exact ⟨fun y => ⟨c2, y⟩, fun y => y.2⟩)
  ·rw [if_neg (by rw [beq_iff_eq]; exact c2)]
   exact two _ ⟨fun y => by simp at y, fun y => absurd y.1 c2⟩
 refine ⟨_, Sat.ld hs (by (repeat (first | exact At.z | apply At.s))) (by rfl), ?_⟩
 by_cases c0 : kind = 0
 ·rw [if_neg (by simpa using c0)]
  have e : nextM I n kind = I := if_neg (by simpa using c0)
  rw [e] at k
  exact main I hl k _ (by rw [m.put_self]; exact hs)
 ·rw [if_pos (by simpa using c0)]
  have e : nextM I n kind = { I with next := IntKind.i64.wrap (n + 1) } := if_pos (by simpa using c0)
  rw [e] at k
  refine ⟨hs.can m.s (by rw [inf_len hl]; decide), ?_⟩
  intro h3 e
  replace hs := hs.wr m.s e
  rw [inf_s10 hl, put_succ] at hs
  exact main { I with next := IntKind.i64.wrap (n + 1) } hl k _ hs
theorem hsv_cell {q : Option Addr} {l k : Nat} {row : List Int} (rd : hsv h q 32 l (ints .u8 row)) (hk : k < l) : ∃ q', q = some q' ∧ (k + 1) * 32 ≤ row.length ∧ hrow h (q'.add (k * 32)) .u8 (cellAt row k) := by
 obtain ⟨e1, e2, e3⟩ := rd
 have hl : row.length = l * 32 := by simpa using e1
 have hk2 : (k + 1) * 32 ≤ row.length := by omega
 rcases e3 with e3 | ⟨q', hq, g⟩
 ·have : row.length = 0 := by have := congrArg List.length e3; simpa using this
  omega
 ·refine ⟨q', hq, hk2, ?_⟩
  intro i v hv
  have hi : i < 32 := by
   have := (List.getElem?_eq_some_iff.1 hv).1
   rw [ints_length, cellAt_length hk2] at this; exact this
  rw [ints_get, cellAt_get _ _ _ hi] at hv
  have : (q'.add (k * 32)).add i = q'.add (k * 32 + i) := by
   cases q' with | mk b o s => unfold Addr.add; by_cases h1 : k * 32 = 0 <;> by_cases h2 : i = 0 <;> simp [h1, h2, Nat.add_assoc]
  rw [this]
  exact g _ _ (by rw [ints_get]; exact hv)
def ofM (row : List Int) : Nat → Inf
 | 0 => inf0
 | n + 1 => layM (ofM row n) n (recM (cellAt row n)).1 (recM (cellAt row n)).2.1 (recM (cellAt row n)).2.2
theorem ofM_len (row : List Int) (n : Nat) : (ofM row n).nums.length = 9 := by
 induction n with
 | zero => rfl
 | succ n ih => unfold ofM; rw [layM_len, ih]
theorem layN_next (I : Inf) (n kind slot num : Int) : (layN I n kind slot num).next = I.next := by
 unfold layN; (repeat' split) <;> rfl
theorem ofM_blank (row : List Int) (n : Nat) (hn : n < 2 ^ 60) : ((ofM row n).next = 0 → ofM row n = inf0) ∧ (ofM row n).blank = false := by
 induction n with
 | zero => exact ⟨fun _ => rfl, rfl⟩
 | succ n ih =>
  obtain ⟨i1, i2⟩ := ih (by omega)
  unfold ofM layM
  generalize (recM (cellAt row n)).1 = kind
  generalize (recM (cellAt row n)).2.1 = slot
  generalize (recM (cellAt row n)).2.2 = num
  by_cases c : kind = 0
  ·have e : nextM (ofM row n) n kind = ofM row n := if_neg (by simpa using c)
   rw [e, layN_next]
   have e2 : layN (ofM row n) n kind slot num = ofM row n := by
    unfold layN; rw [if_neg (by omega), if_neg (by omega), if_neg (by omega)]
   rw [e2]
   exact ⟨i1, i2⟩
  ·have e : nextM (ofM row n) n kind = { ofM row n with next := IntKind.i64.wrap (n + 1) } := if_pos (by simpa using c)
   rw [e, layN_next]
   refine ⟨fun x => ?_, ?_⟩
   ·dsimp only at x
    rw [wrap_id (by omega)] at x; omega
   ·unfold layN; (repeat' split) <;> exact i2
theorem recM_slot (x : List Int) (hb : bytesOk x) (h : (recM x).1 = 2) : 0 ≤ (recM x).2.1 ∧ (recM x).2.1 ≤ 8 := by
 unfold recM at *
 split
 ·rename_i c; rw [if_pos c] at h; simp at h
 ·rename_i c; rw [if_neg c] at h
  split
  ·rename_i c; rw [if_pos c] at h; simp at h
  ·rename_i c; rw [if_neg c] at h
   split
   ·rename_i c; rw [if_pos c] at h; simp at h
   ·rename_i c; rw [if_neg c] at h
    split
    ·rename_i c; rw [if_pos c] at h; simp at h
    ·rename_i c; rw [if_neg c] at h
     split
     ·rename_i c
      refine ⟨?_, c.2.1⟩
      show 0 ≤ x.getD 1 0
      rw [List.getD_eq_getElem?_getD]
      cases e : x[1]? with
      | none => exact Int.le_refl _
      | some v => exact (hb v (List.mem_iff_getElem?.2 ⟨1, e⟩)).1
     ·rename_i c; rw [if_neg c] at h; simp at h
def pageI (row : List Int) (n : Nat) : Inf := { ofM row n with blank := decide ((ofM row n).next = 0) }
def lookM (C : Cm) (page : Int) : Inf × Int :=
 if askedM C page C.s.pages.length ≠ 0 then (inf0, askedM C page C.s.pages.length) else (pageI (C.s.pages.getD page.toNat []) C.cfg.cells.toNat, 0)
theorem Look_sp {Q : Int → List Int → Int → Bool → Int → Int → H → Prop} (hs : Sat h0 A h) (ci : At A i (chipE p C)) (page : Int)
  (k : ∀ h', Sat h0 A h' → Q (lookM C page).1.head (lookM C page).1.nums (lookM C page).1.next (lookM C page).1.blank (lookM C page).1.torn (lookM C page).2 h') : F_page_Look ⟨p, 0, none⟩ page Q h := by
 unfold F_page_Look G_page_Look
 try simp only [add_mk, Nat.zero_add, List.append_nil]
 have ok := chip_ok hs ci
 intro n1 _ hn; replace hs := Sat.new hs hn; clear hn
 intro n2 _ hn; replace hs := Sat.new hs hn; clear hn
 have z9 : (zeros 9).length = 9 := rfl
 refine Erases_sp hs ci.s.s page ?_
 unfold lookM at k
 by_cases e : askedM C page C.s.pages.length = 0
 case neg =>
  have ee : erasesM C page = (0, askedM C page C.s.pages.length) := by unfold erasesM; rw [if_pos (by simpa using e)]
  rw [ee, if_pos (by simpa using e)]
  rw [if_pos (by simpa using e)] at k
  refine ⟨_, Sat.ld hs (by (repeat (first | exact At.z | apply At.s))) rfl, _, z9, Sat.row hs (by (repeat (first | exact At.z | apply At.s))) (inf_row z9), _, Sat.ld hs (by (repeat (first | exact At.z | apply At.s))) (inf_10 z9), _, Sat.ld hs (by (repeat (first | exact At.z | apply At.s))) (inf_11 z9), _, Sat.ld hs (by (repeat (first | exact At.z | apply At.s))) (inf_12 z9), ?_⟩
  (refine ⟨Sat.can hs (by (repeat (first | exact At.z | apply At.s))) (by decide), ?_⟩; intro _ e; replace hs := Sat.wra hs (by (repeat (first | exact At.z | apply At.s))) e ((inf_len z9).trans rfl); clear e; simp only [put] at hs)
  refine ⟨_, Sat.ld hs (by (repeat (first | exact At.z | apply At.s))) rfl, _, z9, Sat.row hs (by (repeat (first | exact At.z | apply At.s))) (inf_row z9), _, Sat.ld hs (by (repeat (first | exact At.z | apply At.s))) (inf_10 z9), _, Sat.ld hs (by (repeat (first | exact At.z | apply At.s))) (inf_11 z9), _, Sat.ld hs (by (repeat (first | exact At.z | apply At.s))) (inf_12 z9), ?_⟩
  exact k _ hs.drop.drop
 have ee : erasesM C page = (C.s.erases.getD page.toNat 0, 0) := by unfold erasesM; rw [if_neg (by simpa using e)]
 rw [ee, if_neg (by simp)]
 rw [if_neg (by simpa using e)] at k
 obtain ⟨ho, p1, p2⟩ := askedM_zero e
 refine Config_sp hs ci.s.s ?_
 intro h1 hs
 have hcells := ok.may.cells
 have hj : page.toNat < C.s.pages.length := by omega
 have erow : C.s.pages.getD page.toNat [] = C.s.pages[page.toNat] := by simp [List.getD, List.getElem?_eq_getElem hj]
 have hrl := ok.fits.cells _ (List.getElem_mem hj)
 have hrb := ok.typed.bytes _ (List.getElem_mem hj)
 rw [erow] at k
 generalize hrow : C.s.pages[page.toNat] = row at *
 have eread : ∀ n : Nat, n < C.cfg.cells.toNat → readM C page n = (cellAt row n, 0) := by
  intro n hn
  have ec : asksCellM C page n = 0 := by
   unfold asksCellM
   rw [askedM_in ho p1 p2, if_neg (by simp), askedM_in ho (by omega) (by omega)]
  unfold readM
  rw [ec, if_neg (by simp), erow, Int.toNat_natCast]
 intro J hJ
 refine loop_up C.cfg.cells.toNat (fun n h => Sat h0 (blk n2 (infI (ofM row n)) :: blk n1 (infI inf0) :: A) h) ?_ ?_ 0 _ (by omega) hs
 ·intro n h2 hn hs hk
  apply hJ
  rw [ltI_eq, if_pos (by simp; omega)]
  refine Read_sp hs ci.s.s page n ?_
  intro h3 hs
  rw [eread n hn]
  have hcl : (cellAt row n).length = 32 := cellAt_length (by omega)
  have hcb : bytesOk (cellAt row n) := fun v hv => hrb v (cellAt_mem hv)
  have hnl := ofM_len row n
  have hslot := recM_slot (cellAt row n) hcb
  intro n3 _ hn3; replace hs := Sat.new hs hn3; clear hn3
  refine ⟨Sat.can hs (by (repeat (first | exact At.z | apply At.s))) (by simp [hcl]), ?_⟩
  intro _ e; replace hs := Sat.wra hs (by (repeat (first | exact At.z | apply At.s))) e (by rw [ints_length, ints_length, hcl]; rfl); clear e; simp only [put] at hs
  rw [if_neg (by simp)]
  refine ⟨_, hcl, hs.row0 .z, ?_⟩
  refine Read3_sp _ hcl hcb hs ?_
  intro h4 hs
  refine lay_sp (i := 1) (ofM row n) hnl hs (.s .z) n _ _ _ hslot ?_
  intro h5 hs
  rw [wrap_succ (by omega)]
  exact hk _ hs.drop
 ·intro h2 hs
  apply hJ
  rw [ltI_eq, if_neg (by simp; omega)]
  have hnl := ofM_len row C.cfg.cells.toNat
  have hbl := ofM_blank row C.cfg.cells.toNat (by omega)
  generalize hO : ofM row C.cfg.cells.toNat = O at *
  refine ⟨_, Sat.ld hs (by (repeat (first | exact At.z | apply At.s))) rfl, _, hnl, Sat.row hs (by (repeat (first | exact At.z | apply At.s))) (inf_row hnl), _, Sat.ld hs (by (repeat (first | exact At.z | apply At.s))) (inf_10 hnl), _, Sat.ld hs (by (repeat (first | exact At.z | apply At.s))) (inf_11 hnl), _, Sat.ld hs (by (repeat (first | exact At.z | apply At.s))) (inf_12 hnl), ?_⟩
  have ebl : (O.head == 0 && (O.nums == zeros 9 && (O.next == 0 && (O.blank == false && (O.torn == 0 && true))))) = decide (O.next = 0) := by
   by_cases c : O.next = 0
   ·rw [hbl.1 c]; decide
   ·rw [decide_eq_false c]
    have : (O.next == 0) = false := by simpa using c
    rw [this]; simp
  rw [ebl]
  refine ⟨hs.can .z (by rw [inf_len hnl]; decide), ?_⟩
  intro h3 e
  replace hs := hs.wr .z e
  rw [inf_s11 hnl, put_zero] at hs
  refine ⟨_, Sat.ld hs (by (repeat (first | exact At.z | apply At.s))) rfl, _, hnl, Sat.row hs (by (repeat (first | exact At.z | apply At.s))) (inf_row hnl), _, Sat.ld hs (by (repeat (first | exact At.z | apply At.s))) (inf_10 hnl), _, Sat.ld hs (by (repeat (first | exact At.z | apply At.s))) (inf_11 hnl), _, Sat.ld hs (by (repeat (first | exact At.z | apply At.s))) (inf_12 hnl), ?_⟩
  (refine ⟨Sat.can hs (by (repeat (first | exact At.z | apply At.s))) (by decide), ?_⟩; intro _ e; replace hs := Sat.wra hs (by (repeat (first | exact At.z | apply At.s))) e ((inf_len hnl).trans rfl); clear e; simp only [put] at hs)
  refine ⟨_, Sat.ld hs (by (repeat (first | exact At.z | apply At.s))) rfl, _, hnl, Sat.row hs (by (repeat (first | exact At.z | apply At.s))) (inf_row hnl), _, Sat.ld hs (by (repeat (first | exact At.z | apply At.s))) (inf_10 hnl), _, Sat.ld hs (by (repeat (first | exact At.z | apply At.s))) (inf_11 hnl), _, Sat.ld hs (by (repeat (first | exact At.z | apply At.s))) (inf_12 hnl), ?_⟩
  unfold pageI at k
  rw [hO] at k
  exact k _ hs.drop.drop
end
end Go.Proofs.YtaglicdidpgkpaaGreatDoor

/- Contracts of the document's pages; PageLooks. Own work. -/
set_option maxRecDepth 100000
set_option linter.unusedVariables false
namespace Go.Proofs.YtaglicdidpgkpaaGreatDoor
open Go Go.Vc

section
variable {h0 h : H} {A : List Ent} {i j p r b : Nat} {C : Cm}
theorem Of_sp {Q : Int → List Int → Int → Bool → Int → H → Prop} {q : Option Addr} {l c : Nat} {row : List Int} (hs : Sat h0 A h) (rd : ∀ h', Sat h0 A h' → hsv h' q 32 l (ints .u8 row)) (hb : bytesOk row) (hl : l < 2 ^ 60)
  (k : ∀ h', Sat h0 A h' → Q (pageI row l).head (pageI row l).nums (pageI row l).next (pageI row l).blank (pageI row l).torn h') : F_portcullisref08_Of q l c Q h := by
 unfold F_portcullisref08_Of G_portcullisref08_Of
 try simp only [add_mk, Nat.zero_add, List.append_nil]
 intro n6 _ hn; replace hs := Sat.new hs hn; clear hn
 intro n9 _ hn; replace hs := Sat.new hs hn; clear hn
 have z9 : (zeros 9).length = 9 := rfl
 (refine ⟨Sat.can hs (by (repeat (first | exact At.z | apply At.s))) (by decide), ?_⟩; intro _ e; replace hs := Sat.wra hs (by (repeat (first | exact At.z | apply At.s))) e ((inf_len z9).trans rfl); clear e; simp only [put] at hs)
 intro J hJ
 refine loop_up l (fun n h => Sat h0 (blk n9 (infI (ofM row n)) :: blk n6 (infI inf0) :: A) h) ?_ ?_ 0 _ (by omega) hs
 ·intro n h1 hn hs hk
  apply hJ
  rw [ltI_eq, if_pos (by simp; omega)]
  obtain ⟨q', hq, hk2, hr⟩ := hsv_cell (rd _ hs.drop.drop) hn
  have hcl : (cellAt row n).length = 32 := cellAt_length hk2
  have hcb : bytesOk (cellAt row n) := fun v hv => hb v (cellAt_mem hv)
  have hnl := ofM_len row n
  have hslot := recM_slot (cellAt row n) hcb
  refine ⟨_, hq, by omega, by omega, _, hcl, by rw [Int.toNat_natCast]; exact hr, ?_⟩
  refine rRead6_sp _ hcl hcb hs ?_
  intro h2 hs
  replace hk : ∀ h', Sat h0 (blk n9 (infI (layM (ofM row n) n (recM (cellAt row n)).1 (recM (cellAt row n)).2.1 (recM (cellAt row n)).2.2)) :: blk n6 (infI inf0) :: A) h' → J [si (n + 1)] h' := hk
  generalize (recM (cellAt row n)).1 = kind at *
  generalize (recM (cellAt row n)).2.1 = slot at *
  generalize (recM (cellAt row n)).2.2 = num at *
  generalize ofM row n = I at *
  rw [wrap_succ (by omega)]
  intro n23 _ hn23; replace hs := Sat.new hs hn23; clear hn23
  (refine ⟨Sat.can hs (by (repeat (first | exact At.z | apply At.s))) (by simp), ?_⟩; intro _ e; replace hs := Sat.wr hs (by (repeat (first | exact At.z | apply At.s))) e; clear e; simp only [put, splice, List.set] at hs)
  intro J2 hJ2
  have main : ∀ (I : Inf), I.nums.length = 9 → (∀ h', Sat h0 (blk n9 (infI (layN I n kind slot num)) :: blk n6 (infI inf0) :: A) h' → J [si (n + 1)] h') →
    ∀ h2, Sat h0 (blk n23 [.int .i64 kind, .int .i64 slot, .int .i64 num] :: blk n9 (infI I) :: blk n6 (infI inf0) :: A) h2 → J2 [] h2 := by
   intro I hl k h2 hs
   unfold layN at k
   apply hJ2
   refine ⟨_, Sat.ld hs (by (repeat (first | exact At.z | apply At.s))) (by rfl), ?_⟩
   by_cases c1 : kind = 3
   ·rw [if_pos c1] at k
    rw [if_pos (by simpa using c1)]
    refine ⟨_, hs.ld (.s .z) (inf_12 hl), hs.can (.s .z) (by rw [inf_len hl]; decide), ?_⟩
    intro h3 e
    replace hs := hs.wr (.s .z) e
    rw [inf_s12 hl] at hs
    exact k _ hs.drop
   rw [if_neg c1] at k
   rw [if_neg (by simpa using c1)]
   intro J3 hJ3
   have two : ∀ bb : Bool, (bb = true ↔ kind = 1 ∧ (n : Int) = 0) → J3 [.dv (.one (.bool bb))] h2 := by
    intro bb c2
    apply hJ3
    by_cases c3 : bb = true
    ·rw [if_pos c3]
     rw [if_pos (c2.1 c3)] at k
     refine ⟨_, Sat.ld hs (by (repeat (first | exact At.z | apply At.s))) (by rfl), ?_⟩
     refine ⟨hs.can (.s .z) (by rw [inf_len hl]; decide), ?_⟩
     intro h3 e
     replace hs := hs.wr (.s .z) e
     rw [inf_s0] at hs
     exact k _ hs.drop
    rw [if_neg c3]
    rw [if_neg (fun y => c3 (c2.2 y))] at k
    intro J4 hJ4
    have three : ∀ bb : Bool, (bb = true ↔ kind = 2 ∧ 0 < (n : Int)) → J4 [.dv (.one (.bool bb))] h2 := by
     intro bb c4
     apply hJ4
     by_cases c5 : bb = true
     ·rw [if_pos c5]
      rw [if_pos (c4.1 c5)] at k
      obtain ⟨s1, s2⟩ := hslot (c4.1 c5).1
      refine ⟨_, Sat.ld hs (by (repeat (first | exact At.z | apply At.s))) (by rfl), ?_⟩
      refine ⟨_, Sat.ld hs (by (repeat (first | exact At.z | apply At.s))) (by rfl), ?_⟩
      refine ⟨by omega, by omega, _, by rw [Nat.mul_one]; exact hs.ld (.s .z) (inf_num hl (by omega)), ?_⟩
      refine ⟨_, Sat.ld hs (by (repeat (first | exact At.z | apply At.s))) (by rfl), ?_⟩
      refine ⟨by omega, by omega, by rw [Nat.mul_one]; exact hs.can (.s .z) (by rw [inf_len hl]; omega), ?_⟩
      intro h3 e
      rw [Nat.mul_one] at e
      replace hs := hs.wr (.s .z) e
      rw [inf_sn hl (by omega)] at hs
      exact k _ hs.drop
     ·rw [if_neg c5]
      rw [if_neg (fun y => c5 (c4.2 y))] at k
      exact k _ hs.drop
    refine ⟨_, Sat.ld hs (by (repeat (first | exact At.z | apply At.s))) (by rfl), ?_⟩
    by_cases c4 : kind = 2
    case neg =>
     rw [if_neg (by rw [beq_iff_eq]; exact c4)]
     exact three _ ⟨fun y => by simp at y, fun y => absurd y.1 c4⟩
    rw [if_pos (by rw [beq_iff_eq]; exact c4)]
    by_cases c5 : 0 < (n : Int)
    case neg =>
     rw [ltI_eq, if_neg (by rw [decide_eq_true_eq]; exact c5)]
     exact three _ ⟨fun y => by simp at y, fun y => absurd y.2 c5⟩
    rw [ltI_eq, if_pos (by rw [decide_eq_true_eq]; exact c5)]
    obtain ⟨s1, s2⟩ := hslot c4
    refine ⟨_, Sat.ld hs (by (repeat (first | exact At.z | apply At.s))) (by rfl), ?_⟩
    rw [leI_eq, if_pos (by rw [decide_eq_true_eq]; exact s1)]
    refine ⟨_, Sat.ld hs (by (repeat (first | exact At.z | apply At.s))) (by rfl), ?_⟩
    rw [leI_eq]
    exact three _ ⟨fun y => ⟨c4, c5⟩, fun y => by rw [decide_eq_true_eq]; exact s2⟩
   refine ⟨_, Sat.ld hs (by (repeat (first | exact At.z | apply At.s))) (by rfl), ?_⟩
   by_cases c2 : kind = 1
   ·rw [if_pos (by rw [beq_iff_eq]; exact c2)]
    exact two _ (by rw [beq_iff_eq]; exact ⟨fun y => ⟨c2, y⟩, fun y => y.2⟩)
   ·rw [if_neg (by rw [beq_iff_eq]; exact c2)]
    exact two _ ⟨fun y => by simp at y, fun y => absurd y.1 c2⟩
  unfold layM at hk
  refine ⟨_, Sat.ld hs (by (repeat (first | exact At.z | apply At.s))) (by rfl), ?_⟩
  by_cases c0 : kind = 0
  ·rw [if_neg (by simpa using c0)]
   have e : nextM I n kind = I := if_neg (by simpa using c0)
   rw [e] at hk
   exact main I hnl hk _ hs
  ·rw [if_pos (by simpa using c0)]
   have e : nextM I n kind = { I with next := IntKind.i64.wrap (n + 1) } := if_pos (by simpa using c0)
   rw [e] at hk
   refine ⟨hs.can (.s .z) (by rw [inf_len hnl]; decide), ?_⟩
   intro h3 e
   replace hs := hs.wr (.s .z) e
   rw [wrap_succ (by omega)] at hk
   rw [inf_s10 hnl] at hs
   exact main { I with next := ((n + 1 : Nat) : Int) } hnl hk _ hs
 ·intro h1 hs
  apply hJ
  rw [ltI_eq, if_neg (by simp)]
  have hnl := ofM_len row l
  unfold pageI at k
  generalize hO : ofM row l = O at *
  refine ⟨_, hs.ld .z (inf_10 hnl), ?_⟩
  have ebl : (O.next == 0) = decide (O.next = 0) := by
   by_cases c : O.next = 0
   ·rw [c]; decide
   ·rw [decide_eq_false c]; simpa using c
  rw [ebl]
  refine ⟨hs.can .z (by rw [inf_len hnl]; decide), ?_⟩
  intro h3 e
  replace hs := hs.wr .z e
  rw [inf_s11 hnl, put_zero] at hs
  refine ⟨_, Sat.ld hs (by (repeat (first | exact At.z | apply At.s))) rfl, _, hnl, Sat.row hs (by (repeat (first | exact At.z | apply At.s))) (inf_row hnl), _, Sat.ld hs (by (repeat (first | exact At.z | apply At.s))) (inf_10 hnl), _, Sat.ld hs (by (repeat (first | exact At.z | apply At.s))) (inf_11 hnl), _, Sat.ld hs (by (repeat (first | exact At.z | apply At.s))) (inf_12 hnl), ?_⟩
  (refine ⟨Sat.can hs (by (repeat (first | exact At.z | apply At.s))) (by decide), ?_⟩; intro _ e; replace hs := Sat.wra hs (by (repeat (first | exact At.z | apply At.s))) e ((inf_len hnl).trans rfl); clear e; simp only [put] at hs)
  refine ⟨_, Sat.ld hs (by (repeat (first | exact At.z | apply At.s))) rfl, _, hnl, Sat.row hs (by (repeat (first | exact At.z | apply At.s))) (inf_row hnl), _, Sat.ld hs (by (repeat (first | exact At.z | apply At.s))) (inf_10 hnl), _, Sat.ld hs (by (repeat (first | exact At.z | apply At.s))) (inf_11 hnl), _, Sat.ld hs (by (repeat (first | exact At.z | apply At.s))) (inf_12 hnl), ?_⟩
  exact k _ hs.drop.drop
theorem ref_pg (hs : Sat h0 A h) (cj : At A j (refE r C)) : ∃ w : Pl, C.ok ∧ (∀ o v, (C.cells w.a w.b w.c w.m)[o]? = some v → hc h ⟨r, o, none⟩ = some v) ∧ RdM h 32 w.a C.s.pages := by
 obtain ⟨⟨w, ms⟩, ⟨ok, _, _, _⟩, hs⟩ := (hs.front cj).open_
 dsimp only [refL, List.cons_append, List.nil_append] at hs
 exact ⟨w, ok, fun o v e => hs.ld .z e, hs.rdM (.s .z)⟩
end
end Go.Proofs.YtaglicdidpgkpaaGreatDoor
end

/- Contracts of the pages' statements: PageLooks. Own work. -/
section
set_option maxRecDepth 100000
set_option linter.unusedVariables false
namespace Go.Proofs.YtaglicdidpgkpaaGreatDoor
open Go Go.Vc

section
variable {h0 h : H} {A : List Ent} {i j p r b : Nat} {C : Cm}
theorem lookM_len (C : Cm) (page : Int) : (lookM C page).1.nums.length = 9 := by
 unfold lookM
 split
 ·rfl
 ·exact ofM_len _ _
end
end Go.Proofs.YtaglicdidpgkpaaGreatDoor
end

/- PageHalf: what a cut act leaves of a sound page; laws about numbers alone. Own work. -/
section
set_option maxRecDepth 100000
set_option linter.unusedVariables false
namespace Go.Proofs.YtaglicdidpgkpaaGreatDoor
open Go Go.Vc

def sub8 (a b : Int) : Prop := bits .or .u8 a b = b
theorem byte_eq {x y : Int} (hx : isByte x) (hy : isByte y) (e : b8 x = b8 y) : x = y := by
 have h2 := congrArg BitVec.toNat e
 simp only [BitVec.toNat_ofInt] at h2
 obtain ⟨a1, a2⟩ := hx
 obtain ⟨a3, a4⟩ := hy
 omega
theorem b8_bits (x y : Int) : b8 (bits .or .u8 x y) = b8 x ||| b8 y := by rw [bits_or8, b8_nat]
theorem b8_xor (x y : Int) : b8 (bits .xor .u8 x y) = b8 x ^^^ b8 y := by rw [bits_xor8, b8_nat]
theorem b8_andNot (x y : Int) : b8 (bits .andNot .u8 x y) = b8 x &&& ~~~ b8 y := by rw [bits_andNot8, b8_nat]
theorem b8_255 : b8 255 = BitVec.allOnes 8 := by decide
theorem pair_eq {x y v : Int} (hx : isByte x) (hy : isByte y) (hv : isByte v) (s : bits .or .u8 x y = 255) (h1 : sub8 x v) (h2 : sub8 y (compl8 v)) : x = v ∧ y = compl8 v := by
 unfold sub8 at h1 h2
 have s' := congrArg b8 s
 have h1' := congrArg b8 h1
 have h2' := congrArg b8 h2
 unfold compl8 at h2' ⊢
 rw [b8_bits, b8_255] at s'
 rw [b8_bits] at h1'
 rw [b8_bits, b8_xor, b8_255] at h2'
 have key : ∀ i (hi : i < 8), (b8 x)[i] = (b8 v)[i] ∧ (b8 y)[i] = !(b8 v)[i] := by
  intro i hi
  have a1 := congrArg (fun z : BitVec 8 => z.getLsbD i) s'
  have a2 := congrArg (fun z : BitVec 8 => z.getLsbD i) h1'
  have a3 := congrArg (fun z : BitVec 8 => z.getLsbD i) h2'
  simp only [BitVec.getLsbD_or, BitVec.getLsbD_xor, BitVec.getLsbD_allOnes, hi, decide_true] at a1 a2 a3
  rw [BitVec.getElem_eq_testBit_toNat, BitVec.getElem_eq_testBit_toNat, BitVec.getElem_eq_testBit_toNat]
  change ((b8 x).getLsbD i = (b8 v).getLsbD i) ∧ ((b8 y).getLsbD i = !(b8 v).getLsbD i)
  revert a1 a2 a3
  cases (b8 x).getLsbD i <;> cases (b8 y).getLsbD i <;> cases (b8 v).getLsbD i <;> simp
 refine ⟨byte_eq hx hv ?_, byte_eq hy (byte_bits _ _ _) ?_⟩
 ·ext i hi; exact (key i hi).1
 ·rw [b8_xor, b8_255]
  ext i hi
  rw [(key i hi).2]
  simp only [BitVec.getElem_xor, BitVec.getElem_allOnes]
  cases (b8 v)[i] <;> rfl
theorem sub_or (a m : Int) (ha : isByte a) : sub8 a (bits .or .u8 a m) := by
 unfold sub8
 refine byte_eq (byte_bits _ _ _) (byte_bits _ _ _) ?_
 rw [b8_bits, b8_bits]
 ext i hi
 simp only [BitVec.getElem_or]
 cases (b8 a)[i] <;> cases (b8 m)[i] <;> rfl
theorem sound_or {a b : Int} (m m' : Int) (s : bits .or .u8 a b = 255) : bits .or .u8 (bits .or .u8 a m) (bits .or .u8 b m') = 255 := by
 have s' := congrArg b8 s
 rw [b8_bits, b8_255] at s'
 refine byte_eq (byte_bits _ _ _) ⟨by decide, by decide⟩ ?_
 rw [b8_bits, b8_bits, b8_bits, b8_255, ← s']
 ext i hi
 have a1 := congrArg (fun z : BitVec 8 => z[i]) s'
 simp only [BitVec.getElem_or, BitVec.getElem_allOnes] at a1 ⊢
 revert a1
 cases (b8 a)[i] <;> cases (b8 b)[i] <;> simp
theorem prog_blank (x m : Int) (hx : isByte x) : sub8 x (bits .andNot .u8 255 (bits .andNot .u8 m x)) := by
 unfold sub8
 refine byte_eq (byte_bits _ _ _) (byte_bits _ _ _) ?_
 rw [b8_bits, b8_andNot, b8_andNot, b8_255]
 ext i hi
 simp only [BitVec.getElem_or, BitVec.getElem_and, BitVec.getElem_not, BitVec.getElem_allOnes]
 cases (b8 x)[i] <;> cases (b8 m)[i] <;> rfl
theorem sound_sub {a b a' b' : Int} (s : bits .or .u8 a b = 255) (h1 : sub8 a a') (h2 : sub8 b b') : bits .or .u8 a' b' = 255 := by
 rw [← h1, ← h2]
 have : ∀ p q r t : Int, bits .or .u8 (bits .or .u8 p q) (bits .or .u8 r t) = bits .or .u8 (bits .or .u8 p q) (bits .or .u8 r t) := fun _ _ _ _ => rfl
 exact sound_or a' b' s
theorem prog_full (x : Int) (hx : isByte x) : bits .andNot .u8 255 (bits .andNot .u8 255 x) = x := by
 refine byte_eq (byte_bits _ _ _) hx ?_
 rw [b8_andNot, b8_andNot, b8_255]
 ext i hi
 simp only [BitVec.getElem_and, BitVec.getElem_not, BitVec.getElem_allOnes]
 cases (b8 x)[i] <;> rfl

def cellS (x : List Int) : Prop := ∀ k, k < 16 → bits .or .u8 (x.getD k 0) (x.getD (16 + k) 0) = 255
theorem tab_getD {n : Nat} (f : Nat → Int) {k : Nat} (h : k < n) : (tab n f).getD k 0 = f k := by rw [List.getD_eq_getElem?_getD, tab_get, if_pos h]; rfl
theorem laid_get (kind slot n : Int) (k : Nat) (hk : k < 16) : (laidM kind slot n).getD k 0 = bodyM kind slot n k ∧ (laidM kind slot n).getD (16 + k) 0 = compl8 (bodyM kind slot n k) := by
 unfold laidM
 rw [tab_getD _ (by omega), tab_getD _ (by omega)]
 exact ⟨if_pos hk, by rw [if_neg (by omega), Nat.add_sub_cancel_left]⟩
theorem bodyM_byte {kind slot n : Int} (hk : isByte kind) (k : Nat) : isByte (bodyM kind slot n k) := by
 unfold bodyM
 split
 ·exact wrap_u8_byte _
 ·exact bodyF_byte hk k
theorem getD_byte {x : List Int} (hb : bytesOk x) (k : Nat) : isByte (x.getD k 0) := by
 rw [List.getD_eq_getElem?_getD]
 cases e : x[k]? with
 | none => exact ⟨by decide, by decide⟩
 | some v => exact hb v (List.mem_iff_getElem?.2 ⟨k, e⟩)
theorem cell_eq {x x' : List Int} (hx : x.length = 32) (hb : bytesOk x) (s : cellS x) (hs : ∀ k, k < 32 → sub8 (x.getD k 0) (x'.getD k 0)) {kind slot n : Int} (hk : isByte kind) (e : x' = laidM kind slot n) : x' = x := by
 rw [of_tab x, hx, e]
 refine tab_ext fun i hi => ?_
 have key : ∀ k, k < 16 → x.getD k 0 = bodyM kind slot n k ∧ x.getD (16 + k) 0 = compl8 (bodyM kind slot n k) := by
  intro k hk'
  obtain ⟨l1, l2⟩ := laid_get kind slot n k hk'
  have s1 := hs k (by omega)
  have s2 := hs (16 + k) (by omega)
  rw [e, l1] at s1
  rw [e, l2] at s2
  exact pair_eq (getD_byte hb _) (getD_byte hb _) (bodyM_byte hk k) (s k hk') s1 s2
 by_cases h : i < 16
 ·rw [if_pos h, (key i h).1]
 ·rw [if_neg h]
  have := (key (i - 16) (by omega)).2
  rw [show 16 + (i - 16) = i by omega] at this
  exact this.symm
theorem recM_kinds (x : List Int) : (recM x).1 = 0 ∨ (recM x).1 = 3 ∨ ∃ kind slot n : Int, isByte kind ∧ x = laidM kind slot n := by
 unfold recM
 split
 ·exact Or.inl rfl
 ·split
  ·exact Or.inr (Or.inl rfl)
  ·split
   ·exact Or.inr (Or.inl rfl)
   ·split
    ·rename_i c; exact Or.inr (Or.inr ⟨_, _, _, ⟨by decide, by decide⟩, c.2⟩)
    ·split
     ·rename_i c; exact Or.inr (Or.inr ⟨_, _, _, ⟨by decide, by decide⟩, c.2.2⟩)
     ·exact Or.inr (Or.inl rfl)
theorem rec_sub {x x' : List Int} (hx : x.length = 32) (hb : bytesOk x) (s : cellS x) (hs : ∀ k, k < 32 → sub8 (x.getD k 0) (x'.getD k 0)) : (recM x').1 = 0 ∨ (recM x').1 = 3 ∨ recM x' = recM x := by
 rcases recM_kinds x' with h | h | ⟨kind, slot, n, hk, e⟩
 ·exact Or.inl h
 ·exact Or.inr (Or.inl h)
 ·exact Or.inr (Or.inr (by rw [cell_eq hx hb s hs hk e]))
theorem laid_sound (kind slot n : Int) (hk : isByte kind) : cellS (laidM kind slot n) := by
 intro k hk'
 obtain ⟨l1, l2⟩ := laid_get kind slot n k hk'
 rw [l1, l2]
 unfold compl8
 refine byte_eq (byte_bits _ _ _) ⟨by decide, by decide⟩ ?_
 rw [b8_bits, b8_xor, b8_255]
 ext i hi
 simp only [BitVec.getElem_or, BitVec.getElem_xor, BitVec.getElem_allOnes]
 cases (b8 (bodyM kind slot n k))[i] <;> rfl
theorem lay_idle (I : Inf) (n kind slot num : Int) (hk : kind = 0 ∨ kind = 3) : (layM I n kind slot num).nums = I.nums ∧ (layM I n kind slot num).head = I.head := by
 unfold layM
 have e1 := nextM_nums I n kind
 have e2 : (nextM I n kind).head = I.head := by unfold nextM; split <;> rfl
 unfold layN
 by_cases c1 : kind = 3
 ·rw [if_pos c1]; exact ⟨e1, e2⟩
 rw [if_neg c1, if_neg (by omega), if_neg (by omega)]
 exact ⟨e1, e2⟩
theorem lay_head (I : Inf) (n kind slot num : Int) (hn : n ≠ 0) : (layM I n kind slot num).head = I.head := by
 unfold layM
 have e2 : (nextM I n kind).head = I.head := by unfold nextM; split <;> rfl
 unfold layN
 split
 ·exact e2
 ·rw [if_neg (by omega)]
  split
  ·exact e2
  ·exact e2
def soundM (row : List Int) (l : Nat) : Prop := ∀ i, i < l → ∀ k, k < 16 → bits .or .u8 (row.getD (i * 32 + k) 0) (row.getD (i * 32 + (16 + k)) 0) = 255
instance (row : List Int) (l : Nat) : Decidable (soundM row l) := by unfold soundM; infer_instance
end Go.Proofs.YtaglicdidpgkpaaGreatDoor
end

/- PageHalf: rows after a cut act; soundness of rows. Own work. -/
section
set_option maxRecDepth 100000
set_option linter.unusedVariables false
namespace Go.Proofs.YtaglicdidpgkpaaGreatDoor
open Go Go.Vc

theorem ext_getD {x y : List Int} (h : x.length = y.length) (e : ∀ i, i < x.length → x.getD i 0 = y.getD i 0) : x = y := by
 apply List.ext_getElem h
 intro i h1 h2
 have := e i h1
 rw [List.getD_eq_getElem?_getD, List.getD_eq_getElem?_getD, List.getElem?_eq_getElem h1, List.getElem?_eq_getElem h2] at this
 exact this
theorem cellAt_getD (row : List Int) (k i : Nat) (hi : i < 32) : (cellAt row k).getD i 0 = row.getD (k * 32 + i) 0 := by
 rw [List.getD_eq_getElem?_getD, cellAt_get row k i hi, List.getD_eq_getElem?_getD]
theorem sound_cells {row : List Int} {l : Nat} : soundM row l ↔ ∀ k, k < l → cellS (cellAt row k) := by
 unfold soundM cellS
 constructor
 ·intro h k hk j hj
  rw [cellAt_getD _ _ _ (by omega), cellAt_getD _ _ _ (by omega)]
  exact h k hk j hj
 ·intro h k hk j hj
  have := h k hk j hj
  rw [cellAt_getD _ _ _ (by omega), cellAt_getD _ _ _ (by omega)] at this
  exact this
theorem mapTo_getD (g : Nat → Int → Int) (n : Nat) (ns : List Int) (j : Nat) (hj : j < ns.length) (hn : j < n) : (mapTo g n ns).getD j 0 = g j (ns.getD j 0) := by
 rw [List.getD_eq_getElem?_getD, mapTo_get, List.getElem?_eq_getElem hj]
 simp [hn, List.getD, List.getElem?_eq_getElem hj]
theorem half_erase (f : Nat → Int) {row : List Int} {l : Nat} (hlen : row.length = l * 32) (hb : bytesOk row) (hs : soundM row l) :
  soundM (eraseRow row f) l ∧ ∀ k, k < l → (recM (cellAt (eraseRow row f) k)).1 = 0 ∨ (recM (cellAt (eraseRow row f) k)).1 = 3 ∨ recM (cellAt (eraseRow row f) k) = recM (cellAt row k) := by
 have eg : ∀ q, q < row.length → (eraseRow row f).getD q 0 = bits .or .u8 (row.getD q 0) (f q) := fun q hq => mapTo_getD _ _ _ _ hq hq
 refine ⟨?_, ?_⟩
 ·intro i hi k hk
  rw [eg _ (by omega), eg _ (by omega)]
  exact sound_or _ _ (hs i hi k hk)
 ·intro k hk
  refine rec_sub (cellAt_length (by omega)) (fun v hv => hb v (cellAt_mem hv)) (sound_cells.1 hs k hk) ?_
  intro j hj
  rw [cellAt_getD _ _ _ hj, cellAt_getD _ _ _ hj, eg _ (by omega)]
  exact sub_or _ _ (getD_byte hb _)
theorem rowSet_same {row c : List Int} {k : Nat} (hk : (k + 1) * 32 ≤ row.length) (hc : c.length = 32) : cellAt (rowSet row k c) k = c := by
 unfold cellAt rowSet
 rw [List.append_assoc, List.drop_append_of_le_length (by simp; omega), List.drop_eq_nil_of_le (by simp; omega), List.nil_append, List.take_append_of_le_length (by omega), List.take_of_length_le (by omega)]
theorem rowSet_getD {row c : List Int} {k q : Nat} (hk : (k + 1) * 32 ≤ row.length) (hc : c.length = 32) (hq : q < k * 32 ∨ k * 32 + 32 ≤ q) : (rowSet row k c).getD q 0 = row.getD q 0 := by
 unfold rowSet
 rw [List.getD_eq_getElem?_getD, List.getD_eq_getElem?_getD]
 congr 1
 rcases hq with hq | hq
 ·rw [List.append_assoc, List.getElem?_append_left (by simp; omega), List.getElem?_take, if_pos hq]
 ·rw [List.getElem?_append_right (by simp; omega), List.getElem?_drop]
  congr 1
  simp; omega
theorem rowSet_other {row c : List Int} {k j : Nat} (hk : (k + 1) * 32 ≤ row.length) (hj : (j + 1) * 32 ≤ row.length) (hc : c.length = 32) (h : j ≠ k) : cellAt (rowSet row k c) j = cellAt row j := by
 have l1 : (cellAt (rowSet row k c) j).length = 32 := cellAt_length (by rw [rowSet_length hk hc]; exact hj)
 have l2 : (cellAt row j).length = 32 := cellAt_length hj
 refine ext_getD (l1.trans l2.symm) fun i hi => ?_
 rw [l1] at hi
 rw [cellAt_getD _ _ _ hi, cellAt_getD _ _ _ hi, rowSet_getD hk hc (by omega)]
theorem prog_getD (x : List Int) (f : Nat → Int) (i : Nat) (hi : i < 32) : (progCell blankCell x f).getD i 0 = bits .andNot .u8 255 (bits .andNot .u8 (f i) (x.getD i 0)) := by
 unfold progCell
 rw [mapTo_getD _ _ _ _ (by simpa [blankCell] using hi) hi]
 have : blankCell.getD i 0 = 255 := by
  unfold blankCell
  rw [List.getD_eq_getElem?_getD, List.getElem?_replicate, if_pos hi]; rfl
 rw [this]
theorem progCell_length (old x : List Int) (f : Nat → Int) (h : old.length = 32) : (progCell old x f).length = 32 := by
 unfold progCell mapTo; simpa using h
theorem half_prog (f : Nat → Int) {row : List Int} {l place : Nat} {kind slot n : Int} (hk : isByte kind) (hlen : row.length = l * 32) (hb : bytesOk row) (hs : soundM row l) (hp : place < l) (hbl : cellAt row place = blankCell) :
  soundM (rowSet row place (progCell (cellAt row place) (laidM kind slot n) f)) l ∧
  ∀ k, k < l → bytesOk (cellAt (rowSet row place (progCell (cellAt row place) (laidM kind slot n) fun _ => 255)) k) ∧ ((recM (cellAt (rowSet row place (progCell (cellAt row place) (laidM kind slot n) f)) k)).1 = 0 ∨
   (recM (cellAt (rowSet row place (progCell (cellAt row place) (laidM kind slot n) f)) k)).1 = 3 ∨
   recM (cellAt (rowSet row place (progCell (cellAt row place) (laidM kind slot n) f)) k) = recM (cellAt (rowSet row place (progCell (cellAt row place) (laidM kind slot n) fun _ => 255)) k)) := by
 rw [hbl]
 have hX := laidM_length kind slot n
 have hXb : bytesOk (laidM kind slot n) := tab_bytes fun k => by
  split
  ·exact bodyM_byte hk _
  ·exact byte_bits _ _ _
 have hXs := laid_sound kind slot n hk
 generalize laidM kind slot n = X at *
 have hcl : ∀ g, (progCell blankCell X g).length = 32 := fun g => progCell_length _ _ _ (by simp [blankCell])
 have hfull : progCell blankCell X (fun _ => 255) = X := by
  refine ext_getD ((hcl _).trans hX.symm) fun i hi => ?_
  rw [hcl] at hi
  rw [prog_getD _ _ _ hi]
  exact prog_full _ (getD_byte hXb _)
 rw [hfull]
 have hpl : (place + 1) * 32 ≤ row.length := by omega
 have hsub : ∀ j, j < 32 → sub8 (X.getD j 0) ((progCell blankCell X f).getD j 0) := by
  intro j hj
  rw [prog_getD _ _ _ hj]
  exact prog_blank _ _ (getD_byte hXb _)
 refine ⟨sound_cells.2 fun k hk' => ?_, fun k hk' => ?_⟩
 ·by_cases e : k = place
  ·rw [e, rowSet_same hpl (hcl f)]
   intro j hj
   exact sound_sub (hXs j hj) (hsub j (by omega)) (hsub (16 + j) (by omega))
  ·rw [rowSet_other hpl (by omega) (hcl f) e]
   exact sound_cells.1 hs k hk'
 ·by_cases e : k = place
  ·rw [e, rowSet_same hpl (hcl f), rowSet_same hpl hX]
   exact ⟨hXb, rec_sub hX hXb hXs hsub⟩
  ·rw [rowSet_other hpl (by omega) (hcl f) e, rowSet_other hpl (by omega) hX e]
   exact ⟨fun v hv => hb v (cellAt_mem hv), Or.inr (Or.inr rfl)⟩
section
variable {h0 h : H} {A : List Ent} {i j p r b : Nat} {C : Cm}
end
end Go.Proofs.YtaglicdidpgkpaaGreatDoor
end

/- Contracts of the pages' statements: PageHalf. Own work. -/
section
set_option maxRecDepth 100000
set_option linter.unusedVariables false
namespace Go.Proofs.YtaglicdidpgkpaaGreatDoor
open Go Go.Vc

structure Half (c : Cfg) (s : St) (pg : Nat) (row : List Int) (l : Nat) (D E : Cm) : Prop where
 dc : D.cfg = c
 ec : E.cfg = c
 eo : E.out = false
 dp : D.s.pages.length = s.pages.length
 ep : E.s.pages.length = s.pages.length
 ds : soundM (D.s.pages.getD pg []) l
 z : ∃ z, (z = row ∨ z = E.s.pages.getD pg []) ∧ (∀ k, k < l → bytesOk (cellAt z k)) ∧
  ∀ k, k < l → (recM (cellAt (D.s.pages.getD pg []) k)).1 = 0 ∨ (recM (cellAt (D.s.pages.getD pg []) k)).1 = 3 ∨ recM (cellAt (D.s.pages.getD pg []) k) = recM (cellAt z k)
section
variable {c : Cfg} {s : St} {C0 : Cm} {pg : Int} {row : List Int} {l : Nat}
end
section
variable {h0 h : H} {A : List Ent} {i j p r b : Nat} {C : Cm}
end
end Go.Proofs.YtaglicdidpgkpaaGreatDoor
end

/- Contracts of areas: sizes, places, what is used, Worn. Own work. -/
section
set_option maxRecDepth 100000
set_option linter.unusedVariables false
namespace Go.Proofs.YtaglicdidpgkpaaGreatDoor
open Go Go.Vc

section
variable {h0 h : H} {A : List Ent} {i j p r b : Nat} {C : Cm}
def usedP (C : Cm) (page : Int) (l : Nat) : Prop := ∃ n, n < l ∧ (readM C page n).2 = 0 ∧ (readM C page n).1 ≠ ffs
instance (C : Cm) (page : Int) (l : Nat) : Decidable (usedP C page l) := by unfold usedP; infer_instance
def usedM (C : Cm) (page : Int) : Bool := decide (usedP C page C.cfg.cells.toNat)
def wornP (C : Cm) (ar : Int) (l : Nat) : Prop := ∃ n : Nat, n < l ∧ (erasesM C (2 + ar * C.cfg.area + n)).2 = 0 ∧ C.cfg.erases ≤ (erasesM C (2 + ar * C.cfg.area + n)).1 ∧ usedM C (2 + ar * C.cfg.area + n) = true
instance (C : Cm) (ar : Int) (l : Nat) : Decidable (wornP C ar l) := by unfold wornP; infer_instance
end
end Go.Proofs.YtaglicdidpgkpaaGreatDoor
end

/- Contracts of the document's areas: blank, Worn; what is filled. Own work. -/
section
set_option maxRecDepth 100000
set_option linter.unusedVariables false
namespace Go.Proofs.YtaglicdidpgkpaaGreatDoor
open Go Go.Vc

def blankP (row : List Int) (l : Nat) : Prop := ∀ n, n < l → cellAt row n = ffs
instance (row : List Int) (l : Nat) : Decidable (blankP row l) := by unfold blankP; infer_instance
theorem blankCell_ffs : blankCell = ffs := by decide
section
variable {h0 h : H} {A : List Ent} {i j p r b : Nat} {C : Cm}
end
end Go.Proofs.YtaglicdidpgkpaaGreatDoor
end

/- Contracts of areas: Write. Own work. -/
section
set_option maxRecDepth 100000
set_option linter.unusedVariables false
namespace Go.Proofs.YtaglicdidpgkpaaGreatDoor
open Go Go.Vc

def cellM (bs : List Int) (n : Nat) : List Int := tab 32 fun k => if n * 32 + k < bs.length then bs.getD (n * 32 + k) 0 else 255
theorem cellM_length (bs : List Int) (n : Nat) : (cellM bs n).length = 32 := rfl
section
variable {h0 h : H} {A : List Ent} {i j p r b : Nat} {C : Cm}
theorem add_add (q : Addr) (a b : Nat) : (q.add a).add b = q.add (a + b) := by
 cases q with | mk b' o s => unfold Addr.add; by_cases h1 : a = 0 <;> by_cases h2 : b = 0 <;> simp [h1, h2, Nat.add_assoc]
def eraseL (base : Int) : Nat → Nat → Cm → Cm × Int
 | 0, _, C => (C, 0)
 | m + 1, j, C => if usedM C (base + j) = true then (if (eraseM C (base + j)).2 ≠ 0 then eraseM C (base + j) else eraseL base m (j + 1) (eraseM C (base + j)).1) else eraseL base m (j + 1) C
def progL (base : Int) (cells : Nat) (bs : List Int) (n : Nat) : Nat → Nat → Cm → Cm × Int
 | 0, _, C => (C, 0)
 | m + 1, k, C =>
  if (programM C (base + (((k + 1) % n / cells : Nat) : Int)) (((k + 1) % n % cells : Nat) : Int) (cellM bs ((k + 1) % n))).2 ≠ 0 then programM C (base + (((k + 1) % n / cells : Nat) : Int)) (((k + 1) % n % cells : Nat) : Int) (cellM bs ((k + 1) % n))
  else progL base cells bs n m (k + 1) (programM C (base + (((k + 1) % n / cells : Nat) : Int)) (((k + 1) % n % cells : Nat) : Int) (cellM bs ((k + 1) % n))).1
end
end Go.Proofs.YtaglicdidpgkpaaGreatDoor
end

/- Contracts of areas: bytes that are read. Own work. -/
section
set_option maxRecDepth 100000
set_option linter.unusedVariables false
namespace Go.Proofs.YtaglicdidpgkpaaGreatDoor
open Go Go.Vc

section
variable {h0 h : H} {A : List Ent} {i j p r b : Nat} {C : Cm}
theorem sl_cap (hs : Sat h0 A h) {q : Option Addr} {l c sz : Nat} {vs : List Value} (m : At A i (slE q l c sz vs)) : l ≤ c := by
 obtain ⟨f, hp, _⟩ := hs.take m
 obtain ⟨bs, ⟨_, h2, _⟩, _⟩ := slE_P.1 hp
 exact h2
end
end Go.Proofs.YtaglicdidpgkpaaGreatDoor
end

/- AreaWrites: what the erases of a Write leave; laws about numbers alone. Own work. -/
section
set_option maxRecDepth 100000
set_option linter.unusedVariables false
namespace Go.Proofs.YtaglicdidpgkpaaGreatDoor
open Go Go.Vc

def Cm.er (C : Cm) (x : Nat) : Int := C.s.erases.getD x 0
def Cm.pg (C : Cm) (x : Nat) : List Int := C.s.pages.getD x []
def dif (C D : Cm) : Nat → Nat → Int
 | _, 0 => 0
 | B, m + 1 => (D.er B - C.er B) + dif C D (B + 1) m
theorem dif_succ (C D : Cm) (B m : Nat) : dif C D B (m + 1) = (D.er B - C.er B) + dif C D (B + 1) m := rfl
theorem dif_congr {C C' D : Cm} (m : Nat) : ∀ B, (∀ x, B ≤ x → x < B + m → C.er x = C'.er x) → dif C D B m = dif C' D B m := by
 induction m with
 | zero => intro B _; rfl
 | succ m ih =>
  intro B h
  unfold dif
  rw [h B (by omega) (by omega), ih (B + 1) fun x h1 h2 => h x (by omega) (by omega)]
theorem dif_zero {C D : Cm} (m : Nat) : ∀ B, (∀ x, B ≤ x → x < B + m → D.er x = C.er x) → dif C D B m = 0 := by
 induction m with
 | zero => intro B _; rfl
 | succ m ih =>
  intro B h
  unfold dif
  rw [h B (by omega) (by omega), ih (B + 1) fun x h1 h2 => h x (by omega) (by omega)]; omega
theorem usedM_congr {C D : Cm} {page : Int} (hc : D.cfg = C.cfg) (ho : D.out = C.out) (hl : D.s.pages.length = C.s.pages.length) (hp : D.pg page.toNat = C.pg page.toNat) : usedM D page = usedM C page := by
 have e : ∀ n : Int, readM D page n = readM C page n := by
  intro n
  unfold readM asksCellM askedM
  unfold Cm.pg at hp
  rw [hc, ho, hl, hp]
 unfold usedM usedP
 rw [hc]
 simp only [e]
structure Er (B m : Nat) (C D : Cm) (e : Int) : Prop where
 cfg : D.cfg = C.cfg
 bl : D.s.blown = C.s.blown
 np : D.s.pages.length = C.s.pages.length
 ne : D.s.erases.length = C.s.erases.length
 pg : ∀ x, x < B ∨ B + m ≤ x → D.pg x = C.pg x
 er : ∀ x, x < B ∨ B + m ≤ x → D.er x = C.er x
 acts : D.acts = C.acts + dif C D B m
 ab : C.acts ≤ D.acts ∧ D.acts ≤ C.acts + m
 good : e = 0 → D.out = false ∧ -1 ≤ D.left ∧ ∀ x, B ≤ x → x < B + m → (D.pg x).length = C.cfg.cells.toNat * 32 ∧ blankP (D.pg x) C.cfg.cells.toNat
 bad : e ≠ 0 → e = 8
theorem erased_blank {row : List Int} {l : Nat} (hl : row.length = l * 32) (f : Nat → Int) (hf : ∀ i, f i = 255) : (eraseRow row f).length = l * 32 ∧ blankP (eraseRow row f) l := by
 refine ⟨by unfold eraseRow; rw [mapTo_length]; exact hl, ?_⟩
 intro n hn
 have h1 : (cellAt (eraseRow row f) n).length = 32 := cellAt_length (by unfold eraseRow; rw [mapTo_length]; omega)
 refine ext_getD (h1.trans rfl) fun i hi => ?_
 rw [h1] at hi
 rw [cellAt_getD _ _ _ hi]
 unfold eraseRow
 rw [mapTo_getD _ _ _ _ (by omega) (by omega), hf, full_or]
 unfold ffs
 rw [tab_getD _ hi]
theorem getD_put {α : Type} (l : List α) (j : Nat) (v d : α) (h : j < l.length) : (l.set j v).getD j d = v := by
 simp [List.getD, h]
theorem erase_step {C : Cm} {B : Nat} (ho : C.out = false) (hB : B < C.s.pages.length) (hB2 : B < C.s.erases.length) (hw : C.er B < C.cfg.erases) (ha : 0 ≤ C.acts ∧ C.acts < 2 ^ 60) :
  ∃ D : Cm, eraseM C (B : Int) = (D, errM C) ∧ D.cfg = C.cfg ∧ D.s.blown = C.s.blown ∧ D.s.pages.length = C.s.pages.length ∧ D.s.erases.length = C.s.erases.length ∧ (∀ x, x ≠ B → D.pg x = C.pg x) ∧ (∀ x, x ≠ B → D.er x = C.er x) ∧
   D.er B = C.er B + 1 ∧ D.acts = C.acts + 1 ∧ D.pg B = eraseRow (C.pg B) (maskAt C) ∧ (C.left ≠ 0 → D.out = false) ∧ (-1 ≤ C.left → -1 ≤ D.left) := by
 have hac : C.act.acts = C.acts + 1 := by
  unfold Cm.act
  have : w64 (C.acts + 1) = C.acts + 1 := by unfold w64; rw [IntKind.wrap_i64]; omega
  split <;> exact this
 unfold eraseM
 rw [askedM_in ho (by omega) (by omega), if_neg (by simp), Int.toNat_natCast]
 unfold Cm.er at hw
 rw [if_neg (by omega)]
 refine ⟨_, rfl, act_cfg C, ?_, ?_, ?_, ?_, ?_, ?_, hac, ?_, ?_, ?_⟩
 ·show C.act.s.blown = _; rw [act_s]
 ·show (C.act.s.pages.set B _).length = _; rw [List.length_set, act_s]
 ·show (C.act.s.erases.set B _).length = _; rw [List.length_set, act_s]
 ·intro x hx
  show (C.act.s.pages.set B _).getD x [] = C.s.pages.getD x []
  simp only [List.getD, List.getElem?_set_ne (Ne.symm hx), act_s]
 ·intro x hx
  show (C.act.s.erases.set B _).getD x 0 = C.s.erases.getD x 0
  simp only [List.getD, List.getElem?_set_ne (Ne.symm hx), act_s]
 ·show (C.act.s.erases.set B _).getD B 0 = _
  exact getD_put _ _ _ _ (by rw [act_s]; exact hB2)
 ·show (C.act.s.pages.set B _).getD B [] = _
  rw [getD_put _ _ _ _ (by rw [act_s]; exact hB)]
  unfold rowOf
  rw [Int.toNat_natCast]; rfl
 ·intro hl
  show C.act.out = false
  exact act_out ho hl
 ·intro hl
  show -1 ≤ C.act.left
  unfold Cm.act
  split
  ·dsimp only; split <;> omega
  ·exact Int.le_refl _
theorem erases (base : Int) : ∀ (m j B : Nat) (C : Cm), base + j = (B : Int) → C.out = false → -1 ≤ C.left → B + m ≤ C.s.pages.length → B + m ≤ C.s.erases.length → (0 ≤ C.acts ∧ C.acts + m < 2 ^ 60) →
  (∀ x, B ≤ x → x < B + m → (C.pg x).length = C.cfg.cells.toNat * 32) → (∀ x, B ≤ x → x < B + m → usedM C (x : Int) = true → C.er x < C.cfg.erases) →
  (∀ x, B ≤ x → x < B + m → usedM C (x : Int) = false → blankP (C.pg x) C.cfg.cells.toNat) → Er B m C (eraseL base m j C).1 (eraseL base m j C).2 := by
 intro m
 induction m with
 | zero =>
  intro j B C hB ho hl _ _ _ _ _ _
  unfold eraseL
  exact ⟨rfl, rfl, rfl, rfl, fun _ _ => rfl, fun _ _ => rfl, by simp [dif], ⟨Int.le_refl _, by (try dsimp only); omega⟩, fun _ => ⟨ho, hl, fun x h1 h2 => by omega⟩, fun x => absurd rfl x⟩
 | succ m ih =>
  intro j B C hB ho hl hp he ha hlen hw hbl
  unfold eraseL
  rw [hB]
  by_cases u : usedM C (B : Int) = true
  case neg =>
   rw [if_neg u]
   have I := ih (j + 1) (B + 1) C (by omega) ho hl (by omega) (by omega) ⟨ha.1, by omega⟩ (fun x h1 h2 => hlen x (by omega) (by omega)) (fun x h1 h2 => hw x (by omega) (by omega)) (fun x h1 h2 => hbl x (by omega) (by omega))
   generalize eraseL base m (j + 1) C = X at *
   have hBp := I.pg B (by omega)
   have hBe := I.er B (by omega)
   refine ⟨I.cfg, I.bl, I.np, I.ne, fun x hx => I.pg x (by omega), fun x hx => I.er x (by omega), ?_, ⟨I.ab.1, by have := I.ab.2; omega⟩, fun e => ?_, I.bad⟩
   ·rw [I.acts, dif_succ, hBe]; omega
   ·obtain ⟨g1, g2, g3⟩ := I.good e
    refine ⟨g1, g2, fun x h1 h2 => ?_⟩
    by_cases c : x = B
    ·subst c
     rw [hBp]
     exact ⟨hlen x (by omega) (by omega), hbl x (by omega) (by omega) (by simpa using u)⟩
    ·exact g3 x (by omega) (by omega)
  rw [if_pos u]
  obtain ⟨D, hD, d1, d2, d3, d4, d5, d6, d7, d8, d9, d10, d11⟩ := erase_step ho (show B < C.s.pages.length by omega) (by omega) (hw B (by omega) (by omega) u) ⟨ha.1, by omega⟩
  rw [hD]
  dsimp only
  by_cases c : C.left = 0
  ·have e8 : errM C = 8 := by unfold errM; rw [if_neg (by simpa using c)]
   rw [e8, if_pos (by simp)]
   refine ⟨d1, d2, d3, d4, fun x hx => d5 x (by omega), fun x hx => d6 x (by omega), ?_, ⟨by (try dsimp only); omega, by (try dsimp only); omega⟩, fun e => by simp at e, fun _ => rfl⟩
   rw [dif_succ, dif_zero m (B + 1) fun x h1 h2 => d6 x (by omega), d7, d8]; omega
  ·have e0 : errM C = 0 := by unfold errM; rw [if_pos (by simpa using c)]
   rw [e0, if_neg (by simp)]
   have hu : ∀ x, B + 1 ≤ x → usedM D (x : Int) = usedM C (x : Int) := fun x h1 => usedM_congr d1 (by rw [d10 c, ho]) d3 (by rw [Int.toNat_natCast]; exact d5 x (by omega))
   have I := ih (j + 1) (B + 1) D (by omega) (d10 c) (d11 hl) (by omega) (by omega) ⟨by omega, by omega⟩
    (fun x h1 h2 => by rw [d5 x (by omega), d1]; exact hlen x (by omega) (by omega))
    (fun x h1 h2 h3 => by rw [d6 x (by omega), d1]; rw [hu x h1] at h3; exact hw x (by omega) (by omega) h3)
    (fun x h1 h2 h3 => by rw [d5 x (by omega), d1]; rw [hu x h1] at h3; exact hbl x (by omega) (by omega) h3)
   generalize eraseL base m (j + 1) D = X at *
   have hBp := I.pg B (by omega)
   have hBe := I.er B (by omega)
   refine ⟨I.cfg.trans d1, I.bl.trans d2, I.np.trans d3, I.ne.trans d4, fun x hx => (I.pg x (by omega)).trans (d5 x (by omega)), fun x hx => (I.er x (by omega)).trans (d6 x (by omega)), ?_, ⟨by have := I.ab.1; omega, by have := I.ab.2; omega⟩, fun e => ?_, I.bad⟩
   ·rw [I.acts, dif_succ, hBe, d7, d8, dif_congr m (B + 1) fun x h1 h2 => d6 x (by omega)]; omega
   ·obtain ⟨g1, g2, g3⟩ := I.good e
    rw [d1] at g3
    refine ⟨g1, g2, fun x h1 h2 => ?_⟩
    by_cases c2 : x = B
    ·subst c2
     rw [hBp, d9]
     exact erased_blank (hlen x (by omega) (by omega)) _ fun i => by unfold maskAt; rw [if_pos (by simpa using c)]
    ·exact g3 x (by omega) (by omega)
end Go.Proofs.YtaglicdidpgkpaaGreatDoor
end

/- The log: what both pages say; which is present. Own work. -/
section
set_option maxRecDepth 100000
set_option linter.unusedVariables false
namespace Go.Proofs.YtaglicdidpgkpaaGreatDoor
open Go Go.Vc

theorem len9 {l : List Int} (h : l.length = 9) : ∃ a b c d e f g i j, l = [a, b, c, d, e, f, g, i, j] := by
 match l, h with
 | [a, b, c, d, e, f, g, i, j], _ => exact ⟨a, b, c, d, e, f, g, i, j, rfl⟩
abbrev fndI (p q : Inf) (n : Int) : List Value := .int .i64 p.head :: (ints .i64 p.nums ++ .int .i64 p.next :: .bool p.blank :: .int .i64 p.torn :: .int .i64 q.head :: (ints .i64 q.nums ++ [.int .i64 q.next, .bool q.blank, .int .i64 q.torn, .int .i64 n]))
theorem fnd_len {p q : Inf} {n : Int} (hp : p.nums.length = 9) (hq : q.nums.length = 9) : (fndI p q n).length = 27 := by simp [fndI, hp, hq]
structure FndAt (h : H) (b : Nat) (p q : Inf) (n : Int) : Prop where
 a0 : hc h ⟨b, 0, none⟩ = some (.int .i64 p.head)
 a1 : hrow h ⟨b, 1, none⟩ .i64 p.nums
 a10 : hc h ⟨b, 10, none⟩ = some (.int .i64 p.next)
 a11 : hc h ⟨b, 11, none⟩ = some (.bool p.blank)
 a12 : hc h ⟨b, 12, none⟩ = some (.int .i64 p.torn)
 a13 : hc h ⟨b, 13, none⟩ = some (.int .i64 q.head)
 a14 : hrow h ⟨b, 14, none⟩ .i64 q.nums
 a23 : hc h ⟨b, 23, none⟩ = some (.int .i64 q.next)
 a24 : hc h ⟨b, 24, none⟩ = some (.bool q.blank)
 a25 : hc h ⟨b, 25, none⟩ = some (.int .i64 q.torn)
 a26 : hc h ⟨b, 26, none⟩ = some (.int .i64 n)
section
variable {h0 h : H} {A : List Ent} {i j p r b : Nat} {C : Cm}
theorem _root_.Go.Vc.Sat.fnd (hs : Sat h0 A h) {P Q : Inf} {n : Int} (m : At A i (blk b (fndI P Q n))) (hp : P.nums.length = 9) (hq : Q.nums.length = 9) : FndAt h b P Q n := by
 obtain ⟨ph, pn, px, pb, pt⟩ := P
 obtain ⟨qh, qn, qx, qb, qt⟩ := Q
 obtain ⟨a1, a2, a3, a4, a5, a6, a7, a8, a9, rfl⟩ := len9 hp
 obtain ⟨b1, b2, b3, b4, b5, b6, b7, b8, b9, rfl⟩ := len9 hq
 exact ⟨hs.ld m rfl, hs.cs m rfl, hs.ld m rfl, hs.ld m rfl, hs.ld m rfl, hs.ld m rfl, hs.cs m rfl, hs.ld m rfl, hs.ld m rfl, hs.ld m rfl, hs.ld m rfl⟩
theorem fnd_s0 {P Q R : Inf} {n : Int} (hp : P.nums.length = 9) (hr : R.nums.length = 9) : splice (fndI P Q n) 0 (infI R) = fndI R Q n := by
 obtain ⟨ph, pn, px, pb, pt⟩ := P
 obtain ⟨qh, qn, qx, qb, qt⟩ := R
 obtain ⟨a1, a2, a3, a4, a5, a6, a7, a8, a9, rfl⟩ := len9 hp
 obtain ⟨b1, b2, b3, b4, b5, b6, b7, b8, b9, rfl⟩ := len9 hr
 rfl
theorem fnd_s13 {P Q R : Inf} {n : Int} (hp : P.nums.length = 9) (hq : Q.nums.length = 9) (hr : R.nums.length = 9) : splice (fndI P Q n) 13 (infI R) = fndI P R n := by
 obtain ⟨ph, pn, px, pb, pt⟩ := P
 obtain ⟨qh, qn, qx, qb, qt⟩ := Q
 obtain ⟨rh, rn, rx, rb, rt⟩ := R
 obtain ⟨a1, a2, a3, a4, a5, a6, a7, a8, a9, rfl⟩ := len9 hp
 obtain ⟨b1, b2, b3, b4, b5, b6, b7, b8, b9, rfl⟩ := len9 hq
 obtain ⟨c1, c2, c3, c4, c5, c6, c7, c8, c9, rfl⟩ := len9 hr
 rfl
theorem fnd_s26 {P Q : Inf} {n m : Int} (hp : P.nums.length = 9) (hq : Q.nums.length = 9) : splice (fndI P Q n) 26 [.int .i64 m] = fndI P Q m := by
 obtain ⟨ph, pn, px, pb, pt⟩ := P
 obtain ⟨qh, qn, qx, qb, qt⟩ := Q
 obtain ⟨a1, a2, a3, a4, a5, a6, a7, a8, a9, rfl⟩ := len9 hp
 obtain ⟨b1, b2, b3, b4, b5, b6, b7, b8, b9, rfl⟩ := len9 hq
 rfl
theorem _root_.Go.Vc.Sat.infAt (hs : Sat h0 A h) {P : Inf} (m : At A i (blk b (infI P))) (hp : P.nums.length = 9) : hc h ⟨b, 0, none⟩ = some (.int .i64 P.head) ∧ hrow h ⟨b, 1, none⟩ .i64 P.nums ∧ hc h ⟨b, 10, none⟩ = some (.int .i64 P.next) ∧ hc h ⟨b, 11, none⟩ = some (.bool P.blank) ∧ hc h ⟨b, 12, none⟩ = some (.int .i64 P.torn) := by
 obtain ⟨ph, pn, px, pb, pt⟩ := P
 obtain ⟨a1, a2, a3, a4, a5, a6, a7, a8, a9, rfl⟩ := len9 hp
 exact ⟨hs.ld m rfl, hs.cs m rfl, hs.ld m rfl, hs.ld m rfl, hs.ld m rfl⟩

/-! ### What the log says -/
def pI (C : Cm) (k : Nat) : Inf := pageI (C.pg k) C.cfg.cells.toNat
theorem pI_len (C : Cm) (k : Nat) : (pI C k).nums.length = 9 := ofM_len _ _
def presH (a b : Int) : Int := if 0 < a ∧ b ≤ a then 0 else if 0 < b then 1 else -1
def presM (C : Cm) : Int := presH (pI C 0).head (pI C 1).head
def infoM (C : Cm) : Inf := if presM C < 0 then inf0 else pI C (presM C).toNat
def tgtM (C : Cm) : Nat := if presM C = 0 then 1 else 0
theorem infoM_len (C : Cm) : (infoM C).nums.length = 9 := by unfold infoM; split; rfl; exact pI_len C _
theorem presM_cases (C : Cm) : presM C = -1 ∨ presM C = 0 ∨ presM C = 1 := by unfold presM presH; (repeat' split) <;> simp
theorem look_pg {C : Cm} (ho : C.out = false) (ok : C.ok) {k : Nat} (hk : k < 2) : lookM C (k : Int) = (pI C k, 0) := by
 have h1 := ok.fits.pages
 have h2 := ok.may.area
 have h3 : C.cfg.np = 2 + 2 * C.cfg.area := rfl
 unfold lookM
 rw [askedM_in ho (by omega) (by omega), if_neg (by simp), Int.toNat_natCast]; rfl
theorem look_out {C : Cm} (ho : C.out = true) (k : Int) : lookM C k = (inf0, 8) := by
 unfold lookM askedM
 rw [if_pos ho, if_pos (by decide)]
structure Fnd where
 p : Inf
 q : Inf
 n : Int
def lookF (C : Cm) : Fnd × Int := if C.out = true then (⟨inf0, inf0, 0⟩, 8) else (⟨pI C 0, pI C 1, presM C⟩, 0)
theorem lookF_len (C : Cm) : (lookF C).1.p.nums.length = 9 ∧ (lookF C).1.q.nums.length = 9 := by
 unfold lookF; split
 ·exact ⟨rfl, rfl⟩
 ·exact ⟨pI_len C 0, pI_len C 1⟩
abbrev logE (l p : Nat) : Ent := blk l [.pointer (some ⟨p, 0, none⟩)]
theorem logLook_sp {Q : Int → List Int → Int → Bool → Int → Int → List Int → Int → Bool → Int → Int → Int → H → Prop} (hs : Sat h0 A h) (ci : At A i (chipE p C)) (cl : At A j (logE r p))
  (k : ∀ h', Sat h0 A h' → Q (lookF C).1.p.head (lookF C).1.p.nums (lookF C).1.p.next (lookF C).1.p.blank (lookF C).1.p.torn (lookF C).1.q.head (lookF C).1.q.nums (lookF C).1.q.next (lookF C).1.q.blank (lookF C).1.q.torn (lookF C).1.n (lookF C).2 h') :
  F_log_Log_look ⟨r, 0, none⟩ Q h := by
 unfold F_log_Log_look G_log_Log_look
 try simp only [add_mk, Nat.zero_add]
 have ok := chip_ok hs ci
 have z9 : inf0.nums.length = 9 := rfl
 intro n4 _ hn; replace hs := Sat.new hs hn; clear hn
 intro n7 _ hn; replace hs := Sat.new hs hn; clear hn
 replace hs : Sat h0 (blk n7 (fndI inf0 inf0 0) :: blk n4 (fndI inf0 inf0 0) :: A) _ := hs
 refine ⟨Sat.can hs (i := 0) (by (repeat (first | exact At.z | apply At.s))) (by decide), ?_⟩
 intro h2 e
 replace hs := Sat.wra hs (i := 0) (by (repeat (first | exact At.z | apply At.s))) e (by rfl)
 clear e
 replace hs : Sat h0 (blk n7 (fndI inf0 inf0 (-1)) :: blk n4 (fndI inf0 inf0 0) :: A) _ := hs
 intro J hJ
 obtain ⟨G, hG⟩ : ∃ G : Nat → Inf × Inf, G = fun n => (if 0 < n then pI C 0 else inf0, if 1 < n then pI C 1 else inf0) := ⟨_, rfl⟩
 have hG0 : G 0 = (inf0, inf0) := by rw [hG]; rfl
 have hG2 : G 2 = (pI C 0, pI C 1) := by rw [hG]; rfl
 have hGl : ∀ n, (G n).1.nums.length = 9 ∧ (G n).2.nums.length = 9 := by
  intro n; rw [hG]; dsimp only
  exact ⟨by split; exact pI_len C 0; rfl, by split; exact pI_len C 1; rfl⟩
 have hs1 : Sat h0 (blk n7 (fndI (G 0).1 (G 0).2 (-1)) :: blk n4 (fndI inf0 inf0 0) :: A) h2 := by rw [hG0]; exact hs
 clear hs
 refine loop_up 2 (fun n h => (n ≠ 0 → C.out = false) ∧ Sat h0 (blk n7 (fndI (G n).1 (G n).2 (-1)) :: blk n4 (fndI inf0 inf0 0) :: A) h) ?_ ?_ 0 _ (by omega) ⟨fun y => absurd rfl y, hs1⟩
 ·rintro n h3 hn ⟨hno, hs⟩ hk
  apply hJ
  rw [ltI_eq, if_pos (by simp; omega)]
  refine ⟨_, hs.ld cl.s.s rfl, _, rfl, ?_⟩
  refine Look_sp hs ci.s.s (n : Int) ?_
  intro h4 hs
  have hll := lookM_len C (n : Int)
  intro n24 _ hn24; replace hs := Sat.new hs hn24; clear hn24
  refine ⟨Sat.can hs (by (repeat (first | exact At.z | apply At.s))) (by decide), ?_⟩
  intro h5 e
  replace hs := Sat.wra hs (by (repeat (first | exact At.z | apply At.s))) e ((inf_len hll).trans rfl)
  clear e
  simp only [put] at hs
  by_cases ho : C.out = true
  ·rw [look_out ho] at hs ⊢
   rw [if_pos (by simp)]
   refine ⟨Sat.can hs (by (repeat (first | exact At.z | apply At.s))) (by decide), ?_⟩
   intro h6 e
   replace hs := Sat.wra hs (i := 2) (by (repeat (first | exact At.z | apply At.s))) e (by rfl)
   clear e
   simp only [put] at hs
   replace hs : Sat h0 (blk n24 (infI inf0) :: blk n7 (fndI (G n).1 (G n).2 (-1)) :: blk n4 (fndI inf0 inf0 0) :: A) h6 := hs
   have L := hs.fnd (i := 2) (by (repeat (first | exact At.z | apply At.s))) z9 z9
   refine ⟨_, L.a0, _, ‹_›, L.a1, _, L.a10, _, L.a11, _, L.a12, _, L.a13, _, ‹_›, L.a14, _, L.a23, _, L.a24, _, L.a25, _, L.a26, ?_⟩
   have e : lookF C = (⟨inf0, inf0, 0⟩, 8) := by unfold lookF; rw [if_pos ho]
   rw [e] at k
   exact k _ hs.drop.drop.drop
  ·have ho' : C.out = false := by simpa using ho
   have el := look_pg ho' ok (k := n) hn
   rw [el] at hs ⊢
   rw [if_neg (by simp)]
   have hpl := pI_len C n
   obtain ⟨L0, L1, L10, L11, L12⟩ := hs.infAt (i := 0) (by (repeat (first | exact At.z | apply At.s))) hpl
   refine ⟨_, L0, _, hpl, L1, _, L10, _, L11, _, L12, by omega, by omega, ?_⟩
   rw [Int.toNat_natCast]
   refine ⟨Sat.can hs (i := 1) (by (repeat (first | exact At.z | apply At.s))) (by rw [fnd_len (hGl n).1 (hGl n).2]; omega), ?_⟩
   intro h6 e
   replace hs := Sat.wr hs (i := 1) (by (repeat (first | exact At.z | apply At.s))) e
   clear e
   simp only [put] at hs
   rw [wrap_succ (by omega)]
   refine hk _ ⟨fun _ => ho', ?_⟩
   have hn2 : n = 0 ∨ n = 1 := by omega
   have e2 : splice (fndI (G n).1 (G n).2 (-1)) (n * 13) (infI (pI C n)) = fndI (G (n + 1)).1 (G (n + 1)).2 (-1) := by
    rcases hn2 with rfl | rfl
    ·rw [hG0]
     show splice _ 0 _ = _
     rw [fnd_s0 z9 hpl, hG]; rfl
    ·have : G 1 = (pI C 0, inf0) := by rw [hG]; rfl
     rw [this]
     show splice _ 13 _ = _
     rw [fnd_s13 (pI_len C 0) z9 hpl, hG]; rfl
   rw [e2] at hs
   exact hs.drop
 ·rintro h3 ⟨hno, hs⟩
  have ho : C.out = false := hno (by decide)
  rw [hG2] at hs
  dsimp only at hs
  apply hJ
  rw [ltI_eq, if_neg (by simp)]
  clear hJ J hG0 hG2 hGl hG hs1
  have l0 := pI_len C 0
  have l1 := pI_len C 1
  have L := hs.fnd .z l0 l1
  refine ⟨by decide, by decide, _, L.a0, by decide, by decide, _, L.a13, ?_⟩
  have e : lookF C = (⟨pI C 0, pI C 1, presM C⟩, 0) := by unfold lookF; rw [if_neg (by simp [ho])]
  rw [e] at k
  dsimp only at k
  have pc : presM C = presH (pI C 0).head (pI C 1).head := rfl
  unfold presH at pc
  have w26 : ∀ (m : Int) (h' : H) (A' : List Ent), Sat h0 (blk n7 (splice (fndI (pI C 0) (pI C 1) (-1)) 26 [.int .i64 m]) :: A') h' → Sat h0 (blk n7 (fndI (pI C 0) (pI C 1) m) :: A') h' := fun m h' A' y => by rw [fnd_s26 l0 l1] at y; exact y
  have c26 : ∀ h', Sat h0 (blk n7 (fndI (pI C 0) (pI C 1) (-1)) :: blk n4 (fndI inf0 inf0 0) :: A) h' → hcan h' ⟨n7, 26, none⟩ 1 := fun h' y => Sat.can y .z (by rw [fnd_len l0 l1]; omega)
  by_cases g1 : 0 < (pI C 0).head
  ·rw [ltI_eq, if_pos (by simpa using g1)]
   by_cases g2 : (pI C 1).head ≤ (pI C 0).head
   ·rw [leI_eq, if_pos (by simpa using g2)]
    refine ⟨c26 _ hs, ?_⟩
    intro h4 e4
    replace hs := Sat.wr hs .z e4
    clear e4
    replace hs := w26 _ _ _ hs
    (have L := hs.fnd .z l0 l1; refine ⟨_, L.a0, _, ‹_›, L.a1, _, L.a10, _, L.a11, _, L.a12, _, L.a13, _, ‹_›, L.a14, _, L.a23, _, L.a24, _, L.a25, _, L.a26, ?_⟩; refine ⟨Sat.can hs (by (repeat (first | exact At.z | apply At.s))) (by decide), ?_⟩; intro h9 e9; replace hs := Sat.wra hs (i := 1) (by (repeat (first | exact At.z | apply At.s))) e9 (by rw [fnd_len z9 z9]; exact (fnd_len (n := 0) l0 l1)); clear e9; simp only [put] at hs; replace hs : Sat h0 (blk n7 (fndI (pI C 0) (pI C 1) (0)) :: blk n4 (fndI (pI C 0) (pI C 1) (0)) :: A) h9 := hs; have L := hs.fnd (i := 1) (.s .z) l0 l1; refine ⟨_, L.a0, _, ‹_›, L.a1, _, L.a10, _, L.a11, _, L.a12, _, L.a13, _, ‹_›, L.a14, _, L.a23, _, L.a24, _, L.a25, _, L.a26, ?_⟩; rw [show presM C = 0 by rw [pc]; simp [*]] at k; exact k _ hs.drop.drop)
   ·rw [leI_eq, if_neg (by simpa using g2), ltI_eq, if_pos (by simp; omega)]
    refine ⟨c26 _ hs, ?_⟩
    intro h4 e4
    replace hs := Sat.wr hs .z e4
    clear e4
    replace hs := w26 _ _ _ hs
    have g3 : 0 < (pI C 1).head := by omega
    (have L := hs.fnd .z l0 l1; refine ⟨_, L.a0, _, ‹_›, L.a1, _, L.a10, _, L.a11, _, L.a12, _, L.a13, _, ‹_›, L.a14, _, L.a23, _, L.a24, _, L.a25, _, L.a26, ?_⟩; refine ⟨Sat.can hs (by (repeat (first | exact At.z | apply At.s))) (by decide), ?_⟩; intro h9 e9; replace hs := Sat.wra hs (i := 1) (by (repeat (first | exact At.z | apply At.s))) e9 (by rw [fnd_len z9 z9]; exact (fnd_len (n := 1) l0 l1)); clear e9; simp only [put] at hs; replace hs : Sat h0 (blk n7 (fndI (pI C 0) (pI C 1) (1)) :: blk n4 (fndI (pI C 0) (pI C 1) (1)) :: A) h9 := hs; have L := hs.fnd (i := 1) (.s .z) l0 l1; refine ⟨_, L.a0, _, ‹_›, L.a1, _, L.a10, _, L.a11, _, L.a12, _, L.a13, _, ‹_›, L.a14, _, L.a23, _, L.a24, _, L.a25, _, L.a26, ?_⟩; rw [show presM C = 1 by rw [pc]; simp [*]] at k; exact k _ hs.drop.drop)
  ·rw [ltI_eq, if_neg (by simpa using g1)]
   by_cases g3 : 0 < (pI C 1).head
   ·rw [ltI_eq, if_pos (by simpa using g3)]
    refine ⟨c26 _ hs, ?_⟩
    intro h4 e4
    replace hs := Sat.wr hs .z e4
    clear e4
    replace hs := w26 _ _ _ hs
    (have L := hs.fnd .z l0 l1; refine ⟨_, L.a0, _, ‹_›, L.a1, _, L.a10, _, L.a11, _, L.a12, _, L.a13, _, ‹_›, L.a14, _, L.a23, _, L.a24, _, L.a25, _, L.a26, ?_⟩; refine ⟨Sat.can hs (by (repeat (first | exact At.z | apply At.s))) (by decide), ?_⟩; intro h9 e9; replace hs := Sat.wra hs (i := 1) (by (repeat (first | exact At.z | apply At.s))) e9 (by rw [fnd_len z9 z9]; exact (fnd_len (n := 1) l0 l1)); clear e9; simp only [put] at hs; replace hs : Sat h0 (blk n7 (fndI (pI C 0) (pI C 1) (1)) :: blk n4 (fndI (pI C 0) (pI C 1) (1)) :: A) h9 := hs; have L := hs.fnd (i := 1) (.s .z) l0 l1; refine ⟨_, L.a0, _, ‹_›, L.a1, _, L.a10, _, L.a11, _, L.a12, _, L.a13, _, ‹_›, L.a14, _, L.a23, _, L.a24, _, L.a25, _, L.a26, ?_⟩; rw [show presM C = 1 by rw [pc]; simp [*]] at k; exact k _ hs.drop.drop)
   ·rw [ltI_eq, if_neg (by simpa using g3)]
    (have L := hs.fnd .z l0 l1; refine ⟨_, L.a0, _, ‹_›, L.a1, _, L.a10, _, L.a11, _, L.a12, _, L.a13, _, ‹_›, L.a14, _, L.a23, _, L.a24, _, L.a25, _, L.a26, ?_⟩; refine ⟨Sat.can hs (by (repeat (first | exact At.z | apply At.s))) (by decide), ?_⟩; intro h9 e9; replace hs := Sat.wra hs (i := 1) (by (repeat (first | exact At.z | apply At.s))) e9 (by rw [fnd_len z9 z9]; exact (fnd_len (n := -1) l0 l1)); clear e9; simp only [put] at hs; replace hs : Sat h0 (blk n7 (fndI (pI C 0) (pI C 1) (-1)) :: blk n4 (fndI (pI C 0) (pI C 1) (-1)) :: A) h9 := hs; have L := hs.fnd (i := 1) (.s .z) l0 l1; refine ⟨_, L.a0, _, ‹_›, L.a1, _, L.a10, _, L.a11, _, L.a12, _, L.a13, _, ‹_›, L.a14, _, L.a23, _, L.a24, _, L.a25, _, L.a26, ?_⟩; rw [show presM C = -1 by rw [pc]; simp [*]] at k; exact k _ hs.drop.drop)
def finfo (p q : Inf) (n : Int) : Inf := if n < 0 then inf0 else if n = 0 then p else q
theorem infoM_f (C : Cm) : infoM C = finfo (pI C 0) (pI C 1) (presM C) := by
 unfold infoM finfo
 rcases presM_cases C with e | e | e <;> rw [e] <;> simp
theorem finfo_sp {Q : Int → List Int → Int → Bool → Int → H → Prop} {P R : Inf} {n : Int} (hp : P.nums.length = 9) (hr : R.nums.length = 9) (hn : n < 2) (hs : Sat h0 A h)
  (k : ∀ h', Sat h0 A h' → Q (finfo P R n).head (finfo P R n).nums (finfo P R n).next (finfo P R n).blank (finfo P R n).torn h') : F_log_found_info P.head P.nums P.next P.blank P.torn R.head R.nums R.next R.blank R.torn n Q h := by
 unfold F_log_found_info G_log_found_info
 try simp only [add_mk, Nat.zero_add]
 intro n13 _ hn13; replace hs := Sat.new hs hn13; clear hn13
 intro n16 _ hn16; replace hs := Sat.new hs hn16; clear hn16
 replace hs : Sat h0 (blk n16 (infI inf0) :: blk n13 (fndI P R n) :: A) _ := hs
 have z9 : inf0.nums.length = 9 := rfl
 have L := hs.fnd (i := 1) (.s .z) hp hr
 refine ⟨_, L.a26, ?_⟩
 by_cases g : n < 0
 ·rw [ltI_eq, if_pos (by simpa using g)]
  refine ⟨Sat.can hs (i := 0) .z (by decide), ?_⟩
  intro h4 e
  replace hs := Sat.wra hs (i := 0) .z e (by rfl)
  clear e
  replace hs : Sat h0 (blk n16 (infI inf0) :: blk n13 (fndI P R n) :: A) _ := hs
  obtain ⟨L0, L1, L10, L11, L12⟩ := hs.infAt .z z9
  refine ⟨_, L0, _, z9, L1, _, L10, _, L11, _, L12, ?_⟩
  have e : finfo P R n = inf0 := by unfold finfo; rw [if_pos g]
  rw [e] at k
  exact k _ hs.drop.drop
 rw [ltI_eq, if_neg (by simpa using g)]
 refine ⟨_, L.a26, by omega, by omega, ?_⟩
 -- either page
 have fin : ∀ (S : Inf), S.nums.length = 9 → finfo P R n = S → ∀ h', Sat h0 (blk n16 (infI inf0) :: blk n13 (fndI P R n) :: A) h' → hcan h' ⟨n16, 0, none⟩ 13 ∧ ∀ h2, h2 = hwr h' ⟨n16, 0, none⟩ (infI S) →
   ∃ i0, hc h2 ⟨n16, 0, none⟩ = some (.int .i64 i0) ∧ ∃ l1 : List Int, l1.length = 9 ∧ hrow h2 ⟨n16, 1, none⟩ .i64 l1 ∧ ∃ i10, hc h2 ⟨n16, 10, none⟩ = some (.int .i64 i10) ∧ ∃ b11, hc h2 ⟨n16, 11, none⟩ = some (.bool b11) ∧ ∃ i12, hc h2 ⟨n16, 12, none⟩ = some (.int .i64 i12) ∧ Q i0 l1 i10 b11 i12 h2 := by
  intro S hS e h' hs
  refine ⟨Sat.can hs (i := 0) .z (by decide), ?_⟩
  intro h4 e4
  replace hs := Sat.wra hs (i := 0) .z e4 ((inf_len hS).trans rfl)
  clear e4
  replace hs : Sat h0 (blk n16 (infI S) :: blk n13 (fndI P R n) :: A) _ := hs
  obtain ⟨L0, L1, L10, L11, L12⟩ := hs.infAt .z hS
  refine ⟨_, L0, _, hS, L1, _, L10, _, L11, _, L12, ?_⟩
  rw [e] at k
  exact k _ hs.drop.drop
 have h01 : n = 0 ∨ n = 1 := by omega
 rcases h01 with rfl | rfl
 ·simp only [Int.toNat_zero, Nat.zero_mul, Nat.zero_add]
  exact ⟨_, L.a0, _, hp, L.a1, _, L.a10, _, L.a11, _, L.a12, fin P hp (by unfold finfo; simp) _ hs⟩
 ·simp only [Int.toNat_one, Nat.one_mul, Nat.reduceAdd]
  exact ⟨_, L.a13, _, hr, L.a14, _, L.a23, _, L.a24, _, L.a25, fin R hr (by unfold finfo; simp) _ hs⟩
def presT (C : Cm) : Int := if C.out = true then -1 else presM C
def wornF (C : Cm) : Bool := (!(pI C (tgtM C)).blank && decide (C.cfg.erases ≤ C.er (tgtM C))) || decide (most ≤ (infoM C).head)
theorem Mount_sp {Q : Option Addr → Int → H → Prop} (hs : Sat h0 A h) (ci : At A i (chipE p C)) (k1 : C.out = true → Q none 8 h) (k2 : C.out = false → ∀ l h', Sat h0 (logE l p :: A) h' → Q (some ⟨l, 0, none⟩) 0 h') : F_log_Mount ⟨p, 0, none⟩ Q h := by
 unfold F_log_Mount G_log_Mount
 refine Out_sp hs ci ?_
 by_cases ho : C.out = true
 ·rw [if_pos ho]; exact k1 ho
 ·rw [if_neg ho]
  intro l _ hn; replace hs := Sat.new hs hn; clear hn
  exact k2 (by simpa using ho) _ _ hs
end
end Go.Proofs.YtaglicdidpgkpaaGreatDoor
end

/- The log: numbers, turns and lays of the program. Own work. -/
section
set_option maxRecDepth 100000
set_option linter.unusedVariables false
namespace Go.Proofs.YtaglicdidpgkpaaGreatDoor
open Go Go.Vc

def turnP (t : Int) (nums : List Int) : Nat → Nat → Nat → Cm → Cm × Int
 | 0, _, _, C => (C, 0)
 | m + 1, x, at_, C => if nums.getD x 0 = 0 then turnP t nums m (x + 1) at_ C
  else if (programM C t (at_ : Int) (valueM (x : Int) (nums.getD x 0)).1).2 ≠ 0 then programM C t (at_ : Int) (valueM (x : Int) (nums.getD x 0)).1
  else turnP t nums m (x + 1) (at_ + 1) (programM C t (at_ : Int) (valueM (x : Int) (nums.getD x 0)).1).1
def turnA (g : Int) (t : Int) (nums : List Int) (m : Nat) (C : Cm) : Cm × Int :=
 if (turnP t nums m 0 1 C).2 ≠ 0 then turnP t nums m 0 1 C else programM (turnP t nums m 0 1 C).1 t 0 (headM (g + 1)).1
def turnL (C : Cm) (slot : Nat) (n : Int) : Cm × Int :=
 if (pI C (tgtM C)).blank = true then turnA (infoM C).head (tgtM C : Int) ((infoM C).nums.set slot n) (C.cfg.slots + 1).toNat C
 else if (eraseM C (tgtM C : Int)).2 ≠ 0 then eraseM C (tgtM C : Int)
 else turnA (infoM C).head (tgtM C : Int) ((infoM C).nums.set slot n) (C.cfg.slots + 1).toNat (eraseM C (tgtM C : Int)).1
def layL (C : Cm) (slot n : Int) : Cm × Int :=
 if C.out = true then (C, 8)
 else if ¬ (0 ≤ slot ∧ slot ≤ C.cfg.slots ∧ 1 ≤ n ∧ n ≤ most) then (C, 2)
 else if n ≤ (infoM C).nums.getD slot.toNat 0 then (C, 11)
 else if 0 ≤ presM C ∧ (infoM C).next < C.cfg.cells then programM C (presM C) (infoM C).next (valueM slot n).1
 else if wornF C = true then (C, 9)
 else turnL C slot.toNat n
def numberM (C : Cm) (slot : Int) : Int × Int := if C.out = true then (0, 8) else if ¬ (0 ≤ slot ∧ slot ≤ C.cfg.slots) then (0, 2) else ((infoM C).nums.getD slot.toNat 0, 0)
section
variable {h0 h : H} {A : List Ent} {i j p r b : Nat} {C : Cm}
theorem slot_sp {Q : Bool → H → Prop} (hs : Sat h0 A h) (ci : At A i (chipE p C)) (cl : At A j (logE r p)) (n : Int) (k : ∀ h', Sat h0 A h' → Q (decide (0 ≤ n ∧ n ≤ C.cfg.slots)) h') : F_log_Log_slot ⟨r, 0, none⟩ n Q h := by
 unfold F_log_Log_slot G_log_Log_slot
 by_cases g : 0 ≤ n
 ·rw [leI_eq, if_pos (by simpa using g)]
  refine ⟨_, hs.ld cl rfl, _, rfl, ?_⟩
  refine Config_sp hs ci ?_
  intro h1 hs
  have := k _ hs
  rw [leI_eq]
  simpa [g] using this
 ·rw [leI_eq, if_neg (by simpa using g)]
  have := k _ hs
  simpa [g] using this
theorem tgt_lt (C : Cm) : tgtM C < 2 := by unfold tgtM; split <;> omega
theorem Number_sp {Q : Int → Int → H → Prop} (hs : Sat h0 A h) (ci : At A i (chipE p C)) (cl : At A j (logE r p)) (slot : Int) (k : ∀ h', Sat h0 A h' → Q (numberM C slot).1 (numberM C slot).2 h') : F_log_Log_Number ⟨r, 0, none⟩ slot Q h := by
 unfold F_log_Log_Number G_log_Log_Number
 try simp only [add_mk, Nat.zero_add]
 have ok := chip_ok hs ci
 refine logLook_sp hs ci cl ?_
 intro h1 hs
 obtain ⟨lp, lq⟩ := lookF_len C
 intro n17 _ hn; replace hs := Sat.new hs hn; clear hn
 refine ⟨Sat.can hs (i := 0) .z (by decide), ?_⟩
 intro h2 e
 replace hs := Sat.wra hs (i := 0) .z e (by rw [fnd_len lp lq]; rfl)
 clear e
 replace hs : Sat h0 (blk n17 (fndI (lookF C).1.p (lookF C).1.q (lookF C).1.n) :: A) h2 := hs
 unfold numberM at k
 by_cases ho : C.out = true
 ·have e : lookF C = (⟨inf0, inf0, 0⟩, 8) := by unfold lookF; rw [if_pos ho]
  rw [if_pos ho] at k
  rw [e, if_pos (by simp)]
  exact k _ hs.drop
 have e : lookF C = (⟨pI C 0, pI C 1, presM C⟩, 0) := by unfold lookF; rw [if_neg ho]
 rw [if_neg ho] at k
 rw [e] at hs lp lq ⊢
 dsimp only at hs lp lq ⊢
 rw [if_neg (by simp)]
 refine slot_sp hs ci.s cl.s slot ?_
 intro h3 hs
 by_cases g : 0 ≤ slot ∧ slot ≤ C.cfg.slots
 case neg =>
  rw [if_pos g] at k
  rw [if_pos (by rw [decide_eq_false g]; rfl)]
  exact k _ hs.drop
 rw [if_neg (fun y => y g)] at k
 rw [if_neg (by rw [decide_eq_true g]; decide)]
 have L := hs.fnd .z lp lq
 refine ⟨_, L.a0, _, ‹_›, L.a1, _, L.a10, _, L.a11, _, L.a12, _, L.a13, _, ‹_›, L.a14, _, L.a23, _, L.a24, _, L.a25, _, L.a26, ?_⟩
 have hc2 := presM_cases C
 refine finfo_sp lp lq (by omega) hs ?_
 intro h4 hs
 rw [← infoM_f]
 have := ok.may.slots
 exact ⟨by omega, by omega, k _ hs.drop⟩
end
end Go.Proofs.YtaglicdidpgkpaaGreatDoor
end

/- The log: bounds of what pages say; the document's log. Own work. -/
section
set_option maxRecDepth 100000
set_option linter.unusedVariables false
namespace Go.Proofs.YtaglicdidpgkpaaGreatDoor
open Go Go.Vc

theorem recM_num (x : List Int) : 0 ≤ (recM x).2.2 ∧ (recM x).2.2 ≤ most := by
 unfold recM
 (repeat' split) <;> simp only [most] at * <;> omega
structure InfOk (I : Inf) (l : Nat) : Prop where
 head : 0 ≤ I.head ∧ I.head ≤ most
 next : 0 ≤ I.next ∧ I.next ≤ l
 torn : 0 ≤ I.torn ∧ I.torn ≤ l
 nums : ∀ k, 0 ≤ I.nums.getD k 0 ∧ I.nums.getD k 0 ≤ most
theorem set_getD (l : List Int) (j k : Nat) (v : Int) : (l.set j v).getD k 0 = if j = k ∧ k < l.length then v else l.getD k 0 := by
 rw [List.getD_eq_getElem?_getD, List.getElem?_set]
 by_cases c : j = k
 ·subst c
  by_cases d : j < l.length
  ·simp [d]
  ·simp [d]
 ·simp [c]
theorem ofM_ok (row : List Int) (n : Nat) (hn : n < 2 ^ 60) : InfOk (ofM row n) n := by
 induction n with
 | zero =>
  refine ⟨by show (0 : Int) ≤ 0 ∧ (0 : Int) ≤ most; decide, by show (0 : Int) ≤ 0 ∧ (0 : Int) ≤ 0; decide, by show (0 : Int) ≤ 0 ∧ (0 : Int) ≤ 0; decide, fun k => ?_⟩
  show 0 ≤ (zeros 9).getD k 0 ∧ (zeros 9).getD k 0 ≤ most
  have : (zeros 9).getD k 0 = 0 := by
   rw [List.getD_eq_getElem?_getD]
   unfold zeros
   rw [List.getElem?_replicate]; split <;> rfl
  rw [this]; decide
 | succ n ih =>
  obtain ⟨i1, i2, i3, i4⟩ := ih (by omega)
  obtain ⟨r1, r2⟩ := recM_num (cellAt row n)
  have hl := ofM_len row n
  unfold ofM layM
  generalize (recM (cellAt row n)).1 = kind
  generalize (recM (cellAt row n)).2.1 = slot
  generalize (recM (cellAt row n)).2.2 = num at *
  generalize ofM row n = I at *
  have hN : InfOk (nextM I n kind) (n + 1) ∧ (nextM I n kind).torn ≤ n := by
   unfold nextM
   split
   ·exact ⟨⟨i1, by dsimp only; rw [wrap_id (by omega)]; omega, by dsimp only; omega, i4⟩, i3.2⟩
   ·exact ⟨⟨i1, by omega, by omega, i4⟩, i3.2⟩
  obtain ⟨⟨j1, j2, j3, j4⟩, j5⟩ := hN
  generalize nextM I n kind = J at *
  unfold layN
  split
  ·exact ⟨j1, j2, by dsimp only; rw [wrap_id (by omega)]; omega, j4⟩
  ·split
   ·exact ⟨⟨r1, r2⟩, j2, j3, j4⟩
   ·split
    ·refine ⟨j1, j2, j3, fun k => ?_⟩
     dsimp only
     rw [set_getD]
     split
     ·have := j4 slot.toNat
      split <;> omega
     ·exact j4 k
    ·exact ⟨j1, j2, j3, j4⟩
theorem pageI_ok (row : List Int) (n : Nat) (hn : n < 2 ^ 60) : InfOk (pageI row n) n := ⟨(ofM_ok row n hn).1, (ofM_ok row n hn).2, (ofM_ok row n hn).3, (ofM_ok row n hn).4⟩
theorem pI_ok {C : Cm} (ok : C.ok) (k : Nat) : InfOk (pI C k) C.cfg.cells.toNat := pageI_ok _ _ (by have := ok.may.cells; omega)
theorem infoM_ok {C : Cm} (ok : C.ok) : InfOk (infoM C) C.cfg.cells.toNat := by
 unfold infoM
 split
 ·refine ⟨by decide, ⟨by decide, by show (0 : Int) ≤ _; omega⟩, ⟨by decide, by show (0 : Int) ≤ _; omega⟩, fun k => ?_⟩
  have := (ofM_ok [] 0 (by decide)).nums k
  exact this
 ·exact pI_ok ok _
theorem presH_ref {a b : Int} (ha : 0 ≤ a) (hb : 0 ≤ b) : presH a b = if a = 0 ∧ b = 0 then -1 else if a < b then 1 else 0 := by
 unfold presH; (repeat' split) <;> omega

section
variable {h0 h : H} {A : List Ent} {i j p r l b : Nat} {C : Cm}
theorem rPage (hs : Sat h0 A h) (cj : At A j (refE r C)) {k : Nat} (hk : (k : Int) < C.s.pages.length) :
  ∃ (pl pc : Nat) (q : Addr) (xp : Option Addr) (xl xc : Nat), hc h ⟨r, 7, none⟩ = some (.slice (some q) pl pc) ∧ (k : Int) < pl ∧ hc h (q.add k) = some (.slice xp xl xc) ∧ xl = C.cfg.cells.toNat ∧ hsv h xp 32 xl (ints .u8 (C.pg k)) ∧ bytesOk (C.pg k) ∧ xl < 2 ^ 60 := by
 obtain ⟨w, ok, cl, rdm⟩ := ref_pg hs cj
 have hkn : k < C.s.pages.length := by omega
 obtain ⟨q, x, hq, hx, hrd⟩ := rdm.at hkn
 have hl := rdm.len
 have he : C.pg k = C.s.pages[k] := by unfold Cm.pg; simp [List.getD, List.getElem?_eq_getElem hkn]
 have hcl := ok.fits.cells _ (List.getElem_mem hkn)
 have hm := ok.may.cells
 have hxl : x.2.1 * 32 = C.s.pages[k].length := by have := hrd.1; simp at this; omega
 refine ⟨w.a.2.1, w.a.2.2, q, x.1, x.2.1, x.2.2, ?_, by omega, by rw [Nat.mul_one] at hx; exact hx, by omega, by rw [he]; exact hrd, by rw [he]; exact ok.typed.bytes _ (List.getElem_mem hkn), by omega⟩
 have := cl 7 _ rfl
 rw [this]
 obtain ⟨⟨a1, a2, a3⟩, b, c, m⟩ := w
 dsimp only at hq ⊢
 rw [← hq]
theorem ok_pages {C : Cm} (ok : C.ok) : (2 : Int) ≤ C.s.pages.length ∧ (2 : Int) ≤ C.s.erases.length := by
 have h1 := ok.fits.pages
 have h4 := ok.fits.erases
 have h2 := ok.may.area
 have h3 : C.cfg.np = 2 + 2 * C.cfg.area := rfl
 omega
theorem ref_ok (hs : Sat h0 A h) (cj : At A j (refE r C)) : C.ok := (ref_pg hs cj).choose_spec.1
theorem ref_cell (hs : Sat h0 A h) (cj : At A j (refE r C)) : ∃ w : Pl, ∀ o v, (C.cells w.a w.b w.c w.m)[o]? = some v → hc h ⟨r, o, none⟩ = some v := by
 obtain ⟨w, _, cl, _⟩ := ref_pg hs cj
 exact ⟨w, cl⟩
theorem rPresent9_sp {Q : Int → H → Prop} (hs : Sat h0 A h) (cj : At A j (refE r C)) (cl : At A i (logE l r)) (k : ∀ h', Sat h0 A h' → Q (presT C) h') : F_portcullisref09_Log_Present ⟨l, 0, none⟩ Q h := by
 unfold F_portcullisref09_Log_Present G_portcullisref09_Log_Present
 have ok := ref_ok hs cj
 obtain ⟨w, lc⟩ := ref_cell hs cj
 refine ⟨_, hs.ld cl rfl, _, rfl, _, lc 11 _ rfl, ?_⟩
 unfold presT at k
 by_cases ho : C.out = true
 ·rw [if_pos ho] at k ⊢; exact k _ hs
 rw [if_neg ho] at k ⊢
 have h2 := (ok_pages ok).1
 obtain ⟨pl, pc, q, xp, xl, xc, e7, hl, hx, exl, hrd, hb, hl60⟩ := rPage hs cj (k := 0) (by omega)
 refine ⟨_, hs.ld cl rfl, _, rfl, _, _, _, e7, _, rfl, by decide, by omega, _, _, _, by rw [add_zero] at hx; exact hx, ?_⟩
 refine Of_sp (A := []) (Sat.init _) (fun h' hs' => hsv_ext hs'.ex hrd (fun _ _ y => y)) hb hl60 ?_
 intro h1 hs2; replace hs := hs.ext hs2.ex; clear hs2
 subst exl
 obtain ⟨pl, pc, q, xp, xl, xc, e7, hl, hx, exl, hrd, hb, hl60⟩ := rPage hs cj (k := 1) (by omega)
 refine ⟨_, hs.ld cl rfl, _, rfl, _, _, _, e7, _, rfl, by decide, by omega, _, _, _, hx, ?_⟩
 refine Of_sp (A := []) (Sat.init _) (fun h' hs' => hsv_ext hs'.ex hrd (fun _ _ y => y)) hb hl60 ?_
 intro h2 hs2; replace hs := hs.ext hs2.ex; clear hs2
 subst exl
 have o0 := (pI_ok ok 0).head.1
 have o1 := (pI_ok ok 1).head.1
 have e : presM C = presH (pI C 0).head (pI C 1).head := rfl
 rw [presH_ref o0 o1] at e
 rw [e] at k
 show if ((pI C 0).head == 0) = true then _ else _
 by_cases g1 : (pI C 0).head = 0
 ·rw [if_pos (by simpa using g1)]
  show if ((pI C 1).head == 0) = true then _ else _
  by_cases g2 : (pI C 1).head = 0
  ·rw [if_pos ⟨g1, g2⟩] at k
   rw [if_pos (by simpa using g2)]; exact k _ hs
  ·rw [if_neg (fun y => g2 y.2)] at k
   rw [if_neg (by simpa using g2)]
   show if ltI (pI C 0).head (pI C 1).head = true then _ else _
   rw [ltI_eq]
   by_cases g3 : (pI C 0).head < (pI C 1).head
   ·rw [if_pos g3] at k; rw [if_pos (by simpa using g3)]; exact k _ hs
   ·rw [if_neg g3] at k; rw [if_neg (by simpa using g3)]; exact k _ hs
 ·rw [if_neg (fun y => g1 y.1)] at k
  rw [if_neg (by simpa using g1)]
  show if ltI (pI C 0).head (pI C 1).head = true then _ else _
  rw [ltI_eq]
  by_cases g3 : (pI C 0).head < (pI C 1).head
  ·rw [if_pos g3] at k; rw [if_pos (by simpa using g3)]; exact k _ hs
  ·rw [if_neg g3] at k; rw [if_neg (by simpa using g3)]; exact k _ hs
def rinfo (C : Cm) : Inf := if C.out = true then inf0 else infoM C
theorem rInfo9_sp {Q : Int → List Int → Int → Bool → Int → H → Prop} (hs : Sat h0 A h) (cj : At A j (refE r C)) (cl : At A i (logE l r))
  (k : ∀ h', Sat h0 A h' → Q (rinfo C).head (rinfo C).nums (rinfo C).next (rinfo C).blank (rinfo C).torn h') : F_portcullisref09_Log_info ⟨l, 0, none⟩ Q h := by
 unfold F_portcullisref09_Log_info G_portcullisref09_Log_info
 try simp only [add_mk, Nat.zero_add]
 have ok := ref_ok hs cj
 have h2 := (ok_pages ok).1
 intro n5 _ hn; replace hs := Sat.new hs hn; clear hn
 replace hs : Sat h0 (blk n5 (infI inf0) :: A) _ := hs
 have z9 : inf0.nums.length = 9 := rfl
 refine rPresent9_sp hs cj.s cl.s ?_
 intro h1 hs
 have e : ∀ {S : Inf}, rinfo C = S → ∀ h', Sat h0 A h' → Q S.head S.nums S.next S.blank S.torn h' := fun {S} y => by rw [y] at k; exact k
 by_cases g : presT C < 0
 ·rw [ltI_eq, if_pos (by simpa using g)]
  refine ⟨Sat.can hs (i := 0) .z (by decide), ?_⟩
  intro h4 e4
  replace hs := Sat.wra hs (i := 0) .z e4 (by rfl)
  clear e4
  replace hs : Sat h0 (blk n5 (infI inf0) :: A) _ := hs
  obtain ⟨L0, L1, L10, L11, L12⟩ := hs.infAt .z z9
  refine ⟨_, L0, _, z9, L1, _, L10, _, L11, _, L12, ?_⟩
  refine e ?_ _ hs.drop
  unfold presT at g
  unfold rinfo infoM
  split
  ·rfl
  ·rename_i y; rw [if_neg y] at g; rw [if_pos g]
 ·have ho : ¬ C.out = true := fun y => by unfold presT at g; rw [if_pos y] at g; exact g (by decide)
  have hp : presT C = presM C := by unfold presT; rw [if_neg ho]
  have h01 := presM_cases C
  rw [hp] at g ⊢
  rw [ltI_eq, if_neg (by simpa using g)]
  obtain ⟨pl, pc, q, xp, xl, xc, e7, hl, hx, exl, hrd, hb, hl60⟩ := rPage hs cj.s (k := (presM C).toNat) (by omega)
  refine ⟨_, hs.ld cl.s rfl, _, rfl, _, _, _, e7, _, rfl, by omega, by omega, _, _, _, by rw [Nat.mul_one]; exact hx, ?_⟩
  refine Of_sp (A := []) (Sat.init _) (fun h' hs' => hsv_ext hs'.ex hrd (fun _ _ y => y)) hb hl60 ?_
  intro h2 hs2; replace hs := hs.ext hs2.ex; clear hs2
  subst exl
  have hpl := pI_len C (presM C).toNat
  refine ⟨Sat.can hs (i := 0) .z (by decide), ?_⟩
  intro h4 e4
  replace hs := Sat.wra hs (i := 0) .z e4 ((inf_len hpl).trans rfl)
  clear e4
  replace hs : Sat h0 (blk n5 (infI (pI C (presM C).toNat)) :: A) _ := hs
  obtain ⟨L0, L1, L10, L11, L12⟩ := hs.infAt .z hpl
  refine ⟨_, L0, _, hpl, L1, _, L10, _, L11, _, L12, ?_⟩
  refine e ?_ _ hs.drop
  unfold rinfo infoM
  rw [if_neg ho, if_neg g]
end
end Go.Proofs.YtaglicdidpgkpaaGreatDoor
end

/- The log: a turn, a lay of the program. Own work. -/
section
set_option maxRecDepth 100000
set_option linter.unusedVariables false
namespace Go.Proofs.YtaglicdidpgkpaaGreatDoor
open Go Go.Vc

theorem most_val : most = 4611686018427387904 := rfl
section
variable {h0 h : H} {A : List Ent} {i j p r b : Nat} {C : Cm}
end
end Go.Proofs.YtaglicdidpgkpaaGreatDoor
end

/- AreaWrites: what the programs of a Write leave; laws about numbers alone. Own work. -/
section
set_option maxRecDepth 100000
set_option linter.unusedVariables false
namespace Go.Proofs.YtaglicdidpgkpaaGreatDoor
open Go Go.Vc

def cellOf (B cells : Nat) (D : Cm) (x : Nat) : List Int := cellAt (D.pg (B + x / cells)) (x % cells)
theorem prog_step {C : Cm} {P q : Nat} {rec : List Int} (ho : C.out = false) (hP : P < C.s.pages.length) (hq : (q : Int) < C.cfg.cells) (ha : 0 ≤ C.acts ∧ C.acts < 2 ^ 60) :
  ∃ D : Cm, programM C (P : Int) (q : Int) rec = (D, errM C) ∧ D.cfg = C.cfg ∧ D.s.blown = C.s.blown ∧ D.s.pages.length = C.s.pages.length ∧ D.s.erases = C.s.erases ∧ (∀ x, x ≠ P → D.pg x = C.pg x) ∧
   D.acts = C.acts + 1 ∧ D.pg P = rowSet (C.pg P) q (progCell (cellAt (C.pg P) q) rec (maskAt C)) ∧ (C.left ≠ 0 → D.out = false) ∧ (-1 ≤ C.left → -1 ≤ D.left) := by
 have hac : C.act.acts = C.acts + 1 := by
  unfold Cm.act
  have : w64 (C.acts + 1) = C.acts + 1 := by unfold w64; rw [IntKind.wrap_i64]; omega
  split <;> exact this
 have ec : asksCellM C (P : Int) (q : Int) = 0 := by
  unfold asksCellM
  rw [askedM_in ho (by omega) (by omega), if_neg (by simp), askedM_in ho (by omega) hq]
 unfold programM
 rw [ec, if_neg (by simp), Int.toNat_natCast, Int.toNat_natCast]
 refine ⟨_, rfl, act_cfg C, ?_, ?_, ?_, ?_, hac, ?_, ?_, ?_⟩
 ·show C.act.s.blown = _; rw [act_s]
 ·show (C.act.s.pages.set P _).length = _; rw [List.length_set, act_s]
 ·show C.act.s.erases = _; rw [act_s]
 ·intro x hx
  show (C.act.s.pages.set P _).getD x [] = C.s.pages.getD x []
  simp only [List.getD, List.getElem?_set_ne (Ne.symm hx), act_s]
 ·show (C.act.s.pages.set P _).getD P [] = _
  rw [getD_put _ _ _ _ (by rw [act_s]; exact hP)]
  unfold rowOf
  rw [Int.toNat_natCast]; rfl
 ·intro hl
  show C.act.out = false
  exact act_out ho hl
 ·intro hl
  show -1 ≤ C.act.left
  unfold Cm.act
  split
  ·dsimp only; split <;> omega
  ·exact Int.le_refl _
theorem cellOf_step {B cells i : Nat} {C D : Cm} {c : List Int} (hc : 0 < cells) (h1 : ∀ x, x ≠ B + i / cells → D.pg x = C.pg x) (h2 : D.pg (B + i / cells) = rowSet (C.pg (B + i / cells)) (i % cells) c) (hl : (C.pg (B + i / cells)).length = cells * 32) (hcl : c.length = 32) :
  cellOf B cells D i = c ∧ (∀ x, x ≠ i → cellOf B cells D x = cellOf B cells C x) ∧ (D.pg (B + i / cells)).length = cells * 32 := by
 have hm : i % cells < cells := Nat.mod_lt _ hc
 have hb : (i % cells + 1) * 32 ≤ (C.pg (B + i / cells)).length := by rw [hl]; exact Nat.mul_le_mul_right 32 hm
 refine ⟨?_, ?_, ?_⟩
 ·unfold cellOf
  rw [h2, rowSet_same hb hcl]
 ·intro x hx
  unfold cellOf
  by_cases e : x / cells = i / cells
  ·rw [e, h2]
   have hmx : x % cells < cells := Nat.mod_lt _ hc
   refine rowSet_other hb (by rw [hl]; exact Nat.mul_le_mul_right 32 hmx) hcl ?_
   intro e2
   have a1 := Nat.div_add_mod x cells
   have a2 := Nat.div_add_mod i cells
   rw [e, e2] at a1
   omega
  ·rw [h1 _ (by omega)]
 ·rw [h2, rowSet_length hb hcl, hl]
theorem prog_whole {X : List Int} (hX : X.length = 32) (hb : bytesOk X) : progCell blankCell X (fun _ => 255) = X := by
 have hcl : (progCell blankCell X fun _ => 255).length = 32 := progCell_length _ _ _ (by simp [blankCell])
 refine ext_getD (hcl.trans hX.symm) fun i hi => ?_
 rw [hcl] at hi
 rw [prog_getD _ _ _ hi]
 exact prog_full _ (getD_byte hb _)
theorem cellM_bytes {bs : List Int} (hb : bytesOk bs) (n : Nat) : bytesOk (cellM bs n) := by
 unfold cellM
 refine tab_bytes fun k => ?_
 split
 ·exact getD_byte hb _
 ·exact ⟨by decide, by decide⟩
def doneP (n k x : Nat) : Prop := (1 ≤ x ∧ x ≤ k ∧ x < n) ∨ (k = n ∧ x = 0 ∧ 0 < n)
instance (n k x : Nat) : Decidable (doneP n k x) := by unfold doneP; infer_instance
theorem done_next {n k : Nat} (hk : k < n) (x : Nat) : doneP n (k + 1) x ↔ (doneP n k x ∨ x = (k + 1) % n) := by
 unfold doneP
 by_cases c : k + 1 = n
 ·rw [c, Nat.mod_self]; omega
 ·rw [Nat.mod_eq_of_lt (by omega)]; omega
theorem not_done {n k : Nat} (hk : k < n) : ¬ doneP n k ((k + 1) % n) := by
 unfold doneP
 by_cases c : k + 1 = n
 ·rw [c, Nat.mod_self]; omega
 ·rw [Nat.mod_eq_of_lt (by omega)]; omega
structure Pr (B area cells n k : Nat) (bs : List Int) (C D : Cm) (e : Int) : Prop where
 cfg : D.cfg = C.cfg
 bl : D.s.blown = C.s.blown
 np : D.s.pages.length = C.s.pages.length
 es : D.s.erases = C.s.erases
 pg : ∀ x, x < B ∨ B + area ≤ x → D.pg x = C.pg x
 good : e = 0 → D.acts = C.acts + (n - k : Nat) ∧ ∀ x, x < area * cells → cellOf B cells D x = if doneP n n x then cellM bs x else ffs
 bad : e ≠ 0 → e = 8 ∧ ∃ t, k < t ∧ t ≤ n ∧ D.acts = C.acts + (t - k : Nat) ∧ ∀ x, x < area * cells → x ≠ t % n → cellOf B cells D x = if doneP n (t - 1) x then cellM bs x else ffs
theorem programs (B area cells n : Nat) (bs : List Int) (hb : bytesOk bs) (hn : 0 < n) (hN : n ≤ area * cells) (hc : 0 < cells) : ∀ (m k : Nat) (C : Cm), m + k = n → C.out = false → -1 ≤ C.left → (cells : Int) = C.cfg.cells → B + area ≤ C.s.pages.length → (0 ≤ C.acts ∧ C.acts + m < 2 ^ 60) →
  (∀ x, x < area → (C.pg (B + x)).length = cells * 32) → (∀ x, x < area * cells → cellOf B cells C x = if doneP n k x then cellM bs x else ffs) → Pr B area cells n k bs C (progL (B : Int) cells bs n m k C).1 (progL (B : Int) cells bs n m k C).2 := by
 intro m
 induction m with
 | zero =>
  intro k C hk ho hl hcc hp ha hlen hcell
  have : k = n := by omega
  subst this
  unfold progL
  exact ⟨rfl, rfl, rfl, rfl, fun _ _ => rfl, fun _ => ⟨by simp, hcell⟩, fun x => absurd rfl x⟩
 | succ m ih =>
  intro k C hk ho hl hcc hp ha hlen hcell
  unfold progL
  have hin : (k + 1) % n < n := Nat.mod_lt _ hn
  have hnd := not_done (n := n) (k := k) (by omega)
  have hnx := done_next (n := n) (k := k) (by omega)
  generalize hi : (k + 1) % n = i at *
  have hdiv : i / cells < area := (Nat.div_lt_iff_lt_mul hc).2 (by omega)
  have hmod : i % cells < cells := Nat.mod_lt _ hc
  have hBle : B ≤ B + i / cells := Nat.le_add_right _ _
  have hne : ∀ x, x < B ∨ B + area ≤ x → x ≠ B + i / cells := by
   intro x hx
   generalize i / cells = dd at *
   omega
  have eB : (B : Int) + ((i / cells : Nat) : Int) = ((B + i / cells : Nat) : Int) := by simp
  rw [eB]
  obtain ⟨D, hD, d1, d2, d3, d4, d5, d6, d7, d8, d9⟩ := prog_step (C := C) (P := B + i / cells) (q := i % cells) (rec := cellM bs i) ho (by omega) (by omega) ⟨ha.1, by omega⟩
  rw [hD]
  dsimp only
  have hold : cellAt (C.pg (B + i / cells)) (i % cells) = ffs := by
   have := hcell i (by omega)
   rw [if_neg hnd] at this
   exact this
  rw [hold] at d7
  have hclen : ∀ f, (progCell ffs (cellM bs i) f).length = 32 := fun f => progCell_length _ _ _ rfl
  obtain ⟨s1, s2, s3⟩ := cellOf_step (B := B) (i := i) hc (fun x hx => d5 x hx) d7 (hlen _ hdiv) (hclen _)
  have hlen2 : ∀ x, x < area → (D.pg (B + x)).length = cells * 32 := by
   intro x hx
   by_cases e : x = i / cells
   ·rw [e]; exact s3
   ·rw [d5 _ (by omega)]; exact hlen x hx
  by_cases c : C.left = 0
  ·have e8 : errM C = 8 := by unfold errM; rw [if_neg (by simpa using c)]
   rw [e8, if_pos (by simp)]
   refine ⟨d1, d2, d3, d4, fun x hx => d5 x (hne x hx), fun e => by simp at e, fun _ => ⟨rfl, k + 1, by omega, by omega, by rw [d6]; omega, fun x hx hx2 => ?_⟩⟩
   rw [hi] at hx2
   rw [s2 x hx2, Nat.add_sub_cancel]
   exact hcell x hx
  ·have e0 : errM C = 0 := by unfold errM; rw [if_pos (by simpa using c)]
   rw [e0, if_neg (by simp)]
   have hmask : maskAt C = fun _ => 255 := by funext q; unfold maskAt; rw [if_pos (by simpa using c)]
   rw [hmask, ← blankCell_ffs, prog_whole (cellM_length bs i) (cellM_bytes hb i)] at s1
   have I := ih (k + 1) D (by omega) (d8 c) (d9 hl) (by rw [d1]; exact hcc) (by rw [d3]; exact hp) ⟨by omega, by omega⟩ hlen2 (fun x hx => by
    by_cases e : x = i
    ·rw [e, s1, if_pos ((hnx i).2 (Or.inr rfl))]
    ·rw [s2 x e, hcell x hx]
     by_cases dn : doneP n k x
     ·rw [if_pos dn, if_pos ((hnx x).2 (Or.inl dn))]
     ·rw [if_neg dn, if_neg (fun y => by rcases (hnx x).1 y with y | y; exact dn y; exact e y)])
   generalize progL (B : Int) cells bs n m (k + 1) D = X at *
   refine ⟨I.cfg.trans d1, I.bl.trans d2, I.np.trans d3, I.es.trans d4, fun x hx => (I.pg x hx).trans (d5 x (hne x hx)), fun e => ?_, fun e => ?_⟩
   ·obtain ⟨g1, g2⟩ := I.good e
    exact ⟨by rw [g1, d6]; omega, g2⟩
   ·obtain ⟨g1, t, g2, g3, g4, g5⟩ := I.bad e
    exact ⟨g1, t, by omega, g3, by rw [g4, d6]; omega, g5⟩
end Go.Proofs.YtaglicdidpgkpaaGreatDoor
end
