/- StoreNeverBack: what is proved and its parts, laid together by a program of ours: Ch5 Ch6 Ch7 Ah Ch8 By Rf3 La2 La5 Fu3 Fu4 -/
import Derived.Laws.Closers25b
import Derived.Test.YteabcbpimjjdpaaK7
set_option autoImplicit false
set_option linter.all false
/- Contracts of the chip's methods that lay nothing into pages. Own work. -/
section
set_option linter.unusedVariables false
namespace Go.Proofs.Yteabcbpimjjdpaa
open Go Go.Vc

def askedM (C : Cm) (i n : Int) : Int := if C.out = true then 8 else if i < 0 then 2 else if n ≤ i then 2 else 0
def asksCellM (C : Cm) (page cell : Int) : Int := if askedM C page C.s.pages.length ≠ 0 then askedM C page C.s.pages.length else askedM C cell C.cfg.cells
def w64 (n : Int) : Int := IntKind.i64.wrap n
def Cm.act (C : Cm) : Cm :=
  if C.left ≠ 0 then { C with acts := w64 (C.acts + 1), left := if C.left - 1 > -1 then C.left - 1 else -1 }
  else { C with acts := w64 (C.acts + 1), out := true, left := -1, mask := [] }
/-- Which bits of each byte an act may change. -/
def maskAt (C : Cm) (i : Nat) : Int := if C.left ≠ 0 then 255 else if C.mask = [] then 0 else C.mask.getD (i % C.mask.length) 0
def errM (C : Cm) : Int := if C.left ≠ 0 then 0 else 8

theorem w64_range (n : Int) : -(2 ^ 63) ≤ w64 n ∧ w64 n < 2 ^ 63 := by unfold w64; rw [IntKind.wrap_i64]; omega
theorem Cm.ok.act {C : Cm} (k : C.ok) : C.act.ok := by
  have r := w64_range (C.acts + 1)
  have := k.left
  unfold Cm.act
  split
  · exact ⟨k.may, k.fits, k.typed, by dsimp only; split <;> omega, by have := k.left2; dsimp only; split <;> omega, k.mask, r, k.mlen⟩
  · exact ⟨k.may, k.fits, k.typed, by dsimp only; omega, by dsimp only; omega, by intro n hn; simp at hn, r, by simp⟩

theorem chip_close {h0 h : H} {A : List Ent} {i p : Nat} {C C0 : Cm} {a b c m : Sl} (ok : C.ok) (ci : At A i (chipE p C0))
    (hs : Sat h0 (blk p (C.cells a b c m) :: matE 32 a C.s.pages :: sE b 1 (ints .i64 C.s.erases) :: sE c 1 (bools C.s.blown) :: sE m 1 (ints .u8 C.mask) :: del A i) h) : Sat h0 (put A i (chipE p C)) h :=
  Sat.back ci (Sat.close ⟨a, b, c, m⟩ ok hs)
section
variable {h0 h : H} {A : List Ent} {i p : Nat} {C : Cm}
theorem Acts_sp {Q : Int → H → Prop} (hs : Sat h0 A h) (ci : At A i (chipE p C)) (k : Q C.acts h) : F_chip_Chip_Acts ⟨p, 0, none⟩ Q h := by
  unfold F_chip_Chip_Acts G_chip_Chip_Acts
  obtain ⟨w, ok, hs⟩ := (hs.front ci).open_; dsimp only [chipL, List.cons_append, List.nil_append, Cm.cells] at hs
  exact ⟨_, hs.ld .z rfl, k⟩
theorem Out_sp {Q : Bool → H → Prop} (hs : Sat h0 A h) (ci : At A i (chipE p C)) (k : Q C.out h) : F_chip_Chip_Out ⟨p, 0, none⟩ Q h := by
  unfold F_chip_Chip_Out G_chip_Chip_Out
  obtain ⟨w, ok, hs⟩ := (hs.front ci).open_; dsimp only [chipL, List.cons_append, List.nil_append, Cm.cells] at hs
  exact ⟨_, hs.ld .z rfl, k⟩
theorem Restore_sp {Q : H → Prop} (hs : Sat h0 A h) (ci : At A i (chipE p C)) (k : ∀ h', Sat h0 (put A i (chipE p { C with out := false })) h' → Q h') : F_chip_Chip_Restore ⟨p, 0, none⟩ Q h := by
  unfold F_chip_Chip_Restore G_chip_Chip_Restore
  obtain ⟨w, ok, hs⟩ := (hs.front ci).open_; dsimp only [chipL, List.cons_append, List.nil_append, Cm.cells] at hs
  simp only [add_mk, Nat.zero_add]
  (refine ⟨Sat.can hs (by (repeat (first | exact At.z | apply At.s))) (by simp), ?_⟩; intro _ e; replace hs := Sat.wr hs (by (repeat (first | exact At.z | apply At.s))) e; clear e; simp only [put, splice, List.set] at hs)
  exact k _ (chip_close ⟨ok.may, ok.fits, ok.typed, ok.left, ok.left2, ok.mask, ok.acts, ok.mlen⟩ ci hs)
theorem Config_sp {Q : Int → Int → Int → Int → Int → Int → Int → H → Prop} (hs : Sat h0 A h) (ci : At A i (chipE p C))
    (k : ∀ h', Sat h0 A h' → Q C.cfg.cells C.cfg.slots C.cfg.fuses C.cfg.step C.cfg.keys C.cfg.erases C.cfg.area h') : F_chip_Chip_Config ⟨p, 0, none⟩ Q h := by
  unfold F_chip_Chip_Config G_chip_Chip_Config
  obtain ⟨w, ok, hs⟩ := (hs.front ci).open_; dsimp only [chipL, List.cons_append, List.nil_append, Cm.cells] at hs
  simp only [add_mk, Nat.zero_add]
  (repeat first | refine ⟨_, Sat.ld hs (by (repeat (first | exact At.z | apply At.s))) (by rfl), ?_⟩ | refine ⟨_, _, _, Sat.ld hs (by (repeat (first | exact At.z | apply At.s))) (by rfl), ?_⟩ | (intro _ _ hn; replace hs := Sat.new hs hn; clear hn) | refine ⟨Sat.cs hs (by (repeat (first | exact At.z | apply At.s))) (by rfl), ?_⟩ | (refine ⟨Sat.can hs (by (repeat (first | exact At.z | apply At.s))) (by simp), ?_⟩; intro _ e; replace hs := Sat.wr hs (by (repeat (first | exact At.z | apply At.s))) e; clear e; simp only [put, splice, List.set] at hs))
  refine k _ ?_
  have := chip_close ok ci hs.drop
  rwa [ci.put_self] at this
theorem asked_b {Q : Int → H → Prop} (hs : Sat h0 A h) {a b c m : Sl} (ci : At A i (blk p (C.cells a b c m))) (n j : Int) (k : Q (askedM C j n) h) : F_chip_Chip_asked ⟨p, 0, none⟩ j n Q h := by
  unfold F_chip_Chip_asked G_chip_Chip_asked
  refine ⟨_, hs.ld ci rfl, ?_⟩
  unfold askedM at k
  simp only [ltI_eq, leI_eq, decide_eq_true_eq]
  split
  · simpa [*] using k
  · split
    · simpa [*] using k
    · split <;> simpa [*] using k
theorem asked_sp {Q : Int → H → Prop} (hs : Sat h0 A h) (ci : At A i (chipE p C)) (n j : Int) (k : Q (askedM C j n) h) : F_chip_Chip_asked ⟨p, 0, none⟩ j n Q h := by
  obtain ⟨w, ok, hs⟩ := (hs.front ci).open_; dsimp only [chipL, List.cons_append, List.nil_append, Cm.cells] at hs
  exact asked_b (C := C) hs .z n j k
theorem asksCell_sp {Q : Int → H → Prop} (hs : Sat h0 A h) (ci : At A i (chipE p C)) (page cell : Int) (k : Q (asksCellM C page cell) h) : F_chip_Chip_asksCell ⟨p, 0, none⟩ page cell Q h := by
  unfold F_chip_Chip_asksCell G_chip_Chip_asksCell
  obtain ⟨w, ok, hs⟩ := (hs.front ci).open_; dsimp only [chipL, List.cons_append, List.nil_append, Cm.cells] at hs
  have hl := (hs.rdM (.s .z)).len
  refine ⟨_, _, _, hs.ld .z rfl, ?_⟩
  unfold asksCellM at k
  rw [hl] at k
  refine asked_b (C := C) hs .z _ _ ?_
  split
  · rename_i h1; rw [if_pos (by simpa using h1)] at k; exact k
  · rename_i h1; rw [if_neg (by simpa using h1)] at k
    refine ⟨_, hs.ld .z rfl, asked_b (C := C) hs .z _ _ k⟩

def mayV (v : Value) (f : Nat → Int) : Option (Nat × Sl × List Int) → Prop
  | none => v = .func (.func id_chip_Chip_begins_1) #[] #[] ∧ f = fun _ => 255
  | some (b, _, mask) => v = .func (.func id_chip_Chip_begins_2) #[] #[.pointer (some ⟨b, 0, none⟩)] ∧ f = fun i => if mask = [] then 0 else mask.getD (i % mask.length) 0
def mayL : Option (Nat × Sl × List Int) → List Ent
  | none => []
  | some (b, m, mask) => [blk b [m.v], sE m 1 (ints .u8 mask)]
def mayE (v : Value) (f : Nat → Int) : Ent := exE 3 (mayV v f) mayL
theorem begins_sp {Q : Value → Int → H → Prop} (hs : Sat h0 A h) (ci : At A i (chipE p C))
    (k : ∀ v h', Sat h0 (mayE v (maskAt C) :: put A i (chipE p C.act)) h' → Q v (errM C) h') : F_chip_Chip_begins ⟨p, 0, none⟩ Q h := by
  unfold F_chip_Chip_begins G_chip_Chip_begins
  obtain ⟨w, ok, hs⟩ := (hs.front ci).open_; dsimp only [chipL, List.cons_append, List.nil_append, Cm.cells] at hs
  simp only [add_mk, Nat.zero_add]
  (repeat first | refine ⟨_, Sat.ld hs (by (repeat (first | exact At.z | apply At.s))) (by rfl), ?_⟩ | refine ⟨_, _, _, Sat.ld hs (by (repeat (first | exact At.z | apply At.s))) (by rfl), ?_⟩ | (intro _ _ hn; replace hs := Sat.new hs hn; clear hn) | refine ⟨Sat.cs hs (by (repeat (first | exact At.z | apply At.s))) (by rfl), ?_⟩ | (refine ⟨Sat.can hs (by (repeat (first | exact At.z | apply At.s))) (by simp), ?_⟩; intro _ e; replace hs := Sat.wr hs (by (repeat (first | exact At.z | apply At.s))) e; clear e; simp only [put, splice, List.set] at hs))
  have hl := ok.left
  have ha := ok.act
  by_cases h1 : C.left = 0
  · rw [if_neg (by simp [h1])]
    (repeat first | refine ⟨_, Sat.ld hs (by (repeat (first | exact At.z | apply At.s))) (by rfl), ?_⟩ | refine ⟨_, _, _, Sat.ld hs (by (repeat (first | exact At.z | apply At.s))) (by rfl), ?_⟩ | (intro _ _ hn; replace hs := Sat.new hs hn; clear hn) | refine ⟨Sat.cs hs (by (repeat (first | exact At.z | apply At.s))) (by rfl), ?_⟩ | (refine ⟨Sat.can hs (by (repeat (first | exact At.z | apply At.s))) (by simp), ?_⟩; intro _ e; replace hs := Sat.wr hs (by (repeat (first | exact At.z | apply At.s))) e; clear e; simp only [put, splice, List.set] at hs))
    have e : errM C = 8 := by simp [errM, h1]
    rw [e] at k
    have em : maskAt C = fun i => if C.mask = [] then 0 else C.mask.getD (i % C.mask.length) 0 := by funext i; simp [maskAt, h1]
    have ea : C.act = { C with acts := w64 (C.acts + 1), out := true, left := -1, mask := [] } := by simp [Cm.act, h1]
    rw [em] at k
    rw [ea] at k ha
    refine k _ _ ?_
    replace hs := Sat.front hs (e := slE _ _ _ 1 (ints .u8 C.mask)) (by (repeat (first | exact At.z | apply At.s)))
    replace hs := Sat.front hs (e := blk _ [w.m.v]) (by (repeat (first | exact At.z | apply At.s)))
    replace hs := hs.sl_nil 1 none
    replace hs := Sat.front hs (e := slE _ _ _ 1 (ints .u8 [])) (by (repeat (first | exact At.z | apply At.s))); replace hs := Sat.front hs (e := slE _ _ _ 1 (bools _)) (by (repeat (first | exact At.z | apply At.s))); replace hs := Sat.front hs (e := slE _ _ _ 1 (ints .i64 _)) (by (repeat (first | exact At.z | apply At.s))); replace hs := Sat.front hs (e := matE 32 _ _) (by (repeat (first | exact At.z | apply At.s))); replace hs := Sat.front hs (e := blk p _) (by (repeat (first | exact At.z | apply At.s))); simp only [del] at hs
    exact Sat.close (some (_, w.m, C.mask)) ⟨rfl, rfl⟩ (chip_close (a := w.a) (b := w.b) (c := w.c) (m := (none, 0, 0)) ha ci.s.s hs)
  · rw [if_pos (by simp [h1])]
    (repeat first | refine ⟨_, Sat.ld hs (by (repeat (first | exact At.z | apply At.s))) (by rfl), ?_⟩ | refine ⟨_, _, _, Sat.ld hs (by (repeat (first | exact At.z | apply At.s))) (by rfl), ?_⟩ | (intro _ _ hn; replace hs := Sat.new hs hn; clear hn) | refine ⟨Sat.cs hs (by (repeat (first | exact At.z | apply At.s))) (by rfl), ?_⟩ | (refine ⟨Sat.can hs (by (repeat (first | exact At.z | apply At.s))) (by simp), ?_⟩; intro _ e; replace hs := Sat.wr hs (by (repeat (first | exact At.z | apply At.s))) e; clear e; simp only [put, splice, List.set] at hs))
    have e : errM C = 0 := by simp [errM, h1]
    rw [e] at k
    have em : maskAt C = fun i => 255 := by funext i; simp [maskAt, h1]
    have hw : IntKind.i64.wrap (C.left - 1) = C.left - 1 := by
      have := ok.left2
      rw [IntKind.wrap_i64]; omega
    have ea : C.act = { C with acts := w64 (C.acts + 1), left := if C.left - 1 > -1 then C.left - 1 else -1 } := by simp [Cm.act, h1]
    rw [em] at k
    rw [ea] at k ha
    rw [hw] at hs
    refine k _ _ ?_
    exact Sat.close none ⟨rfl, rfl⟩ (chip_close ha ci hs)
theorem call_may {v : Value} {f : Nat → Int} {Q : List DV → H → Prop} (hs : Sat h0 A h) (mm : At A i (mayE v f)) (n : Nat) {x : Int} (hx : x = n) (k : Q [DV.one (.int .u8 (f n))] h) : callFn PP v [DV.one (.int .i64 x)] Q h := by
  obtain ⟨w, e, hs⟩ := (hs.front mm).open_
  subst hx
  cases w with
  | none =>
    obtain ⟨rfl, rfl⟩ := e
    refine callFn_of R_chip_Chip_begins_1 (by simp) (by simp) (by simp [DV.ok]) ?_
    show F_chip_Chip_begins_1 (n : Int) (fun i h => Q [DV.one (.int .u8 i)] h) h
    unfold F_chip_Chip_begins_1 G_chip_Chip_begins_1
    exact k
  | some w =>
    obtain ⟨b, m, mask⟩ := w
    obtain ⟨rfl, rfl⟩ := e
    refine callFn_of R_chip_Chip_begins_2 (by simp) (by simp) (by simp [DV.ok]) ?_
    show F_chip_Chip_begins_2 (n : Int) ⟨b, 0, none⟩ (fun i h => Q [DV.one (.int .u8 i)] h) h
    unfold F_chip_Chip_begins_2 G_chip_Chip_begins_2
    replace hs : Sat h0 (blk b [m.v] :: sE m 1 (ints .u8 mask) :: del A i) h := hs
    dsimp only at k ⊢
    have hl := hs.sl_len (.s .z)
    simp only [ints_length, Nat.mul_one] at hl
    refine ⟨_, _, _, hs.ld .z rfl, ?_⟩
    by_cases h1 : mask = []
    · rw [if_pos h1] at k
      subst h1
      rw [if_pos (by simp at hl; simp [← hl])]
      exact k
    · rw [if_neg h1] at k
      have hp : 0 < mask.length := List.length_pos_iff.2 h1
      rw [if_neg (by simp; omega)]
      refine ⟨_, _, _, hs.ld .z rfl, ?_⟩
      refine ⟨_, _, _, hs.ld .z rfl, ?_⟩
      obtain ⟨q, hq⟩ := hs.sl_some (.s .z) (by omega)
      obtain ⟨mp, ml, mc⟩ := m
      simp only at hq hl
      subst hq
      have e : (n : Int).tmod (ml : Int) = ((n % ml : Nat) : Int) := by rw [Int.tmod_eq_emod_of_nonneg (by omega)]; omega
      rw [hl] at k
      have hlt : n % ml < ml := Nat.mod_lt _ (by omega)
      refine ⟨by dsimp only; omega, _, rfl, by dsimp only; rw [e]; omega, by dsimp only; rw [e]; omega, _, ?_, k⟩
      dsimp only
      rw [e]
      simp only [add_mk, Nat.zero_add, Int.toNat_natCast, Nat.mul_one]
      refine hs.sld (.s .z) ?_
      rw [ints_get, List.getElem?_eq_getElem (by omega)]
      simp [List.getD, List.getElem?_eq_getElem (show n % ml < mask.length by omega)]

theorem askedM_zero {i n : Int} (e : askedM C i n = 0) : C.out = false ∧ 0 ≤ i ∧ i < n := by
  unfold askedM at e
  split at e
  · omega
  · rename_i h1
    split at e
    · omega
    · split at e
      · omega
      · exact ⟨by simpa using h1, by omega, by omega⟩
def blownM (C : Cm) (i : Int) : Bool × Int := if askedM C i C.s.blown.length ≠ 0 then (false, askedM C i C.s.blown.length) else (C.s.blown.getD i.toNat false, 0)
def erasesM (C : Cm) (i : Int) : Int × Int := if askedM C i C.s.pages.length ≠ 0 then (0, askedM C i C.s.pages.length) else (C.s.erases.getD i.toNat 0, 0)
theorem Blown_sp {Q : Bool → Int → H → Prop} (hs : Sat h0 A h) (ci : At A i (chipE p C)) (j : Int) (k : Q (blownM C j).1 (blownM C j).2 h) : F_chip_Chip_Blown ⟨p, 0, none⟩ j Q h := by
  unfold F_chip_Chip_Blown G_chip_Chip_Blown
  have hs' := hs
  obtain ⟨w, ok, hs⟩ := (hs.front ci).open_; dsimp only [chipL, List.cons_append, List.nil_append, Cm.cells] at hs
  simp only [add_mk, Nat.zero_add]
  have hl := hs.sl_len (i := 3) (.s (.s (.s .z)))
  simp only [bools_length, Nat.mul_one] at hl
  refine ⟨_, _, _, hs.ld .z rfl, ?_⟩
  rw [← hl]
  refine asked_sp hs' ci _ _ ?_
  unfold blownM at k
  by_cases h1 : askedM C j C.s.blown.length = 0
  · rw [if_neg (by simpa using h1)]
    rw [if_neg (by simpa using h1)] at k
    obtain ⟨_, h2, h3⟩ := askedM_zero h1
    refine ⟨_, _, _, hs.ld .z rfl, ?_⟩
    obtain ⟨q, hq⟩ := hs.sl_some (i := 3) (.s (.s (.s .z))) (by omega)
    obtain ⟨w1, w2, ⟨cp, cl, cc⟩, w4⟩ := w
    simp only at hq hl
    subst hq
    refine ⟨_, rfl, h2, by simp only; omega, _, ?_, k⟩
    simp only [add_mk, Nat.zero_add, Nat.mul_one]
    refine hs.sld (i := 3) (.s (.s (.s .z))) ?_
    rw [bools_get, List.getElem?_eq_getElem (by omega)]
    simp [List.getD, List.getElem?_eq_getElem (show j.toNat < C.s.blown.length by omega)]
  · rw [if_pos (by simpa using h1)]
    rw [if_pos (by simpa using h1)] at k
    exact k
theorem Erases_sp {Q : Int → Int → H → Prop} (hs : Sat h0 A h) (ci : At A i (chipE p C)) (j : Int) (k : Q (erasesM C j).1 (erasesM C j).2 h) : F_chip_Chip_Erases ⟨p, 0, none⟩ j Q h := by
  unfold F_chip_Chip_Erases G_chip_Chip_Erases
  have hs' := hs
  obtain ⟨w, ok, hs⟩ := (hs.front ci).open_; dsimp only [chipL, List.cons_append, List.nil_append, Cm.cells] at hs
  simp only [add_mk, Nat.zero_add]
  have hl := hs.sl_len (i := 2) (.s (.s .z))
  simp only [ints_length, Nat.mul_one] at hl
  have hl1 := (hs.rdM (.s .z)).len
  have hf := ok.fits
  have hnp := hf.pages
  have hne := hf.erases
  refine ⟨_, _, _, hs.ld .z rfl, ?_⟩
  rw [← hl1]
  refine asked_sp hs' ci _ _ ?_
  unfold erasesM at k
  by_cases h1 : askedM C j C.s.pages.length = 0
  · rw [if_neg (by simpa using h1)]
    rw [if_neg (by simpa using h1)] at k
    obtain ⟨_, h2, h3⟩ := askedM_zero h1
    refine ⟨_, _, _, hs.ld .z rfl, ?_⟩
    obtain ⟨q, hq⟩ := hs.sl_some (i := 2) (.s (.s .z)) (by omega)
    obtain ⟨w1, ⟨cp, cl, cc⟩, w2, w4⟩ := w
    simp only at hq hl
    subst hq
    refine ⟨_, rfl, h2, by simp only; omega, _, ?_, k⟩
    simp only [add_mk, Nat.zero_add, Nat.mul_one]
    refine hs.sld (i := 2) (.s (.s .z)) ?_
    rw [ints_get, List.getElem?_eq_getElem (by omega)]
    simp [List.getD, List.getElem?_eq_getElem (show j.toNat < C.s.erases.length by omega)]
  · rw [if_pos (by simpa using h1)]
    rw [if_pos (by simpa using h1)] at k
    exact k
def cutM (C : Cm) (n : Int) (mask : List Int) : Cm := { C with left := if n > -1 then n else -1, mask := mask }
theorem Cut_sp {Q : H → Prop} {q : Option Addr} {l c : Nat} {bs : List Int} (hs : Sat h0 A h) (ci : At A i (chipE p C)) (n : Int) (hn : n < 2 ^ 63) (rd : hsv h q 1 l (ints .u8 bs)) (hb : bytesOk bs) (hl : l * 1 ≤ 2 ^ 47)
    (k : ∀ h', Sat h0 (put A i (chipE p (cutM C n bs))) h' → Q h') : F_chip_Chip_Cut ⟨p, 0, none⟩ n q l c Q h := by
  unfold F_chip_Chip_Cut G_chip_Chip_Cut
  obtain ⟨w, ok, hs⟩ := (hs.front ci).open_; dsimp only [chipL, List.cons_append, List.nil_append, Cm.cells] at hs
  simp only [add_mk, Nat.zero_add]
  refine Clone_bytes_spec q l c _ _ h rd hl ?_
  intro p' c' h' bs' x o nb
  replace hs := hs.own x o nb
  (repeat first | refine ⟨_, Sat.ld hs (by (repeat (first | exact At.z | apply At.s))) (by rfl), ?_⟩ | refine ⟨_, _, _, Sat.ld hs (by (repeat (first | exact At.z | apply At.s))) (by rfl), ?_⟩ | (intro _ _ hn; replace hs := Sat.new hs hn; clear hn) | refine ⟨Sat.cs hs (by (repeat (first | exact At.z | apply At.s))) (by rfl), ?_⟩ | (refine ⟨Sat.can hs (by (repeat (first | exact At.z | apply At.s))) (by simp), ?_⟩; intro _ e; replace hs := Sat.wr hs (by (repeat (first | exact At.z | apply At.s))) e; clear e; simp only [put, splice, List.set] at hs))
  refine k _ ?_
  have okc : (cutM C n bs).ok := ⟨ok.may, ok.fits, ok.typed, by simp only [cutM]; split <;> omega, by simp only [cutM]; split <;> omega, hb, ok.acts, by have := rd.1; simp at this; simp only [cutM]; omega⟩
  replace hs := Sat.front hs (e := slE _ _ _ 1 (ints .u8 bs)) (by (repeat (first | exact At.z | apply At.s))); replace hs := Sat.front hs (e := slE _ _ _ 1 (bools _)) (by (repeat (first | exact At.z | apply At.s))); replace hs := Sat.front hs (e := slE _ _ _ 1 (ints .i64 _)) (by (repeat (first | exact At.z | apply At.s))); replace hs := Sat.front hs (e := matE 32 _ _) (by (repeat (first | exact At.z | apply At.s))); replace hs := Sat.front hs (e := blk p _) (by (repeat (first | exact At.z | apply At.s))); simp only [del] at hs
  exact (chip_close (C := cutM C n bs) (a := w.a) (b := w.b) (c := w.c) (m := (p', l, c')) okc ci.s hs).drop
def blowM (C : Cm) (i : Int) : Cm × Int :=
  if askedM C i C.s.blown.length ≠ 0 then (C, askedM C i C.s.blown.length)
  else (if bits .and .u8 (maskAt C 0) 1 = 1 then { C.act with s := { C.s with blown := C.s.blown.set i.toNat true } } else C.act, errM C)
theorem Blow_sp {Q : Int → H → Prop} (hs : Sat h0 A h) (ci : At A i (chipE p C)) (j : Int) (k : ∀ h', Sat h0 (put A i (chipE p (blowM C j).1)) h' → Q (blowM C j).2 h') : F_chip_Chip_Blow ⟨p, 0, none⟩ j Q h := by
  unfold F_chip_Chip_Blow G_chip_Chip_Blow
  have hs' := hs
  obtain ⟨w, ok, hs⟩ := (hs.front ci).open_; dsimp only [chipL, List.cons_append, List.nil_append, Cm.cells] at hs
  simp only [add_mk, Nat.zero_add]
  have hl := hs.sl_len (i := 3) (.s (.s (.s .z)))
  simp only [bools_length, Nat.mul_one] at hl
  refine ⟨_, _, _, hs.ld .z rfl, ?_⟩
  rw [← hl]
  refine asked_sp hs' ci _ _ ?_
  unfold blowM at k
  by_cases h1 : askedM C j C.s.blown.length = 0
  case neg =>
    rw [if_pos (by simpa using h1)]
    rw [if_pos (by simpa using h1)] at k
    exact k _ (ci.put_self.symm ▸ hs')
  rw [if_neg (by simpa using h1)]
  rw [if_neg (by simpa using h1)] at k
  obtain ⟨_, h2, h3⟩ := askedM_zero h1
  refine begins_sp hs' ci ?_
  intro v h2' hs
  refine call_may hs .z 0 rfl ?_
  refine ⟨_, _, rfl, _, rfl, rfl, ?_⟩
  by_cases h4 : bits .and .u8 (maskAt C 0) 1 = 1
  case neg =>
    rw [if_neg (by simpa using h4)]
    rw [if_neg h4] at k
    exact k _ hs.drop
  rw [if_pos (by simpa using h4)]
  rw [if_pos h4] at k
  have ci2 := (ci.put (chipE p C.act)).s (x := mayE v (maskAt C))
  obtain ⟨w', ok', hs⟩ := (hs.front ci2).open_
  dsimp only [chipL, List.cons_append, List.nil_append, Cm.cells] at hs
  refine ⟨_, _, _, hs.ld .z rfl, ?_⟩
  have eb : C.act.s = C.s := by unfold Cm.act; split <;> rfl
  rw [eb] at hs
  have hl' := hs.sl_len (i := 3) (.s (.s (.s .z)))
  simp only [bools_length, Nat.mul_one] at hl'
  obtain ⟨q, hq⟩ := hs.sl_some (i := 3) (.s (.s (.s .z))) (by omega)
  obtain ⟨w1, w2, ⟨cp, cl, cc⟩, w4⟩ := w'
  simp only at hq hl'
  subst hq
  refine ⟨_, rfl, h2, by dsimp only; omega, ?_⟩
  simp only [add_mk, Nat.zero_add, Nat.mul_one]
  refine ⟨hs.scan (i := 3) (.s (.s (.s .z))) (by dsimp only; omega) (by simp; omega), ?_⟩
  intro h5 e5
  replace hs := hs.swr (i := 3) (.s (.s (.s .z))) e5 (by dsimp only; omega) (by simp; omega) (by simp)
  simp only [put, splice] at hs
  have ec : ({ C.act with s := { C.s with blown := C.s.blown.set j.toNat true } } : Cm).ok :=
    ⟨ok'.may, ⟨by have := ok'.fits.pages; rw [eb] at this; exact this, by have := ok'.fits.cells; rw [eb] at this; exact this, by have := ok'.fits.erases; rw [eb] at this; exact this,
      by have := ok'.fits.blown; rw [eb] at this; simpa using this⟩, by have := ok'.typed; rw [eb] at this; exact ⟨this.bytes, this.erases⟩, ok'.left, ok'.left2, ok'.mask, ok'.acts, ok'.mlen⟩
  have e6 : (bools C.s.blown).set j.toNat (Value.bool true) = bools (C.s.blown.set j.toNat true) := by simp [bools, List.map_set]
  rw [e6] at hs
  have := chip_close (a := w1) (b := w2) (c := (some ⟨q, 0, none⟩, cl, cc)) (m := w4) ec ci2 hs
  simp only [put_succ, put_put] at this
  exact k _ this.drop
end
end Go.Proofs.Yteabcbpimjjdpaa
end

/- Contracts of the chip's Read, Program, Erase. Own work. -/
section
set_option linter.unusedVariables false
namespace Go.Proofs.Yteabcbpimjjdpaa
open Go Go.Vc

section
variable {h0 h : H} {A : List Ent} {i p : Nat} {C : Cm}
theorem asksCellM_zero {page cell : Int} (ok : C.ok) (e : asksCellM C page cell = 0) : C.out = false ∧ 0 ≤ page ∧ page < C.s.pages.length ∧ 0 ≤ cell ∧ cell < C.cfg.cells ∧
    ∃ hj : page.toNat < C.s.pages.length, (C.s.pages[page.toNat].length : Int) = 32 * C.cfg.cells ∧ (cell.toNat + 1) * 32 ≤ C.s.pages[page.toNat].length := by
  unfold asksCellM at e
  split at e
  · rename_i h1; exact absurd e h1
  · rename_i h1
    have h1 : askedM C page C.s.pages.length = 0 := by simpa using h1
    obtain ⟨h2, h3, h4⟩ := askedM_zero h1
    obtain ⟨_, h5, h6⟩ := askedM_zero e
    have hj : page.toNat < C.s.pages.length := by omega
    have hl := ok.fits.cells _ (List.getElem_mem hj)
    exact ⟨h2, h3, h4, h5, h6, hj, hl, by omega⟩
def readM (C : Cm) (page cell : Int) : List Int × Int :=
  if asksCellM C page cell ≠ 0 then (zeros 32, asksCellM C page cell) else (cellAt (C.s.pages.getD page.toNat []) cell.toNat, 0)
theorem Read_sp {Q : List Int → Int → H → Prop} (hs : Sat h0 A h) (ci : At A i (chipE p C)) (page cell : Int) (k : ∀ h', Sat h0 A h' → Q (readM C page cell).1 (readM C page cell).2 h') :
    F_chip_Chip_Read ⟨p, 0, none⟩ page cell Q h := by
  unfold F_chip_Chip_Read G_chip_Chip_Read
  simp only [add_mk, Nat.zero_add, List.append_nil]
  (intro _ _ hn; replace hs := Sat.new hs hn; clear hn)
  refine asksCell_sp hs (ci.s) _ _ ?_
  unfold readM at k
  by_cases h1 : asksCellM C page cell = 0
  case neg =>
    rw [if_pos (by simpa using h1)]
    rw [if_pos (by simpa using h1)] at k
    (refine ⟨Sat.can hs (by (repeat (first | exact At.z | apply At.s))) (by simp), ?_⟩; intro _ e; replace hs := Sat.wra hs (by (repeat (first | exact At.z | apply At.s))) e (by simp [*]); clear e; simp only [put] at hs)
    refine ⟨_, ?_, hs.row0 (by (repeat (first | exact At.z | apply At.s))), ?_⟩
    · simp
    exact k _ hs.drop
  rw [if_neg (by simpa using h1)]
  rw [if_neg (by simpa using h1)] at k
  have hs' := hs
  obtain ⟨w, ok, hs⟩ := (hs.front ci.s).open_
  obtain ⟨_, h2, h3, h4, h5, hj, hl, hk⟩ := asksCellM_zero ok h1
  dsimp only [chipL, List.cons_append, List.nil_append, Cm.cells] at hs
  refine ⟨_, _, _, hs.ld .z rfl, ?_⟩
  have rd := hs.rdM (.s .z)
  have hlen := rd.len
  obtain ⟨q, x, q', e1, e2, e3, e4, e5⟩ := rd.cell hj hk
  rw [e1]
  refine ⟨_, rfl, h2, by (try dsimp only); omega, ?_⟩
  refine ⟨_, _, _, e2, ?_⟩
  refine ⟨_, e4, h4, by omega, ?_⟩
  refine ⟨_, cellAt_length hk, e5, ?_⟩
  replace hs := hs'
  have hcl := cellAt_length hk
  (refine ⟨Sat.can hs (by (repeat (first | exact At.z | apply At.s))) (by simp), ?_⟩; intro _ e; replace hs := Sat.wra hs (by (repeat (first | exact At.z | apply At.s))) e (by simp [*]); clear e; simp only [put] at hs)
  refine ⟨_, ?_, hs.row0 (by (repeat (first | exact At.z | apply At.s))), ?_⟩
  · exact hcl
  have : C.s.pages.getD page.toNat [] = C.s.pages[page.toNat] := by simp [List.getD, List.getElem?_eq_getElem hj]
  rw [this] at k
  exact k _ hs.drop

def progCell (old x : List Int) (f : Nat → Int) : List Int := mapTo (fun i now => bits .andNot .u8 now (bits .andNot .u8 (f i) (x.getD i 0))) 32 old
def Cm.setPage (C : Cm) (j : Nat) (row : List Int) : Cm := { C with s := { C.s with pages := C.s.pages.set j row } }
def rowOf (C : Cm) (page : Int) : List Int := C.s.pages.getD page.toNat []
def programM (C : Cm) (page cell : Int) (x : List Int) : Cm × Int :=
  if asksCellM C page cell ≠ 0 then (C, asksCellM C page cell)
  else (C.act.setPage page.toNat (rowSet (rowOf C page) cell.toNat (progCell (cellAt (rowOf C page) cell.toNat) x (maskAt C))), errM C)
theorem act_s (C : Cm) : C.act.s = C.s := by unfold Cm.act; split <;> rfl
theorem act_cfg (C : Cm) : C.act.cfg = C.cfg := by unfold Cm.act; split <;> rfl
theorem byte_bits (op : BinOp) (a b : Int) : isByte (bits op .u8 a b) := by
  have h1 := bits_lo_u8 op a b; have h2 := bits_hi_u8 op a b
  unfold isByte; omega
theorem Cm.ok.setPage {C : Cm} (ok : C.ok) {j : Nat} {row : List Int} (hl : (row.length : Int) = 32 * C.cfg.cells) (hb : bytesOk row) : (C.setPage j row).ok := by
  refine ⟨ok.may, ⟨by simpa [Cm.setPage] using ok.fits.pages, ?_, ok.fits.erases, ok.fits.blown⟩, ⟨?_, ok.typed.erases⟩, ok.left, ok.left2, ok.mask, ok.acts, ok.mlen⟩
  · intro l hm
    rcases List.mem_or_eq_of_mem_set hm with hm | hm
    · exact ok.fits.cells l hm
    · rw [hm]; exact hl
  · intro l hm
    rcases List.mem_or_eq_of_mem_set hm with hm | hm
    · exact ok.typed.bytes l hm
    · rw [hm]; exact hb
theorem mapTo_mem {g : Nat → Int → Int} {n : Nat} {ns : List Int} {P : Int → Prop} (h1 : ∀ v, v ∈ ns → P v) (h2 : ∀ i v, v ∈ ns → P (g i v)) : ∀ v, v ∈ mapTo g n ns → P v := by
  intro v hv
  obtain ⟨i, hi⟩ := List.mem_iff_getElem?.1 hv
  rw [mapTo_get] at hi
  cases e : ns[i]? with
  | none => rw [e] at hi; simp at hi
  | some u =>
    rw [e] at hi
    have hu : u ∈ ns := List.mem_iff_getElem?.2 ⟨i, e⟩
    simp only [Option.map_some, Option.some.injEq] at hi
    rw [← hi]; split
    · exact h2 _ _ hu
    · exact h1 _ hu
theorem cellAt_mem {row : List Int} {k : Nat} {v : Int} (h : v ∈ cellAt row k) : v ∈ row := List.mem_of_mem_drop (List.mem_of_mem_take h)
theorem rowSet_mem {row c : List Int} {k : Nat} {v : Int} (h : v ∈ rowSet row k c) : v ∈ row ∨ v ∈ c := by
  simp only [rowSet, List.mem_append] at h
  rcases h with (h | h) | h
  · exact Or.inl (List.mem_of_mem_take h)
  · exact Or.inr h
  · exact Or.inl (List.mem_of_mem_drop h)

theorem Program_sp {Q : Int → H → Prop} (hs : Sat h0 A h) (ci : At A i (chipE p C)) (page cell : Int) (x : List Int) (hx : x.length = 32) (k : ∀ h', Sat h0 (put A i (chipE p (programM C page cell x).1)) h' → Q (programM C page cell x).2 h') :
    F_chip_Chip_Program ⟨p, 0, none⟩ page cell x Q h := by
  unfold F_chip_Chip_Program G_chip_Chip_Program
  simp only [add_mk, Nat.zero_add, List.append_nil]
  intro nx _ hn
  replace hs := Sat.new hs hn
  clear hn
  refine asksCell_sp hs (ci.s) _ _ ?_
  unfold programM at k
  by_cases h1 : asksCellM C page cell = 0
  case neg =>
    rw [if_pos (by simpa using h1)]
    rw [if_pos (by simpa using h1)] at k
    exact k _ (ci.put_self.symm ▸ hs.drop)
  rw [if_neg (by simpa using h1)]
  rw [if_neg (by simpa using h1)] at k
  obtain ⟨w0, ok, _⟩ := (hs.front ci.s).open_
  obtain ⟨_, h2, h3, h4, h5, hj, hl, hk⟩ := asksCellM_zero ok h1
  have erow : rowOf C page = C.s.pages[page.toNat] := by simp [rowOf, List.getD, List.getElem?_eq_getElem hj]
  rw [erow] at k
  refine begins_sp hs ci.s ?_
  intro v h6 hs
  simp only [put_succ] at hs
  have ci2 := ((ci.put (chipE p C.act)).s (x := blk nx (ints .u8 x))).s (x := mayE v (maskAt C))
  have hsO := (hs.front ci2).open_
  obtain ⟨w, ok', hsO⟩ := hsO
  dsimp only [chipL, List.cons_append, List.nil_append, Cm.cells] at hsO
  rw [act_s] at hsO
  refine ⟨_, _, _, hsO.ld .z rfl, ?_⟩
  have rd := hsO.rdM (.s .z)
  have hlen := rd.len
  obtain ⟨q, y, q', e1, e2, e3, e4, e5⟩ := rd.cell hj hk
  rw [e1]
  refine ⟨_, rfl, h2, by (try dsimp only); omega, ?_⟩
  refine ⟨_, _, _, e2, ?_⟩
  refine ⟨_, e4, h4, by omega, ?_⟩
  have hcl := cellAt_length hk
  refine ⟨_, hcl, e5, ?_⟩
  intro no _ hn
  replace hs := Sat.new hs hn
  clear hn
  (refine ⟨Sat.can hs (by (repeat (first | exact At.z | apply At.s))) (by simp), ?_⟩; intro _ e; replace hs := Sat.wra hs (by (repeat (first | exact At.z | apply At.s))) e (by simp [*]); clear e; simp only [put] at hs)
  refine ⟨_, ?_, hs.row0 (by (repeat (first | exact At.z | apply At.s))), ?_⟩
  · exact hcl
  intro nn _ hn
  replace hs := Sat.new hs hn
  clear hn
  (refine ⟨Sat.can hs (by (repeat (first | exact At.z | apply At.s))) (by simp), ?_⟩; intro _ e; replace hs := Sat.wra hs (by (repeat (first | exact At.z | apply At.s))) e (by simp [*]); clear e; simp only [put] at hs)
  intro J hJ
  generalize hold : cellAt C.s.pages[page.toNat] cell.toNat = old at *
  let g := fun (i : Nat) (now : Int) => bits .andNot .u8 now (bits .andNot .u8 (maskAt C i) (x.getD i 0))
  refine loop_up 32 (fun i h => Sat h0 (blk nn (ints .u8 (mapTo g i old)) :: blk no (ints .u8 old) :: mayE v (maskAt C) :: blk nx (ints .u8 x) :: put A _ (chipE p C.act)) h) ?_ ?_ 0 _ (by omega) (by simpa using hs)
  · intro j h7 hjl hs hk'
    apply hJ
    rw [ltI_eq, if_pos (by simp; omega)]
    simp only [Int.toNat_natCast, Nat.mul_one]
    have hmj : j < (mapTo g j old).length := by simp; omega
    have eg : (mapTo g j old)[j] = old[j] := by
      have := mapTo_get g j old j
      rw [List.getElem?_eq_getElem hmj, List.getElem?_eq_getElem (by omega)] at this
      simpa using this
    refine ⟨by omega, by omega, _, hs.ld .z (by rw [ints_get, List.getElem?_eq_getElem hmj]; rfl), by omega, by omega, _, hs.ld (.s (.s (.s .z))) (by rw [ints_get, List.getElem?_eq_getElem (by omega)]; rfl), ?_⟩
    refine call_may hs (.s (.s .z)) j rfl ?_
    refine ⟨_, _, rfl, _, rfl, rfl, hcs_one (hs.ld (.s (.s (.s .z))) (by rw [ints_get, List.getElem?_eq_getElem (by omega)]; rfl)), hcs_one (hs.ld .z (by rw [ints_get, List.getElem?_eq_getElem hmj]; rfl)), by omega, by omega, hs.can .z (by simp; omega), ?_⟩
    intro h8 e8
    replace hs := hs.wr .z e8
    rw [wrap_succ (by omega)]
    refine hk' _ ?_
    simp only [splice_cons, splice_nil, ints_set, put] at hs
    have e9 := mapTo_succ g j old (by omega)
    rw [← e9]
    have e10 : x.getD j 0 = x[j] := by simp [List.getD, List.getElem?_eq_getElem (show j < x.length by omega)]
    rw [eg] at hs
    simpa only [g, e10] using hs
  · intro h7 hs
    apply hJ
    rw [ltI_eq, if_neg (by simp)]
    have hnl : (mapTo g 32 old).length = 32 := by simpa using hcl
    refine ⟨_, ?_, hs.row0 (by (repeat (first | exact At.z | apply At.s))), ?_⟩
    · exact hnl
    refine ⟨_, hcl, hs.row0 (.s .z), ?_⟩
    have ci3 := (ci2.s (x := blk no (ints .u8 old))).s (x := blk nn (ints .u8 (mapTo g 32 old)))
    obtain ⟨w', _, hsO⟩ := (hs.front ci3).open_
    dsimp only [chipL, List.cons_append, List.nil_append, Cm.cells] at hsO
    rw [act_s] at hsO
    have hrow : (C.s.pages[page.toNat].length : Int) = 32 * C.act.cfg.cells := by rw [act_cfg]; exact hl
    have ok2 := ok'.setPage (j := page.toNat) (row := rowSet C.s.pages[page.toNat] cell.toNat (mapTo g 32 old)) (by rw [rowSet_length hk hnl]; exact hrow) (by
      intro n hn
      rcases rowSet_mem hn with hn | hn
      · exact ok.typed.bytes _ (List.getElem_mem hj) n hn
      · refine mapTo_mem (P := isByte) (fun v hv => ?_) (fun i v hv => byte_bits _ _ _) n hn
        rw [← hold] at hv
        exact ok.typed.bytes _ (List.getElem_mem hj) v (cellAt_mem hv))
    split
    case isTrue hne =>
      refine ⟨_, _, _, hsO.ld .z rfl, ?_⟩
      have hl1 := (hsO.rdM (.s .z)).len
      obtain ⟨y', hd, R, e6, hsT, give⟩ := (hsO.front (.s .z)).row_take hj
      obtain ⟨⟨wp, wl, wc⟩, wb, wc', wm⟩ := w'
      dsimp only at hl1 hsT give
      have hl2 : C.s.pages.length = wl := hl1
      obtain ⟨qb, hq⟩ := hsT.sl_some (.s .z) (show 0 < wl by omega)
      subst hq
      refine ⟨_, rfl, h2, by dsimp only; omega, ?_⟩
      simp only [add_mk, Nat.zero_add, Nat.mul_one]
      refine ⟨_, _, _, hsT.sld (.s .z) e6, ?_⟩
      refine ⟨_, ?_, hs.row0 (by (repeat (first | exact At.z | apply At.s))), ?_⟩
      · exact hnl
      have hyl := hsT.sl_len .z
      simp only [ints_length] at hyl
      obtain ⟨yp, yl, yc⟩ := y'
      dsimp only at hyl
      obtain ⟨yb, hy⟩ := hsT.sl_some .z (by dsimp only; omega)
      dsimp only at hy
      subst hy
      refine ⟨_, rfl, h4, by dsimp only; omega, ?_⟩
      simp only [add_mk, Nat.zero_add]
      refine ⟨hsT.scan .z (by dsimp only; omega) (by simp; omega), ?_⟩
      intro h8 e8
      have hsW := hsT.swr .z e8 (by dsimp only; omega) (by simp [hcl]; omega) (ints_one _ _)
      rw [splice_rowSet hk hnl] at hsW
      have hsG := give _ _ _ hsW
      have hsC := chip_close (a := (some ⟨qb, 0, none⟩, wl, wc)) (b := wb) (c := wc') (m := wm) ok2 ci3 (by rw [Cm.setPage, act_s]; exact hsG.front (.s .z))
      simp only [put_succ, put_put] at hsC
      exact k _ hsC.drop.drop.drop.drop
    case isFalse hne =>
      have hne : mapTo g 32 old = old := by simpa using hne
      replace hne : progCell old x (maskAt C) = old := hne
      have e1 : rowSet C.s.pages[page.toNat] cell.toNat (cellAt C.s.pages[page.toNat] cell.toNat) = C.s.pages[page.toNat] := by
        unfold rowSet cellAt
        rw [List.append_assoc, ← List.drop_drop, List.take_append_drop, List.take_append_drop]
      have e2 : C.act.setPage page.toNat C.s.pages[page.toNat] = C.act := by
        have : C.act.s.pages.set page.toNat C.s.pages[page.toNat] = C.act.s.pages := by rw [act_s]; exact List.set_getElem_self hj
        unfold Cm.setPage; rw [this]
      rw [hne, ← hold, e1, e2] at k
      exact k _ hs.drop.drop.drop.drop

def eraseRow (row : List Int) (f : Nat → Int) : List Int := mapTo (fun i b => bits .or .u8 b (f i)) row.length row
def Cm.setErase (C : Cm) (j : Nat) (n : Int) : Cm := { C with s := { C.s with erases := C.s.erases.set j n } }
def eraseM (C : Cm) (page : Int) : Cm × Int :=
  if askedM C page C.s.pages.length ≠ 0 then (C, askedM C page C.s.pages.length)
  else if C.cfg.erases ≤ C.s.erases.getD page.toNat 0 then (C, 9)
  else ((C.act.setErase page.toNat (C.s.erases.getD page.toNat 0 + 1)).setPage page.toNat (eraseRow (rowOf C page) (maskAt C)), errM C)
theorem Cm.ok.setErase {C : Cm} (ok : C.ok) {j : Nat} {n : Int} (hn : -(2 ^ 63) ≤ n ∧ n < 2 ^ 63) : (C.setErase j n).ok := by
  refine ⟨ok.may, ⟨ok.fits.pages, ok.fits.cells, by simpa [Cm.setErase] using ok.fits.erases, ok.fits.blown⟩, ⟨ok.typed.bytes, ?_⟩, ok.left, ok.left2, ok.mask, ok.acts, ok.mlen⟩
  intro l hm
  rcases List.mem_or_eq_of_mem_set hm with hm | hm
  · exact ok.typed.erases l hm
  · rw [hm]; exact hn
/-- The first i entries of a row mapped, in place. -/
theorem mapTo_out {g : Nat → Int → Int} {i j : Nat} {ns : List Int} (h : i ≤ j) (hj : j < ns.length) : (mapTo g i ns)[j]? = some ns[j] := by
  rw [mapTo_get, List.getElem?_eq_getElem hj]; simp; omega

theorem Erase_sp {Q : Int → H → Prop} (hs : Sat h0 A h) (ci : At A i (chipE p C)) (page : Int) (k : ∀ h', Sat h0 (put A i (chipE p (eraseM C page).1)) h' → Q (eraseM C page).2 h') :
    F_chip_Chip_Erase ⟨p, 0, none⟩ page Q h := by
  unfold F_chip_Chip_Erase G_chip_Chip_Erase
  simp only [add_mk, Nat.zero_add]
  have hs' := hs
  obtain ⟨w, ok, hs⟩ := (hs.front ci).open_; dsimp only [chipL, List.cons_append, List.nil_append, Cm.cells] at hs
  have hlp := (hs.rdM (.s .z)).len
  have hle := hs.sl_len (i := 2) (.s (.s .z))
  simp only [ints_length, Nat.mul_one] at hle
  refine ⟨_, _, _, hs.ld .z rfl, ?_⟩
  rw [← hlp]
  refine asked_sp hs' ci _ _ ?_
  unfold eraseM at k
  by_cases h1 : askedM C page C.s.pages.length = 0
  case neg =>
    rw [if_pos (by simpa using h1)]
    rw [if_pos (by simpa using h1)] at k
    exact k _ (ci.put_self.symm ▸ hs')
  rw [if_neg (by simpa using h1)]
  rw [if_neg (by simpa using h1)] at k
  obtain ⟨_, h2, h3⟩ := askedM_zero h1
  have hf1 := ok.fits.pages
  have hf2 := ok.fits.erases
  have hje : page.toNat < C.s.erases.length := by omega
  have hjp : page.toNat < C.s.pages.length := by omega
  have eer : C.s.erases.getD page.toNat 0 = C.s.erases[page.toNat] := by simp [List.getD, List.getElem?_eq_getElem hje]
  have erow : rowOf C page = C.s.pages[page.toNat] := by simp [rowOf, List.getD, List.getElem?_eq_getElem hjp]
  rw [eer, erow] at k
  refine ⟨_, _, _, hs.ld .z rfl, ?_⟩
  obtain ⟨w1, ⟨ep, el, ec⟩, w3, w4⟩ := w
  replace hle : C.s.erases.length = el := hle
  obtain ⟨eb, he⟩ := hs.sl_some (i := 2) (.s (.s .z)) (show 0 < el by omega)
  dsimp only at he
  subst he
  refine ⟨_, rfl, h2, by (try dsimp only); omega, ?_⟩
  simp only [add_mk, Nat.zero_add, Nat.mul_one]
  refine ⟨_, hs.sld (i := 2) (.s (.s .z)) (by rw [ints_get, List.getElem?_eq_getElem hje]; rfl), ?_⟩
  refine ⟨_, Sat.ld hs (by (repeat (first | exact At.z | apply At.s))) (by rfl), ?_⟩
  by_cases h4 : C.cfg.erases ≤ C.s.erases[page.toNat]
  case pos =>
    rw [leI_eq, if_pos (by simpa using h4)]
    rw [if_pos h4] at k
    exact k _ (ci.put_self.symm ▸ hs')
  rw [leI_eq, if_neg (by simpa using h4)]
  rw [if_neg h4] at k
  refine begins_sp hs' ci ?_
  intro v h6 hs
  have ci2 := (ci.put (chipE p C.act)).s (x := mayE v (maskAt C))
  obtain ⟨w, ok', hs⟩ := (hs.front ci2).open_
  dsimp only [chipL, List.cons_append, List.nil_append, Cm.cells] at hs
  rw [act_s] at hs
  have hle := hs.sl_len (i := 2) (.s (.s .z))
  simp only [ints_length, Nat.mul_one] at hle
  have hlp := (hs.rdM (.s .z)).len
  obtain ⟨⟨pp, pl, pc⟩, ⟨ep, el, ec⟩, w3, w4⟩ := w
  replace hle : C.s.erases.length = el := hle
  replace hlp : C.s.pages.length = pl := hlp
  obtain ⟨eb, he⟩ := hs.sl_some (i := 2) (.s (.s .z)) (show 0 < el by omega)
  dsimp only at he
  subst he
  refine ⟨_, _, _, Sat.ld hs (by (repeat (first | exact At.z | apply At.s))) (by rfl), ?_⟩
  refine ⟨_, rfl, h2, by (try dsimp only); omega, ?_⟩
  simp only [add_mk, Nat.zero_add, Nat.mul_one]
  refine ⟨_, hs.sld (i := 2) (.s (.s .z)) (by rw [ints_get, List.getElem?_eq_getElem hje]; rfl), ?_⟩
  refine ⟨_, rfl, h2, by (try dsimp only); omega, ?_⟩
  simp only [add_mk, Nat.zero_add, Nat.mul_one]
  refine ⟨hs.scan (i := 2) (.s (.s .z)) (show 0 < el by omega) (by simp; omega), ?_⟩
  intro h7 e7
  replace hs := hs.swr (i := 2) (.s (.s .z)) e7 (show 0 < el by omega) (by simp; omega) (by simp)
  simp only [put, splice, ints_set] at hs
  have hce := ok.typed.erases _ (List.getElem_mem hje)
  have hcm := ok.may.erases
  rw [show IntKind.i64.wrap (C.s.erases[page.toNat] + 1) = C.s.erases[page.toNat] + 1 by rw [IntKind.wrap_i64]; omega] at hs
  have hs7 := hs
  refine ⟨_, _, _, Sat.ld hs (by (repeat (first | exact At.z | apply At.s))) (by rfl), ?_⟩
  obtain ⟨⟨yp, yl, yc⟩, hd, R, e8, hs, give⟩ := (hs.front (.s .z)).row_take hjp
  obtain ⟨qb, hq⟩ := hs.sl_some (.s .z) (show 0 < pl by omega)
  dsimp only at hq
  subst hq
  refine ⟨_, rfl, h2, by (try dsimp only); omega, ?_⟩
  simp only [add_mk, Nat.zero_add, Nat.mul_one]
  refine ⟨_, _, _, hs.sld (.s .z) e8, ?_⟩
  have hcl := ok.fits.cells _ (List.getElem_mem hjp)
  have hcc := ok.may.cells
  have hcs := ok.may.slots
  have hyl := hs.sl_len .z
  simp only [ints_length] at hyl
  obtain ⟨yb, hy⟩ := hs.sl_some .z (show 0 < yl by omega)
  dsimp only at hy
  subst hy
  have hbr := ok.typed.bytes _ (List.getElem_mem hjp)
  generalize C.s.pages[page.toNat] = row at *
  let g := fun (i : Nat) (b : Int) => bits .or .u8 b (maskAt C i)
  intro J hJ
  have hmg : ∀ n, (mapTo g n row).length = row.length := fun n => by simp
  refine loop_up C.cfg.cells.toNat (fun k h => Sat h0 (sE (some ⟨yb, 0, none⟩, yl, yc) 32 (ints .u8 (mapTo g (32 * k) row)) :: sE (some ⟨qb, 0, none⟩, pl, pc) 1 hd :: ((blk p (C.act.cells (some ⟨qb, 0, none⟩, pl, pc) (some ⟨eb, 0, none⟩, el, ec) w3 w4) ::
      sE (some ⟨eb, 0, none⟩, el, ec) 1 (ints .i64 (C.s.erases.set page.toNat (C.s.erases[page.toNat] + 1))) :: sE w3 1 (bools C.s.blown) :: sE w4 1 (ints .u8 C.act.mask) :: mayE v (maskAt C) :: del (put A i (chipE p C.act)) i) ++ R)) h) ?_ ?_ 0 _ (by omega) (by rw [Nat.mul_zero, mapTo_zero]; exact hs)
  · intro k h8 hk hs hk'
    apply hJ
    rw [ltI_eq, if_pos (by simp; omega)]
    simp only [Cm.cells] at hs
    refine ⟨_, _, _, hs.ld (.s (.s .z)) rfl, ?_⟩
    refine ⟨_, rfl, h2, by (try dsimp only); omega, ?_⟩
    simp only [add_mk, Nat.zero_add, Nat.mul_one]
    refine ⟨_, _, _, hs.sld (.s .z) e8, ?_⟩
    refine ⟨_, rfl, by omega, by (try dsimp only); omega, ?_⟩
    intro J2 hJ2
    refine loop_up 32 (fun j h => Sat h0 (sE (some ⟨yb, 0, none⟩, yl, yc) 32 (ints .u8 (mapTo g (32 * k + j) row)) :: sE (some ⟨qb, 0, none⟩, pl, pc) 1 hd :: ((blk p (C.act.cells (some ⟨qb, 0, none⟩, pl, pc) (some ⟨eb, 0, none⟩, el, ec) w3 w4) ::
      sE (some ⟨eb, 0, none⟩, el, ec) 1 (ints .i64 (C.s.erases.set page.toNat (C.s.erases[page.toNat] + 1))) :: sE w3 1 (bools C.s.blown) :: sE w4 1 (ints .u8 C.act.mask) :: mayE v (maskAt C) :: del (put A i (chipE p C.act)) i) ++ R)) h) ?_ ?_ 0 _ (by omega) (by rw [Nat.add_zero]; exact hs)
    · intro j h9 hj hs hk2
      apply hJ2
      rw [ltI_eq, if_pos (by simp; omega)]
      simp only [add_mk, Nat.zero_add, Nat.mul_one, Int.toNat_natCast]
      have hlt : k * 32 + j < row.length := by omega
      have ea : (mapTo g (32 * k + j) row)[k * 32 + j]? = some row[k * 32 + j] := mapTo_out (by omega) hlt
      have eb' : (ints .u8 (mapTo g (32 * k + j) row))[k * 32 + j]? = some (.int .u8 row[k * 32 + j]) := by rw [ints_get, ea]; rfl
      refine ⟨by omega, by omega, _, hs.sld .z eb', ?_⟩
      have ew : IntKind.i64.wrap (IntKind.i64.wrap ((k : Int) * 32) + (j : Int)) = ((k * 32 + j : Nat) : Int) := by rw [wrap_id (n := (k : Int) * 32) (by omega), wrap_id (by omega)]; omega
      rw [ew]
      refine call_may (i := 6) hs (.s (.s (.s (.s (.s (.s .z)))))) (k * 32 + j) rfl ?_
      refine ⟨_, _, rfl, _, rfl, rfl, hcs_one (hs.sld .z eb'), by omega, by omega, hs.scan .z (show 0 < yl by omega) (by simp; omega), ?_⟩
      intro h10 e10
      replace hs := hs.swr .z e10 (show 0 < yl by omega) (by simp; omega) (by simp)
      rw [wrap_succ (by omega)]
      refine hk2 _ ?_
      simp only [splice_cons, splice_nil, ints_set, put] at hs
      have e11 : (mapTo g (32 * k + j) row).set (k * 32 + j) (bits .or .u8 row[k * 32 + j] (maskAt C (k * 32 + j))) = mapTo g (32 * k + (j + 1)) row := by
        have := mapTo_succ g (32 * k + j) row (by omega)
        rw [show 32 * k + (j + 1) = 32 * k + j + 1 by omega, ← this]
        have e12 : 32 * k + j = k * 32 + j := by omega
        simp only [e12, g]
      rw [e11] at hs
      exact hs
    · intro h9 hs
      apply hJ2
      rw [ltI_eq, if_neg (by simp)]
      rw [wrap_succ (by omega)]
      exact hk' _ hs
  · intro h8 hs
    apply hJ
    rw [ltI_eq, if_neg (by simp; omega)]
    have e12 : mapTo g (32 * C.cfg.cells.toNat) row = eraseRow row (maskAt C) := by
      unfold eraseRow
      have : 32 * C.cfg.cells.toNat = row.length := by omega
      rw [this]
    rw [e12] at hs
    replace hs := (give _ _ _ hs).front (.s .z)
    have hce' : ((C.act.setErase page.toNat (C.s.erases[page.toNat] + 1)).setPage page.toNat (eraseRow row (maskAt C))).ok := by
      refine (ok'.setErase (by omega)).setPage ?_ ?_
      · show ((eraseRow row (maskAt C)).length : Int) = 32 * C.act.cfg.cells
        rw [act_cfg, ← e12, hmg]; exact hcl
      · refine mapTo_mem (P := isByte) (fun v hv => hbr v hv) (fun i v hv => byte_bits _ _ _)
    have hsC := chip_close (a := (some ⟨qb, 0, none⟩, pl, pc)) (b := (some ⟨eb, 0, none⟩, el, ec)) (c := w3) (m := w4) hce' ci2 (by rw [Cm.setPage, Cm.setErase, act_s]; exact hs)
    simp only [put_succ, put_put] at hsC
    exact k _ hsC.drop
end
end Go.Proofs.Yteabcbpimjjdpaa
end

/- Contracts of copies: copied, State, Copy. Own work. -/
section
set_option linter.unusedVariables false
namespace Go.Proofs.Yteabcbpimjjdpaa
open Go Go.Vc

/-- May it be copied? -/
structure St.small (s : St) : Prop where
  pages : s.pages.length * 24 + 4096 ≤ 2 ^ 47
  rows : ∀ l, l ∈ s.pages → l.length + 4096 ≤ 2 ^ 47
  erases : s.erases.length * 8 + 4096 ≤ 2 ^ 47
  blown : s.blown.length + 4096 ≤ 2 ^ 47
theorem Cm.ok.small {C : Cm} (ok : C.ok) : C.s.small := by
  have h1 := ok.may.np; have h2 := ok.may.nf; have h3 := ok.fits; have h4 := ok.may.cells
  refine ⟨by have := h3.pages; omega, fun l hl => by have := h3.cells l hl; omega, by have := h3.erases; omega, by have := h3.blown; omega⟩

section
variable {h0 h : H} {A : List Ent} {i p : Nat} {C : Cm}
end
end Go.Proofs.Yteabcbpimjjdpaa
end

/- What arguments of the statements are: states of chips. Own work. -/
section
set_option maxRecDepth 100000
set_option linter.unusedVariables false
namespace Go.Proofs.Yteabcbpimjjdpaa
open Go Go.Vc Go.ChangeShapes Go.WideShapes Go.ChangeAt Go.RowKit

section
variable {D : Type} {enc : TypeId × Value → D} {W : World}
theorem slice_of {t e : TypeId} {v : Value} {base : Nat} (u : Try.prog.underlying t = some (.slice e)) (h : Rdt enc PP W t v.cells.toList) (ho : Value.okWide PP W .any base t v) : ∃ p l c, v = .slice p l c ∧ Sli enc PP W e p l c := by
  obtain ⟨p, l, c, e1, hs⟩ := Rdt.slice u h
  exact ⟨p, l, c, okw_one (by rw [u]) ho e1, hs⟩
theorem ok_cfg (c : Cfg) : (DV.agg (c.vals.map .c)).ok := by
  intro y hy; simp only [Cfg.vals, List.map_cons, List.map_nil, List.mem_cons, List.not_mem_nil, or_false] at hy
  rcases hy with rfl | rfl | rfl | rfl | rfl | rfl | rfl <;> rfl
end
end Go.Proofs.Yteabcbpimjjdpaa
end

/- Contract of chip.Lay. Own work. -/
section
set_option linter.unusedVariables false
namespace Go.Proofs.Yteabcbpimjjdpaa
open Go Go.Vc

structure St.lays (c : Cfg) (s : St) : Prop where
  fits : s.fits c
  pos : ∀ n, n ∈ s.erases → 0 ≤ n
section
variable {h0 h : H} {A : List Ent} {i p : Nat} {C : Cm}
end
end Go.Proofs.Yteabcbpimjjdpaa
end

/- Bits of bytes. Own work; generic over any program. -/
section
namespace Go.Vc
abbrev b8 (x : Int) : BitVec 8 := BitVec.ofInt 8 x
theorem b8_nat (v : BitVec 8) : b8 (v.toNat : Int) = v := by simp [b8]
theorem w8_nat (v : BitVec 8) : IntKind.u8.wrap (v.toNat : Int) = (v.toNat : Int) := by
  have := v.isLt
  rw [IntKind.wrap_u8]; omega
theorem bits_or8 (x y : Int) : bits .or .u8 x y = ((b8 x ||| b8 y).toNat : Int) := w8_nat (b8 x ||| b8 y)
theorem bits_xor8 (x y : Int) : bits .xor .u8 x y = ((b8 x ^^^ b8 y).toNat : Int) := w8_nat (b8 x ^^^ b8 y)
theorem bits_andNot8 (x y : Int) : bits .andNot .u8 x y = ((b8 x &&& ~~~ b8 y).toNat : Int) := w8_nat (b8 x &&& ~~~ b8 y)
theorem full_or (b : Int) : bits .or .u8 b 255 = 255 := by
  rw [bits_or8]
  have : b8 255 = BitVec.allOnes 8 := by decide
  rw [this, BitVec.or_allOnes]
  decide
end Go.Vc
end

/- Contracts of the document's chip: configs, copies, new ones. Own work. -/
section
set_option linter.unusedVariables false
namespace Go.Proofs.Yteabcbpimjjdpaa
open Go Go.Vc

section
variable {h0 h : H} {A : List Ent} {i p : Nat} {C : Cm}
theorem rwithin_iff (n a b : Int) (Q : Bool → H → Prop) (h : H) : F_portcullisref04_within n a b Q h = Q (decide (a ≤ n) && decide (n ≤ b)) h := by
  unfold F_portcullisref04_within G_portcullisref04_within
  by_cases h1 : a ≤ n <;> simp [h1]
theorem rMay_sp (c : Cfg) {Q : Int → H → Prop} (hs : Sat h0 A h) (k : ∀ h', Sat h0 A h' → Q c.may? h') :
    F_portcullisref04_May c.cells c.slots c.fuses c.step c.keys c.erases c.area Q h := by
  unfold F_portcullisref04_May G_portcullisref04_May
  simp only [add_mk, Nat.zero_add]
  intro n1 h' hn; replace hs := Sat.new hs hn; clear hn
  replace k := k h' hs.drop
  have kb := hs.blkOf .z
  have hc0 := kb.hc
  intro J hJ
  have w3 : 1 ≤ c.slots ∧ c.slots ≤ 8 → IntKind.i64.wrap (c.slots + 3) = c.slots + 3 := by
    intro h1; rw [IntKind.wrap_i64]; omega
  have fin : ∀ r : Bool, (r = true ↔ (1 ≤ c.slots ∧ c.slots ≤ 8) ∧ (c.slots + 3 ≤ c.cells ∧ c.cells ≤ 256) ∧ (1 ≤ c.fuses ∧ c.fuses ≤ 64) ∧ (1 ≤ c.step ∧ c.step ≤ 65536)) → J [SV.dv (DV.one (Value.bool r))] h' := by
    intro r hr
    apply hJ
    simp only [hc0, rwithin_iff, List.getElem?_cons_succ, List.getElem?_cons_zero, Option.some.injEq, Value.int.injEq, true_and, exists_eq_left', Bool.and_eq_true, decide_eq_true_eq]
    have bad : ¬ c.may → Q 1 h' := fun hm => by unfold Cfg.may? at k; rwa [if_neg hm] at k
    have good : c.may → Q 0 h' := fun hm => by unfold Cfg.may? at k; rwa [if_pos hm] at k
    by_cases h4 : 1 ≤ c.keys ∧ c.keys ≤ 64
    case neg => rw [if_neg h4]; split <;> exact bad fun m => h4 m.keys
    rw [if_pos h4]
    by_cases h5 : 0 ≤ c.erases ∧ c.erases ≤ 65536
    case neg => rw [if_neg h5]; split <;> exact bad fun m => h5 m.erases
    rw [if_pos h5]
    cases r with
    | false =>
      have := mt hr.2 (by simp)
      simp only [Bool.not_false, if_true]
      exact bad fun m => this ⟨m.slots, m.cells, m.fuses, m.step⟩
    | true =>
      obtain ⟨a1, a2, a3, a4⟩ := hr.1 rfl
      rw [if_neg (by simp)]
      by_cases h6 : 0 ≤ c.area ∧ c.area ≤ 64
      · rw [if_neg (by simp; omega)]; exact good ⟨a1, a2, a3, a4, h4, h5, h6⟩
      · rw [if_pos (by simp; omega)]; exact bad fun m => h6 m.area
  simp only [hc0, rwithin_iff, List.getElem?_cons_succ, List.getElem?_cons_zero, Option.some.injEq, Value.int.injEq, true_and, exists_eq_left', Bool.and_eq_true, decide_eq_true_eq]
  split
  case isFalse h1 => exact fin false (by simp; intro a b; exact absurd ⟨a, b⟩ h1)
  rename_i h1
  rw [w3 h1]
  split
  case isFalse h2 => exact fin false (by simp; intro _ _ a b; exact absurd ⟨a, b⟩ h2)
  rename_i h2
  split
  case isFalse h3 => exact fin false (by simp; intro _ _ _ _ a b; exact absurd ⟨a, b⟩ h3)
  rename_i h3
  refine fin _ ?_
  simp only [Bool.and_eq_true, decide_eq_true_eq]
  exact ⟨fun h4 => ⟨h1, h2, h3, h4⟩, fun m => m.2.2.2⟩

end
end Go.Proofs.Yteabcbpimjjdpaa

/- Contracts of the document's chip: new ones, laid ones, copies. Own work. -/
set_option linter.unusedVariables false
namespace Go.Proofs.Yteabcbpimjjdpaa
open Go Go.Vc

section
variable {h0 h : H} {A : List Ent} {i p : Nat} {C : Cm}
end
end Go.Proofs.Yteabcbpimjjdpaa

/- Contracts of the document's chip: its methods. Own work. -/
set_option linter.unusedVariables false
namespace Go.Proofs.Yteabcbpimjjdpaa
open Go Go.Vc

/-- The document's chip: as the program's, but that a mask which is used up may stay. -/
structure RefW (C : Cm) (w : Pl × List Int) : Prop where
  ok : C.ok
  b : bytesOk w.2
  l : w.2.length ≤ 2 ^ 47
  m : 0 ≤ C.left → w.2 = C.mask
abbrev refL (p : Nat) (C : Cm) (w : Pl × List Int) : List Ent := [blk p (C.cells w.1.a w.1.b w.1.c w.1.m), matE 32 w.1.a C.s.pages, sE w.1.b 1 (ints .i64 C.s.erases), sE w.1.c 1 (bools C.s.blown), sE w.1.m 1 (ints .u8 w.2)]
def refE (p : Nat) (C : Cm) : Ent := exE 4 (RefW C) (refL p C)

section
variable {h0 h : H} {A : List Ent} {i p : Nat} {C : Cm}
end
end Go.Proofs.Yteabcbpimjjdpaa
end

/- Contracts of the chip's statements: a state is written over. Own work. -/
section
set_option linter.unusedVariables false
namespace Go.Proofs.Yteabcbpimjjdpaa
open Go Go.Vc

section
variable {h0 h : H} {A : List Ent} {i p : Nat} {C : Cm}
end
end Go.Proofs.Yteabcbpimjjdpaa

/- Contracts of the chip's statements: pairs of chips. Own work. -/
set_option maxRecDepth 100000
set_option linter.unusedVariables false
namespace Go.Proofs.Yteabcbpimjjdpaa
open Go Go.Vc

section
variable {h0 h : H} {A : List Ent} {i j p r : Nat} {C : Cm}
theorem chip_ok (hs : Sat h0 A h) (ci : At A i (chipE p C)) : C.ok := by
  obtain ⟨w, ok, _⟩ := (hs.front ci).open_
  exact ok
end
end Go.Proofs.Yteabcbpimjjdpaa
end

/- Contracts of the chip's statements: a step. Own work. -/
section
set_option maxRecDepth 100000
set_option linter.unusedVariables false
namespace Go.Proofs.Yteabcbpimjjdpaa
open Go Go.Vc

/-- A step of a script over a chip. -/
structure Stp where
  kind : Int
  a : Int
  b : Int
  x : List Int
  mask : List Int
structure Stp.ok (s : Stp) : Prop where
  a : -(2 ^ 63) ≤ s.a ∧ s.a < 2 ^ 63
  x : s.x.length = 32
  mb : bytesOk s.mask
  ml : s.mask.length + 4096 ≤ 2 ^ 47
section
variable {h0 h : H} {A : List Ent} {i j p r : Nat} {C : Cm}
end
end Go.Proofs.Yteabcbpimjjdpaa

/- Contracts of the chip's statements: games; calls whose answers are fixed. Own work. -/
set_option maxRecDepth 100000
set_option linter.unusedVariables false
namespace Go.Proofs.Yteabcbpimjjdpaa
open Go Go.Vc

section
variable {h0 h : H} {A : List Ent} {i j p r : Nat} {C : Cm}
/-- How a script lies in memory. -/
structure ScriptRd (h : H) (p : Option Addr) (l : Nat) (sc : List Stp) : Prop where
  len : sc.length = l
  small : l < 2 ^ 62
  el : ∀ i (hi : i < sc.length), ∃ (q : Addr) (mp : Option Addr) (ml mc : Nat), p = some q ∧ hc h (q.add (i * 36)) = some (.int .i64 sc[i].kind) ∧ hc h ((q.add (i * 36)).add 1) = some (.int .i64 sc[i].a) ∧
    hc h ((q.add (i * 36)).add 2) = some (.int .i64 sc[i].b) ∧ hrow h ((q.add (i * 36)).add 3) .u8 sc[i].x ∧ hc h ((q.add (i * 36)).add 35) = some (.slice mp ml mc) ∧ hsv h mp 1 ml (ints .u8 sc[i].mask) ∧ sc[i].ok
end
end Go.Proofs.Yteabcbpimjjdpaa

/- Contracts of the chip's statements: ChipLays. Own work. -/
set_option maxRecDepth 100000
set_option linter.unusedVariables false
namespace Go.Proofs.Yteabcbpimjjdpaa
open Go Go.Vc

section
variable {h0 h : H} {A : List Ent} {i j p r : Nat} {C : Cm}
end
end Go.Proofs.Yteabcbpimjjdpaa
end

/- The fuses' model: counts of a row, raising, revoking; laws about numbers alone. Own work. -/
section
set_option maxRecDepth 100000
set_option linter.unusedVariables false
namespace Go.Proofs.Yteabcbpimjjdpaa
open Go Go.Vc

/-- A loop whose slots tell of a state. -/
theorem loop_st {J : List SV → H → Prop} {σ : Type} (N : Nat) (S : Nat → σ → List SV) (Inv : Nat → σ → H → Prop) (step : ∀ i s h, i < N → Inv i s h → (∀ s' h', Inv (i + 1) s' h' → J (S (i + 1) s') h') → J (S i s) h)
    (exit : ∀ s h, Inv N s h → J (S N s) h) (i : Nat) (s : σ) (h : H) (hi : i ≤ N) (inv : Inv i s h) : J (S i s) h := by
  generalize e : N - i = n
  induction n generalizing i s h with
  | zero =>
    have : i = N := by omega
    subst this; exact exit s h inv
  | succ n ih => exact step i s h (by omega) inv fun s' h' inv' => ih (i + 1) s' h' (by omega) inv' (by omega)

def cnt (bl : List Bool) (a : Nat) : Nat → Nat
  | 0 => 0
  | n + 1 => cnt bl a n + (if bl.getD (a + n) false = true then 1 else 0)
def lst (bl : List Bool) (a : Nat) : Nat → Option Nat
  | 0 => none
  | n + 1 => match lst bl a n with | some k => some k | none => if bl.getD (a + n) false = true then none else some (a + n)
def lstI : Option Nat → Int
  | none => -1
  | some k => k
theorem cnt_le (bl : List Bool) (a n : Nat) : cnt bl a n ≤ n := by
  induction n with
  | zero => exact Nat.le_refl _
  | succ n ih => unfold cnt; split <;> omega
theorem lst_none {bl : List Bool} {a n : Nat} (h : lst bl a n = none) : cnt bl a n = n := by
  induction n with
  | zero => rfl
  | succ n ih =>
    unfold lst at h
    cases e : lst bl a n with
    | some k => rw [e] at h; simp at h
    | none =>
      rw [e] at h
      dsimp only at h
      unfold cnt
      split at h
      · rename_i h1; rw [if_pos h1, ih e]
      · simp at h
theorem lst_some {bl : List Bool} {a n k : Nat} (h : lst bl a n = some k) : a ≤ k ∧ k < a + n ∧ bl.getD k false = false := by
  induction n with
  | zero => simp [lst] at h
  | succ n ih =>
    unfold lst at h
    cases e : lst bl a n with
    | some k' =>
      rw [e] at h
      dsimp only at h
      rw [h] at e
      obtain ⟨h1, h2, h3⟩ := ih e
      exact ⟨h1, by omega, h3⟩
    | none =>
      rw [e] at h
      dsimp only at h
      split at h
      · simp at h
      · rename_i h1
        injection h with h; subst h
        exact ⟨by omega, by omega, by simpa using h1⟩
theorem cnt_set {bl : List Bool} {a k : Nat} (n : Nat) (hk : k < bl.length) (hf : bl.getD k false = false) : cnt (bl.set k true) a n = cnt bl a n + (if a ≤ k ∧ k < a + n then 1 else 0) := by
  induction n with
  | zero => rw [if_neg (by omega)]; rfl
  | succ n ih =>
    unfold cnt
    rw [ih]
    by_cases e : a + n = k
    · subst e
      have : (bl.set (a + n) true).getD (a + n) false = true := by simp [List.getD, hk]
      rw [this, hf, if_neg (by omega), if_pos rfl, if_neg (by simp), if_pos (by omega)]
    · have : (bl.set k true).getD (a + n) false = bl.getD (a + n) false := by simp only [List.getD, List.getElem?_set_ne (Ne.symm e)]
      rw [this]
      by_cases h1 : a ≤ k ∧ k < a + n
      · rw [if_pos h1, if_pos (show a ≤ k ∧ k < a + (n + 1) by omega)]; omega
      · rw [if_neg h1, if_neg (show ¬ (a ≤ k ∧ k < a + (n + 1)) by omega)]; omega
def countM (C : Cm) (slot : Int) : Int × Int :=
  if askedM C slot C.cfg.slots ≠ 0 then (0, askedM C slot C.cfg.slots) else (cnt C.s.blown (slot * C.cfg.fuses).toNat C.cfg.fuses.toNat, 0)
def raiseL (a f : Nat) (n : Int) : Nat → Cm → Cm × Int
  | 0, C => (C, 0)
  | m + 1, C => if n ≤ cnt C.s.blown a f then (C, 0) else
    match lst C.s.blown a f with
    | none => (C, 0)
    | some k => if (blowM C k).2 ≠ 0 then blowM C k else raiseL a f n m (blowM C k).1
def raiseM (C : Cm) (slot n : Int) : Cm × Int :=
  if askedM C slot C.cfg.slots ≠ 0 then (C, askedM C slot C.cfg.slots) else if n < 0 then (C, 2) else if C.cfg.fuses < n then (C, 2)
  else raiseL (slot * C.cfg.fuses).toNat C.cfg.fuses.toNat n C.cfg.fuses.toNat C
def revokedM (C : Cm) (key : Int) : Bool × Int :=
  if askedM C key C.cfg.keys ≠ 0 then (false, askedM C key C.cfg.keys) else (C.s.blown.getD (C.cfg.slots * C.cfg.fuses + key).toNat false, 0)
def revokeM (C : Cm) (key : Int) : Cm × Int :=
  if (revokedM C key).2 ≠ 0 then (C, (revokedM C key).2) else if (revokedM C key).1 = true then (C, (revokedM C key).2) else blowM C (C.cfg.slots * C.cfg.fuses + key)

theorem askedM_in {C : Cm} {i n : Int} (ho : C.out = false) (h1 : 0 ≤ i) (h2 : i < n) : askedM C i n = 0 := by
  unfold askedM; rw [if_neg (by simp [ho]), if_neg (by omega), if_neg (by omega)]
theorem askedM_neg {C : Cm} {i n : Int} (ho : C.out = false) (h1 : i < 0) : askedM C i n = 2 := by
  unfold askedM; rw [if_neg (by simp [ho]), if_pos h1]
theorem askedM_hi {C : Cm} {i n : Int} (ho : C.out = false) (h1 : n ≤ i) : askedM C i n = 2 := by
  unfold askedM
  simp only [ho, h1, Bool.false_eq_true, if_false, if_true]
  split <;> rfl
theorem blow_good {C : Cm} {k : Nat} (ho : C.out = false) (hk : k < C.s.blown.length) (hl : C.left ≠ 0) :
    blowM C k = ({ C.act with s := { C.s with blown := C.s.blown.set k true } }, 0) := by
  unfold blowM
  rw [if_neg (by rw [askedM_in ho (by omega) (by omega)]; simp), Int.toNat_natCast]
  unfold maskAt errM
  rw [if_pos hl, if_pos hl, if_pos (by decide)]
theorem blow_cut {C : Cm} {k : Nat} (ho : C.out = false) (hk : k < C.s.blown.length) (hl : C.left = 0) :
    (blowM C k).2 = 8 ∧ (blowM C k).1.cfg = C.cfg ∧ ((blowM C k).1.s.blown = C.s.blown ∨ (blowM C k).1.s.blown = C.s.blown.set k true) := by
  unfold blowM
  rw [if_neg (by rw [askedM_in ho (by omega) (by omega)]; simp), Int.toNat_natCast]
  have e8 : errM C = 8 := by unfold errM; rw [if_neg (by simpa using hl)]
  refine ⟨e8, ?_, ?_⟩
  all_goals dsimp only
  · split
    · exact act_cfg C
    · exact act_cfg C
  · split
    · exact Or.inr rfl
    · exact Or.inl (by rw [act_s])
theorem act_out {C : Cm} (ho : C.out = false) (hl : C.left ≠ 0) : C.act.out = false := by
  unfold Cm.act; rw [if_pos hl]; exact ho
/-- Places of a row. -/
theorem row_in {C : Cm} (ok : C.ok) {slot : Int} (h1 : 0 ≤ slot) (h2 : slot < C.cfg.slots) : ((slot * C.cfg.fuses).toNat : Int) = slot * C.cfg.fuses ∧ (C.cfg.fuses.toNat : Int) = C.cfg.fuses ∧ (slot * C.cfg.fuses).toNat + C.cfg.fuses.toNat ≤ C.s.blown.length ∧
    C.s.blown.length ≤ 576 ∧ (slot * C.cfg.fuses).toNat + C.cfg.fuses.toNat ≤ (C.cfg.slots * C.cfg.fuses).toNat ∧ C.cfg.fuses.toNat ≤ 64 := by
  have hb := ok.fits.blown
  have hf := ok.may.fuses
  have hn := ok.may.nf
  have hk := ok.may.keys
  unfold Cfg.nf at hb hn
  have e1 : 0 ≤ slot * C.cfg.fuses := Int.mul_nonneg h1 (by omega)
  have e2 : (slot + 1) * C.cfg.fuses ≤ C.cfg.slots * C.cfg.fuses := Int.mul_le_mul_of_nonneg_right (by omega) (by omega)
  rw [Int.add_mul] at e2
  omega
/-- What a Raise does to a row. -/
structure Raised (a f : Nat) (n : Int) (C D : Cm) (e : Int) : Prop where
  cfg : D.cfg = C.cfg
  len : D.s.blown.length = C.s.blown.length
  same : ∀ k, k < a ∨ a + f ≤ k → D.s.blown.getD k false = C.s.blown.getD k false
  up : ∀ k, C.s.blown.getD k false = true → D.s.blown.getD k false = true
  ge : cnt C.s.blown a f ≤ cnt D.s.blown a f
  le : (cnt D.s.blown a f : Int) ≤ max n (cnt C.s.blown a f)
  good : e = 0 → (cnt D.s.blown a f : Int) = max n (cnt C.s.blown a f)
  on : e = 0 → D.out = false
  bad : e ≠ 0 → e = 8 ∧ 0 ≤ C.left ∧ C.left < n - cnt C.s.blown a f
theorem set_up {bl : List Bool} {k j : Nat} (h : bl.getD j false = true) : (bl.set k true).getD j false = true := by
  by_cases e : k = j
  · subst e
    have hk : k < bl.length := by
      by_cases hk : k < bl.length
      · exact hk
      · rw [List.getD_eq_getElem?_getD, List.getElem?_eq_none (by omega)] at h; simp at h
    simp [List.getD, hk]
  · simp only [List.getD, List.getElem?_set_ne e] at h ⊢; exact h
theorem raised (a f : Nat) (n : Int) (hn : n ≤ f) : ∀ (m : Nat) (C : Cm), C.out = false → -1 ≤ C.left → a + f ≤ C.s.blown.length → n - cnt C.s.blown a f ≤ m → Raised a f n C (raiseL a f n m C).1 (raiseL a f n m C).2 := by
  intro m
  induction m with
  | zero =>
    intro C ho hl1 hl hm
    unfold raiseL
    exact ⟨rfl, rfl, fun _ _ => rfl, fun _ x => x, by simp, by simp; omega, fun _ => by simp; omega, fun _ => ho, fun x => absurd rfl x⟩
  | succ m ih =>
    intro C ho hl1 hl hm
    unfold raiseL
    by_cases h1 : n ≤ cnt C.s.blown a f
    · rw [if_pos h1]
      exact ⟨rfl, rfl, fun _ _ => rfl, fun _ x => x, by simp, by simp; omega, fun _ => by simp; omega, fun _ => ho, fun x => absurd rfl x⟩
    · rw [if_neg h1]
      cases e : lst C.s.blown a f with
      | none =>
        have := lst_none e
        omega
      | some k =>
        dsimp only
        obtain ⟨k1, k2, k3⟩ := lst_some e
        have hc := cnt_set (a := a) f (show k < C.s.blown.length by omega) k3
        rw [if_pos ⟨k1, k2⟩] at hc
        have far : ∀ j, j < a ∨ a + f ≤ j → (C.s.blown.set k true).getD j false = C.s.blown.getD j false := by
          intro j hj
          simp only [List.getD, List.getElem?_set_ne (show k ≠ j by omega)]
        by_cases h2 : C.left = 0
        · obtain ⟨b1, b2, b3⟩ := blow_cut ho (show k < C.s.blown.length by omega) h2
          rw [if_pos (by rw [b1]; simp)]
          rcases b3 with b3 | b3
          · exact ⟨b2, by rw [b3], fun j _ => by rw [b3], fun j x => by rw [b3]; exact x, by rw [b3]; omega, by rw [b3]; omega, fun x => by rw [b1] at x; simp at x, fun x => by rw [b1] at x; simp at x, fun _ => ⟨b1, by omega, by omega⟩⟩
          · exact ⟨b2, by rw [b3, List.length_set], fun j x => by rw [b3]; exact far j x, fun j x => by rw [b3]; exact set_up x, by rw [b3, hc]; omega, by rw [b3, hc]; omega, fun x => by rw [b1] at x; simp at x, fun x => by rw [b1] at x; simp at x, fun _ => ⟨b1, by omega, by omega⟩⟩
        · rw [blow_good ho (by omega) h2, if_neg (by simp)]
          have hact : -1 ≤ C.act.left := by unfold Cm.act; rw [if_pos h2]; dsimp only; split <;> omega
          have r := ih { C.act with s := { C.s with blown := C.s.blown.set k true } } (act_out ho h2) hact (by simpa using hl) (by dsimp only; rw [hc]; omega)
          dsimp only
          obtain ⟨X, hX⟩ : ∃ X, X = raiseL a f n m { C.act with s := { C.s with blown := C.s.blown.set k true } } := ⟨_, rfl⟩
          rw [← hX] at r ⊢
          have hl3 : 0 ≤ C.act.left → 0 ≤ C.left ∧ C.act.left = C.left - 1 := by
            unfold Cm.act; rw [if_pos h2]; dsimp only; intro x; split at x
            · rename_i h3; rw [if_pos h3]; omega
            · omega
          have r4 := r.ge; have r5 := r.le; have r6 := r.good; have r7 := r.bad
          dsimp only at r4 r5 r6 r7
          rw [hc] at r4 r5 r6 r7
          refine ⟨r.cfg.trans (act_cfg C), by have := r.len; simpa using this, fun j x => (r.same j x).trans (far j x), fun j x => r.up j (set_up x), by omega, by omega, fun x => by have := r6 x; omega, r.on, fun x => ?_⟩
          obtain ⟨x1, x2, x3⟩ := r7 x
          obtain ⟨x4, x5⟩ := hl3 x2
          exact ⟨x1, x4, by omega⟩
end Go.Proofs.Yteabcbpimjjdpaa

/- Contracts of the fuses' package. Own work. -/
set_option maxRecDepth 100000
set_option linter.unusedVariables false
namespace Go.Proofs.Yteabcbpimjjdpaa
open Go Go.Vc

section
variable {h0 h : H} {A : List Ent} {i j p r : Nat} {C : Cm}
theorem fasked_sp {Q : Int → H → Prop} (hs : Sat h0 A h) (ci : At A i (chipE p C)) (n j : Int) (k : Q (askedM C j n) h) : F_fuse_asked ⟨p, 0, none⟩ j n Q h := by
  unfold F_fuse_asked G_fuse_asked
  refine Out_sp hs ci ?_
  unfold askedM at k
  simp only [ltI_eq, leI_eq, decide_eq_true_eq]
  split
  · simpa [*] using k
  · split
    · simpa [*] using k
    · split <;> simpa [*] using k
abbrev rowS (bl : List Bool) (a : Nat) (n : Nat) : List SV := [.dv (.one (.int .i64 (cnt bl a n : Int))), .dv (.one (.int .i64 (lstI (lst bl a n)))), .dv (.one (.int .i64 (n : Int)))]
theorem lst_succ (bl : List Bool) (a n : Nat) : lst bl a (n + 1) = match lst bl a n with | some k => some k | none => if bl.getD (a + n) false = true then none else some (a + n) := rfl
theorem frow_sp {Q : Int → Int → Int → H → Prop} (hs : Sat h0 A h) (ci : At A i (chipE p C)) (ho : C.out = false) {slot : Int} (h1 : 0 ≤ slot) (h2 : slot < C.cfg.slots)
    (k : ∀ h', Sat h0 A h' → Q (cnt C.s.blown (slot * C.cfg.fuses).toNat C.cfg.fuses.toNat) (lstI (lst C.s.blown (slot * C.cfg.fuses).toNat C.cfg.fuses.toNat)) 0 h') : F_fuse_row ⟨p, 0, none⟩ slot Q h := by
  unfold F_fuse_row G_fuse_row
  refine Config_sp hs ci ?_
  intro h1' hs
  have ok := chip_ok hs ci
  obtain ⟨e1, e2, e3, e4, e5, e6⟩ := row_in ok h1 h2
  have hsl := ok.may.slots
  intro J hJ
  generalize hf : C.cfg.fuses.toNat = f at *
  generalize ha : (slot * C.cfg.fuses).toNat = a at *
  refine loop_st f (fun n (_ : Unit) => rowS C.s.blown a n) (fun _ _ h => Sat h0 A h) ?_ ?_ 0 () _ (by omega) hs
  · intro n _ h2 hn hs hk
    apply hJ
    rw [ltI_eq, if_pos (by simp; omega)]
    have ew : IntKind.i64.wrap (IntKind.i64.wrap (slot * C.cfg.fuses) + n) = ((a + n : Nat) : Int) := by
      rw [wrap_id (n := slot * C.cfg.fuses) (by omega), wrap_id (by omega)]; omega
    rw [ew]
    have eb : blownM C ((a + n : Nat) : Int) = (C.s.blown.getD (a + n) false, 0) := by
      unfold blownM; rw [askedM_in ho (by omega) (by omega), if_neg (by simp), Int.toNat_natCast]
    refine Blown_sp hs ci _ ?_
    rw [eb]
    rw [if_neg (by simp)]
    have hcl := cnt_le C.s.blown a n
    have hk := hk () _ hs
    have ls := lst_succ C.s.blown a n
    by_cases hb : C.s.blown.getD (a + n) false = true
    · rw [if_pos (by simpa using hb), wrap_succ (by omega), wrap_succ (by omega)]
      have e7 : cnt C.s.blown a (n + 1) = cnt C.s.blown a n + 1 := by rw [cnt, if_pos hb]
      have e8 : lst C.s.blown a (n + 1) = lst C.s.blown a n := by
        rw [ls]
        cases lst C.s.blown a n with
        | none => exact if_pos hb
        | some k => rfl
      simp only [rowS, e7, e8] at hk
      exact hk
    · rw [if_neg (by simpa using hb), wrap_succ (by omega)]
      have e7 : cnt C.s.blown a (n + 1) = cnt C.s.blown a n := by rw [cnt, if_neg hb]; rfl
      cases e : lst C.s.blown a n with
      | none =>
        rw [e] at ls
        dsimp only at ls
        rw [if_neg hb] at ls
        rw [ltI_eq, if_pos (by simp [lstI])]
        simp only [rowS, e7, ls, lstI] at hk
        exact hk
      | some x =>
        rw [e] at ls
        dsimp only at ls
        have e10 : ¬ (decide (lstI (some x) < 0) = true) := by
          have : (0 : Int) ≤ (x : Int) := Int.natCast_nonneg x
          rw [decide_eq_true_eq]
          exact Int.not_lt.2 this
        rw [ltI_eq, if_neg e10]
        simp only [rowS, e7, ls, lstI] at hk
        exact hk
  · intro _ h2 hs
    apply hJ
    rw [ltI_eq, if_neg (by simp; omega)]
    exact k _ hs
theorem Count_sp {Q : Int → Int → H → Prop} (hs : Sat h0 A h) (ci : At A i (chipE p C)) (slot : Int) (k : ∀ h', Sat h0 A h' → Q (countM C slot).1 (countM C slot).2 h') : F_fuse_Count ⟨p, 0, none⟩ slot Q h := by
  unfold F_fuse_Count G_fuse_Count
  refine Config_sp hs ci ?_
  intro h1 hs
  refine fasked_sp hs ci _ _ ?_
  unfold countM at k
  by_cases e : askedM C slot C.cfg.slots = 0
  · obtain ⟨ho, h1, h2⟩ := askedM_zero e
    rw [if_neg (by simpa using e)] at k ⊢
    exact frow_sp hs ci ho h1 h2 fun h' hs' => k _ hs'
  · rw [if_pos (by simpa using e)] at k ⊢
    exact k _ hs
theorem raise_loop {Q : Int → H → Prop} {slot n : Int} (a f : Nat) (n2 : n ≤ f) : ∀ (m : Nat) (C : Cm) (h : H) (A : List Ent) (ci : At A i (chipE p C)) (hs : Sat h0 A h) (ho : C.out = false) (h1 : 0 ≤ slot) (h2 : slot < C.cfg.slots) (ea : (slot * C.cfg.fuses).toNat = a) (ef : C.cfg.fuses.toNat = f) (hm : n - cnt C.s.blown a f ≤ m)
    (k : ∀ h', Sat h0 (put A i (chipE p (raiseL a f n m C).1)) h' → Q (raiseL a f n m C).2 h') (J : List SV → H → Prop)
    (hJ : ∀ h, F_fuse_row ⟨p, 0, none⟩ slot (fun x y e h => if (e != 0) = true then Q e h else if leI n x = true then Q e h else F_chip_Chip_Blow ⟨p, 0, none⟩ y (fun e h => if (e != 0) = true then Q e h else J [] h) h) h → J [] h), J [] h := by
  intro m
  induction m with
  | zero =>
    intro C h A ci hs ho h1 h2 ea ef hm k J hJ
    apply hJ
    refine frow_sp hs ci ho h1 h2 ?_
    intro h3 hs
    rw [ea, ef]
    rw [if_neg (by simp), leI_eq, if_pos (by simp; omega)]
    exact k _ (by unfold raiseL; rw [ci.put_self]; exact hs)
  | succ m ih =>
    intro C h A ci hs ho h1 h2 ea ef hm k J hJ
    have ok := chip_ok hs ci
    obtain ⟨e1, e2, e3, e4, e5, e6⟩ := row_in ok h1 h2
    apply hJ
    refine frow_sp hs ci ho h1 h2 ?_
    intro h3 hs
    rw [ea, ef]
    rw [ea, ef] at e3
    rw [ea] at e1
    rw [ef] at e2
    unfold raiseL at k
    by_cases hn : n ≤ cnt C.s.blown a f
    · rw [if_pos hn] at k
      rw [if_neg (by simp), leI_eq, if_pos (by simpa using hn)]
      exact k _ (by rw [ci.put_self]; exact hs)
    · rw [if_neg hn] at k
      rw [if_neg (by simp), leI_eq, if_neg (by simpa using hn)]
      cases e : lst C.s.blown a f with
      | none => have := lst_none e; omega
      | some x =>
        rw [e] at k
        dsimp only at k
        obtain ⟨k1, k2, k3⟩ := lst_some e
        refine Blow_sp hs ci _ ?_
        intro h4 hs
        dsimp only [lstI]
        dsimp only [lstI] at hs
        by_cases hl : C.left = 0
        · obtain ⟨b1, b2, b3⟩ := blow_cut ho (show x < C.s.blown.length by omega) hl
          rw [if_pos (by rw [b1]; simp)] at k ⊢
          exact k _ hs
        · rw [blow_good ho (show x < C.s.blown.length by omega) hl] at k hs ⊢
          dsimp only at k hs ⊢
          rw [if_neg (by simp)] at k ⊢
          have hc := cnt_set (a := a) f (show x < C.s.blown.length by omega) k3
          rw [if_pos ⟨k1, k2⟩] at hc
          refine ih _ _ _ (ci.put _) hs (act_out ho hl) h1 (by dsimp only; rw [act_cfg]; exact h2) (by dsimp only; rw [act_cfg]; exact ea) (by dsimp only; rw [act_cfg]; exact ef) (by dsimp only; rw [hc]; omega) ?_ J hJ
          intro h5 hs
          rw [put_put] at hs
          exact k _ hs
theorem Raise_sp {Q : Int → H → Prop} (hs : Sat h0 A h) (ci : At A i (chipE p C)) (slot n : Int) (k : ∀ h', Sat h0 (put A i (chipE p (raiseM C slot n).1)) h' → Q (raiseM C slot n).2 h') : F_fuse_Raise ⟨p, 0, none⟩ slot n Q h := by
  unfold F_fuse_Raise G_fuse_Raise
  refine Config_sp hs ci ?_
  intro h1 hs
  refine fasked_sp hs ci _ _ ?_
  unfold raiseM at k
  by_cases e : askedM C slot C.cfg.slots = 0
  case neg =>
    rw [if_pos (by simpa using e)] at k ⊢
    exact k _ (by rw [ci.put_self]; exact hs)
  obtain ⟨ho, h1, h2⟩ := askedM_zero e
  rw [if_neg (by simpa using e)] at k ⊢
  intro J hJ
  by_cases hn : n < 0
  · rw [if_pos hn] at k
    rw [ltI_eq, if_pos (by simpa using hn)]
    exact k _ (by rw [ci.put_self]; exact hs)
  rw [if_neg hn] at k
  rw [ltI_eq, if_neg (by simpa using hn)]
  refine Config_sp hs ci ?_
  intro h3 hs
  by_cases hf : C.cfg.fuses < n
  · rw [if_pos hf] at k
    rw [ltI_eq, if_pos (by simpa using hf)]
    exact k _ (by rw [ci.put_self]; exact hs)
  rw [if_neg hf] at k
  rw [ltI_eq, if_neg (by simpa using hf)]
  apply hJ
  intro J2 hJ2
  exact raise_loop _ _ (by omega) _ C h3 A ci hs ho h1 h2 rfl rfl (by omega) k J2 hJ2
theorem key_in (ok : C.ok) {key : Int} (h1 : 0 ≤ key) (h2 : key < C.cfg.keys) : IntKind.i64.wrap (IntKind.i64.wrap (C.cfg.slots * C.cfg.fuses) + key) = C.cfg.slots * C.cfg.fuses + key ∧ 0 ≤ C.cfg.slots * C.cfg.fuses + key ∧ C.cfg.slots * C.cfg.fuses + key < C.s.blown.length := by
  have hb := ok.fits.blown
  have hn := ok.may.nf
  have hk := ok.may.keys
  have hf := ok.may.fuses
  have hsl := ok.may.slots
  unfold Cfg.nf at hb hn
  have e1 : 0 ≤ C.cfg.slots * C.cfg.fuses := Int.mul_nonneg (by omega) (by omega)
  refine ⟨?_, by omega, by omega⟩
  rw [wrap_id (n := C.cfg.slots * C.cfg.fuses) (by omega), wrap_id (by omega)]
theorem of_sp {Q : Int → H → Prop} (hs : Sat h0 A h) (ci : At A i (chipE p C)) (key : Int) (h1 : 0 ≤ key) (h2 : key < C.cfg.keys) (k : ∀ h', Sat h0 A h' → Q (C.cfg.slots * C.cfg.fuses + key) h') : F_fuse_of ⟨p, 0, none⟩ key Q h := by
  unfold F_fuse_of G_fuse_of
  refine Config_sp hs ci ?_
  intro h3 hs
  refine Config_sp hs ci ?_
  intro h4 hs
  rw [(key_in (chip_ok hs ci) h1 h2).1]
  exact k _ hs
theorem Revoked_sp {Q : Bool → Int → H → Prop} (hs : Sat h0 A h) (ci : At A i (chipE p C)) (key : Int) (k : ∀ h', Sat h0 A h' → Q (revokedM C key).1 (revokedM C key).2 h') : F_fuse_Revoked ⟨p, 0, none⟩ key Q h := by
  unfold F_fuse_Revoked G_fuse_Revoked
  refine Config_sp hs ci ?_
  intro h1 hs
  refine fasked_sp hs ci _ _ ?_
  unfold revokedM at k
  by_cases e : askedM C key C.cfg.keys = 0
  case neg =>
    rw [if_pos (by simpa using e)] at k ⊢
    exact k _ hs
  obtain ⟨ho, h1, h2⟩ := askedM_zero e
  rw [if_neg (by simpa using e)] at k ⊢
  refine of_sp hs ci key h1 h2 ?_
  intro h3 hs
  obtain ⟨x1, x2, x3⟩ := key_in (chip_ok hs ci) h1 h2
  refine Blown_sp hs ci _ ?_
  have eb : blownM C (C.cfg.slots * C.cfg.fuses + key) = (C.s.blown.getD (C.cfg.slots * C.cfg.fuses + key).toNat false, 0) := by
    unfold blownM; rw [askedM_in ho x2 x3, if_neg (by simp)]
  rw [eb]
  exact k _ hs
theorem revoked_ok {key : Int} (e : (revokedM C key).2 = 0) : 0 ≤ key ∧ key < C.cfg.keys := by
  unfold revokedM at e
  split at e
  · rename_i h1; exact absurd e h1
  · rename_i h1
    obtain ⟨_, h2, h3⟩ := askedM_zero (show askedM C key C.cfg.keys = 0 by simpa using h1)
    exact ⟨h2, h3⟩
theorem Revoke_sp {Q : Int → H → Prop} (hs : Sat h0 A h) (ci : At A i (chipE p C)) (key : Int) (k : ∀ h', Sat h0 (put A i (chipE p (revokeM C key).1)) h' → Q (revokeM C key).2 h') : F_fuse_Revoke ⟨p, 0, none⟩ key Q h := by
  unfold F_fuse_Revoke G_fuse_Revoke
  refine Revoked_sp hs ci key ?_
  intro h1 hs
  unfold revokeM at k
  by_cases e : (revokedM C key).2 = 0
  case neg =>
    rw [if_pos (by simpa using e)] at k ⊢
    exact k _ (by rw [ci.put_self]; exact hs)
  obtain ⟨h1, h2⟩ := revoked_ok e
  rw [if_neg (by simpa using e)] at k ⊢
  by_cases e2 : (revokedM C key).1 = true
  · rw [if_pos e2] at k ⊢
    exact k _ (by rw [ci.put_self]; exact hs)
  rw [if_neg e2] at k ⊢
  refine of_sp hs ci key h1 h2 ?_
  intro h3 hs
  exact Blow_sp hs ci _ fun h' hs' => k _ hs'
end
end Go.Proofs.Yteabcbpimjjdpaa

/- Contracts of the document's fuses. Own work. -/
set_option maxRecDepth 100000
set_option linter.unusedVariables false
namespace Go.Proofs.Yteabcbpimjjdpaa
open Go Go.Vc

section
variable {h0 h : H} {A : List Ent} {i j p r : Nat} {C : Cm}
end
end Go.Proofs.Yteabcbpimjjdpaa
end

/- Contracts of the fuses' statements: FuseDoes. Own work. -/
section
set_option maxRecDepth 100000
set_option linter.unusedVariables false
namespace Go.Proofs.Yteabcbpimjjdpaa
open Go Go.Vc

section
variable {h0 h : H} {A : List Ent} {i j p r : Nat} {C : Cm}
structure Stp7 where
  kind : Int
  a : Int
  n : Int
structure Stp7.ok (s : Stp7) : Prop where
  n : s.n < 2 ^ 63
/-- How a script lies in memory. -/
structure Script7 (h : H) (p : Option Addr) (l : Nat) (sc : List Stp7) : Prop where
  len : sc.length = l
  small : l < 2 ^ 62
  el : ∀ i (hi : i < sc.length), ∃ (q : Addr), p = some q ∧ hc h (q.add (i * 3)) = some (.int .i64 sc[i].kind) ∧ hc h ((q.add (i * 3)).add 1) = some (.int .i64 sc[i].a) ∧
    hc h ((q.add (i * 3)).add 2) = some (.int .i64 sc[i].n) ∧ sc[i].ok
end
end Go.Proofs.Yteabcbpimjjdpaa
end
