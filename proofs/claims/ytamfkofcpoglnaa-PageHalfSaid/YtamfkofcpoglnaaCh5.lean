/- Contracts of the chip's methods that lay nothing into pages. Own work. -/
import Derived.Test.YtamfkofcpoglnaaFa0
import Derived.Test.YtamfkofcpoglnaaFa1
import Derived.Test.YtamfkofcpoglnaaFa3
import Derived.Test.YtamfkofcpoglnaaFa4
import Derived.Test.YtamfkofcpoglnaaCh4
import Derived.Test.YtamfkofcpoglnaaFa2
set_option autoImplicit false
set_option linter.all false
set_option linter.unusedVariables false
namespace Go.Proofs.Ytamfkofcpoglnaa
open Go Go.Vc

def askedM (C : Cm) (i n : Int) : Int := if C.out = true then 8 else if i < 0 then 2 else if n ≤ i then 2 else 0
def asksCellM (C : Cm) (page cell : Int) : Int := if askedM C page C.s.pages.length ≠ 0 then askedM C page C.s.pages.length else askedM C cell C.cfg.cells
def w64 (n : Int) : Int := IntKind.i64.wrap n
def Cm.act (C : Cm) : Cm :=
  if C.left ≠ 0 then { C with acts := w64 (C.acts + 1), left := if C.left - 1 > -1 then C.left - 1 else -1 }
  else { C with acts := w64 (C.acts + 1), out := true, left := -1, mask := [] }
/-- Which bits of each byte an act may change. -/
def maskAt (C : Cm) (i : Nat) : Int := if C.left ≠ 0 then 255 else if C.mask = [] then 0 else C.mask.getD (i % C.mask.length) 0
def errM (C : Cm) : Int := if C.left ≠ 0 then 0 else 8

theorem w64_range (n : Int) : -(2 ^ 63) ≤ w64 n ∧ w64 n < 2 ^ 63 := by unfold w64; rw [IntKind.wrap_i64]; omega
theorem Cm.ok.act {C : Cm} (k : C.ok) : C.act.ok := by
  have r := w64_range (C.acts + 1)
  have := k.left
  unfold Cm.act
  split
  · exact ⟨k.may, k.fits, k.typed, by dsimp only; split <;> omega, by have := k.left2; dsimp only; split <;> omega, k.mask, r, k.mlen⟩
  · exact ⟨k.may, k.fits, k.typed, by dsimp only; omega, by dsimp only; omega, by intro n hn; simp at hn, r, by simp⟩

theorem chip_close {h0 h : H} {A : List Ent} {i p : Nat} {C C0 : Cm} {a b c m : Sl} (ok : C.ok) (ci : At A i (chipE p C0))
    (hs : Sat h0 (blk p (C.cells a b c m) :: matE 32 a C.s.pages :: sE b 1 (ints .i64 C.s.erases) :: sE c 1 (bools C.s.blown) :: sE m 1 (ints .u8 C.mask) :: del A i) h) : Sat h0 (put A i (chipE p C)) h :=
  Sat.back ci (Sat.close ⟨a, b, c, m⟩ ok hs)
section
variable {h0 h : H} {A : List Ent} {i p : Nat} {C : Cm}
theorem Acts_sp {Q : Int → H → Prop} (hs : Sat h0 A h) (ci : At A i (chipE p C)) (k : Q C.acts h) : F_chip_Chip_Acts ⟨p, 0, none⟩ Q h := by
  unfold F_chip_Chip_Acts G_chip_Chip_Acts
  obtain ⟨w, ok, hs⟩ := (hs.front ci).open_; dsimp only [chipL, List.cons_append, List.nil_append, Cm.cells] at hs
  exact ⟨_, hs.ld .z rfl, k⟩
theorem Out_sp {Q : Bool → H → Prop} (hs : Sat h0 A h) (ci : At A i (chipE p C)) (k : Q C.out h) : F_chip_Chip_Out ⟨p, 0, none⟩ Q h := by
  unfold F_chip_Chip_Out G_chip_Chip_Out
  obtain ⟨w, ok, hs⟩ := (hs.front ci).open_; dsimp only [chipL, List.cons_append, List.nil_append, Cm.cells] at hs
  exact ⟨_, hs.ld .z rfl, k⟩
theorem Restore_sp {Q : H → Prop} (hs : Sat h0 A h) (ci : At A i (chipE p C)) (k : ∀ h', Sat h0 (put A i (chipE p { C with out := false })) h' → Q h') : F_chip_Chip_Restore ⟨p, 0, none⟩ Q h := by
  unfold F_chip_Chip_Restore G_chip_Chip_Restore
  obtain ⟨w, ok, hs⟩ := (hs.front ci).open_; dsimp only [chipL, List.cons_append, List.nil_append, Cm.cells] at hs
  simp only [add_mk, Nat.zero_add]
  (refine ⟨Sat.can hs (by (repeat (first | exact At.z | apply At.s))) (by simp), ?_⟩; intro _ e; replace hs := Sat.wr hs (by (repeat (first | exact At.z | apply At.s))) e; clear e; simp only [put, splice, List.set] at hs)
  exact k _ (chip_close ⟨ok.may, ok.fits, ok.typed, ok.left, ok.left2, ok.mask, ok.acts, ok.mlen⟩ ci hs)
theorem Config_sp {Q : Int → Int → Int → Int → Int → Int → Int → H → Prop} (hs : Sat h0 A h) (ci : At A i (chipE p C))
    (k : ∀ h', Sat h0 A h' → Q C.cfg.cells C.cfg.slots C.cfg.fuses C.cfg.step C.cfg.keys C.cfg.erases C.cfg.area h') : F_chip_Chip_Config ⟨p, 0, none⟩ Q h := by
  unfold F_chip_Chip_Config G_chip_Chip_Config
  obtain ⟨w, ok, hs⟩ := (hs.front ci).open_; dsimp only [chipL, List.cons_append, List.nil_append, Cm.cells] at hs
  simp only [add_mk, Nat.zero_add]
  (repeat first | refine ⟨_, Sat.ld hs (by (repeat (first | exact At.z | apply At.s))) (by rfl), ?_⟩ | refine ⟨_, _, _, Sat.ld hs (by (repeat (first | exact At.z | apply At.s))) (by rfl), ?_⟩ | (intro _ _ hn; replace hs := Sat.new hs hn; clear hn) | refine ⟨Sat.cs hs (by (repeat (first | exact At.z | apply At.s))) (by rfl), ?_⟩ | (refine ⟨Sat.can hs (by (repeat (first | exact At.z | apply At.s))) (by simp), ?_⟩; intro _ e; replace hs := Sat.wr hs (by (repeat (first | exact At.z | apply At.s))) e; clear e; simp only [put, splice, List.set] at hs))
  refine k _ ?_
  have := chip_close ok ci hs.drop
  rwa [ci.put_self] at this
theorem asked_b {Q : Int → H → Prop} (hs : Sat h0 A h) {a b c m : Sl} (ci : At A i (blk p (C.cells a b c m))) (n j : Int) (k : Q (askedM C j n) h) : F_chip_Chip_asked ⟨p, 0, none⟩ j n Q h := by
  unfold F_chip_Chip_asked G_chip_Chip_asked
  refine ⟨_, hs.ld ci rfl, ?_⟩
  unfold askedM at k
  simp only [ltI_eq, leI_eq, decide_eq_true_eq]
  split
  · simpa [*] using k
  · split
    · simpa [*] using k
    · split <;> simpa [*] using k
theorem asked_sp {Q : Int → H → Prop} (hs : Sat h0 A h) (ci : At A i (chipE p C)) (n j : Int) (k : Q (askedM C j n) h) : F_chip_Chip_asked ⟨p, 0, none⟩ j n Q h := by
  obtain ⟨w, ok, hs⟩ := (hs.front ci).open_; dsimp only [chipL, List.cons_append, List.nil_append, Cm.cells] at hs
  exact asked_b (C := C) hs .z n j k
theorem asksCell_sp {Q : Int → H → Prop} (hs : Sat h0 A h) (ci : At A i (chipE p C)) (page cell : Int) (k : Q (asksCellM C page cell) h) : F_chip_Chip_asksCell ⟨p, 0, none⟩ page cell Q h := by
  unfold F_chip_Chip_asksCell G_chip_Chip_asksCell
  obtain ⟨w, ok, hs⟩ := (hs.front ci).open_; dsimp only [chipL, List.cons_append, List.nil_append, Cm.cells] at hs
  have hl := (hs.rdM (.s .z)).len
  refine ⟨_, _, _, hs.ld .z rfl, ?_⟩
  unfold asksCellM at k
  rw [hl] at k
  refine asked_b (C := C) hs .z _ _ ?_
  split
  · rename_i h1; rw [if_pos (by simpa using h1)] at k; exact k
  · rename_i h1; rw [if_neg (by simpa using h1)] at k
    refine ⟨_, hs.ld .z rfl, asked_b (C := C) hs .z _ _ k⟩

def mayV (v : Value) (f : Nat → Int) : Option (Nat × Sl × List Int) → Prop
  | none => v = .func (.func id_chip_Chip_begins_1) #[] #[] ∧ f = fun _ => 255
  | some (b, _, mask) => v = .func (.func id_chip_Chip_begins_2) #[] #[.pointer (some ⟨b, 0, none⟩)] ∧ f = fun i => if mask = [] then 0 else mask.getD (i % mask.length) 0
def mayL : Option (Nat × Sl × List Int) → List Ent
  | none => []
  | some (b, m, mask) => [blk b [m.v], sE m 1 (ints .u8 mask)]
def mayE (v : Value) (f : Nat → Int) : Ent := exE 3 (mayV v f) mayL
theorem begins_sp {Q : Value → Int → H → Prop} (hs : Sat h0 A h) (ci : At A i (chipE p C))
    (k : ∀ v h', Sat h0 (mayE v (maskAt C) :: put A i (chipE p C.act)) h' → Q v (errM C) h') : F_chip_Chip_begins ⟨p, 0, none⟩ Q h := by
  unfold F_chip_Chip_begins G_chip_Chip_begins
  obtain ⟨w, ok, hs⟩ := (hs.front ci).open_; dsimp only [chipL, List.cons_append, List.nil_append, Cm.cells] at hs
  simp only [add_mk, Nat.zero_add]
  (repeat first | refine ⟨_, Sat.ld hs (by (repeat (first | exact At.z | apply At.s))) (by rfl), ?_⟩ | refine ⟨_, _, _, Sat.ld hs (by (repeat (first | exact At.z | apply At.s))) (by rfl), ?_⟩ | (intro _ _ hn; replace hs := Sat.new hs hn; clear hn) | refine ⟨Sat.cs hs (by (repeat (first | exact At.z | apply At.s))) (by rfl), ?_⟩ | (refine ⟨Sat.can hs (by (repeat (first | exact At.z | apply At.s))) (by simp), ?_⟩; intro _ e; replace hs := Sat.wr hs (by (repeat (first | exact At.z | apply At.s))) e; clear e; simp only [put, splice, List.set] at hs))
  have hl := ok.left
  have ha := ok.act
  by_cases h1 : C.left = 0
  · rw [if_neg (by simp [h1])]
    (repeat first | refine ⟨_, Sat.ld hs (by (repeat (first | exact At.z | apply At.s))) (by rfl), ?_⟩ | refine ⟨_, _, _, Sat.ld hs (by (repeat (first | exact At.z | apply At.s))) (by rfl), ?_⟩ | (intro _ _ hn; replace hs := Sat.new hs hn; clear hn) | refine ⟨Sat.cs hs (by (repeat (first | exact At.z | apply At.s))) (by rfl), ?_⟩ | (refine ⟨Sat.can hs (by (repeat (first | exact At.z | apply At.s))) (by simp), ?_⟩; intro _ e; replace hs := Sat.wr hs (by (repeat (first | exact At.z | apply At.s))) e; clear e; simp only [put, splice, List.set] at hs))
    have e : errM C = 8 := by simp [errM, h1]
    rw [e] at k
    have em : maskAt C = fun i => if C.mask = [] then 0 else C.mask.getD (i % C.mask.length) 0 := by funext i; simp [maskAt, h1]
    have ea : C.act = { C with acts := w64 (C.acts + 1), out := true, left := -1, mask := [] } := by simp [Cm.act, h1]
    rw [em] at k
    rw [ea] at k ha
    refine k _ _ ?_
    replace hs := Sat.front hs (e := slE _ _ _ 1 (ints .u8 C.mask)) (by (repeat (first | exact At.z | apply At.s)))
    replace hs := Sat.front hs (e := blk _ [w.m.v]) (by (repeat (first | exact At.z | apply At.s)))
    replace hs := hs.sl_nil 1 none
    replace hs := Sat.front hs (e := slE _ _ _ 1 (ints .u8 [])) (by (repeat (first | exact At.z | apply At.s))); replace hs := Sat.front hs (e := slE _ _ _ 1 (bools _)) (by (repeat (first | exact At.z | apply At.s))); replace hs := Sat.front hs (e := slE _ _ _ 1 (ints .i64 _)) (by (repeat (first | exact At.z | apply At.s))); replace hs := Sat.front hs (e := matE 32 _ _) (by (repeat (first | exact At.z | apply At.s))); replace hs := Sat.front hs (e := blk p _) (by (repeat (first | exact At.z | apply At.s))); simp only [del] at hs
    exact Sat.close (some (_, w.m, C.mask)) ⟨rfl, rfl⟩ (chip_close (a := w.a) (b := w.b) (c := w.c) (m := (none, 0, 0)) ha ci.s.s hs)
  · rw [if_pos (by simp [h1])]
    (repeat first | refine ⟨_, Sat.ld hs (by (repeat (first | exact At.z | apply At.s))) (by rfl), ?_⟩ | refine ⟨_, _, _, Sat.ld hs (by (repeat (first | exact At.z | apply At.s))) (by rfl), ?_⟩ | (intro _ _ hn; replace hs := Sat.new hs hn; clear hn) | refine ⟨Sat.cs hs (by (repeat (first | exact At.z | apply At.s))) (by rfl), ?_⟩ | (refine ⟨Sat.can hs (by (repeat (first | exact At.z | apply At.s))) (by simp), ?_⟩; intro _ e; replace hs := Sat.wr hs (by (repeat (first | exact At.z | apply At.s))) e; clear e; simp only [put, splice, List.set] at hs))
    have e : errM C = 0 := by simp [errM, h1]
    rw [e] at k
    have em : maskAt C = fun i => 255 := by funext i; simp [maskAt, h1]
    have hw : IntKind.i64.wrap (C.left - 1) = C.left - 1 := by
      have := ok.left2
      rw [IntKind.wrap_i64]; omega
    have ea : C.act = { C with acts := w64 (C.acts + 1), left := if C.left - 1 > -1 then C.left - 1 else -1 } := by simp [Cm.act, h1]
    rw [em] at k
    rw [ea] at k ha
    rw [hw] at hs
    refine k _ _ ?_
    exact Sat.close none ⟨rfl, rfl⟩ (chip_close ha ci hs)
theorem call_may {v : Value} {f : Nat → Int} {Q : List DV → H → Prop} (hs : Sat h0 A h) (mm : At A i (mayE v f)) (n : Nat) {x : Int} (hx : x = n) (k : Q [DV.one (.int .u8 (f n))] h) : callFn PP v [DV.one (.int .i64 x)] Q h := by
  obtain ⟨w, e, hs⟩ := (hs.front mm).open_
  subst hx
  cases w with
  | none =>
    obtain ⟨rfl, rfl⟩ := e
    refine callFn_of R_chip_Chip_begins_1 (by simp) (by simp) (by simp [DV.ok]) ?_
    show F_chip_Chip_begins_1 (n : Int) (fun i h => Q [DV.one (.int .u8 i)] h) h
    unfold F_chip_Chip_begins_1 G_chip_Chip_begins_1
    exact k
  | some w =>
    obtain ⟨b, m, mask⟩ := w
    obtain ⟨rfl, rfl⟩ := e
    refine callFn_of R_chip_Chip_begins_2 (by simp) (by simp) (by simp [DV.ok]) ?_
    show F_chip_Chip_begins_2 (n : Int) ⟨b, 0, none⟩ (fun i h => Q [DV.one (.int .u8 i)] h) h
    unfold F_chip_Chip_begins_2 G_chip_Chip_begins_2
    replace hs : Sat h0 (blk b [m.v] :: sE m 1 (ints .u8 mask) :: del A i) h := hs
    dsimp only at k ⊢
    have hl := hs.sl_len (.s .z)
    simp only [ints_length, Nat.mul_one] at hl
    refine ⟨_, _, _, hs.ld .z rfl, ?_⟩
    by_cases h1 : mask = []
    · rw [if_pos h1] at k
      subst h1
      rw [if_pos (by simp at hl; simp [← hl])]
      exact k
    · rw [if_neg h1] at k
      have hp : 0 < mask.length := List.length_pos_iff.2 h1
      rw [if_neg (by simp; omega)]
      refine ⟨_, _, _, hs.ld .z rfl, ?_⟩
      refine ⟨_, _, _, hs.ld .z rfl, ?_⟩
      obtain ⟨q, hq⟩ := hs.sl_some (.s .z) (by omega)
      obtain ⟨mp, ml, mc⟩ := m
      simp only at hq hl
      subst hq
      have e : (n : Int).tmod (ml : Int) = ((n % ml : Nat) : Int) := by rw [Int.tmod_eq_emod_of_nonneg (by omega)]; omega
      rw [hl] at k
      have hlt : n % ml < ml := Nat.mod_lt _ (by omega)
      refine ⟨by dsimp only; omega, _, rfl, by dsimp only; rw [e]; omega, by dsimp only; rw [e]; omega, _, ?_, k⟩
      dsimp only
      rw [e]
      simp only [add_mk, Nat.zero_add, Int.toNat_natCast, Nat.mul_one]
      refine hs.sld (.s .z) ?_
      rw [ints_get, List.getElem?_eq_getElem (by omega)]
      simp [List.getD, List.getElem?_eq_getElem (show n % ml < mask.length by omega)]

theorem askedM_zero {i n : Int} (e : askedM C i n = 0) : C.out = false ∧ 0 ≤ i ∧ i < n := by
  unfold askedM at e
  split at e
  · omega
  · rename_i h1
    split at e
    · omega
    · split at e
      · omega
      · exact ⟨by simpa using h1, by omega, by omega⟩
def blownM (C : Cm) (i : Int) : Bool × Int := if askedM C i C.s.blown.length ≠ 0 then (false, askedM C i C.s.blown.length) else (C.s.blown.getD i.toNat false, 0)
def erasesM (C : Cm) (i : Int) : Int × Int := if askedM C i C.s.pages.length ≠ 0 then (0, askedM C i C.s.pages.length) else (C.s.erases.getD i.toNat 0, 0)
theorem Blown_sp {Q : Bool → Int → H → Prop} (hs : Sat h0 A h) (ci : At A i (chipE p C)) (j : Int) (k : Q (blownM C j).1 (blownM C j).2 h) : F_chip_Chip_Blown ⟨p, 0, none⟩ j Q h := by
  unfold F_chip_Chip_Blown G_chip_Chip_Blown
  have hs' := hs
  obtain ⟨w, ok, hs⟩ := (hs.front ci).open_; dsimp only [chipL, List.cons_append, List.nil_append, Cm.cells] at hs
  simp only [add_mk, Nat.zero_add]
  have hl := hs.sl_len (i := 3) (.s (.s (.s .z)))
  simp only [bools_length, Nat.mul_one] at hl
  refine ⟨_, _, _, hs.ld .z rfl, ?_⟩
  rw [← hl]
  refine asked_sp hs' ci _ _ ?_
  unfold blownM at k
  by_cases h1 : askedM C j C.s.blown.length = 0
  · rw [if_neg (by simpa using h1)]
    rw [if_neg (by simpa using h1)] at k
    obtain ⟨_, h2, h3⟩ := askedM_zero h1
    refine ⟨_, _, _, hs.ld .z rfl, ?_⟩
    obtain ⟨q, hq⟩ := hs.sl_some (i := 3) (.s (.s (.s .z))) (by omega)
    obtain ⟨w1, w2, ⟨cp, cl, cc⟩, w4⟩ := w
    simp only at hq hl
    subst hq
    refine ⟨_, rfl, h2, by simp only; omega, _, ?_, k⟩
    simp only [add_mk, Nat.zero_add, Nat.mul_one]
    refine hs.sld (i := 3) (.s (.s (.s .z))) ?_
    rw [bools_get, List.getElem?_eq_getElem (by omega)]
    simp [List.getD, List.getElem?_eq_getElem (show j.toNat < C.s.blown.length by omega)]
  · rw [if_pos (by simpa using h1)]
    rw [if_pos (by simpa using h1)] at k
    exact k
theorem Erases_sp {Q : Int → Int → H → Prop} (hs : Sat h0 A h) (ci : At A i (chipE p C)) (j : Int) (k : Q (erasesM C j).1 (erasesM C j).2 h) : F_chip_Chip_Erases ⟨p, 0, none⟩ j Q h := by
  unfold F_chip_Chip_Erases G_chip_Chip_Erases
  have hs' := hs
  obtain ⟨w, ok, hs⟩ := (hs.front ci).open_; dsimp only [chipL, List.cons_append, List.nil_append, Cm.cells] at hs
  simp only [add_mk, Nat.zero_add]
  have hl := hs.sl_len (i := 2) (.s (.s .z))
  simp only [ints_length, Nat.mul_one] at hl
  have hl1 := (hs.rdM (.s .z)).len
  have hf := ok.fits
  have hnp := hf.pages
  have hne := hf.erases
  refine ⟨_, _, _, hs.ld .z rfl, ?_⟩
  rw [← hl1]
  refine asked_sp hs' ci _ _ ?_
  unfold erasesM at k
  by_cases h1 : askedM C j C.s.pages.length = 0
  · rw [if_neg (by simpa using h1)]
    rw [if_neg (by simpa using h1)] at k
    obtain ⟨_, h2, h3⟩ := askedM_zero h1
    refine ⟨_, _, _, hs.ld .z rfl, ?_⟩
    obtain ⟨q, hq⟩ := hs.sl_some (i := 2) (.s (.s .z)) (by omega)
    obtain ⟨w1, ⟨cp, cl, cc⟩, w2, w4⟩ := w
    simp only at hq hl
    subst hq
    refine ⟨_, rfl, h2, by simp only; omega, _, ?_, k⟩
    simp only [add_mk, Nat.zero_add, Nat.mul_one]
    refine hs.sld (i := 2) (.s (.s .z)) ?_
    rw [ints_get, List.getElem?_eq_getElem (by omega)]
    simp [List.getD, List.getElem?_eq_getElem (show j.toNat < C.s.erases.length by omega)]
  · rw [if_pos (by simpa using h1)]
    rw [if_pos (by simpa using h1)] at k
    exact k
def cutM (C : Cm) (n : Int) (mask : List Int) : Cm := { C with left := if n > -1 then n else -1, mask := mask }
theorem Cut_sp {Q : H → Prop} {q : Option Addr} {l c : Nat} {bs : List Int} (hs : Sat h0 A h) (ci : At A i (chipE p C)) (n : Int) (hn : n < 2 ^ 63) (rd : hsv h q 1 l (ints .u8 bs)) (hb : bytesOk bs) (hl : l * 1 ≤ 2 ^ 47)
    (k : ∀ h', Sat h0 (put A i (chipE p (cutM C n bs))) h' → Q h') : F_chip_Chip_Cut ⟨p, 0, none⟩ n q l c Q h := by
  unfold F_chip_Chip_Cut G_chip_Chip_Cut
  obtain ⟨w, ok, hs⟩ := (hs.front ci).open_; dsimp only [chipL, List.cons_append, List.nil_append, Cm.cells] at hs
  simp only [add_mk, Nat.zero_add]
  refine Clone_bytes_spec q l c _ _ h rd hl ?_
  intro p' c' h' bs' x o nb
  replace hs := hs.own x o nb
  (repeat first | refine ⟨_, Sat.ld hs (by (repeat (first | exact At.z | apply At.s))) (by rfl), ?_⟩ | refine ⟨_, _, _, Sat.ld hs (by (repeat (first | exact At.z | apply At.s))) (by rfl), ?_⟩ | (intro _ _ hn; replace hs := Sat.new hs hn; clear hn) | refine ⟨Sat.cs hs (by (repeat (first | exact At.z | apply At.s))) (by rfl), ?_⟩ | (refine ⟨Sat.can hs (by (repeat (first | exact At.z | apply At.s))) (by simp), ?_⟩; intro _ e; replace hs := Sat.wr hs (by (repeat (first | exact At.z | apply At.s))) e; clear e; simp only [put, splice, List.set] at hs))
  refine k _ ?_
  have okc : (cutM C n bs).ok := ⟨ok.may, ok.fits, ok.typed, by simp only [cutM]; split <;> omega, by simp only [cutM]; split <;> omega, hb, ok.acts, by have := rd.1; simp at this; simp only [cutM]; omega⟩
  replace hs := Sat.front hs (e := slE _ _ _ 1 (ints .u8 bs)) (by (repeat (first | exact At.z | apply At.s))); replace hs := Sat.front hs (e := slE _ _ _ 1 (bools _)) (by (repeat (first | exact At.z | apply At.s))); replace hs := Sat.front hs (e := slE _ _ _ 1 (ints .i64 _)) (by (repeat (first | exact At.z | apply At.s))); replace hs := Sat.front hs (e := matE 32 _ _) (by (repeat (first | exact At.z | apply At.s))); replace hs := Sat.front hs (e := blk p _) (by (repeat (first | exact At.z | apply At.s))); simp only [del] at hs
  exact (chip_close (C := cutM C n bs) (a := w.a) (b := w.b) (c := w.c) (m := (p', l, c')) okc ci.s hs).drop
def blowM (C : Cm) (i : Int) : Cm × Int :=
  if askedM C i C.s.blown.length ≠ 0 then (C, askedM C i C.s.blown.length)
  else (if bits .and .u8 (maskAt C 0) 1 = 1 then { C.act with s := { C.s with blown := C.s.blown.set i.toNat true } } else C.act, errM C)
theorem Blow_sp {Q : Int → H → Prop} (hs : Sat h0 A h) (ci : At A i (chipE p C)) (j : Int) (k : ∀ h', Sat h0 (put A i (chipE p (blowM C j).1)) h' → Q (blowM C j).2 h') : F_chip_Chip_Blow ⟨p, 0, none⟩ j Q h := by
  unfold F_chip_Chip_Blow G_chip_Chip_Blow
  have hs' := hs
  obtain ⟨w, ok, hs⟩ := (hs.front ci).open_; dsimp only [chipL, List.cons_append, List.nil_append, Cm.cells] at hs
  simp only [add_mk, Nat.zero_add]
  have hl := hs.sl_len (i := 3) (.s (.s (.s .z)))
  simp only [bools_length, Nat.mul_one] at hl
  refine ⟨_, _, _, hs.ld .z rfl, ?_⟩
  rw [← hl]
  refine asked_sp hs' ci _ _ ?_
  unfold blowM at k
  by_cases h1 : askedM C j C.s.blown.length = 0
  case neg =>
    rw [if_pos (by simpa using h1)]
    rw [if_pos (by simpa using h1)] at k
    exact k _ (ci.put_self.symm ▸ hs')
  rw [if_neg (by simpa using h1)]
  rw [if_neg (by simpa using h1)] at k
  obtain ⟨_, h2, h3⟩ := askedM_zero h1
  refine begins_sp hs' ci ?_
  intro v h2' hs
  refine call_may hs .z 0 rfl ?_
  refine ⟨_, _, rfl, _, rfl, rfl, ?_⟩
  by_cases h4 : bits .and .u8 (maskAt C 0) 1 = 1
  case neg =>
    rw [if_neg (by simpa using h4)]
    rw [if_neg h4] at k
    exact k _ hs.drop
  rw [if_pos (by simpa using h4)]
  rw [if_pos h4] at k
  have ci2 := (ci.put (chipE p C.act)).s (x := mayE v (maskAt C))
  obtain ⟨w', ok', hs⟩ := (hs.front ci2).open_
  dsimp only [chipL, List.cons_append, List.nil_append, Cm.cells] at hs
  refine ⟨_, _, _, hs.ld .z rfl, ?_⟩
  have eb : C.act.s = C.s := by unfold Cm.act; split <;> rfl
  rw [eb] at hs
  have hl' := hs.sl_len (i := 3) (.s (.s (.s .z)))
  simp only [bools_length, Nat.mul_one] at hl'
  obtain ⟨q, hq⟩ := hs.sl_some (i := 3) (.s (.s (.s .z))) (by omega)
  obtain ⟨w1, w2, ⟨cp, cl, cc⟩, w4⟩ := w'
  simp only at hq hl'
  subst hq
  refine ⟨_, rfl, h2, by dsimp only; omega, ?_⟩
  simp only [add_mk, Nat.zero_add, Nat.mul_one]
  refine ⟨hs.scan (i := 3) (.s (.s (.s .z))) (by dsimp only; omega) (by simp; omega), ?_⟩
  intro h5 e5
  replace hs := hs.swr (i := 3) (.s (.s (.s .z))) e5 (by dsimp only; omega) (by simp; omega) (by simp)
  simp only [put, splice] at hs
  have ec : ({ C.act with s := { C.s with blown := C.s.blown.set j.toNat true } } : Cm).ok :=
    ⟨ok'.may, ⟨by have := ok'.fits.pages; rw [eb] at this; exact this, by have := ok'.fits.cells; rw [eb] at this; exact this, by have := ok'.fits.erases; rw [eb] at this; exact this,
      by have := ok'.fits.blown; rw [eb] at this; simpa using this⟩, by have := ok'.typed; rw [eb] at this; exact ⟨this.bytes, this.erases⟩, ok'.left, ok'.left2, ok'.mask, ok'.acts, ok'.mlen⟩
  have e6 : (bools C.s.blown).set j.toNat (Value.bool true) = bools (C.s.blown.set j.toNat true) := by simp [bools, List.map_set]
  rw [e6] at hs
  have := chip_close (a := w1) (b := w2) (c := (some ⟨q, 0, none⟩, cl, cc)) (m := w4) ec ci2 hs
  simp only [put_succ, put_put] at this
  exact k _ this.drop
end
end Go.Proofs.Ytamfkofcpoglnaa
