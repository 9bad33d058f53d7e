/- WearLasts: what is proved and its parts, laid together by a program of ours: Ch5 Ch6 Ch7 Ah Ch8 By Rf3 La2 La5 Fu3 Fu4 Ce4 -/
import Derived.Laws.Closers25b
import Derived.Test.YteabcbpimjjdpaaK7
set_option autoImplicit false
set_option linter.all false
/- Contracts of the chip's methods that lay nothing into pages. Own work. -/
section
set_option linter.unusedVariables false
namespace Go.Proofs.Yteabcbpimjjdpaa
open Go Go.Vc

def askedM (C : Cm) (i n : Int) : Int := if C.out = true then 8 else if i < 0 then 2 else if n ≤ i then 2 else 0
def asksCellM (C : Cm) (page cell : Int) : Int := if askedM C page C.s.pages.length ≠ 0 then askedM C page C.s.pages.length else askedM C cell C.cfg.cells
def w64 (n : Int) : Int := IntKind.i64.wrap n
def Cm.act (C : Cm) : Cm :=
  if C.left ≠ 0 then { C with acts := w64 (C.acts + 1), left := if C.left - 1 > -1 then C.left - 1 else -1 }
  else { C with acts := w64 (C.acts + 1), out := true, left := -1, mask := [] }
/-- Which bits of each byte an act may change. -/
def maskAt (C : Cm) (i : Nat) : Int := if C.left ≠ 0 then 255 else if C.mask = [] then 0 else C.mask.getD (i % C.mask.length) 0
def errM (C : Cm) : Int := if C.left ≠ 0 then 0 else 8

theorem w64_range (n : Int) : -(2 ^ 63) ≤ w64 n ∧ w64 n < 2 ^ 63 := by unfold w64; rw [IntKind.wrap_i64]; omega
theorem Cm.ok.act {C : Cm} (k : C.ok) : C.act.ok := by
  have r := w64_range (C.acts + 1)
  have := k.left
  unfold Cm.act
  split
  · exact ⟨k.may, k.fits, k.typed, by dsimp only; split <;> omega, by have := k.left2; dsimp only; split <;> omega, k.mask, r, k.mlen⟩
  · exact ⟨k.may, k.fits, k.typed, by dsimp only; omega, by dsimp only; omega, by intro n hn; simp at hn, r, by simp⟩

theorem chip_close {h0 h : H} {A : List Ent} {i p : Nat} {C C0 : Cm} {a b c m : Sl} (ok : C.ok) (ci : At A i (chipE p C0))
    (hs : Sat h0 (blk p (C.cells a b c m) :: matE 32 a C.s.pages :: sE b 1 (ints .i64 C.s.erases) :: sE c 1 (bools C.s.blown) :: sE m 1 (ints .u8 C.mask) :: del A i) h) : Sat h0 (put A i (chipE p C)) h :=
  Sat.back ci (Sat.close ⟨a, b, c, m⟩ ok hs)
section
variable {h0 h : H} {A : List Ent} {i p : Nat} {C : Cm}
theorem Acts_sp {Q : Int → H → Prop} (hs : Sat h0 A h) (ci : At A i (chipE p C)) (k : Q C.acts h) : F_chip_Chip_Acts ⟨p, 0, none⟩ Q h := by
  unfold F_chip_Chip_Acts G_chip_Chip_Acts
  obtain ⟨w, ok, hs⟩ := (hs.front ci).open_; dsimp only [chipL, List.cons_append, List.nil_append, Cm.cells] at hs
  exact ⟨_, hs.ld .z rfl, k⟩
theorem Out_sp {Q : Bool → H → Prop} (hs : Sat h0 A h) (ci : At A i (chipE p C)) (k : Q C.out h) : F_chip_Chip_Out ⟨p, 0, none⟩ Q h := by
  unfold F_chip_Chip_Out G_chip_Chip_Out
  obtain ⟨w, ok, hs⟩ := (hs.front ci).open_; dsimp only [chipL, List.cons_append, List.nil_append, Cm.cells] at hs
  exact ⟨_, hs.ld .z rfl, k⟩
theorem Restore_sp {Q : H → Prop} (hs : Sat h0 A h) (ci : At A i (chipE p C)) (k : ∀ h', Sat h0 (put A i (chipE p { C with out := false })) h' → Q h') : F_chip_Chip_Restore ⟨p, 0, none⟩ Q h := by
  unfold F_chip_Chip_Restore G_chip_Chip_Restore
  obtain ⟨w, ok, hs⟩ := (hs.front ci).open_; dsimp only [chipL, List.cons_append, List.nil_append, Cm.cells] at hs
  simp only [add_mk, Nat.zero_add]
  (refine ⟨Sat.can hs (by (repeat (first | exact At.z | apply At.s))) (by simp), ?_⟩; intro _ e; replace hs := Sat.wr hs (by (repeat (first | exact At.z | apply At.s))) e; clear e; simp only [put, splice, List.set] at hs)
  exact k _ (chip_close ⟨ok.may, ok.fits, ok.typed, ok.left, ok.left2, ok.mask, ok.acts, ok.mlen⟩ ci hs)
theorem Config_sp {Q : Int → Int → Int → Int → Int → Int → Int → H → Prop} (hs : Sat h0 A h) (ci : At A i (chipE p C))
    (k : ∀ h', Sat h0 A h' → Q C.cfg.cells C.cfg.slots C.cfg.fuses C.cfg.step C.cfg.keys C.cfg.erases C.cfg.area h') : F_chip_Chip_Config ⟨p, 0, none⟩ Q h := by
  unfold F_chip_Chip_Config G_chip_Chip_Config
  obtain ⟨w, ok, hs⟩ := (hs.front ci).open_; dsimp only [chipL, List.cons_append, List.nil_append, Cm.cells] at hs
  simp only [add_mk, Nat.zero_add]
  (repeat first | refine ⟨_, Sat.ld hs (by (repeat (first | exact At.z | apply At.s))) (by rfl), ?_⟩ | refine ⟨_, _, _, Sat.ld hs (by (repeat (first | exact At.z | apply At.s))) (by rfl), ?_⟩ | (intro _ _ hn; replace hs := Sat.new hs hn; clear hn) | refine ⟨Sat.cs hs (by (repeat (first | exact At.z | apply At.s))) (by rfl), ?_⟩ | (refine ⟨Sat.can hs (by (repeat (first | exact At.z | apply At.s))) (by simp), ?_⟩; intro _ e; replace hs := Sat.wr hs (by (repeat (first | exact At.z | apply At.s))) e; clear e; simp only [put, splice, List.set] at hs))
  refine k _ ?_
  have := chip_close ok ci hs.drop
  rwa [ci.put_self] at this
theorem asked_b {Q : Int → H → Prop} (hs : Sat h0 A h) {a b c m : Sl} (ci : At A i (blk p (C.cells a b c m))) (n j : Int) (k : Q (askedM C j n) h) : F_chip_Chip_asked ⟨p, 0, none⟩ j n Q h := by
  unfold F_chip_Chip_asked G_chip_Chip_asked
  refine ⟨_, hs.ld ci rfl, ?_⟩
  unfold askedM at k
  simp only [ltI_eq, leI_eq, decide_eq_true_eq]
  split
  · simpa [*] using k
  · split
    · simpa [*] using k
    · split <;> simpa [*] using k
theorem asked_sp {Q : Int → H → Prop} (hs : Sat h0 A h) (ci : At A i (chipE p C)) (n j : Int) (k : Q (askedM C j n) h) : F_chip_Chip_asked ⟨p, 0, none⟩ j n Q h := by
  obtain ⟨w, ok, hs⟩ := (hs.front ci).open_; dsimp only [chipL, List.cons_append, List.nil_append, Cm.cells] at hs
  exact asked_b (C := C) hs .z n j k
theorem asksCell_sp {Q : Int → H → Prop} (hs : Sat h0 A h) (ci : At A i (chipE p C)) (page cell : Int) (k : Q (asksCellM C page cell) h) : F_chip_Chip_asksCell ⟨p, 0, none⟩ page cell Q h := by
  unfold F_chip_Chip_asksCell G_chip_Chip_asksCell
  obtain ⟨w, ok, hs⟩ := (hs.front ci).open_; dsimp only [chipL, List.cons_append, List.nil_append, Cm.cells] at hs
  have hl := (hs.rdM (.s .z)).len
  refine ⟨_, _, _, hs.ld .z rfl, ?_⟩
  unfold asksCellM at k
  rw [hl] at k
  refine asked_b (C := C) hs .z _ _ ?_
  split
  · rename_i h1; rw [if_pos (by simpa using h1)] at k; exact k
  · rename_i h1; rw [if_neg (by simpa using h1)] at k
    refine ⟨_, hs.ld .z rfl, asked_b (C := C) hs .z _ _ k⟩

def mayV (v : Value) (f : Nat → Int) : Option (Nat × Sl × List Int) → Prop
  | none => v = .func (.func id_chip_Chip_begins_1) #[] #[] ∧ f = fun _ => 255
  | some (b, _, mask) => v = .func (.func id_chip_Chip_begins_2) #[] #[.pointer (some ⟨b, 0, none⟩)] ∧ f = fun i => if mask = [] then 0 else mask.getD (i % mask.length) 0
def mayL : Option (Nat × Sl × List Int) → List Ent
  | none => []
  | some (b, m, mask) => [blk b [m.v], sE m 1 (ints .u8 mask)]
def mayE (v : Value) (f : Nat → Int) : Ent := exE 3 (mayV v f) mayL
theorem begins_sp {Q : Value → Int → H → Prop} (hs : Sat h0 A h) (ci : At A i (chipE p C))
    (k : ∀ v h', Sat h0 (mayE v (maskAt C) :: put A i (chipE p C.act)) h' → Q v (errM C) h') : F_chip_Chip_begins ⟨p, 0, none⟩ Q h := by
  unfold F_chip_Chip_begins G_chip_Chip_begins
  obtain ⟨w, ok, hs⟩ := (hs.front ci).open_; dsimp only [chipL, List.cons_append, List.nil_append, Cm.cells] at hs
  simp only [add_mk, Nat.zero_add]
  (repeat first | refine ⟨_, Sat.ld hs (by (repeat (first | exact At.z | apply At.s))) (by rfl), ?_⟩ | refine ⟨_, _, _, Sat.ld hs (by (repeat (first | exact At.z | apply At.s))) (by rfl), ?_⟩ | (intro _ _ hn; replace hs := Sat.new hs hn; clear hn) | refine ⟨Sat.cs hs (by (repeat (first | exact At.z | apply At.s))) (by rfl), ?_⟩ | (refine ⟨Sat.can hs (by (repeat (first | exact At.z | apply At.s))) (by simp), ?_⟩; intro _ e; replace hs := Sat.wr hs (by (repeat (first | exact At.z | apply At.s))) e; clear e; simp only [put, splice, List.set] at hs))
  have hl := ok.left
  have ha := ok.act
  by_cases h1 : C.left = 0
  · rw [if_neg (by simp [h1])]
    (repeat first | refine ⟨_, Sat.ld hs (by (repeat (first | exact At.z | apply At.s))) (by rfl), ?_⟩ | refine ⟨_, _, _, Sat.ld hs (by (repeat (first | exact At.z | apply At.s))) (by rfl), ?_⟩ | (intro _ _ hn; replace hs := Sat.new hs hn; clear hn) | refine ⟨Sat.cs hs (by (repeat (first | exact At.z | apply At.s))) (by rfl), ?_⟩ | (refine ⟨Sat.can hs (by (repeat (first | exact At.z | apply At.s))) (by simp), ?_⟩; intro _ e; replace hs := Sat.wr hs (by (repeat (first | exact At.z | apply At.s))) e; clear e; simp only [put, splice, List.set] at hs))
    have e : errM C = 8 := by simp [errM, h1]
    rw [e] at k
    have em : maskAt C = fun i => if C.mask = [] then 0 else C.mask.getD (i % C.mask.length) 0 := by funext i; simp [maskAt, h1]
    have ea : C.act = { C with acts := w64 (C.acts + 1), out := true, left := -1, mask := [] } := by simp [Cm.act, h1]
    rw [em] at k
    rw [ea] at k ha
    refine k _ _ ?_
    replace hs := Sat.front hs (e := slE _ _ _ 1 (ints .u8 C.mask)) (by (repeat (first | exact At.z | apply At.s)))
    replace hs := Sat.front hs (e := blk _ [w.m.v]) (by (repeat (first | exact At.z | apply At.s)))
    replace hs := hs.sl_nil 1 none
    replace hs := Sat.front hs (e := slE _ _ _ 1 (ints .u8 [])) (by (repeat (first | exact At.z | apply At.s))); replace hs := Sat.front hs (e := slE _ _ _ 1 (bools _)) (by (repeat (first | exact At.z | apply At.s))); replace hs := Sat.front hs (e := slE _ _ _ 1 (ints .i64 _)) (by (repeat (first | exact At.z | apply At.s))); replace hs := Sat.front hs (e := matE 32 _ _) (by (repeat (first | exact At.z | apply At.s))); replace hs := Sat.front hs (e := blk p _) (by (repeat (first | exact At.z | apply At.s))); simp only [del] at hs
    exact Sat.close (some (_, w.m, C.mask)) ⟨rfl, rfl⟩ (chip_close (a := w.a) (b := w.b) (c := w.c) (m := (none, 0, 0)) ha ci.s.s hs)
  · rw [if_pos (by simp [h1])]
    (repeat first | refine ⟨_, Sat.ld hs (by (repeat (first | exact At.z | apply At.s))) (by rfl), ?_⟩ | refine ⟨_, _, _, Sat.ld hs (by (repeat (first | exact At.z | apply At.s))) (by rfl), ?_⟩ | (intro _ _ hn; replace hs := Sat.new hs hn; clear hn) | refine ⟨Sat.cs hs (by (repeat (first | exact At.z | apply At.s))) (by rfl), ?_⟩ | (refine ⟨Sat.can hs (by (repeat (first | exact At.z | apply At.s))) (by simp), ?_⟩; intro _ e; replace hs := Sat.wr hs (by (repeat (first | exact At.z | apply At.s))) e; clear e; simp only [put, splice, List.set] at hs))
    have e : errM C = 0 := by simp [errM, h1]
    rw [e] at k
    have em : maskAt C = fun i => 255 := by funext i; simp [maskAt, h1]
    have hw : IntKind.i64.wrap (C.left - 1) = C.left - 1 := by
      have := ok.left2
      rw [IntKind.wrap_i64]; omega
    have ea : C.act = { C with acts := w64 (C.acts + 1), left := if C.left - 1 > -1 then C.left - 1 else -1 } := by simp [Cm.act, h1]
    rw [em] at k
    rw [ea] at k ha
    rw [hw] at hs
    refine k _ _ ?_
    exact Sat.close none ⟨rfl, rfl⟩ (chip_close ha ci hs)
theorem call_may {v : Value} {f : Nat → Int} {Q : List DV → H → Prop} (hs : Sat h0 A h) (mm : At A i (mayE v f)) (n : Nat) {x : Int} (hx : x = n) (k : Q [DV.one (.int .u8 (f n))] h) : callFn PP v [DV.one (.int .i64 x)] Q h := by
  obtain ⟨w, e, hs⟩ := (hs.front mm).open_
  subst hx
  cases w with
  | none =>
    obtain ⟨rfl, rfl⟩ := e
    refine callFn_of R_chip_Chip_begins_1 (by simp) (by simp) (by simp [DV.ok]) ?_
    show F_chip_Chip_begins_1 (n : Int) (fun i h => Q [DV.one (.int .u8 i)] h) h
    unfold F_chip_Chip_begins_1 G_chip_Chip_begins_1
    exact k
  | some w =>
    obtain ⟨b, m, mask⟩ := w
    obtain ⟨rfl, rfl⟩ := e
    refine callFn_of R_chip_Chip_begins_2 (by simp) (by simp) (by simp [DV.ok]) ?_
    show F_chip_Chip_begins_2 (n : Int) ⟨b, 0, none⟩ (fun i h => Q [DV.one (.int .u8 i)] h) h
    unfold F_chip_Chip_begins_2 G_chip_Chip_begins_2
    replace hs : Sat h0 (blk b [m.v] :: sE m 1 (ints .u8 mask) :: del A i) h := hs
    dsimp only at k ⊢
    have hl := hs.sl_len (.s .z)
    simp only [ints_length, Nat.mul_one] at hl
    refine ⟨_, _, _, hs.ld .z rfl, ?_⟩
    by_cases h1 : mask = []
    · rw [if_pos h1] at k
      subst h1
      rw [if_pos (by simp at hl; simp [← hl])]
      exact k
    · rw [if_neg h1] at k
      have hp : 0 < mask.length := List.length_pos_iff.2 h1
      rw [if_neg (by simp; omega)]
      refine ⟨_, _, _, hs.ld .z rfl, ?_⟩
      refine ⟨_, _, _, hs.ld .z rfl, ?_⟩
      obtain ⟨q, hq⟩ := hs.sl_some (.s .z) (by omega)
      obtain ⟨mp, ml, mc⟩ := m
      simp only at hq hl
      subst hq
      have e : (n : Int).tmod (ml : Int) = ((n % ml : Nat) : Int) := by rw [Int.tmod_eq_emod_of_nonneg (by omega)]; omega
      rw [hl] at k
      have hlt : n % ml < ml := Nat.mod_lt _ (by omega)
      refine ⟨by dsimp only; omega, _, rfl, by dsimp only; rw [e]; omega, by dsimp only; rw [e]; omega, _, ?_, k⟩
      dsimp only
      rw [e]
      simp only [add_mk, Nat.zero_add, Int.toNat_natCast, Nat.mul_one]
      refine hs.sld (.s .z) ?_
      rw [ints_get, List.getElem?_eq_getElem (by omega)]
      simp [List.getD, List.getElem?_eq_getElem (show n % ml < mask.length by omega)]

theorem askedM_zero {i n : Int} (e : askedM C i n = 0) : C.out = false ∧ 0 ≤ i ∧ i < n := by
  unfold askedM at e
  split at e
  · omega
  · rename_i h1
    split at e
    · omega
    · split at e
      · omega
      · exact ⟨by simpa using h1, by omega, by omega⟩
def erasesM (C : Cm) (i : Int) : Int × Int := if askedM C i C.s.pages.length ≠ 0 then (0, askedM C i C.s.pages.length) else (C.s.erases.getD i.toNat 0, 0)
theorem Erases_sp {Q : Int → Int → H → Prop} (hs : Sat h0 A h) (ci : At A i (chipE p C)) (j : Int) (k : Q (erasesM C j).1 (erasesM C j).2 h) : F_chip_Chip_Erases ⟨p, 0, none⟩ j Q h := by
  unfold F_chip_Chip_Erases G_chip_Chip_Erases
  have hs' := hs
  obtain ⟨w, ok, hs⟩ := (hs.front ci).open_; dsimp only [chipL, List.cons_append, List.nil_append, Cm.cells] at hs
  simp only [add_mk, Nat.zero_add]
  have hl := hs.sl_len (i := 2) (.s (.s .z))
  simp only [ints_length, Nat.mul_one] at hl
  have hl1 := (hs.rdM (.s .z)).len
  have hf := ok.fits
  have hnp := hf.pages
  have hne := hf.erases
  refine ⟨_, _, _, hs.ld .z rfl, ?_⟩
  rw [← hl1]
  refine asked_sp hs' ci _ _ ?_
  unfold erasesM at k
  by_cases h1 : askedM C j C.s.pages.length = 0
  · rw [if_neg (by simpa using h1)]
    rw [if_neg (by simpa using h1)] at k
    obtain ⟨_, h2, h3⟩ := askedM_zero h1
    refine ⟨_, _, _, hs.ld .z rfl, ?_⟩
    obtain ⟨q, hq⟩ := hs.sl_some (i := 2) (.s (.s .z)) (by omega)
    obtain ⟨w1, ⟨cp, cl, cc⟩, w2, w4⟩ := w
    simp only at hq hl
    subst hq
    refine ⟨_, rfl, h2, by simp only; omega, _, ?_, k⟩
    simp only [add_mk, Nat.zero_add, Nat.mul_one]
    refine hs.sld (i := 2) (.s (.s .z)) ?_
    rw [ints_get, List.getElem?_eq_getElem (by omega)]
    simp [List.getD, List.getElem?_eq_getElem (show j.toNat < C.s.erases.length by omega)]
  · rw [if_pos (by simpa using h1)]
    rw [if_pos (by simpa using h1)] at k
    exact k
def cutM (C : Cm) (n : Int) (mask : List Int) : Cm := { C with left := if n > -1 then n else -1, mask := mask }
theorem Cut_sp {Q : H → Prop} {q : Option Addr} {l c : Nat} {bs : List Int} (hs : Sat h0 A h) (ci : At A i (chipE p C)) (n : Int) (hn : n < 2 ^ 63) (rd : hsv h q 1 l (ints .u8 bs)) (hb : bytesOk bs) (hl : l * 1 ≤ 2 ^ 47)
    (k : ∀ h', Sat h0 (put A i (chipE p (cutM C n bs))) h' → Q h') : F_chip_Chip_Cut ⟨p, 0, none⟩ n q l c Q h := by
  unfold F_chip_Chip_Cut G_chip_Chip_Cut
  obtain ⟨w, ok, hs⟩ := (hs.front ci).open_; dsimp only [chipL, List.cons_append, List.nil_append, Cm.cells] at hs
  simp only [add_mk, Nat.zero_add]
  refine Clone_bytes_spec q l c _ _ h rd hl ?_
  intro p' c' h' bs' x o nb
  replace hs := hs.own x o nb
  (repeat first | refine ⟨_, Sat.ld hs (by (repeat (first | exact At.z | apply At.s))) (by rfl), ?_⟩ | refine ⟨_, _, _, Sat.ld hs (by (repeat (first | exact At.z | apply At.s))) (by rfl), ?_⟩ | (intro _ _ hn; replace hs := Sat.new hs hn; clear hn) | refine ⟨Sat.cs hs (by (repeat (first | exact At.z | apply At.s))) (by rfl), ?_⟩ | (refine ⟨Sat.can hs (by (repeat (first | exact At.z | apply At.s))) (by simp), ?_⟩; intro _ e; replace hs := Sat.wr hs (by (repeat (first | exact At.z | apply At.s))) e; clear e; simp only [put, splice, List.set] at hs))
  refine k _ ?_
  have okc : (cutM C n bs).ok := ⟨ok.may, ok.fits, ok.typed, by simp only [cutM]; split <;> omega, by simp only [cutM]; split <;> omega, hb, ok.acts, by have := rd.1; simp at this; simp only [cutM]; omega⟩
  replace hs := Sat.front hs (e := slE _ _ _ 1 (ints .u8 bs)) (by (repeat (first | exact At.z | apply At.s))); replace hs := Sat.front hs (e := slE _ _ _ 1 (bools _)) (by (repeat (first | exact At.z | apply At.s))); replace hs := Sat.front hs (e := slE _ _ _ 1 (ints .i64 _)) (by (repeat (first | exact At.z | apply At.s))); replace hs := Sat.front hs (e := matE 32 _ _) (by (repeat (first | exact At.z | apply At.s))); replace hs := Sat.front hs (e := blk p _) (by (repeat (first | exact At.z | apply At.s))); simp only [del] at hs
  exact (chip_close (C := cutM C n bs) (a := w.a) (b := w.b) (c := w.c) (m := (p', l, c')) okc ci.s hs).drop
end
end Go.Proofs.Yteabcbpimjjdpaa
end

/- Contracts of the chip's Read, Program, Erase. Own work. -/
section
set_option linter.unusedVariables false
namespace Go.Proofs.Yteabcbpimjjdpaa
open Go Go.Vc

section
variable {h0 h : H} {A : List Ent} {i p : Nat} {C : Cm}
theorem asksCellM_zero {page cell : Int} (ok : C.ok) (e : asksCellM C page cell = 0) : C.out = false ∧ 0 ≤ page ∧ page < C.s.pages.length ∧ 0 ≤ cell ∧ cell < C.cfg.cells ∧
    ∃ hj : page.toNat < C.s.pages.length, (C.s.pages[page.toNat].length : Int) = 32 * C.cfg.cells ∧ (cell.toNat + 1) * 32 ≤ C.s.pages[page.toNat].length := by
  unfold asksCellM at e
  split at e
  · rename_i h1; exact absurd e h1
  · rename_i h1
    have h1 : askedM C page C.s.pages.length = 0 := by simpa using h1
    obtain ⟨h2, h3, h4⟩ := askedM_zero h1
    obtain ⟨_, h5, h6⟩ := askedM_zero e
    have hj : page.toNat < C.s.pages.length := by omega
    have hl := ok.fits.cells _ (List.getElem_mem hj)
    exact ⟨h2, h3, h4, h5, h6, hj, hl, by omega⟩
def readM (C : Cm) (page cell : Int) : List Int × Int :=
  if asksCellM C page cell ≠ 0 then (zeros 32, asksCellM C page cell) else (cellAt (C.s.pages.getD page.toNat []) cell.toNat, 0)
theorem Read_sp {Q : List Int → Int → H → Prop} (hs : Sat h0 A h) (ci : At A i (chipE p C)) (page cell : Int) (k : ∀ h', Sat h0 A h' → Q (readM C page cell).1 (readM C page cell).2 h') :
    F_chip_Chip_Read ⟨p, 0, none⟩ page cell Q h := by
  unfold F_chip_Chip_Read G_chip_Chip_Read
  simp only [add_mk, Nat.zero_add, List.append_nil]
  (intro _ _ hn; replace hs := Sat.new hs hn; clear hn)
  refine asksCell_sp hs (ci.s) _ _ ?_
  unfold readM at k
  by_cases h1 : asksCellM C page cell = 0
  case neg =>
    rw [if_pos (by simpa using h1)]
    rw [if_pos (by simpa using h1)] at k
    (refine ⟨Sat.can hs (by (repeat (first | exact At.z | apply At.s))) (by simp), ?_⟩; intro _ e; replace hs := Sat.wra hs (by (repeat (first | exact At.z | apply At.s))) e (by simp [*]); clear e; simp only [put] at hs)
    refine ⟨_, ?_, hs.row0 (by (repeat (first | exact At.z | apply At.s))), ?_⟩
    · simp
    exact k _ hs.drop
  rw [if_neg (by simpa using h1)]
  rw [if_neg (by simpa using h1)] at k
  have hs' := hs
  obtain ⟨w, ok, hs⟩ := (hs.front ci.s).open_
  obtain ⟨_, h2, h3, h4, h5, hj, hl, hk⟩ := asksCellM_zero ok h1
  dsimp only [chipL, List.cons_append, List.nil_append, Cm.cells] at hs
  refine ⟨_, _, _, hs.ld .z rfl, ?_⟩
  have rd := hs.rdM (.s .z)
  have hlen := rd.len
  obtain ⟨q, x, q', e1, e2, e3, e4, e5⟩ := rd.cell hj hk
  rw [e1]
  refine ⟨_, rfl, h2, by (try dsimp only); omega, ?_⟩
  refine ⟨_, _, _, e2, ?_⟩
  refine ⟨_, e4, h4, by omega, ?_⟩
  refine ⟨_, cellAt_length hk, e5, ?_⟩
  replace hs := hs'
  have hcl := cellAt_length hk
  (refine ⟨Sat.can hs (by (repeat (first | exact At.z | apply At.s))) (by simp), ?_⟩; intro _ e; replace hs := Sat.wra hs (by (repeat (first | exact At.z | apply At.s))) e (by simp [*]); clear e; simp only [put] at hs)
  refine ⟨_, ?_, hs.row0 (by (repeat (first | exact At.z | apply At.s))), ?_⟩
  · exact hcl
  have : C.s.pages.getD page.toNat [] = C.s.pages[page.toNat] := by simp [List.getD, List.getElem?_eq_getElem hj]
  rw [this] at k
  exact k _ hs.drop

def progCell (old x : List Int) (f : Nat → Int) : List Int := mapTo (fun i now => bits .andNot .u8 now (bits .andNot .u8 (f i) (x.getD i 0))) 32 old
def Cm.setPage (C : Cm) (j : Nat) (row : List Int) : Cm := { C with s := { C.s with pages := C.s.pages.set j row } }
def rowOf (C : Cm) (page : Int) : List Int := C.s.pages.getD page.toNat []
def programM (C : Cm) (page cell : Int) (x : List Int) : Cm × Int :=
  if asksCellM C page cell ≠ 0 then (C, asksCellM C page cell)
  else (C.act.setPage page.toNat (rowSet (rowOf C page) cell.toNat (progCell (cellAt (rowOf C page) cell.toNat) x (maskAt C))), errM C)
theorem act_s (C : Cm) : C.act.s = C.s := by unfold Cm.act; split <;> rfl
theorem act_cfg (C : Cm) : C.act.cfg = C.cfg := by unfold Cm.act; split <;> rfl
theorem byte_bits (op : BinOp) (a b : Int) : isByte (bits op .u8 a b) := by
  have h1 := bits_lo_u8 op a b; have h2 := bits_hi_u8 op a b
  unfold isByte; omega
theorem Cm.ok.setPage {C : Cm} (ok : C.ok) {j : Nat} {row : List Int} (hl : (row.length : Int) = 32 * C.cfg.cells) (hb : bytesOk row) : (C.setPage j row).ok := by
  refine ⟨ok.may, ⟨by simpa [Cm.setPage] using ok.fits.pages, ?_, ok.fits.erases, ok.fits.blown⟩, ⟨?_, ok.typed.erases⟩, ok.left, ok.left2, ok.mask, ok.acts, ok.mlen⟩
  · intro l hm
    rcases List.mem_or_eq_of_mem_set hm with hm | hm
    · exact ok.fits.cells l hm
    · rw [hm]; exact hl
  · intro l hm
    rcases List.mem_or_eq_of_mem_set hm with hm | hm
    · exact ok.typed.bytes l hm
    · rw [hm]; exact hb
theorem mapTo_mem {g : Nat → Int → Int} {n : Nat} {ns : List Int} {P : Int → Prop} (h1 : ∀ v, v ∈ ns → P v) (h2 : ∀ i v, v ∈ ns → P (g i v)) : ∀ v, v ∈ mapTo g n ns → P v := by
  intro v hv
  obtain ⟨i, hi⟩ := List.mem_iff_getElem?.1 hv
  rw [mapTo_get] at hi
  cases e : ns[i]? with
  | none => rw [e] at hi; simp at hi
  | some u =>
    rw [e] at hi
    have hu : u ∈ ns := List.mem_iff_getElem?.2 ⟨i, e⟩
    simp only [Option.map_some, Option.some.injEq] at hi
    rw [← hi]; split
    · exact h2 _ _ hu
    · exact h1 _ hu
theorem cellAt_mem {row : List Int} {k : Nat} {v : Int} (h : v ∈ cellAt row k) : v ∈ row := List.mem_of_mem_drop (List.mem_of_mem_take h)
theorem rowSet_mem {row c : List Int} {k : Nat} {v : Int} (h : v ∈ rowSet row k c) : v ∈ row ∨ v ∈ c := by
  simp only [rowSet, List.mem_append] at h
  rcases h with (h | h) | h
  · exact Or.inl (List.mem_of_mem_take h)
  · exact Or.inr h
  · exact Or.inl (List.mem_of_mem_drop h)

theorem Program_sp {Q : Int → H → Prop} (hs : Sat h0 A h) (ci : At A i (chipE p C)) (page cell : Int) (x : List Int) (hx : x.length = 32) (k : ∀ h', Sat h0 (put A i (chipE p (programM C page cell x).1)) h' → Q (programM C page cell x).2 h') :
    F_chip_Chip_Program ⟨p, 0, none⟩ page cell x Q h := by
  unfold F_chip_Chip_Program G_chip_Chip_Program
  simp only [add_mk, Nat.zero_add, List.append_nil]
  intro nx _ hn
  replace hs := Sat.new hs hn
  clear hn
  refine asksCell_sp hs (ci.s) _ _ ?_
  unfold programM at k
  by_cases h1 : asksCellM C page cell = 0
  case neg =>
    rw [if_pos (by simpa using h1)]
    rw [if_pos (by simpa using h1)] at k
    exact k _ (ci.put_self.symm ▸ hs.drop)
  rw [if_neg (by simpa using h1)]
  rw [if_neg (by simpa using h1)] at k
  obtain ⟨w0, ok, _⟩ := (hs.front ci.s).open_
  obtain ⟨_, h2, h3, h4, h5, hj, hl, hk⟩ := asksCellM_zero ok h1
  have erow : rowOf C page = C.s.pages[page.toNat] := by simp [rowOf, List.getD, List.getElem?_eq_getElem hj]
  rw [erow] at k
  refine begins_sp hs ci.s ?_
  intro v h6 hs
  simp only [put_succ] at hs
  have ci2 := ((ci.put (chipE p C.act)).s (x := blk nx (ints .u8 x))).s (x := mayE v (maskAt C))
  have hsO := (hs.front ci2).open_
  obtain ⟨w, ok', hsO⟩ := hsO
  dsimp only [chipL, List.cons_append, List.nil_append, Cm.cells] at hsO
  rw [act_s] at hsO
  refine ⟨_, _, _, hsO.ld .z rfl, ?_⟩
  have rd := hsO.rdM (.s .z)
  have hlen := rd.len
  obtain ⟨q, y, q', e1, e2, e3, e4, e5⟩ := rd.cell hj hk
  rw [e1]
  refine ⟨_, rfl, h2, by (try dsimp only); omega, ?_⟩
  refine ⟨_, _, _, e2, ?_⟩
  refine ⟨_, e4, h4, by omega, ?_⟩
  have hcl := cellAt_length hk
  refine ⟨_, hcl, e5, ?_⟩
  intro no _ hn
  replace hs := Sat.new hs hn
  clear hn
  (refine ⟨Sat.can hs (by (repeat (first | exact At.z | apply At.s))) (by simp), ?_⟩; intro _ e; replace hs := Sat.wra hs (by (repeat (first | exact At.z | apply At.s))) e (by simp [*]); clear e; simp only [put] at hs)
  refine ⟨_, ?_, hs.row0 (by (repeat (first | exact At.z | apply At.s))), ?_⟩
  · exact hcl
  intro nn _ hn
  replace hs := Sat.new hs hn
  clear hn
  (refine ⟨Sat.can hs (by (repeat (first | exact At.z | apply At.s))) (by simp), ?_⟩; intro _ e; replace hs := Sat.wra hs (by (repeat (first | exact At.z | apply At.s))) e (by simp [*]); clear e; simp only [put] at hs)
  intro J hJ
  generalize hold : cellAt C.s.pages[page.toNat] cell.toNat = old at *
  let g := fun (i : Nat) (now : Int) => bits .andNot .u8 now (bits .andNot .u8 (maskAt C i) (x.getD i 0))
  refine loop_up 32 (fun i h => Sat h0 (blk nn (ints .u8 (mapTo g i old)) :: blk no (ints .u8 old) :: mayE v (maskAt C) :: blk nx (ints .u8 x) :: put A _ (chipE p C.act)) h) ?_ ?_ 0 _ (by omega) (by simpa using hs)
  · intro j h7 hjl hs hk'
    apply hJ
    rw [ltI_eq, if_pos (by simp; omega)]
    simp only [Int.toNat_natCast, Nat.mul_one]
    have hmj : j < (mapTo g j old).length := by simp; omega
    have eg : (mapTo g j old)[j] = old[j] := by
      have := mapTo_get g j old j
      rw [List.getElem?_eq_getElem hmj, List.getElem?_eq_getElem (by omega)] at this
      simpa using this
    refine ⟨by omega, by omega, _, hs.ld .z (by rw [ints_get, List.getElem?_eq_getElem hmj]; rfl), by omega, by omega, _, hs.ld (.s (.s (.s .z))) (by rw [ints_get, List.getElem?_eq_getElem (by omega)]; rfl), ?_⟩
    refine call_may hs (.s (.s .z)) j rfl ?_
    refine ⟨_, _, rfl, _, rfl, rfl, hcs_one (hs.ld (.s (.s (.s .z))) (by rw [ints_get, List.getElem?_eq_getElem (by omega)]; rfl)), hcs_one (hs.ld .z (by rw [ints_get, List.getElem?_eq_getElem hmj]; rfl)), by omega, by omega, hs.can .z (by simp; omega), ?_⟩
    intro h8 e8
    replace hs := hs.wr .z e8
    rw [wrap_succ (by omega)]
    refine hk' _ ?_
    simp only [splice_cons, splice_nil, ints_set, put] at hs
    have e9 := mapTo_succ g j old (by omega)
    rw [← e9]
    have e10 : x.getD j 0 = x[j] := by simp [List.getD, List.getElem?_eq_getElem (show j < x.length by omega)]
    rw [eg] at hs
    simpa only [g, e10] using hs
  · intro h7 hs
    apply hJ
    rw [ltI_eq, if_neg (by simp)]
    have hnl : (mapTo g 32 old).length = 32 := by simpa using hcl
    refine ⟨_, ?_, hs.row0 (by (repeat (first | exact At.z | apply At.s))), ?_⟩
    · exact hnl
    refine ⟨_, hcl, hs.row0 (.s .z), ?_⟩
    have ci3 := (ci2.s (x := blk no (ints .u8 old))).s (x := blk nn (ints .u8 (mapTo g 32 old)))
    obtain ⟨w', _, hsO⟩ := (hs.front ci3).open_
    dsimp only [chipL, List.cons_append, List.nil_append, Cm.cells] at hsO
    rw [act_s] at hsO
    have hrow : (C.s.pages[page.toNat].length : Int) = 32 * C.act.cfg.cells := by rw [act_cfg]; exact hl
    have ok2 := ok'.setPage (j := page.toNat) (row := rowSet C.s.pages[page.toNat] cell.toNat (mapTo g 32 old)) (by rw [rowSet_length hk hnl]; exact hrow) (by
      intro n hn
      rcases rowSet_mem hn with hn | hn
      · exact ok.typed.bytes _ (List.getElem_mem hj) n hn
      · refine mapTo_mem (P := isByte) (fun v hv => ?_) (fun i v hv => byte_bits _ _ _) n hn
        rw [← hold] at hv
        exact ok.typed.bytes _ (List.getElem_mem hj) v (cellAt_mem hv))
    split
    case isTrue hne =>
      refine ⟨_, _, _, hsO.ld .z rfl, ?_⟩
      have hl1 := (hsO.rdM (.s .z)).len
      obtain ⟨y', hd, R, e6, hsT, give⟩ := (hsO.front (.s .z)).row_take hj
      obtain ⟨⟨wp, wl, wc⟩, wb, wc', wm⟩ := w'
      dsimp only at hl1 hsT give
      have hl2 : C.s.pages.length = wl := hl1
      obtain ⟨qb, hq⟩ := hsT.sl_some (.s .z) (show 0 < wl by omega)
      subst hq
      refine ⟨_, rfl, h2, by dsimp only; omega, ?_⟩
      simp only [add_mk, Nat.zero_add, Nat.mul_one]
      refine ⟨_, _, _, hsT.sld (.s .z) e6, ?_⟩
      refine ⟨_, ?_, hs.row0 (by (repeat (first | exact At.z | apply At.s))), ?_⟩
      · exact hnl
      have hyl := hsT.sl_len .z
      simp only [ints_length] at hyl
      obtain ⟨yp, yl, yc⟩ := y'
      dsimp only at hyl
      obtain ⟨yb, hy⟩ := hsT.sl_some .z (by dsimp only; omega)
      dsimp only at hy
      subst hy
      refine ⟨_, rfl, h4, by dsimp only; omega, ?_⟩
      simp only [add_mk, Nat.zero_add]
      refine ⟨hsT.scan .z (by dsimp only; omega) (by simp; omega), ?_⟩
      intro h8 e8
      have hsW := hsT.swr .z e8 (by dsimp only; omega) (by simp [hcl]; omega) (ints_one _ _)
      rw [splice_rowSet hk hnl] at hsW
      have hsG := give _ _ _ hsW
      have hsC := chip_close (a := (some ⟨qb, 0, none⟩, wl, wc)) (b := wb) (c := wc') (m := wm) ok2 ci3 (by rw [Cm.setPage, act_s]; exact hsG.front (.s .z))
      simp only [put_succ, put_put] at hsC
      exact k _ hsC.drop.drop.drop.drop
    case isFalse hne =>
      have hne : mapTo g 32 old = old := by simpa using hne
      replace hne : progCell old x (maskAt C) = old := hne
      have e1 : rowSet C.s.pages[page.toNat] cell.toNat (cellAt C.s.pages[page.toNat] cell.toNat) = C.s.pages[page.toNat] := by
        unfold rowSet cellAt
        rw [List.append_assoc, ← List.drop_drop, List.take_append_drop, List.take_append_drop]
      have e2 : C.act.setPage page.toNat C.s.pages[page.toNat] = C.act := by
        have : C.act.s.pages.set page.toNat C.s.pages[page.toNat] = C.act.s.pages := by rw [act_s]; exact List.set_getElem_self hj
        unfold Cm.setPage; rw [this]
      rw [hne, ← hold, e1, e2] at k
      exact k _ hs.drop.drop.drop.drop

def eraseRow (row : List Int) (f : Nat → Int) : List Int := mapTo (fun i b => bits .or .u8 b (f i)) row.length row
def Cm.setErase (C : Cm) (j : Nat) (n : Int) : Cm := { C with s := { C.s with erases := C.s.erases.set j n } }
def eraseM (C : Cm) (page : Int) : Cm × Int :=
  if askedM C page C.s.pages.length ≠ 0 then (C, askedM C page C.s.pages.length)
  else if C.cfg.erases ≤ C.s.erases.getD page.toNat 0 then (C, 9)
  else ((C.act.setErase page.toNat (C.s.erases.getD page.toNat 0 + 1)).setPage page.toNat (eraseRow (rowOf C page) (maskAt C)), errM C)
theorem Cm.ok.setErase {C : Cm} (ok : C.ok) {j : Nat} {n : Int} (hn : -(2 ^ 63) ≤ n ∧ n < 2 ^ 63) : (C.setErase j n).ok := by
  refine ⟨ok.may, ⟨ok.fits.pages, ok.fits.cells, by simpa [Cm.setErase] using ok.fits.erases, ok.fits.blown⟩, ⟨ok.typed.bytes, ?_⟩, ok.left, ok.left2, ok.mask, ok.acts, ok.mlen⟩
  intro l hm
  rcases List.mem_or_eq_of_mem_set hm with hm | hm
  · exact ok.typed.erases l hm
  · rw [hm]; exact hn
/-- The first i entries of a row mapped, in place. -/
theorem mapTo_out {g : Nat → Int → Int} {i j : Nat} {ns : List Int} (h : i ≤ j) (hj : j < ns.length) : (mapTo g i ns)[j]? = some ns[j] := by
  rw [mapTo_get, List.getElem?_eq_getElem hj]; simp; omega

theorem Erase_sp {Q : Int → H → Prop} (hs : Sat h0 A h) (ci : At A i (chipE p C)) (page : Int) (k : ∀ h', Sat h0 (put A i (chipE p (eraseM C page).1)) h' → Q (eraseM C page).2 h') :
    F_chip_Chip_Erase ⟨p, 0, none⟩ page Q h := by
  unfold F_chip_Chip_Erase G_chip_Chip_Erase
  simp only [add_mk, Nat.zero_add]
  have hs' := hs
  obtain ⟨w, ok, hs⟩ := (hs.front ci).open_; dsimp only [chipL, List.cons_append, List.nil_append, Cm.cells] at hs
  have hlp := (hs.rdM (.s .z)).len
  have hle := hs.sl_len (i := 2) (.s (.s .z))
  simp only [ints_length, Nat.mul_one] at hle
  refine ⟨_, _, _, hs.ld .z rfl, ?_⟩
  rw [← hlp]
  refine asked_sp hs' ci _ _ ?_
  unfold eraseM at k
  by_cases h1 : askedM C page C.s.pages.length = 0
  case neg =>
    rw [if_pos (by simpa using h1)]
    rw [if_pos (by simpa using h1)] at k
    exact k _ (ci.put_self.symm ▸ hs')
  rw [if_neg (by simpa using h1)]
  rw [if_neg (by simpa using h1)] at k
  obtain ⟨_, h2, h3⟩ := askedM_zero h1
  have hf1 := ok.fits.pages
  have hf2 := ok.fits.erases
  have hje : page.toNat < C.s.erases.length := by omega
  have hjp : page.toNat < C.s.pages.length := by omega
  have eer : C.s.erases.getD page.toNat 0 = C.s.erases[page.toNat] := by simp [List.getD, List.getElem?_eq_getElem hje]
  have erow : rowOf C page = C.s.pages[page.toNat] := by simp [rowOf, List.getD, List.getElem?_eq_getElem hjp]
  rw [eer, erow] at k
  refine ⟨_, _, _, hs.ld .z rfl, ?_⟩
  obtain ⟨w1, ⟨ep, el, ec⟩, w3, w4⟩ := w
  replace hle : C.s.erases.length = el := hle
  obtain ⟨eb, he⟩ := hs.sl_some (i := 2) (.s (.s .z)) (show 0 < el by omega)
  dsimp only at he
  subst he
  refine ⟨_, rfl, h2, by (try dsimp only); omega, ?_⟩
  simp only [add_mk, Nat.zero_add, Nat.mul_one]
  refine ⟨_, hs.sld (i := 2) (.s (.s .z)) (by rw [ints_get, List.getElem?_eq_getElem hje]; rfl), ?_⟩
  refine ⟨_, Sat.ld hs (by (repeat (first | exact At.z | apply At.s))) (by rfl), ?_⟩
  by_cases h4 : C.cfg.erases ≤ C.s.erases[page.toNat]
  case pos =>
    rw [leI_eq, if_pos (by simpa using h4)]
    rw [if_pos h4] at k
    exact k _ (ci.put_self.symm ▸ hs')
  rw [leI_eq, if_neg (by simpa using h4)]
  rw [if_neg h4] at k
  refine begins_sp hs' ci ?_
  intro v h6 hs
  have ci2 := (ci.put (chipE p C.act)).s (x := mayE v (maskAt C))
  obtain ⟨w, ok', hs⟩ := (hs.front ci2).open_
  dsimp only [chipL, List.cons_append, List.nil_append, Cm.cells] at hs
  rw [act_s] at hs
  have hle := hs.sl_len (i := 2) (.s (.s .z))
  simp only [ints_length, Nat.mul_one] at hle
  have hlp := (hs.rdM (.s .z)).len
  obtain ⟨⟨pp, pl, pc⟩, ⟨ep, el, ec⟩, w3, w4⟩ := w
  replace hle : C.s.erases.length = el := hle
  replace hlp : C.s.pages.length = pl := hlp
  obtain ⟨eb, he⟩ := hs.sl_some (i := 2) (.s (.s .z)) (show 0 < el by omega)
  dsimp only at he
  subst he
  refine ⟨_, _, _, Sat.ld hs (by (repeat (first | exact At.z | apply At.s))) (by rfl), ?_⟩
  refine ⟨_, rfl, h2, by (try dsimp only); omega, ?_⟩
  simp only [add_mk, Nat.zero_add, Nat.mul_one]
  refine ⟨_, hs.sld (i := 2) (.s (.s .z)) (by rw [ints_get, List.getElem?_eq_getElem hje]; rfl), ?_⟩
  refine ⟨_, rfl, h2, by (try dsimp only); omega, ?_⟩
  simp only [add_mk, Nat.zero_add, Nat.mul_one]
  refine ⟨hs.scan (i := 2) (.s (.s .z)) (show 0 < el by omega) (by simp; omega), ?_⟩
  intro h7 e7
  replace hs := hs.swr (i := 2) (.s (.s .z)) e7 (show 0 < el by omega) (by simp; omega) (by simp)
  simp only [put, splice, ints_set] at hs
  have hce := ok.typed.erases _ (List.getElem_mem hje)
  have hcm := ok.may.erases
  rw [show IntKind.i64.wrap (C.s.erases[page.toNat] + 1) = C.s.erases[page.toNat] + 1 by rw [IntKind.wrap_i64]; omega] at hs
  have hs7 := hs
  refine ⟨_, _, _, Sat.ld hs (by (repeat (first | exact At.z | apply At.s))) (by rfl), ?_⟩
  obtain ⟨⟨yp, yl, yc⟩, hd, R, e8, hs, give⟩ := (hs.front (.s .z)).row_take hjp
  obtain ⟨qb, hq⟩ := hs.sl_some (.s .z) (show 0 < pl by omega)
  dsimp only at hq
  subst hq
  refine ⟨_, rfl, h2, by (try dsimp only); omega, ?_⟩
  simp only [add_mk, Nat.zero_add, Nat.mul_one]
  refine ⟨_, _, _, hs.sld (.s .z) e8, ?_⟩
  have hcl := ok.fits.cells _ (List.getElem_mem hjp)
  have hcc := ok.may.cells
  have hcs := ok.may.slots
  have hyl := hs.sl_len .z
  simp only [ints_length] at hyl
  obtain ⟨yb, hy⟩ := hs.sl_some .z (show 0 < yl by omega)
  dsimp only at hy
  subst hy
  have hbr := ok.typed.bytes _ (List.getElem_mem hjp)
  generalize C.s.pages[page.toNat] = row at *
  let g := fun (i : Nat) (b : Int) => bits .or .u8 b (maskAt C i)
  intro J hJ
  have hmg : ∀ n, (mapTo g n row).length = row.length := fun n => by simp
  refine loop_up C.cfg.cells.toNat (fun k h => Sat h0 (sE (some ⟨yb, 0, none⟩, yl, yc) 32 (ints .u8 (mapTo g (32 * k) row)) :: sE (some ⟨qb, 0, none⟩, pl, pc) 1 hd :: ((blk p (C.act.cells (some ⟨qb, 0, none⟩, pl, pc) (some ⟨eb, 0, none⟩, el, ec) w3 w4) ::
      sE (some ⟨eb, 0, none⟩, el, ec) 1 (ints .i64 (C.s.erases.set page.toNat (C.s.erases[page.toNat] + 1))) :: sE w3 1 (bools C.s.blown) :: sE w4 1 (ints .u8 C.act.mask) :: mayE v (maskAt C) :: del (put A i (chipE p C.act)) i) ++ R)) h) ?_ ?_ 0 _ (by omega) (by rw [Nat.mul_zero, mapTo_zero]; exact hs)
  · intro k h8 hk hs hk'
    apply hJ
    rw [ltI_eq, if_pos (by simp; omega)]
    simp only [Cm.cells] at hs
    refine ⟨_, _, _, hs.ld (.s (.s .z)) rfl, ?_⟩
    refine ⟨_, rfl, h2, by (try dsimp only); omega, ?_⟩
    simp only [add_mk, Nat.zero_add, Nat.mul_one]
    refine ⟨_, _, _, hs.sld (.s .z) e8, ?_⟩
    refine ⟨_, rfl, by omega, by (try dsimp only); omega, ?_⟩
    intro J2 hJ2
    refine loop_up 32 (fun j h => Sat h0 (sE (some ⟨yb, 0, none⟩, yl, yc) 32 (ints .u8 (mapTo g (32 * k + j) row)) :: sE (some ⟨qb, 0, none⟩, pl, pc) 1 hd :: ((blk p (C.act.cells (some ⟨qb, 0, none⟩, pl, pc) (some ⟨eb, 0, none⟩, el, ec) w3 w4) ::
      sE (some ⟨eb, 0, none⟩, el, ec) 1 (ints .i64 (C.s.erases.set page.toNat (C.s.erases[page.toNat] + 1))) :: sE w3 1 (bools C.s.blown) :: sE w4 1 (ints .u8 C.act.mask) :: mayE v (maskAt C) :: del (put A i (chipE p C.act)) i) ++ R)) h) ?_ ?_ 0 _ (by omega) (by rw [Nat.add_zero]; exact hs)
    · intro j h9 hj hs hk2
      apply hJ2
      rw [ltI_eq, if_pos (by simp; omega)]
      simp only [add_mk, Nat.zero_add, Nat.mul_one, Int.toNat_natCast]
      have hlt : k * 32 + j < row.length := by omega
      have ea : (mapTo g (32 * k + j) row)[k * 32 + j]? = some row[k * 32 + j] := mapTo_out (by omega) hlt
      have eb' : (ints .u8 (mapTo g (32 * k + j) row))[k * 32 + j]? = some (.int .u8 row[k * 32 + j]) := by rw [ints_get, ea]; rfl
      refine ⟨by omega, by omega, _, hs.sld .z eb', ?_⟩
      have ew : IntKind.i64.wrap (IntKind.i64.wrap ((k : Int) * 32) + (j : Int)) = ((k * 32 + j : Nat) : Int) := by rw [wrap_id (n := (k : Int) * 32) (by omega), wrap_id (by omega)]; omega
      rw [ew]
      refine call_may (i := 6) hs (.s (.s (.s (.s (.s (.s .z)))))) (k * 32 + j) rfl ?_
      refine ⟨_, _, rfl, _, rfl, rfl, hcs_one (hs.sld .z eb'), by omega, by omega, hs.scan .z (show 0 < yl by omega) (by simp; omega), ?_⟩
      intro h10 e10
      replace hs := hs.swr .z e10 (show 0 < yl by omega) (by simp; omega) (by simp)
      rw [wrap_succ (by omega)]
      refine hk2 _ ?_
      simp only [splice_cons, splice_nil, ints_set, put] at hs
      have e11 : (mapTo g (32 * k + j) row).set (k * 32 + j) (bits .or .u8 row[k * 32 + j] (maskAt C (k * 32 + j))) = mapTo g (32 * k + (j + 1)) row := by
        have := mapTo_succ g (32 * k + j) row (by omega)
        rw [show 32 * k + (j + 1) = 32 * k + j + 1 by omega, ← this]
        have e12 : 32 * k + j = k * 32 + j := by omega
        simp only [e12, g]
      rw [e11] at hs
      exact hs
    · intro h9 hs
      apply hJ2
      rw [ltI_eq, if_neg (by simp)]
      rw [wrap_succ (by omega)]
      exact hk' _ hs
  · intro h8 hs
    apply hJ
    rw [ltI_eq, if_neg (by simp; omega)]
    have e12 : mapTo g (32 * C.cfg.cells.toNat) row = eraseRow row (maskAt C) := by
      unfold eraseRow
      have : 32 * C.cfg.cells.toNat = row.length := by omega
      rw [this]
    rw [e12] at hs
    replace hs := (give _ _ _ hs).front (.s .z)
    have hce' : ((C.act.setErase page.toNat (C.s.erases[page.toNat] + 1)).setPage page.toNat (eraseRow row (maskAt C))).ok := by
      refine (ok'.setErase (by omega)).setPage ?_ ?_
      · show ((eraseRow row (maskAt C)).length : Int) = 32 * C.act.cfg.cells
        rw [act_cfg, ← e12, hmg]; exact hcl
      · refine mapTo_mem (P := isByte) (fun v hv => hbr v hv) (fun i v hv => byte_bits _ _ _)
    have hsC := chip_close (a := (some ⟨qb, 0, none⟩, pl, pc)) (b := (some ⟨eb, 0, none⟩, el, ec)) (c := w3) (m := w4) hce' ci2 (by rw [Cm.setPage, Cm.setErase, act_s]; exact hs)
    simp only [put_succ, put_put] at hsC
    exact k _ hsC.drop
end
end Go.Proofs.Yteabcbpimjjdpaa
end

/- Contracts of copies: copied, State, Copy. Own work. -/
section
set_option linter.unusedVariables false
namespace Go.Proofs.Yteabcbpimjjdpaa
open Go Go.Vc

/-- May it be copied? -/
structure St.small (s : St) : Prop where
  pages : s.pages.length * 24 + 4096 ≤ 2 ^ 47
  rows : ∀ l, l ∈ s.pages → l.length + 4096 ≤ 2 ^ 47
  erases : s.erases.length * 8 + 4096 ≤ 2 ^ 47
  blown : s.blown.length + 4096 ≤ 2 ^ 47
theorem Cm.ok.small {C : Cm} (ok : C.ok) : C.s.small := by
  have h1 := ok.may.np; have h2 := ok.may.nf; have h3 := ok.fits; have h4 := ok.may.cells
  refine ⟨by have := h3.pages; omega, fun l hl => by have := h3.cells l hl; omega, by have := h3.erases; omega, by have := h3.blown; omega⟩

section
variable {h0 h : H} {A : List Ent} {i p : Nat} {C : Cm}
theorem Clone_cells_sp {p : Option Addr} {l c : Nat} {bs : List Int} {Q : Option Addr → Nat → Nat → H → Prop} (hs : Sat h0 A h) (rd : hsv h p 32 l (ints .u8 bs)) (hb : bs.length ≤ 2 ^ 47)
    (k : ∀ p' c' h', Sat h0 (sE (p', l, c') 32 (ints .u8 bs) :: A) h' → Q p' l c' h') : F_slices_Clone_api_Cell_api_Cell p l c Q h :=
  Clone_cells_spec p l c _ Q h rd (by have := rd.1; simp at this; omega) fun p' c' h' bs' x o n => k _ _ _ (hs.own x o n)
theorem Clone_ints_sp {p : Option Addr} {l c : Nat} {bs : List Int} {Q : Option Addr → Nat → Nat → H → Prop} (hs : Sat h0 A h) (rd : hsv h p 1 l (ints .i64 bs)) (hb : bs.length * 8 ≤ 2 ^ 47)
    (k : ∀ p' c' h', Sat h0 (sE (p', l, c') 1 (ints .i64 bs) :: A) h' → Q p' l c' h') : F_slices_Clone_int_int p l c Q h :=
  Clone_ints_spec p l c _ Q h rd (by have := rd.1; simp at this; omega) fun p' c' h' bs' x o n => k _ _ _ (hs.own x o n)
theorem Clone_bools_sp {p : Option Addr} {l c : Nat} {bs : List Bool} {Q : Option Addr → Nat → Nat → H → Prop} (hs : Sat h0 A h) (rd : hsv h p 1 l (bools bs)) (hb : bs.length ≤ 2 ^ 47)
    (k : ∀ p' c' h', Sat h0 (sE (p', l, c') 1 (bools bs) :: A) h' → Q p' l c' h') : F_slices_Clone_bool_bool p l c Q h :=
  Clone_bools_spec p l c _ Q h rd (by have := rd.1; simp at this; omega) fun p' c' h' bs' x o n => k _ _ _ (hs.own x o n)
theorem copied_sp {a b c : Sl} {s : St} {Q : Option Addr → Nat → Nat → Option Addr → Nat → Nat → Option Addr → Nat → Nat → H → Prop} (hs : Sat h0 A h) (rd : ∀ h', Sat h0 A h' → RdS h' a b c s) (sm : s.small)
    (k : ∀ (a' b' c' : Sl) h', Sat h0 (stL a' b' c' s ++ A) h' → Q a'.1 a'.2.1 a'.2.2 b'.1 b'.2.1 b'.2.2 c'.1 c'.2.1 c'.2.2 h') :
    F_chip_copied a.1 a.2.1 a.2.2 b.1 b.2.1 b.2.2 c.1 c.2.1 c.2.2 Q h := by
  unfold F_chip_copied G_chip_copied
  simp only [add_mk, Nat.zero_add]
  intro n1 _ hn; replace hs := Sat.new hs hn; clear hn
  intro n2 _ hn; replace hs := Sat.new hs hn; clear hn
  intro J hJ
  have fin : ∀ q b2 b3 c2 c3 h', Sat h0 (blk q [.slice none 0 0, .slice b2 b.2.1 b3, .slice c2 c.2.1 c3] :: sE (b2, b.2.1, b3) 1 (ints .i64 s.erases) :: sE (c2, c.2.1, c3) 1 (bools s.blown) ::
      blk n1 [a.v, b.v, c.v] :: blk n2 [.slice none 0 0, .slice none 0 0, .slice none 0 0] :: A) h' → J [SV.dv (DV.addr ⟨q, 0, none⟩)] h' := by
    intro q b2 b3 c2 c3 h' hs
    apply hJ
    (repeat first | refine ⟨_, Sat.ld hs (by (repeat (first | exact At.z | apply At.s))) (by rfl), ?_⟩ | refine ⟨_, _, _, Sat.ld hs (by (repeat (first | exact At.z | apply At.s))) (by rfl), ?_⟩ | (intro _ _ hn; replace hs := Sat.new hs hn; clear hn) | refine ⟨Sat.cs hs (by (repeat (first | exact At.z | apply At.s))) (by rfl), ?_⟩ | (refine ⟨Sat.can hs (by (repeat (first | exact At.z | apply At.s))) (by simp), ?_⟩; intro _ e; replace hs := Sat.wr hs (by (repeat (first | exact At.z | apply At.s))) e; clear e; simp only [put, splice, List.set] at hs))
    intro J2 hJ2
    have hlen := (rd _ hs.drop.drop.drop.drop.drop).pg.len
    replace hs := hs.mat_nil 32 none
    refine loop_up a.2.1 (fun i h => ∃ hd : Sl, hd.2.1 = i ∧ Sat h0 (matE 32 hd (s.pages.take i) :: blk q [hd.v, .slice b2 b.2.1 b3, .slice c2 c.2.1 c3] :: sE (b2, b.2.1, b3) 1 (ints .i64 s.erases) :: sE (c2, c.2.1, c3) 1 (bools s.blown) ::
      blk n1 [a.v, b.v, c.v] :: blk n2 [.slice none 0 0, .slice none 0 0, .slice none 0 0] :: A) h) ?_ ?_ 0 _ (by omega) ⟨_, rfl, hs⟩
    · rintro i h1 hi ⟨⟨hp, hl, hc⟩, e, hs⟩ hk
      simp only at e; subst e
      apply hJ2
      rw [ltI_eq, if_pos (by simp; omega)]
      have hlt : hl < s.pages.length := by omega
      obtain ⟨q', x, e1, e2, e3⟩ := (rd _ hs.drop.drop.drop.drop.drop.drop).pg.at hlt
      rw [e1]
      refine ⟨_, rfl, by omega, by omega, ?_⟩
      refine ⟨_, _, _, e2, ?_⟩
      refine ⟨_, _, _, Sat.ld hs (by (repeat (first | exact At.z | apply At.s))) (by rfl), ?_⟩
      refine Clone_cells_sp hs e3 (Nat.le_trans (Nat.le_add_right _ _) (sm.rows _ (List.getElem_mem hlt))) ?_
      intro p' c' h2 hs
      refine ⟨Sat.cs hs (by (repeat (first | exact At.z | apply At.s))) (by rfl), ?_⟩
      (intro _ _ hn; replace hs := Sat.new hs hn; clear hn)
      refine ⟨Sat.cs hs (by (repeat (first | exact At.z | apply At.s))) (by rfl), ?_⟩
      refine ⟨_, Sat.bv hs (.z) (by simp) (by simp), ?_⟩
      replace hs := Sat.front hs (.s .z)
      have hpl := sm.pages
      refine Sat.app_row hs (i := 1) (.s .z) (by dsimp only; omega) ?_
      intro p2 c2' h4 hs
      simp only [put, del] at hs
      (refine ⟨Sat.can hs (by (repeat (first | exact At.z | apply At.s))) (by simp), ?_⟩; intro _ e; replace hs := Sat.wr hs (by (repeat (first | exact At.z | apply At.s))) e; clear e; simp only [put, splice, List.set] at hs)
      rw [wrap_succ (by omega)]
      refine hk _ ⟨(p2, hl + 1, c2'), rfl, ?_⟩
      rw [List.take_succ_eq_append_getElem hlt]
      exact hs.sub (by (repeat (first | exact List.Sublist.refl _ | apply List.Sublist.cons_cons | apply List.Sublist.cons)))
    · rintro h1 ⟨⟨hp, hl, hc⟩, e, hs⟩
      simp only at e; subst e
      apply hJ2
      rw [ltI_eq, if_neg (by simp)]
      (repeat first | refine ⟨_, Sat.ld hs (by (repeat (first | exact At.z | apply At.s))) (by rfl), ?_⟩ | refine ⟨_, _, _, Sat.ld hs (by (repeat (first | exact At.z | apply At.s))) (by rfl), ?_⟩ | (intro _ _ hn; replace hs := Sat.new hs hn; clear hn) | refine ⟨Sat.cs hs (by (repeat (first | exact At.z | apply At.s))) (by rfl), ?_⟩ | (refine ⟨Sat.can hs (by (repeat (first | exact At.z | apply At.s))) (by simp), ?_⟩; intro _ e; replace hs := Sat.wr hs (by (repeat (first | exact At.z | apply At.s))) e; clear e; simp only [put, splice, List.set] at hs))
      refine k (hp, _, hc) (b2, _, b3) (c2, _, c3) _ ?_
      rw [← hlen, List.take_length] at hs
      replace hs := Sat.front hs (e := blk n2 _) (by (repeat (first | exact At.z | apply At.s)))
      replace hs := Sat.front hs (e := blk n1 _) (by (repeat (first | exact At.z | apply At.s)))
      replace hs := Sat.front hs (e := blk q _) (by (repeat (first | exact At.z | apply At.s)))
      simp only [del] at hs
      have := hs.drop.drop.drop
      rw [hlen] at this
      exact this
  repeat' (first | refine ⟨_, Sat.ld hs (by (repeat (first | exact At.z | apply At.s))) (by rfl), ?_⟩ | refine ⟨_, _, _, Sat.ld hs (by (repeat (first | exact At.z | apply At.s))) (by rfl), ?_⟩ | (intro _ _ hn; replace hs := Sat.new hs hn; clear hn) | refine ⟨Sat.cs hs (by (repeat (first | exact At.z | apply At.s))) (by rfl), ?_⟩ | (refine ⟨Sat.can hs (by (repeat (first | exact At.z | apply At.s))) (by simp), ?_⟩; intro _ e; replace hs := Sat.wr hs (by (repeat (first | exact At.z | apply At.s))) e; clear e; simp only [put, splice, List.set] at hs) | (refine Clone_ints_sp hs (rd _ (hs.sub (by (repeat (first | exact List.Sublist.refl _ | apply List.Sublist.cons_cons | apply List.Sublist.cons))))).er (Nat.le_trans (Nat.le_add_right _ _) sm.erases) ?_; intro _ _ _ hs) | (refine Clone_bools_sp hs (rd _ (hs.sub (by (repeat (first | exact List.Sublist.refl _ | apply List.Sublist.cons_cons | apply List.Sublist.cons))))).bl (Nat.le_trans (Nat.le_add_right _ _) sm.blown) ?_; intro _ _ _ hs) | refine And.intro ?_ ?_)
  all_goals
    replace hs := Sat.front hs (e := blk n2 _) (by (repeat (first | exact At.z | apply At.s)))
    replace hs := Sat.front hs (e := blk n1 _) (by (repeat (first | exact At.z | apply At.s)))
    replace hs := Sat.front hs (e := slE _ _ _ 1 (bools _)) (by (repeat (first | exact At.z | apply At.s)))
    replace hs := Sat.front hs (e := slE _ _ _ 1 (ints .i64 _)) (by (repeat (first | exact At.z | apply At.s)))
    replace hs := Sat.front hs (e := blk _ [.slice none 0 0, .slice _ b.2.1 _, .slice _ c.2.1 _]) (by (repeat (first | exact At.z | apply At.s)))
    exact fin _ _ _ _ _ _ hs

theorem State_sp {Q : Option Addr → Nat → Nat → Option Addr → Nat → Nat → Option Addr → Nat → Nat → H → Prop} (hs : Sat h0 A h) (ci : At A i (chipE p C))
    (k : ∀ (a' b' c' : Sl) h', Sat h0 (stL a' b' c' C.s ++ A) h' → Q a'.1 a'.2.1 a'.2.2 b'.1 b'.2.1 b'.2.2 c'.1 c'.2.1 c'.2.2 h') : F_chip_Chip_State ⟨p, 0, none⟩ Q h := by
  unfold F_chip_Chip_State G_chip_Chip_State
  simp only [add_mk, Nat.zero_add]
  obtain ⟨w, ok, hs⟩ := (hs.front ci).open_; dsimp only [chipL, List.cons_append, List.nil_append, Cm.cells] at hs
  intro nl _ hn; replace hs := Sat.new hs hn; clear hn
  refine ⟨_, _, _, Sat.ld hs (by (repeat (first | exact At.z | apply At.s))) (by rfl), ?_⟩
  refine ⟨_, _, _, Sat.ld hs (by (repeat (first | exact At.z | apply At.s))) (by rfl), ?_⟩
  refine ⟨_, _, _, Sat.ld hs (by (repeat (first | exact At.z | apply At.s))) (by rfl), ?_⟩
  refine copied_sp (a := w.a) (b := w.b) (c := w.c) (s := C.s) hs (fun h' hs' => sat_rdS hs' (i := 2) (j := 3) (k := 4) (.s (.s .z)) (.s (.s (.s .z))) (.s (.s (.s (.s .z))))) ok.small ?_
  intro a' b' c' h' hs
  replace hs : Sat h0 (matE 32 a' C.s.pages :: sE b' 1 (ints .i64 C.s.erases) :: sE c' 1 (bools C.s.blown) :: blk nl [.slice none 0 0, .slice none 0 0, .slice none 0 0] :: chipL p C w ++ del A i) h' := hs
  dsimp only [chipL, List.cons_append, List.nil_append, Cm.cells] at hs
  (repeat first | refine ⟨_, Sat.ld hs (by (repeat (first | exact At.z | apply At.s))) (by rfl), ?_⟩ | refine ⟨_, _, _, Sat.ld hs (by (repeat (first | exact At.z | apply At.s))) (by rfl), ?_⟩ | (intro _ _ hn; replace hs := Sat.new hs hn; clear hn) | refine ⟨Sat.cs hs (by (repeat (first | exact At.z | apply At.s))) (by rfl), ?_⟩ | (refine ⟨Sat.can hs (by (repeat (first | exact At.z | apply At.s))) (by simp), ?_⟩; intro _ e; replace hs := Sat.wr hs (by (repeat (first | exact At.z | apply At.s))) e; clear e; simp only [put, splice, List.set] at hs))
  refine k a' b' c' _ ?_
  replace hs := Sat.front hs (e := slE w.m.1 _ _ 1 (ints .u8 C.mask)) (by (repeat (first | exact At.z | apply At.s)))
  replace hs := Sat.front hs (e := slE w.c.1 w.c.2.1 w.c.2.2 1 (bools C.s.blown)) (by (repeat (first | exact At.z | apply At.s)))
  replace hs := Sat.front hs (e := slE w.b.1 w.b.2.1 w.b.2.2 1 (ints .i64 C.s.erases)) (by (repeat (first | exact At.z | apply At.s)))
  replace hs := Sat.front hs (e := matE 32 w.a C.s.pages) (by (repeat (first | exact At.z | apply At.s)))
  replace hs := Sat.front hs (e := blk p _) (by (repeat (first | exact At.z | apply At.s)))
  simp only [del] at hs
  have hC := chip_close (a := w.a) (b := w.b) (c := w.c) (m := w.m) ok ci.s.s.s.s hs
  simp only [put_succ, ci.put_self] at hC
  exact hC.sub (by (repeat (first | exact List.Sublist.refl _ | apply List.Sublist.cons_cons | apply List.Sublist.cons)))
end
end Go.Proofs.Yteabcbpimjjdpaa
end

/- What arguments of the statements are: states of chips. Own work. -/
section
set_option maxRecDepth 100000
set_option linter.unusedVariables false
namespace Go.Proofs.Yteabcbpimjjdpaa
open Go Go.Vc Go.ChangeShapes Go.WideShapes Go.ChangeAt Go.RowKit

section
variable {D : Type} {enc : TypeId × Value → D} {W : World}
theorem slice_of {t e : TypeId} {v : Value} {base : Nat} (u : Try.prog.underlying t = some (.slice e)) (h : Rdt enc PP W t v.cells.toList) (ho : Value.okWide PP W .any base t v) : ∃ p l c, v = .slice p l c ∧ Sli enc PP W e p l c := by
  obtain ⟨p, l, c, e1, hs⟩ := Rdt.slice u h
  exact ⟨p, l, c, okw_one (by rw [u]) ho e1, hs⟩
theorem ok_cfg (c : Cfg) : (DV.agg (c.vals.map .c)).ok := by
  intro y hy; simp only [Cfg.vals, List.map_cons, List.map_nil, List.mem_cons, List.not_mem_nil, or_false] at hy
  rcases hy with rfl | rfl | rfl | rfl | rfl | rfl | rfl <;> rfl
end
end Go.Proofs.Yteabcbpimjjdpaa
end

/- Contract of chip.Lay. Own work. -/
section
set_option linter.unusedVariables false
namespace Go.Proofs.Yteabcbpimjjdpaa
open Go Go.Vc

structure St.lays (c : Cfg) (s : St) : Prop where
  fits : s.fits c
  pos : ∀ n, n ∈ s.erases → 0 ≤ n
section
variable {h0 h : H} {A : List Ent} {i p : Nat} {C : Cm}
end
end Go.Proofs.Yteabcbpimjjdpaa
end

/- Bits of bytes. Own work; generic over any program. -/
section
namespace Go.Vc
abbrev b8 (x : Int) : BitVec 8 := BitVec.ofInt 8 x
theorem b8_nat (v : BitVec 8) : b8 (v.toNat : Int) = v := by simp [b8]
theorem w8_nat (v : BitVec 8) : IntKind.u8.wrap (v.toNat : Int) = (v.toNat : Int) := by
  have := v.isLt
  rw [IntKind.wrap_u8]; omega
theorem bits_or8 (x y : Int) : bits .or .u8 x y = ((b8 x ||| b8 y).toNat : Int) := w8_nat (b8 x ||| b8 y)
theorem bits_xor8 (x y : Int) : bits .xor .u8 x y = ((b8 x ^^^ b8 y).toNat : Int) := w8_nat (b8 x ^^^ b8 y)
theorem bits_andNot8 (x y : Int) : bits .andNot .u8 x y = ((b8 x &&& ~~~ b8 y).toNat : Int) := w8_nat (b8 x &&& ~~~ b8 y)
theorem full_or (b : Int) : bits .or .u8 b 255 = 255 := by
  rw [bits_or8]
  have : b8 255 = BitVec.allOnes 8 := by decide
  rw [this, BitVec.or_allOnes]
  decide
end Go.Vc
end

/- Contracts of the document's chip: configs, copies, new ones. Own work. -/
section
set_option linter.unusedVariables false
namespace Go.Proofs.Yteabcbpimjjdpaa
open Go Go.Vc

section
variable {h0 h : H} {A : List Ent} {i p : Nat} {C : Cm}
theorem rwithin_iff (n a b : Int) (Q : Bool → H → Prop) (h : H) : F_portcullisref04_within n a b Q h = Q (decide (a ≤ n) && decide (n ≤ b)) h := by
  unfold F_portcullisref04_within G_portcullisref04_within
  by_cases h1 : a ≤ n <;> simp [h1]
theorem rMay_sp (c : Cfg) {Q : Int → H → Prop} (hs : Sat h0 A h) (k : ∀ h', Sat h0 A h' → Q c.may? h') :
    F_portcullisref04_May c.cells c.slots c.fuses c.step c.keys c.erases c.area Q h := by
  unfold F_portcullisref04_May G_portcullisref04_May
  simp only [add_mk, Nat.zero_add]
  intro n1 h' hn; replace hs := Sat.new hs hn; clear hn
  replace k := k h' hs.drop
  have kb := hs.blkOf .z
  have hc0 := kb.hc
  intro J hJ
  have w3 : 1 ≤ c.slots ∧ c.slots ≤ 8 → IntKind.i64.wrap (c.slots + 3) = c.slots + 3 := by
    intro h1; rw [IntKind.wrap_i64]; omega
  have fin : ∀ r : Bool, (r = true ↔ (1 ≤ c.slots ∧ c.slots ≤ 8) ∧ (c.slots + 3 ≤ c.cells ∧ c.cells ≤ 256) ∧ (1 ≤ c.fuses ∧ c.fuses ≤ 64) ∧ (1 ≤ c.step ∧ c.step ≤ 65536)) → J [SV.dv (DV.one (Value.bool r))] h' := by
    intro r hr
    apply hJ
    simp only [hc0, rwithin_iff, List.getElem?_cons_succ, List.getElem?_cons_zero, Option.some.injEq, Value.int.injEq, true_and, exists_eq_left', Bool.and_eq_true, decide_eq_true_eq]
    have bad : ¬ c.may → Q 1 h' := fun hm => by unfold Cfg.may? at k; rwa [if_neg hm] at k
    have good : c.may → Q 0 h' := fun hm => by unfold Cfg.may? at k; rwa [if_pos hm] at k
    by_cases h4 : 1 ≤ c.keys ∧ c.keys ≤ 64
    case neg => rw [if_neg h4]; split <;> exact bad fun m => h4 m.keys
    rw [if_pos h4]
    by_cases h5 : 0 ≤ c.erases ∧ c.erases ≤ 65536
    case neg => rw [if_neg h5]; split <;> exact bad fun m => h5 m.erases
    rw [if_pos h5]
    cases r with
    | false =>
      have := mt hr.2 (by simp)
      simp only [Bool.not_false, if_true]
      exact bad fun m => this ⟨m.slots, m.cells, m.fuses, m.step⟩
    | true =>
      obtain ⟨a1, a2, a3, a4⟩ := hr.1 rfl
      rw [if_neg (by simp)]
      by_cases h6 : 0 ≤ c.area ∧ c.area ≤ 64
      · rw [if_neg (by simp; omega)]; exact good ⟨a1, a2, a3, a4, h4, h5, h6⟩
      · rw [if_pos (by simp; omega)]; exact bad fun m => h6 m.area
  simp only [hc0, rwithin_iff, List.getElem?_cons_succ, List.getElem?_cons_zero, Option.some.injEq, Value.int.injEq, true_and, exists_eq_left', Bool.and_eq_true, decide_eq_true_eq]
  split
  case isFalse h1 => exact fin false (by simp; intro a b; exact absurd ⟨a, b⟩ h1)
  rename_i h1
  rw [w3 h1]
  split
  case isFalse h2 => exact fin false (by simp; intro _ _ a b; exact absurd ⟨a, b⟩ h2)
  rename_i h2
  split
  case isFalse h3 => exact fin false (by simp; intro _ _ _ _ a b; exact absurd ⟨a, b⟩ h3)
  rename_i h3
  refine fin _ ?_
  simp only [Bool.and_eq_true, decide_eq_true_eq]
  exact ⟨fun h4 => ⟨h1, h2, h3, h4⟩, fun m => m.2.2.2⟩

end
end Go.Proofs.Yteabcbpimjjdpaa

/- Contracts of the document's chip: new ones, laid ones, copies. Own work. -/
set_option linter.unusedVariables false
namespace Go.Proofs.Yteabcbpimjjdpaa
open Go Go.Vc

section
variable {h0 h : H} {A : List Ent} {i p : Nat} {C : Cm}
end
end Go.Proofs.Yteabcbpimjjdpaa

/- Contracts of the document's chip: its methods. Own work. -/
set_option linter.unusedVariables false
namespace Go.Proofs.Yteabcbpimjjdpaa
open Go Go.Vc

/-- The document's chip: as the program's, but that a mask which is used up may stay. -/
structure RefW (C : Cm) (w : Pl × List Int) : Prop where
  ok : C.ok
  b : bytesOk w.2
  l : w.2.length ≤ 2 ^ 47
  m : 0 ≤ C.left → w.2 = C.mask
abbrev refL (p : Nat) (C : Cm) (w : Pl × List Int) : List Ent := [blk p (C.cells w.1.a w.1.b w.1.c w.1.m), matE 32 w.1.a C.s.pages, sE w.1.b 1 (ints .i64 C.s.erases), sE w.1.c 1 (bools C.s.blown), sE w.1.m 1 (ints .u8 w.2)]
def refE (p : Nat) (C : Cm) : Ent := exE 4 (RefW C) (refL p C)

section
variable {h0 h : H} {A : List Ent} {i p : Nat} {C : Cm}
end
end Go.Proofs.Yteabcbpimjjdpaa
end

/- Contracts of the chip's statements: a state is written over. Own work. -/
section
set_option linter.unusedVariables false
namespace Go.Proofs.Yteabcbpimjjdpaa
open Go Go.Vc

section
variable {h0 h : H} {A : List Ent} {i p : Nat} {C : Cm}
end
end Go.Proofs.Yteabcbpimjjdpaa

/- Contracts of the chip's statements: pairs of chips. Own work. -/
set_option maxRecDepth 100000
set_option linter.unusedVariables false
namespace Go.Proofs.Yteabcbpimjjdpaa
open Go Go.Vc

section
variable {h0 h : H} {A : List Ent} {i j p r : Nat} {C : Cm}
theorem chip_ok (hs : Sat h0 A h) (ci : At A i (chipE p C)) : C.ok := by
  obtain ⟨w, ok, _⟩ := (hs.front ci).open_
  exact ok
end
end Go.Proofs.Yteabcbpimjjdpaa
end

/- Contracts of the chip's statements: a step. Own work. -/
section
set_option maxRecDepth 100000
set_option linter.unusedVariables false
namespace Go.Proofs.Yteabcbpimjjdpaa
open Go Go.Vc

/-- A step of a script over a chip. -/
structure Stp where
  kind : Int
  a : Int
  b : Int
  x : List Int
  mask : List Int
structure Stp.ok (s : Stp) : Prop where
  a : -(2 ^ 63) ≤ s.a ∧ s.a < 2 ^ 63
  x : s.x.length = 32
  mb : bytesOk s.mask
  ml : s.mask.length + 4096 ≤ 2 ^ 47
section
variable {h0 h : H} {A : List Ent} {i j p r : Nat} {C : Cm}
end
end Go.Proofs.Yteabcbpimjjdpaa

/- Contracts of the chip's statements: games; calls whose answers are fixed. Own work. -/
set_option maxRecDepth 100000
set_option linter.unusedVariables false
namespace Go.Proofs.Yteabcbpimjjdpaa
open Go Go.Vc

section
variable {h0 h : H} {A : List Ent} {i j p r : Nat} {C : Cm}
/-- How a script lies in memory. -/
structure ScriptRd (h : H) (p : Option Addr) (l : Nat) (sc : List Stp) : Prop where
  len : sc.length = l
  small : l < 2 ^ 62
  el : ∀ i (hi : i < sc.length), ∃ (q : Addr) (mp : Option Addr) (ml mc : Nat), p = some q ∧ hc h (q.add (i * 36)) = some (.int .i64 sc[i].kind) ∧ hc h ((q.add (i * 36)).add 1) = some (.int .i64 sc[i].a) ∧
    hc h ((q.add (i * 36)).add 2) = some (.int .i64 sc[i].b) ∧ hrow h ((q.add (i * 36)).add 3) .u8 sc[i].x ∧ hc h ((q.add (i * 36)).add 35) = some (.slice mp ml mc) ∧ hsv h mp 1 ml (ints .u8 sc[i].mask) ∧ sc[i].ok
end
end Go.Proofs.Yteabcbpimjjdpaa

/- Contracts of the chip's statements: ChipLays. Own work. -/
set_option maxRecDepth 100000
set_option linter.unusedVariables false
namespace Go.Proofs.Yteabcbpimjjdpaa
open Go Go.Vc

section
variable {h0 h : H} {A : List Ent} {i j p r : Nat} {C : Cm}
end
end Go.Proofs.Yteabcbpimjjdpaa
end

/- The fuses' model: counts of a row, raising, revoking; laws about numbers alone. Own work. -/
section
set_option maxRecDepth 100000
set_option linter.unusedVariables false
namespace Go.Proofs.Yteabcbpimjjdpaa
open Go Go.Vc

/-- A loop whose slots tell of a state. -/
theorem loop_st {J : List SV → H → Prop} {σ : Type} (N : Nat) (S : Nat → σ → List SV) (Inv : Nat → σ → H → Prop) (step : ∀ i s h, i < N → Inv i s h → (∀ s' h', Inv (i + 1) s' h' → J (S (i + 1) s') h') → J (S i s) h)
    (exit : ∀ s h, Inv N s h → J (S N s) h) (i : Nat) (s : σ) (h : H) (hi : i ≤ N) (inv : Inv i s h) : J (S i s) h := by
  generalize e : N - i = n
  induction n generalizing i s h with
  | zero =>
    have : i = N := by omega
    subst this; exact exit s h inv
  | succ n ih => exact step i s h (by omega) inv fun s' h' inv' => ih (i + 1) s' h' (by omega) inv' (by omega)

def cnt (bl : List Bool) (a : Nat) : Nat → Nat
  | 0 => 0
  | n + 1 => cnt bl a n + (if bl.getD (a + n) false = true then 1 else 0)
theorem askedM_in {C : Cm} {i n : Int} (ho : C.out = false) (h1 : 0 ≤ i) (h2 : i < n) : askedM C i n = 0 := by
  unfold askedM; rw [if_neg (by simp [ho]), if_neg (by omega), if_neg (by omega)]
theorem act_out {C : Cm} (ho : C.out = false) (hl : C.left ≠ 0) : C.act.out = false := by
  unfold Cm.act; rw [if_pos hl]; exact ho
/-- What a Raise does to a row. -/
structure Raised (a f : Nat) (n : Int) (C D : Cm) (e : Int) : Prop where
  cfg : D.cfg = C.cfg
  len : D.s.blown.length = C.s.blown.length
  same : ∀ k, k < a ∨ a + f ≤ k → D.s.blown.getD k false = C.s.blown.getD k false
  up : ∀ k, C.s.blown.getD k false = true → D.s.blown.getD k false = true
  ge : cnt C.s.blown a f ≤ cnt D.s.blown a f
  le : (cnt D.s.blown a f : Int) ≤ max n (cnt C.s.blown a f)
  good : e = 0 → (cnt D.s.blown a f : Int) = max n (cnt C.s.blown a f)
  on : e = 0 → D.out = false
  bad : e ≠ 0 → e = 8 ∧ 0 ≤ C.left ∧ C.left < n - cnt C.s.blown a f
end Go.Proofs.Yteabcbpimjjdpaa

/- Contracts of the fuses' package. Own work. -/
set_option maxRecDepth 100000
set_option linter.unusedVariables false
namespace Go.Proofs.Yteabcbpimjjdpaa
open Go Go.Vc

section
variable {h0 h : H} {A : List Ent} {i j p r : Nat} {C : Cm}
end
end Go.Proofs.Yteabcbpimjjdpaa

/- Contracts of the document's fuses. Own work. -/
set_option maxRecDepth 100000
set_option linter.unusedVariables false
namespace Go.Proofs.Yteabcbpimjjdpaa
open Go Go.Vc

section
variable {h0 h : H} {A : List Ent} {i j p r : Nat} {C : Cm}
end
end Go.Proofs.Yteabcbpimjjdpaa
end

/- Contracts of the fuses' statements: FuseDoes. Own work. -/
section
set_option maxRecDepth 100000
set_option linter.unusedVariables false
namespace Go.Proofs.Yteabcbpimjjdpaa
open Go Go.Vc

section
variable {h0 h : H} {A : List Ent} {i j p r : Nat} {C : Cm}
structure Stp7 where
  kind : Int
  a : Int
  n : Int
structure Stp7.ok (s : Stp7) : Prop where
  n : s.n < 2 ^ 63
/-- How a script lies in memory. -/
structure Script7 (h : H) (p : Option Addr) (l : Nat) (sc : List Stp7) : Prop where
  len : sc.length = l
  small : l < 2 ^ 62
  el : ∀ i (hi : i < sc.length), ∃ (q : Addr), p = some q ∧ hc h (q.add (i * 3)) = some (.int .i64 sc[i].kind) ∧ hc h ((q.add (i * 3)).add 1) = some (.int .i64 sc[i].a) ∧
    hc h ((q.add (i * 3)).add 2) = some (.int .i64 sc[i].n) ∧ sc[i].ok
end
end Go.Proofs.Yteabcbpimjjdpaa
end

/- Cells' bytes: tables, bytes of numbers, the sum of bytes; laws about numbers alone. Own work. -/
section
set_option maxRecDepth 100000
set_option linter.unusedVariables false
namespace Go.Proofs.Yteabcbpimjjdpaa
open Go Go.Vc

/-- A table of numbers. -/
def tab (n : Nat) (f : Nat → Int) : List Int := (List.range n).map f
@[simp] theorem tab_length (n : Nat) (f : Nat → Int) : (tab n f).length = n := by simp [tab]
theorem tab_get (n : Nat) (f : Nat → Int) (i : Nat) : (tab n f)[i]? = if i < n then some (f i) else none := by
  unfold tab
  rw [List.getElem?_map]
  by_cases h : i < n
  · rw [List.getElem?_range h, if_pos h]; rfl
  · rw [if_neg h, List.getElem?_eq_none (by simpa using h)]; rfl
theorem tab_set (n : Nat) (f : Nat → Int) (k : Nat) (v : Int) : (tab n f).set k v = tab n (fun i => if i = k then v else f i) := by
  apply List.ext_getElem?
  intro i
  rw [List.getElem?_set, tab_get, tab_get]
  by_cases h : k = i
  · subst h; simp
  · rw [if_neg h]; simp only [show (i = k) = False by simp; omega, if_false]
theorem tab_ext {n : Nat} {f g : Nat → Int} (h : ∀ i, i < n → f i = g i) : tab n f = tab n g := by
  apply List.ext_getElem?
  intro i
  rw [tab_get, tab_get]
  split
  · rw [h i (by assumption)]
  · rfl
theorem zeros_tab (n : Nat) : zeros n = tab n fun _ => 0 := by
  apply List.ext_getElem?
  intro i
  rw [tab_get]
  unfold zeros
  by_cases h : i < n
  · rw [List.getElem?_replicate, if_pos h]
    try rw [if_pos h]
  · rw [List.getElem?_replicate, if_neg h]
    try rw [if_neg h]
theorem of_tab (l : List Int) : l = tab l.length fun i => l.getD i 0 := by
  apply List.ext_getElem?
  intro i
  rw [tab_get]
  by_cases h : i < l.length
  · rw [if_pos h]; simp [List.getD, List.getElem?_eq_getElem h]
  · rw [if_neg h, List.getElem?_eq_none (by omega)]
theorem ints_tab_set (k : IntKind) (n : Nat) (f : Nat → Int) (j : Nat) (v : Int) : splice (ints k (tab n f)) j [.int k v] = ints k (tab n (fun i => if i = j then v else f i)) := by
  rw [splice_cons, splice_nil, ints_set, tab_set]
def byteAt (n : Int) (i : Nat) : Int := IntKind.u8.wrap (n.fdiv (2 ^ (8 * i)))
theorem wrap_u8_byte (n : Int) : isByte (IntKind.u8.wrap n) := by unfold isByte; rw [IntKind.wrap_u8]; omega
def compl8 (x : Int) : Int := bits .xor .u8 255 x

/-! ### The sum -/
abbrev b32 (x : Int) : BitVec 32 := BitVec.ofInt 32 x
theorem w32_nat (v : BitVec 32) : IntKind.u32.wrap (v.toNat : Int) = (v.toNat : Int) := by
  have := v.isLt
  rw [IntKind.wrap_u32]; omega
theorem b32_nat (v : BitVec 32) : b32 (v.toNat : Int) = v := by simp [b32]
theorem bits_xor32 (x y : Int) : bits .xor .u32 x y = ((b32 x ^^^ b32 y).toNat : Int) := w32_nat (b32 x ^^^ b32 y)
theorem bits_and32 (x y : Int) : bits .and .u32 x y = ((b32 x &&& b32 y).toNat : Int) := w32_nat (b32 x &&& b32 y)
def is32 (x : Int) : Prop := 0 ≤ x ∧ x < 2 ^ 32
theorem is32_nat (v : BitVec 32) : is32 (v.toNat : Int) := by have := v.isLt; unfold is32; omega
theorem of32 {x : Int} (h : is32 x) : ((b32 x).toNat : Int) = x := by
  unfold is32 at h
  simp only [BitVec.toNat_ofInt]
  omega
def crcStep (x : Int) : Int := if bits .and .u32 x 1 = 1 then bits .xor .u32 (x.fdiv (2 ^ 1)) 3988292384 else x.fdiv (2 ^ 1)
def crcIt : Nat → Int → Int
  | 0, x => x
  | n + 1, x => crcIt n (crcStep x)
def vStep (v : BitVec 32) : BitVec 32 := if v.getLsbD 0 = true then (v >>> 1) ^^^ 3988292384#32 else v >>> 1
def vIt : Nat → BitVec 32 → BitVec 32
  | 0, v => v
  | n + 1, v => vIt n (vStep v)
theorem shr_nat (v : BitVec 32) (k : Nat) : ((v.toNat : Int)).fdiv (2 ^ k) = ((v >>> k).toNat : Int) := by
  rw [BitVec.toNat_ushiftRight, Nat.shiftRight_eq_div_pow, Int.fdiv_eq_ediv_of_nonneg _ (Int.le_of_lt (Int.pow_pos (by decide)))]
  simp
theorem crcStep_v (v : BitVec 32) : crcStep (v.toNat : Int) = ((vStep v).toNat : Int) := by
  unfold crcStep vStep
  rw [bits_and32, shr_nat, b32_nat]
  have : ((((v &&& b32 1).toNat : Nat) : Int) = 1) ↔ v.getLsbD 0 = true := by
    have e1 : b32 1 = 1#32 := by decide
    rw [e1]
    have : (v &&& 1#32).toNat = v.toNat % 2 := by
      rw [BitVec.toNat_and]
      exact Nat.and_one_is_mod _
    rw [this]
    have : v.getLsbD 0 = decide (v.toNat % 2 = 1) := by
      rw [BitVec.getLsbD, Nat.testBit_zero]
    rw [this, decide_eq_true_eq]; omega
  by_cases h : v.getLsbD 0 = true
  · rw [if_pos (this.2 h), if_pos h, bits_xor32, b32_nat]; rfl
  · rw [if_neg (fun x => h (this.1 x)), if_neg h]
theorem crcIt_v (n : Nat) : ∀ v : BitVec 32, crcIt n (v.toNat : Int) = ((vIt n v).toNat : Int) := by
  induction n with
  | zero => intro v; rfl
  | succ n ih => intro v; unfold crcIt vIt; rw [crcStep_v, ih]
theorem vStep_xor (v w : BitVec 32) : vStep (v ^^^ w) = vStep v ^^^ vStep w := by
  unfold vStep
  have e : (v ^^^ w) >>> 1 = (v >>> 1) ^^^ (w >>> 1) := BitVec.ushiftRight_xor_distrib v w 1
  rw [BitVec.getLsbD_xor, e]
  generalize v >>> 1 = a
  generalize w >>> 1 = b
  generalize 3988292384#32 = P
  cases v.getLsbD 0 <;> cases w.getLsbD 0 <;> simp only [Bool.xor_true, Bool.xor_false, Bool.not_true, Bool.not_false, Bool.false_eq_true, if_true, if_false]
  all_goals
    ext i hi
    simp only [BitVec.getElem_xor]
    cases a[i] <;> cases b[i] <;> cases P[i] <;> rfl
theorem vIt_xor (n : Nat) : ∀ v w : BitVec 32, vIt n (v ^^^ w) = vIt n v ^^^ vIt n w := by
  induction n with
  | zero => intro v w; rfl
  | succ n ih => intro v w; unfold vIt; rw [vStep_xor, ih]
theorem vIt_low (n : Nat) : ∀ v : BitVec 32, (∀ i, i < n → v.getLsbD i = false) → vIt n v = v >>> n := by
  induction n with
  | zero => intro v _; simp [vIt]
  | succ n ih =>
    intro v h
    unfold vIt
    have : vStep v = v >>> 1 := by unfold vStep; rw [h 0 (by omega)]; simp
    rw [this, ih]
    · rw [← BitVec.shiftRight_add, Nat.add_comm]
    · intro i hi
      rw [BitVec.getLsbD_ushiftRight]
      have := h (1 + i) (by omega)
      exact this
theorem crc_one (v : BitVec 32) (c : Int) (hc : isByte c) : bits .xor .u32 (crcIt 8 (IntKind.u32.wrap (bits .xor .u8 (IntKind.u8.wrap (v.toNat : Int)) c))) ((v.toNat : Int).fdiv (2 ^ 8)) = crcIt 8 (bits .xor .u32 (v.toNat : Int) (IntKind.u32.wrap c)) := by
  rw [shr_nat, bits_xor8, bits_xor32, bits_xor32]
  obtain ⟨c1, c2⟩ := hc
  have hw : IntKind.u32.wrap c = c := by rw [IntKind.wrap_u32]; omega
  rw [hw]
  have low : (IntKind.u32.wrap ((b8 (IntKind.u8.wrap (v.toNat : Int)) ^^^ b8 c).toNat : Int)) = (((v &&& 255#32) ^^^ b32 c).toNat : Int) := by
    have h1 : (b8 (IntKind.u8.wrap (v.toNat : Int)) ^^^ b8 c).toNat < 256 := (b8 (IntKind.u8.wrap (v.toNat : Int)) ^^^ b8 c).isLt
    rw [IntKind.wrap_u32]
    have h2 : (b8 (IntKind.u8.wrap (v.toNat : Int)) ^^^ b8 c).toNat = ((v &&& 255#32) ^^^ b32 c).toNat := by
      rw [BitVec.toNat_xor, BitVec.toNat_xor, BitVec.toNat_and]
      have e1 : (b8 (IntKind.u8.wrap (v.toNat : Int))).toNat = v.toNat % 256 := by
        simp only [BitVec.toNat_ofInt]; rw [IntKind.wrap_u8]; omega
      have e2 : (b8 c).toNat = c.toNat := by simp only [BitVec.toNat_ofInt]; omega
      have e3 : (b32 c).toNat = c.toNat := by simp only [BitVec.toNat_ofInt]; omega
      have e4 : v.toNat &&& (255#32).toNat = v.toNat % 256 := Nat.and_two_pow_sub_one_eq_mod v.toNat 8
      rw [e1, e2, e3, e4]
    omega
  rw [low, crcIt_v, b32_nat, b32_nat, b32_nat, crcIt_v]
  congr 1
  have split : v ^^^ b32 c = ((v &&& 255#32) ^^^ b32 c) ^^^ (v &&& ~~~ 255#32) := by
    ext i hi
    simp only [BitVec.getElem_xor, BitVec.getElem_and, BitVec.getElem_not]
    cases v[i] <;> cases (b32 c)[i] <;> cases (255#32)[i] <;> rfl
  rw [split, vIt_xor 8 (v &&& 255#32 ^^^ b32 c) (v &&& ~~~ 255#32)]
  congr 1
  have hb : ∀ i, i < 8 → (v &&& ~~~ 255#32).getLsbD i = false := by
    intro i hi
    have : (~~~ 255#32).getLsbD i = false := by
      have : ∀ i, i < 8 → (~~~ 255#32).getLsbD i = false := by decide
      exact this i hi
    rw [BitVec.getLsbD_and, this, Bool.and_false]
  rw [vIt_low 8 _ hb]
  congr 1
  ext i hi
  simp only [BitVec.getElem_ushiftRight, BitVec.getLsbD_and]
  have : ∀ j, j < 32 → (~~~ 255#32).getLsbD j = decide (8 ≤ j) := by decide
  by_cases hj : 8 + i < 32
  · rw [this _ hj]; simp
  · rw [BitVec.getLsbD_of_ge _ _ (by omega)]; simp
def crcF (x : Int) (c : Int) : Int := bits .xor .u32 (crcIt 8 (IntKind.u32.wrap (bits .xor .u8 (IntKind.u8.wrap x) c))) (x.fdiv (2 ^ 8))
def crcG (x : Int) (c : Int) : Int := crcIt 8 (bits .xor .u32 x (IntKind.u32.wrap c))
theorem crcFG {x c : Int} (hx : is32 x) (hc : isByte c) : crcF x c = crcG x c ∧ is32 (crcG x c) := by
  have e := of32 hx
  have := crc_one (b32 x) c hc
  rw [e] at this
  refine ⟨this, ?_⟩
  unfold crcG
  rw [bits_xor32, crcIt_v]
  exact is32_nat _
def crcM (bs : List Int) : Int := bits .xor .u32 4294967295 (bs.foldl crcG 4294967295)
theorem crc_fold (bs : List Int) (hb : bytesOk bs) : ∀ x, is32 x → bs.foldl crcF x = bs.foldl crcG x := by
  induction bs with
  | nil => intro x _; rfl
  | cons c r ih =>
    intro x hx
    obtain ⟨e1, e2⟩ := crcFG hx (hb c (by simp))
    rw [List.foldl_cons, List.foldl_cons, e1]
    exact ih (fun n hn => hb n (by simp [hn])) _ e2
theorem crcM_is (bs : List Int) : is32 (crcM bs) := by unfold crcM; rw [bits_xor32]; exact is32_nat _

/-! ### Numbers of eight bytes -/
abbrev b64 (x : Int) : BitVec 64 := BitVec.ofInt 64 x
theorem wrap_u64' (n : Int) : IntKind.u64.wrap n = n % 18446744073709551616 := by simp [IntKind.wrap, IntKind.bits, IntKind.signed]
theorem b64_nat (v : BitVec 64) : b64 (v.toNat : Int) = v := by simp [b64]
theorem or_u64 (x y : Int) : b64 (bits .or .u64 x y) = b64 x ||| b64 y := by
  have : bits .or .u64 x y = IntKind.u64.wrap ((b64 x ||| b64 y).toNat : Int) := rfl
  rw [this]
  have h := (b64 x ||| b64 y).isLt
  have : IntKind.u64.wrap ((b64 x ||| b64 y).toNat : Int) = ((b64 x ||| b64 y).toNat : Int) := by rw [wrap_u64']; omega
  rw [this, b64_nat]
theorem wrap_b64u (x : Int) : b64 (IntKind.u64.wrap x) = b64 x := by
  apply BitVec.eq_of_toNat_eq
  simp only [BitVec.toNat_ofInt]
  rw [wrap_u64']; omega
theorem wrap_b64i (x : Int) : b64 (IntKind.i64.wrap x) = b64 x := by
  apply BitVec.eq_of_toNat_eq
  simp only [BitVec.toNat_ofInt]
  rw [IntKind.wrap_i64]; omega
theorem or_i64 (x y : Int) : b64 (bits .or .i64 x y) = b64 x ||| b64 y := by
  have : bits .or .i64 x y = IntKind.i64.wrap ((b64 x ||| b64 y).toNat : Int) := rfl
  rw [this, wrap_b64i, b64_nat]
theorem wrap_of_b64 {x y : Int} (h : b64 x = b64 y) : IntKind.i64.wrap x = IntKind.i64.wrap y := by
  have h2 := congrArg BitVec.toNat h
  simp only [BitVec.toNat_ofInt] at h2
  rw [IntKind.wrap_i64, IntKind.wrap_i64]; omega
def gotU (l : List Int) : Nat → Int
  | 0 => 0
  | n + 1 => bits .or .u64 (gotU l n) (IntKind.u64.wrap (IntKind.u64.wrap (l.getD n 0) * 2 ^ (8 * n)))
def gotI (l : List Int) : Nat → Int
  | 0 => 0
  | n + 1 => bits .or .i64 (gotI l n) (IntKind.i64.wrap (IntKind.i64.wrap (l.getD n 0) * 2 ^ (8 * n)))
theorem got_b (l : List Int) (hb : bytesOk l) (n : Nat) : b64 (gotU l n) = b64 (gotI l n) := by
  induction n with
  | zero => rfl
  | succ n ih =>
    unfold gotU gotI
    rw [or_u64, or_i64, ih, wrap_b64u, wrap_b64i]
    have : isByte (l.getD n 0) := by
      rw [List.getD_eq_getElem?_getD]
      cases e : l[n]? with
      | none => exact ⟨by decide, by decide⟩
      | some v => exact hb v (List.mem_iff_getElem?.2 ⟨n, e⟩)
    obtain ⟨h1, h2⟩ := this
    have e1 : IntKind.u64.wrap (l.getD n 0) = l.getD n 0 := by rw [wrap_u64']; omega
    have e2 : IntKind.i64.wrap (l.getD n 0) = l.getD n 0 := by rw [IntKind.wrap_i64]; omega
    rw [e1, e2]
theorem gotI_range (l : List Int) (n : Nat) : IntKind.i64.wrap (gotI l n) = gotI l n := by
  cases n with
  | zero => exact (by decide : IntKind.i64.wrap 0 = 0)
  | succ n =>
    unfold gotI
    have : ∀ x y, IntKind.i64.wrap (bits .or .i64 x y) = bits .or .i64 x y := by
      intro x y
      have : bits .or .i64 x y = IntKind.i64.wrap ((b64 x ||| b64 y).toNat : Int) := rfl
      rw [this, IntKind.wrap_i64, IntKind.wrap_i64]; omega
    exact this _ _
theorem got_eq (l : List Int) (hb : bytesOk l) (n : Nat) : IntKind.i64.wrap (gotU l n) = gotI l n := by
  rw [wrap_of_b64 (got_b l hb n), gotI_range]
end Go.Proofs.Yteabcbpimjjdpaa

/- Contracts of sums, rails and cells. Own work. -/
set_option maxRecDepth 100000
set_option linter.unusedVariables false
namespace Go.Proofs.Yteabcbpimjjdpaa
open Go Go.Vc

section
variable {h0 h : H} {A : List Ent} {i j p r b : Nat} {C : Cm}
theorem max32 : (if IntKind.u32.signed = true then (-1 : Int) else IntKind.u32.max) = 4294967295 := by decide
theorem max8 : (if IntKind.u8.signed = true then (-1 : Int) else IntKind.u8.max) = 255 := by decide
theorem Sat.tab_to {N : Nat} {f g : Nat → Int} {k : IntKind} (hs : Sat h0 (blk b (ints k (tab N f)) :: A) h) (e : ∀ i, i < N → f i = g i) : Sat h0 (blk b (ints k (tab N g)) :: A) h := by
  rw [← tab_ext e]; exact hs
theorem Sat.part (hs : Sat h0 A h) {ms xs : List Int} {k : IntKind} (m : At A i (blk b (ints k ms))) (o : Nat) (e : (ms.drop o).take xs.length = xs) : hsv h (some ⟨b, o, none⟩) 1 xs.length (ints k xs) := by
  refine ⟨by simp, ints_one _ _, Or.inr ⟨_, rfl, hs.cs m ?_⟩⟩
  rw [ints_length]
  unfold ints
  rw [← List.map_drop, ← List.map_take, e]
theorem hsv_int {p : Option Addr} {l : Nat} {k : IntKind} {ns : List Int} {x : Nat} (rd : hsv h p 1 l (ints k ns)) (hx : x < l) : ∃ q, p = some q ∧ hc h (q.add x) = some (.int k (ns.getD x 0)) := by
  have hl : ns.length = l := by have := rd.1; simpa using this
  obtain ⟨q, hq, g⟩ := hsv_get rd (i := x) (v := .int k (ns.getD x 0)) (by rw [ints_get, List.getElem?_eq_getElem (by omega)]; simp [List.getD, List.getElem?_eq_getElem (show x < ns.length by omega)])
  exact ⟨q, hq, g⟩
theorem eight_sp {Q : Int → H → Prop} {x : Int} (hs : Sat h0 A h) (k : ∀ h', Sat h0 A h' → Q (crcIt 8 (IntKind.u32.wrap x)) h') : F_crc_eight x Q h := by
  unfold F_crc_eight G_crc_eight
  intro J hJ
  generalize hR : crcIt 8 (IntKind.u32.wrap x) = R at k
  refine loop_st 8 (fun n (y : Int) => [.dv (.one (.int .u32 y)), .dv (.one (.int .i64 (n : Int)))]) (fun n y h => Sat h0 A h ∧ crcIt (8 - n) y = R) ?_ ?_ 0 _ _ (by omega) ⟨hs, hR⟩
  · rintro n y h1 hn ⟨hs, hy⟩ hk
    apply hJ
    rw [ltI_eq, if_pos (by simp; omega)]
    refine ⟨by decide, ?_⟩
    obtain ⟨m, hm⟩ : ∃ m, 8 - n = m + 1 := ⟨7 - n, by omega⟩
    rw [hm] at hy
    unfold crcIt crcStep at hy
    rw [wrap_succ (by omega)]
    split
    · rename_i h2
      intro _ e; subst e
      refine hk _ _ ⟨hs, ?_⟩
      rw [if_pos (by simpa using h2)] at hy
      rw [show 8 - (n + 1) = m by omega]; exact hy
    · rename_i h2
      refine hk _ _ ⟨hs, ?_⟩
      rw [if_neg (by simpa using h2)] at hy
      rw [show 8 - (n + 1) = m by omega]; exact hy
  · rintro y h1 ⟨hs, hy⟩
    apply hJ
    rw [ltI_eq, if_neg (by simp)]
    have hy : y = R := hy
    rw [hy]
    exact k _ hs
theorem getD_snoc (bs : List Int) (n : Nat) (hn : n < bs.length) (f : Int → Int → Int) (x : Int) : (bs.take (n + 1)).foldl f x = f ((bs.take n).foldl f x) (bs.getD n 0) := by
  rw [List.take_succ, List.foldl_append]
  simp [List.getElem?_eq_getElem hn]
theorem Write_sp {Q : H → Prop} {t : Int} {s : Nat} {q : Option Addr} {l c : Nat} {bs : List Int} (hs : Sat h0 A h) (m : At A i (blk s [.int .u32 t])) (rd : ∀ h', Sat h0 A h' → hsv h' q 1 l (ints .u8 bs)) (hl : l < 2 ^ 62)
    (k : ∀ h', Sat h0 (put A i (blk s [.int .u32 (bits .xor .u32 4294967295 (bs.foldl crcF (bits .xor .u32 4294967295 t)))])) h' → Q h') : F_crc_Sum_Write ⟨s, 0, none⟩ q l c Q h := by
  unfold F_crc_Sum_Write G_crc_Sum_Write
  simp only [max32]
  refine ⟨_, hs.ld m rfl, ?_⟩
  have hbl : bs.length = l := by have := (rd _ hs).1; simpa using this
  intro J hJ
  refine loop_st l (fun n (_ : Unit) => [.dv (.one (.int .u32 ((bs.take n).foldl crcF (bits .xor .u32 4294967295 t)))), .dv (.one (.int .i64 (n : Int)))]) (fun n _ h => Sat h0 A h) ?_ ?_ 0 () _ (by omega) hs
  · intro n _ h1 hn hs hk
    apply hJ
    rw [ltI_eq, if_pos (by simp; omega)]
    obtain ⟨q', hq, g⟩ := hsv_int (rd _ hs) hn
    refine ⟨_, hq, by omega, by omega, _, by rw [Int.toNat_natCast, Nat.mul_one]; exact g, ?_⟩
    refine eight_sp hs ?_
    intro h2 hs
    refine ⟨by decide, ?_⟩
    have := hk () _ hs
    rw [getD_snoc bs n (by omega)] at this
    rw [wrap_succ (by omega)]
    exact this
  · intro _ h1 hs
    apply hJ
    rw [ltI_eq, if_neg (by simp), List.take_of_length_le (by omega)]
    refine ⟨hs.can m (by simp), ?_⟩
    intro h2 e
    exact k _ (hs.wr m e)
theorem crcOf_sp {Q : Int → H → Prop} {q : Option Addr} {l c : Nat} {bs : List Int} (hs : Sat h0 A h) (rd : ∀ h', Sat h0 A h' → hsv h' q 1 l (ints .u8 bs)) (hb : bytesOk bs) (hl : l < 2 ^ 62)
    (k : ∀ h', Sat h0 A h' → Q (crcM bs) h') : F_crc_Of q l c Q h := by
  unfold F_crc_Of G_crc_Of F_crc_New G_crc_New
  intro n1 _ hn; replace hs := Sat.new hs hn; clear hn
  refine ⟨_, rfl, ?_⟩
  refine Write_sp hs .z (fun h' hs' => rd h' hs'.drop) hl ?_
  intro h1 hs
  refine ⟨_, rfl, ?_⟩
  unfold F_crc_Sum_Sum G_crc_Sum_Sum
  refine ⟨_, hs.ld (.z) rfl, ?_⟩
  have e0 : bits .xor .u32 4294967295 0 = 4294967295 := by decide
  rw [e0, crc_fold bs hb _ ⟨by decide, by decide⟩]
  exact k _ hs.drop
theorem step8_eq {n : Nat} (h : n < 8) : min (IntKind.i64.wrap (8 * (n : Int))).toNat 64 = 8 * n := by
  rw [wrap_id (by omega)]; omega
theorem put_sp {Q : H → Prop} {N o l c : Nat} {f : Nat → Int} (x : Int) (hs : Sat h0 A h) (m : At A i (blk b (ints .u8 (tab N f)))) (hl : l ≤ 8) (ho : o + l ≤ N)
    (k : ∀ h', Sat h0 (put A i (blk b (ints .u8 (tab N fun k => if o ≤ k ∧ k < o + l then byteAt x (k - o) else f k)))) h' → Q h') : F_cell_put (some ⟨b, o, none⟩) l c x Q h := by
  unfold F_cell_put G_cell_put
  intro J hJ
  refine loop_up l (fun n h => Sat h0 (put A i (blk b (ints .u8 (tab N fun k => if o ≤ k ∧ k < o + n then byteAt x (k - o) else f k)))) h) ?_ ?_ 0 _ (by omega) ?_
  · intro n h1 hn hs hk
    apply hJ
    rw [ltI_eq, if_pos (by simp; omega)]
    rw [step8_eq (by omega)]
    refine ⟨by rw [wrap_id (by omega)]; omega, _, rfl, by omega, by omega, ?_⟩
    rw [Int.toNat_natCast, Nat.mul_one, add_mk]
    refine ⟨hs.can (m.put _) (by simp; omega), ?_⟩
    intro h2 e
    replace hs := hs.wr (m.put _) e
    rw [put_put, ints_tab_set] at hs
    rw [wrap_succ (by omega)]
    refine hk _ ?_
    have : (tab N fun k => if o ≤ k ∧ k < o + (n + 1) then byteAt x (k - o) else f k) = tab N (fun i => if i = o + n then IntKind.u8.wrap (x.fdiv (2 ^ (8 * n))) else if o ≤ i ∧ i < o + n then byteAt x (i - o) else f i) := by
      apply tab_ext
      intro i hi
      by_cases e : i = o + n
      · rw [if_pos e, if_pos (by omega), e, Nat.add_sub_cancel_left]; rfl
      · rw [if_neg e]
        by_cases e2 : o ≤ i ∧ i < o + n
        · rw [if_pos e2, if_pos (by omega)]
        · rw [if_neg e2, if_neg (by omega)]
    rw [this]; exact hs
  · intro h1 hs
    apply hJ
    rw [ltI_eq, if_neg (by simp)]
    exact k _ hs
  · have : (tab N fun k => if o ≤ k ∧ k < o + 0 then byteAt x (k - o) else f k) = tab N f := tab_ext fun i _ => if_neg (by omega)
    rw [this, m.put_self]; exact hs
theorem got_sp {Q : Int → H → Prop} {q : Option Addr} {l c : Nat} {bs : List Int} (hs : Sat h0 A h) (rd : ∀ h', Sat h0 A h' → hsv h' q 1 l (ints .u8 bs)) (hl : l ≤ 8) (k : ∀ h', Sat h0 A h' → Q (gotU bs l) h') : F_cell_got q l c Q h := by
  unfold F_cell_got G_cell_got
  intro J hJ
  refine loop_st l (fun n (_ : Unit) => [.dv (.one (.int .u64 (gotU bs n))), .dv (.one (.int .i64 (n : Int)))]) (fun n _ h => Sat h0 A h) ?_ ?_ 0 () _ (by omega) hs
  · intro n _ h1 hn hs hk
    apply hJ
    rw [ltI_eq, if_pos (by simp; omega)]
    obtain ⟨q', hq, g⟩ := hsv_int (rd _ hs) hn
    refine ⟨_, hq, by omega, by omega, _, by rw [Int.toNat_natCast, Nat.mul_one]; exact g, by rw [wrap_id (by omega)]; omega, ?_⟩
    rw [step8_eq (by omega), wrap_succ (by omega)]
    exact hk () _ hs
  · intro _ h1 hs
    apply hJ
    rw [ltI_eq, if_neg (by simp)]
    exact k _ hs
theorem flat_bytes (n : Nat) : (List.replicate n [Value.int .u8 0]).flatten = ints .u8 (tab n fun _ => 0) := by
  rw [← zeros_tab]; simp [ints, zeros]
theorem railPut_sp {Q : Option Addr → Nat → Nat → H → Prop} {q : Option Addr} {l c : Nat} {bs : List Int} (hs : Sat h0 A h) (rd : ∀ h', Sat h0 A h' → hsv h' q 1 l (ints .u8 bs)) (hl : l ≤ 2 ^ 40)
    (k : ∀ n h', Sat h0 (blk n (ints .u8 (tab (2 * l) fun k => if k < l then bs.getD k 0 else compl8 (bs.getD (k - l) 0))) :: A) h' → Q (some ⟨n, 0, none⟩) (2 * l) (2 * l) h') : F_rail_Put q l c Q h := by
  unfold F_rail_Put G_rail_Put
  have e1 : IntKind.i64.wrap (2 * (l : Int)) = ((2 * l : Nat) : Int) := by rw [wrap_id (by omega)]; omega
  simp only [e1, max8, Int.toNat_natCast]
  refine ⟨by omega, by omega, by omega, by omega, ?_⟩
  intro n1 _ hn
  rw [flat_bytes] at hn
  replace hs := Sat.new hs hn; clear hn
  unfold F_rail_halves G_rail_halves
  have e2 : IntKind.i64.wrap ((((2 * l : Nat) : Int)).tdiv 2) = (l : Int) := by rw [Int.tdiv_eq_ediv_of_nonneg (by omega), wrap_id (by omega)]; omega
  simp only [e2, e1, Int.toNat_natCast]
  refine ⟨by decide, by omega, by omega, by omega, by omega, by omega, by omega, by omega, ?_⟩
  have hbl : bs.length = l := by have := (rd _ hs.drop).1; simpa using this
  intro J hJ
  have a1 : 0 < l → subAddr (some ⟨n1, 0, none⟩) 0 l 1 = some ⟨n1, 0, none⟩ := by
    intro h; unfold subAddr; rw [if_neg (by omega)]; simp [add_mk]
  have a2 : 0 < l → subAddr (some ⟨n1, 0, none⟩) l (2 * l) 1 = some ⟨n1, l, none⟩ := by
    intro h; unfold subAddr; rw [if_neg (by omega)]; simp [add_mk]
  refine loop_up l (fun n h => Sat h0 (blk n1 (ints .u8 (tab (2 * l) fun k => if k < n then bs.getD k 0 else if l ≤ k ∧ k < l + n then compl8 (bs.getD (k - l) 0) else 0)) :: A) h) ?_ ?_ 0 _ (by omega) ?_
  · intro n h1 hn hs hk
    apply hJ
    rw [ltI_eq, if_pos (by simp; omega)]
    obtain ⟨q', hq, g⟩ := hsv_int (rd _ hs.drop) hn
    refine ⟨_, hq, by omega, by omega, _, by rw [Int.toNat_natCast, Nat.mul_one]; exact g, ?_⟩
    refine ⟨_, hq, by omega, by omega, _, by rw [Int.toNat_natCast, Nat.mul_one]; exact g, ?_⟩
    refine ⟨_, a1 (by omega), by omega, by omega, ?_⟩
    rw [Int.toNat_natCast, Nat.mul_one, add_mk]
    refine ⟨hs.can .z (by simp; omega), ?_⟩
    intro h2 e
    replace hs := hs.wr .z e
    rw [put_zero, ints_tab_set] at hs
    refine ⟨_, a2 (by omega), by omega, by omega, ?_⟩
    rw [add_mk]
    refine ⟨hs.can .z (by simp; omega), ?_⟩
    intro h3 e
    replace hs := hs.wr .z e
    rw [put_zero, ints_tab_set] at hs
    rw [wrap_succ (by omega)]
    refine hk _ ?_
    refine Sat.tab_to hs fun i hi => ?_
    by_cases e : i = l + n
    · rw [if_pos e, if_neg (by omega), if_pos (by omega), e, Nat.add_sub_cancel_left]; rfl
    · rw [if_neg e]
      by_cases e2 : i = 0 + n
      · rw [if_pos e2, if_pos (by omega), show i = n by omega]
      · rw [if_neg e2]
        by_cases e3 : i < n
        · rw [if_pos e3, if_pos (by omega)]
        · rw [if_neg e3]
          by_cases e4 : l ≤ i ∧ i < l + n
          · rw [if_pos e4, if_neg (show ¬ i < n + 1 by omega), if_pos (show l ≤ i ∧ i < l + (n + 1) by omega)]
          · rw [if_neg e4, if_neg (show ¬ i < n + 1 by omega), if_neg (show ¬ (l ≤ i ∧ i < l + (n + 1)) by omega)]
  · intro h1 hs
    apply hJ
    rw [ltI_eq, if_neg (by simp)]
    refine k _ _ ?_
    refine Sat.tab_to hs fun i hi => ?_
    by_cases e : i < l
    · rw [if_pos e, if_pos e]
    · rw [if_neg e, if_neg e, if_pos (by omega)]
  · refine Sat.tab_to hs fun i hi => ?_
    rw [if_neg (by omega), if_neg (by omega)]
def bodyF (kind slot n : Int) (k : Nat) : Int := if k = 0 then kind else if k = 1 then IntKind.u8.wrap slot else if k < 4 then 0 else if k < 12 then byteAt (IntKind.u64.wrap n) (k - 4) else 0
def bodyM (kind slot n : Int) (k : Nat) : Int := if 12 ≤ k then byteAt (crcM (tab 12 (bodyF kind slot n))) (k - 12) else bodyF kind slot n k
def laidM (kind slot n : Int) : List Int := tab 32 fun k => if k < 16 then bodyM kind slot n k else compl8 (bodyM kind slot n (k - 16))
theorem bodyF_byte {kind slot n : Int} (hk : isByte kind) (k : Nat) : isByte (bodyF kind slot n k) := by
  unfold bodyF
  repeat' split
  · exact hk
  · exact wrap_u8_byte _
  · exact ⟨by decide, by decide⟩
  · exact wrap_u8_byte _
  · exact ⟨by decide, by decide⟩
theorem tab_bytes {n : Nat} {f : Nat → Int} (h : ∀ k, isByte (f k)) : bytesOk (tab n f) := by
  intro x hx
  simp only [tab, List.mem_map] at hx
  obtain ⟨k, _, rfl⟩ := hx
  exact h k
theorem laid_sp {Q : List Int → H → Prop} (kind slot n : Int) (hk : isByte kind) (hs : Sat h0 A h) (k : ∀ h', Sat h0 A h' → Q (laidM kind slot n) h') : F_cell_laid kind slot n Q h := by
  unfold F_cell_laid G_cell_laid
  simp only [add_mk, Nat.zero_add, List.append_nil]
  intro n1 _ hn; replace hs := Sat.new hs hn; clear hn
  intro n2 _ hn; replace hs := Sat.new hs hn; clear hn
  (refine ⟨Sat.can hs (by (repeat (first | exact At.z | apply At.s))) (by simp), ?_⟩; intro _ e; replace hs := Sat.wra hs (by (repeat (first | exact At.z | apply At.s))) e (by simp [*]); clear e; simp only [put] at hs)
  have e0 : [kind, IntKind.u8.wrap slot, 0, 0, 0, 0, 0, 0, 0, 0, 0, 0, 0, 0, 0, 0] = tab 16 (fun k => if k = 0 then kind else if k = 1 then IntKind.u8.wrap slot else 0) := rfl
  rw [e0] at hs
  refine ⟨by decide, by decide, by decide, ?_⟩
  rw [show subAddr (some ⟨n2, 0, none⟩) 4 16 1 = some ⟨n2, 4, none⟩ from rfl]
  refine put_sp (IntKind.u64.wrap n) hs .z (by decide) (by decide) ?_
  intro h1 hs
  rw [put_zero] at hs
  have e1 : (tab 16 fun k => if 4 ≤ k ∧ k < 4 + 8 then byteAt (IntKind.u64.wrap n) (k - 4) else if k = 0 then kind else if k = 1 then IntKind.u8.wrap slot else 0) = tab 16 (bodyF kind slot n) := by
    apply tab_ext
    intro i hi
    unfold bodyF
    by_cases q1 : i = 0
    · rw [if_neg (by omega), if_pos q1, if_pos q1]
    by_cases q2 : i = 1
    · rw [if_neg (by omega), if_neg q1, if_pos q2, if_neg q1, if_pos q2]
    rw [if_neg q1, if_neg q2, if_neg q1, if_neg q2]
    by_cases q3 : i < 4
    · rw [if_neg (by omega), if_pos q3]
    rw [if_neg q3]
    by_cases q4 : i < 12
    · rw [if_pos (by omega), if_pos q4]
    · rw [if_neg (by omega), if_neg q4]
  rw [e1] at hs
  refine ⟨by decide, by decide, by decide, by decide, ?_⟩
  have e2 : ((tab 16 (bodyF kind slot n)).drop 0).take (tab 12 (bodyF kind slot n)).length = tab 12 (bodyF kind slot n) := rfl
  refine crcOf_sp (bs := tab 12 (bodyF kind slot n)) hs (fun h' hs' => Sat.part hs' .z 0 e2) (tab_bytes (bodyF_byte hk)) (by decide) ?_
  intro h2 hs
  have e3 : IntKind.u64.wrap (crcM (tab 12 (bodyF kind slot n))) = crcM (tab 12 (bodyF kind slot n)) := by
    obtain ⟨c1, c2⟩ := crcM_is (tab 12 (bodyF kind slot n))
    rw [wrap_u64']; omega
  rw [e3]
  refine put_sp (crcM (tab 12 (bodyF kind slot n))) hs .z (by decide) (by decide) ?_
  intro h3 hs
  rw [put_zero] at hs
  have e4 : (tab 16 fun k => if 12 ≤ k ∧ k < 12 + 4 then byteAt (crcM (tab 12 (bodyF kind slot n))) (k - 12) else bodyF kind slot n k) = tab 16 (bodyM kind slot n) := by
    apply tab_ext
    intro i hi
    unfold bodyM
    by_cases q1 : 12 ≤ i
    · rw [if_pos (by omega), if_pos q1]
    · rw [if_neg (by omega), if_neg q1]
  rw [e4] at hs
  intro n3 _ hn; replace hs := Sat.new hs hn; clear hn
  have e5 : ((tab 16 (bodyM kind slot n)).drop 0).take (tab 16 (bodyM kind slot n)).length = tab 16 (bodyM kind slot n) := rfl
  refine railPut_sp (bs := tab 16 (bodyM kind slot n)) hs (fun h' hs' => Sat.part hs' (.s .z) 0 e5) (by decide) ?_
  intro n4 h4 hs
  have e6 : (tab (2 * 16) fun k => if k < 16 then (tab 16 (bodyM kind slot n)).getD k 0 else compl8 ((tab 16 (bodyM kind slot n)).getD (k - 16) 0)) = laidM kind slot n := rfl
  rw [e6] at hs
  have hll : (laidM kind slot n).length = 32 := rfl
  refine ⟨ints .u8 (laidM kind slot n), ⟨by rw [ints_length, hll]; rfl, ints_one _ _, Or.inr ⟨_, rfl, hs.cs .z (by rw [ints_length, hll]; exact List.take_of_length_le (by rw [List.drop_zero, ints_length, hll]; decide))⟩⟩, Or.inr ⟨_, rfl, hs.can (.s .z) (by decide)⟩, ?_⟩
  intro h5 e
  replace hs := Sat.wra hs (.s .z) e (by rw [ints_length, ints_length, hll]; rfl)
  simp only [put] at hs
  refine ⟨_, hll, hs.row0 (.s .z), ?_⟩
  (refine ⟨Sat.can hs (by (repeat (first | exact At.z | apply At.s))) (by simp), ?_⟩; intro _ e; replace hs := Sat.wra hs (by (repeat (first | exact At.z | apply At.s))) e (by simp [*]); clear e; simp only [put] at hs)
  refine ⟨_, hll, hs.row0 (by (repeat (first | exact At.z | apply At.s))), ?_⟩
  exact k _ hs.drop.drop.drop.drop
end
end Go.Proofs.Yteabcbpimjjdpaa

/- Contracts of cells: Head, Value, Blank, Read. Own work. -/
set_option maxRecDepth 100000
set_option linter.unusedVariables false
namespace Go.Proofs.Yteabcbpimjjdpaa
open Go Go.Vc

section
variable {h0 h : H} {A : List Ent} {i j p r b : Nat} {C : Cm}
theorem Sat.whole (hs : Sat h0 A h) {vs : List Value} (m : At A i (blk b vs)) : hcs h ⟨b, 0, none⟩ vs := hs.cs m (by rw [List.drop_zero, List.take_length])
def most : Int := 4611686018427387904
theorem laidM_length (kind slot n : Int) : (laidM kind slot n).length = 32 := rfl
def headM (n : Int) : List Int × Int := if n < 1 then (zeros 32, 2) else if most < n then (zeros 32, 2) else (laidM 1 0 n, 0)
def valueM (slot n : Int) : List Int × Int := if slot < 0 then (zeros 32, 2) else if 8 < slot then (zeros 32, 2) else if n < 1 then (zeros 32, 2) else if most < n then (zeros 32, 2) else (laidM 2 slot n, 0)
theorem headM_length (n : Int) : (headM n).1.length = 32 := by unfold headM; (repeat' split) <;> rfl
theorem valueM_length (slot n : Int) : (valueM slot n).1.length = 32 := by unfold valueM; (repeat' split) <;> rfl
theorem Head_sp {Q : List Int → Int → H → Prop} (n : Int) (hs : Sat h0 A h) (k : ∀ h', Sat h0 A h' → Q (headM n).1 (headM n).2 h') : F_cell_Head n Q h := by
  unfold F_cell_Head G_cell_Head
  simp only [add_mk, Nat.zero_add, List.append_nil]
  intro n1 _ hn; replace hs := Sat.new hs hn; clear hn
  unfold headM at k
  by_cases h1 : n < 1
  · rw [if_pos h1] at k
    rw [ltI_eq, if_pos (by simpa using h1)]
    (refine ⟨Sat.can hs (by (repeat (first | exact At.z | apply At.s))) (by simp), ?_⟩; intro _ e; replace hs := Sat.wra hs (by (repeat (first | exact At.z | apply At.s))) e (by simp [*]); clear e; simp only [put] at hs)
    refine ⟨_, rfl, hs.row0 (by (repeat (first | exact At.z | apply At.s))), ?_⟩
    exact k _ hs.drop
  rw [if_neg h1] at k
  rw [ltI_eq, if_neg (by simpa using h1)]
  intro _ e; subst e
  by_cases h2 : most < n
  · rw [if_pos h2] at k
    rw [ltI_eq, if_pos (by simpa [most] using h2)]
    (refine ⟨Sat.can hs (by (repeat (first | exact At.z | apply At.s))) (by simp), ?_⟩; intro _ e; replace hs := Sat.wra hs (by (repeat (first | exact At.z | apply At.s))) e (by simp [*]); clear e; simp only [put] at hs)
    refine ⟨_, rfl, hs.row0 (by (repeat (first | exact At.z | apply At.s))), ?_⟩
    exact k _ hs.drop
  rw [if_neg h2] at k
  rw [ltI_eq, if_neg (by simpa [most] using h2)]
  refine laid_sp 1 0 n ⟨by decide, by decide⟩ hs ?_
  intro h3 hs
  have hll := laidM_length 1 0 n
  (refine ⟨Sat.can hs (by (repeat (first | exact At.z | apply At.s))) (by simp), ?_⟩; intro _ e; replace hs := Sat.wra hs (by (repeat (first | exact At.z | apply At.s))) e (by simp [*]); clear e; simp only [put] at hs)
  refine ⟨_, hll, hs.row0 (by (repeat (first | exact At.z | apply At.s))), ?_⟩
  exact k _ hs.drop
theorem Value_sp {Q : List Int → Int → H → Prop} (slot n : Int) (hs : Sat h0 A h) (k : ∀ h', Sat h0 A h' → Q (valueM slot n).1 (valueM slot n).2 h') : F_cell_Value slot n Q h := by
  unfold F_cell_Value G_cell_Value
  simp only [add_mk, Nat.zero_add, List.append_nil]
  intro n1 _ hn; replace hs := Sat.new hs hn; clear hn
  unfold valueM at k
  by_cases h1 : slot < 0
  · rw [if_pos h1] at k
    rw [ltI_eq, if_pos (by simpa using h1)]
    (refine ⟨Sat.can hs (by (repeat (first | exact At.z | apply At.s))) (by simp), ?_⟩; intro _ e; replace hs := Sat.wra hs (by (repeat (first | exact At.z | apply At.s))) e (by simp [*]); clear e; simp only [put] at hs)
    refine ⟨_, rfl, hs.row0 (by (repeat (first | exact At.z | apply At.s))), ?_⟩
    exact k _ hs.drop
  rw [if_neg h1] at k
  rw [ltI_eq, if_neg (by simpa using h1)]
  by_cases h1 : 8 < slot
  · rw [if_pos h1] at k
    rw [ltI_eq, if_pos (by simpa using h1)]
    (refine ⟨Sat.can hs (by (repeat (first | exact At.z | apply At.s))) (by simp), ?_⟩; intro _ e; replace hs := Sat.wra hs (by (repeat (first | exact At.z | apply At.s))) e (by simp [*]); clear e; simp only [put] at hs)
    refine ⟨_, rfl, hs.row0 (by (repeat (first | exact At.z | apply At.s))), ?_⟩
    exact k _ hs.drop
  rw [if_neg h1] at k
  rw [ltI_eq, if_neg (by simpa using h1)]
  by_cases h1 : n < 1
  · rw [if_pos h1] at k
    rw [ltI_eq, if_pos (by simpa using h1)]
    (refine ⟨Sat.can hs (by (repeat (first | exact At.z | apply At.s))) (by simp), ?_⟩; intro _ e; replace hs := Sat.wra hs (by (repeat (first | exact At.z | apply At.s))) e (by simp [*]); clear e; simp only [put] at hs)
    refine ⟨_, rfl, hs.row0 (by (repeat (first | exact At.z | apply At.s))), ?_⟩
    exact k _ hs.drop
  rw [if_neg h1] at k
  rw [ltI_eq, if_neg (by simpa using h1)]
  intro _ e; subst e
  by_cases h2 : most < n
  · rw [if_pos h2] at k
    rw [ltI_eq, if_pos (by simpa [most] using h2)]
    (refine ⟨Sat.can hs (by (repeat (first | exact At.z | apply At.s))) (by simp), ?_⟩; intro _ e; replace hs := Sat.wra hs (by (repeat (first | exact At.z | apply At.s))) e (by simp [*]); clear e; simp only [put] at hs)
    refine ⟨_, rfl, hs.row0 (by (repeat (first | exact At.z | apply At.s))), ?_⟩
    exact k _ hs.drop
  rw [if_neg h2] at k
  rw [ltI_eq, if_neg (by simpa [most] using h2)]
  refine laid_sp 2 slot n ⟨by decide, by decide⟩ hs ?_
  intro h3 hs
  have hll := laidM_length 2 slot n
  (refine ⟨Sat.can hs (by (repeat (first | exact At.z | apply At.s))) (by simp), ?_⟩; intro _ e; replace hs := Sat.wra hs (by (repeat (first | exact At.z | apply At.s))) e (by simp [*]); clear e; simp only [put] at hs)
  refine ⟨_, hll, hs.row0 (by (repeat (first | exact At.z | apply At.s))), ?_⟩
  exact k _ hs.drop
def ffs : List Int := tab 32 fun _ => 255
theorem Blank_sp {Q : List Int → H → Prop} (hs : Sat h0 A h) (k : ∀ h', Sat h0 A h' → Q ffs h') : F_cell_Blank Q h := by
  unfold F_cell_Blank G_cell_Blank
  simp only [add_mk, Nat.zero_add, List.append_nil]
  intro n1 _ hn; replace hs := Sat.new hs hn; clear hn
  intro n2 _ hn; replace hs := Sat.new hs hn; clear hn
  rw [zeros_tab] at hs
  intro J hJ
  refine loop_up 32 (fun n h => Sat h0 (blk n2 (ints .u8 (tab 32 fun i => if i < n then 255 else 0)) :: blk n1 (ints .u8 (tab 32 fun _ => 0)) :: A) h) ?_ ?_ 0 _ (by omega) ?_
  · intro n h1 hn hs hk
    apply hJ
    rw [ltI_eq, if_pos (by simp; omega)]
    refine ⟨by omega, by omega, ?_⟩
    rw [Int.toNat_natCast, Nat.mul_one]
    refine ⟨hs.can .z (by simp; omega), ?_⟩
    intro h2 e
    replace hs := hs.wr .z e
    rw [put_zero, ints_tab_set] at hs
    rw [wrap_succ (by omega)]
    refine hk _ (Sat.tab_to hs fun i hi => ?_)
    by_cases e : i = n
    · rw [if_pos e, if_pos (by omega)]
    · rw [if_neg e]
      by_cases e2 : i < n
      · rw [if_pos e2, if_pos (by omega)]
      · rw [if_neg e2, if_neg (by omega)]
  · intro h1 hs
    apply hJ
    rw [ltI_eq, if_neg (by simp)]
    replace hs := Sat.tab_to (g := fun _ => 255) hs fun i hi => if_pos hi
    refine ⟨ffs, rfl, hs.row0 .z, ?_⟩
    have hll : ffs.length = 32 := rfl
    (refine ⟨Sat.can hs (by (repeat (first | exact At.z | apply At.s))) (by simp), ?_⟩; intro _ e; replace hs := Sat.wra hs (by (repeat (first | exact At.z | apply At.s))) e (by simp [*]); clear e; simp only [put] at hs)
    refine ⟨_, hll, hs.row0 (by (repeat (first | exact At.z | apply At.s))), ?_⟩
    exact k _ hs.drop.drop
  · exact Sat.tab_to hs fun i hi => (if_neg (by omega)).symm
/-- What a cell says: kind, slot, number. -/
def recM (x : List Int) : Int × Int × Int :=
  if x = ffs then (0, 0, 0)
  else if gotI ((x.drop 4).take 8) 8 < 1 then (3, 0, 0)
  else if most < gotI ((x.drop 4).take 8) 8 then (3, 0, 0)
  else if x.getD 0 0 = 1 ∧ x = laidM 1 0 (gotI ((x.drop 4).take 8) 8) then (1, 0, gotI ((x.drop 4).take 8) 8)
  else if x.getD 0 0 = 2 ∧ x.getD 1 0 ≤ 8 ∧ x = laidM 2 (x.getD 1 0) (gotI ((x.drop 4).take 8) 8) then (2, x.getD 1 0, gotI ((x.drop 4).take 8) 8)
  else (3, 0, 0)
theorem Read3_sp {Q : Int → Int → Int → H → Prop} (x : List Int) (hx : x.length = 32) (hb : bytesOk x) (hs : Sat h0 A h) (k : ∀ h', Sat h0 A h' → Q (recM x).1 (recM x).2.1 (recM x).2.2 h') : F_cell_Read x Q h := by
  unfold F_cell_Read G_cell_Read
  simp only [add_mk, Nat.zero_add, List.append_nil]
  intro n1 _ hn; replace hs := Sat.new hs hn; clear hn
  intro n2 _ hn; replace hs := Sat.new hs hn; clear hn
  refine ⟨by decide, by decide, by decide, ?_⟩
  rw [show subAddr (some ⟨n1, 0, none⟩) 4 32 1 = some ⟨n1, 4, none⟩ from rfl]
  have el : ((x.drop 4).take 8).length = 8 := by simp [hx]
  have e2 : (x.drop 4).take ((x.drop 4).take 8).length = (x.drop 4).take 8 := by rw [el]
  have hsub : bytesOk ((x.drop 4).take 8) := fun v hv => hb v (List.mem_of_mem_drop (List.mem_of_mem_take hv))
  refine got_sp (bs := (x.drop 4).take 8) hs (fun h' hs' => by
    have := Sat.part hs' (.s .z) 4 e2
    rw [el] at this; exact this) (by decide) ?_
  intro h1 hs
  unfold recM at k
  have eg := got_eq ((x.drop 4).take 8) hsub 8
  rw [eg]
  generalize gotI ((x.drop 4).take 8) 8 = g at k
  have x0 := hb (x.getD 0 0) (by rw [List.getD_eq_getElem?_getD, List.getElem?_eq_getElem (by omega)]; exact List.getElem_mem _)
  have x1 := hb (x.getD 1 0) (by rw [List.getD_eq_getElem?_getD, List.getElem?_eq_getElem (by omega)]; exact List.getElem_mem _)
  have g0 : (ints .u8 x)[0]? = some (.int .u8 (x.getD 0 0)) := by rw [ints_get, List.getElem?_eq_getElem (by omega)]; simp [List.getD, List.getElem?_eq_getElem (show 0 < x.length by omega)]
  have g1 : (ints .u8 x)[1]? = some (.int .u8 (x.getD 1 0)) := by rw [ints_get, List.getElem?_eq_getElem (by omega)]; simp [List.getD, List.getElem?_eq_getElem (show 1 < x.length by omega)]
  refine ⟨by decide, by decide, _, hs.ld (.s .z) g1, x, hx, hs.row0 (.s .z), ?_⟩
  have ew1 : IntKind.i64.wrap (x.getD 1 0) = x.getD 1 0 := by obtain ⟨q1, q2⟩ := x1; rw [wrap_id (by omega)]
  rw [ew1]
  refine Blank_sp hs ?_
  intro h2 hs
  refine ⟨Sat.whole hs (.s .z), ?_⟩
  by_cases c1 : x = ffs
  · rw [if_pos c1] at k
    rw [if_pos (by rw [c1]; simp)]
    (refine ⟨Sat.can hs (by (repeat (first | exact At.z | apply At.s))) (by simp), ?_⟩; intro _ e; replace hs := Sat.wra hs (by (repeat (first | exact At.z | apply At.s))) e (by simp [*]); clear e; simp only [put] at hs)
    refine ⟨_, Sat.ld hs (by (repeat (first | exact At.z | apply At.s))) (by rfl), ?_⟩
    refine ⟨_, Sat.ld hs (by (repeat (first | exact At.z | apply At.s))) (by rfl), ?_⟩
    refine ⟨_, Sat.ld hs (by (repeat (first | exact At.z | apply At.s))) (by rfl), ?_⟩
    exact k _ hs.drop.drop
  rw [if_neg c1] at k
  rw [if_neg (by simpa using c1)]
  intro J hJ
  have torn : ∀ (bb : Bool), (bb = true → g < 1 ∨ most < g) → (bb = false → ¬ g < 1 ∧ ¬ most < g) → J [.dv (.one (.bool bb))] h2 := by
    intro bb b1 b2
    apply hJ
    by_cases c2 : bb = true
    · rw [if_pos c2]
      (refine ⟨Sat.can hs (by (repeat (first | exact At.z | apply At.s))) (by simp), ?_⟩; intro _ e; replace hs := Sat.wra hs (by (repeat (first | exact At.z | apply At.s))) e (by simp [*]); clear e; simp only [put] at hs)
      refine ⟨_, Sat.ld hs (by (repeat (first | exact At.z | apply At.s))) (by rfl), ?_⟩
      refine ⟨_, Sat.ld hs (by (repeat (first | exact At.z | apply At.s))) (by rfl), ?_⟩
      refine ⟨_, Sat.ld hs (by (repeat (first | exact At.z | apply At.s))) (by rfl), ?_⟩
      rcases b1 c2 with b1 | b1
      · rw [if_pos b1] at k
        exact k _ hs.drop.drop
      · rw [if_neg (by unfold most at b1; omega), if_pos b1] at k
        exact k _ hs.drop.drop
    rw [if_neg c2]
    obtain ⟨b3, b4⟩ := b2 (by simpa using c2)
    rw [if_neg b3, if_neg b4] at k
    intro J2 hJ2
    have two : ∀ (cc : Bool), (cc = true ↔ x.getD 0 0 = 1 ∧ x = laidM 1 0 g) → ∀ h3, Sat h0 (blk n2 [.int .i64 0, .int .i64 0, .int .i64 0] :: blk n1 (ints .u8 x) :: A) h3 → J2 [.dv (.one (.bool cc))] h3 := by
      intro cc c3 h3 hs
      apply hJ2
      by_cases c4 : cc = true
      · rw [if_pos c4]
        rw [if_pos (c3.1 c4)] at k
        (refine ⟨Sat.can hs (by (repeat (first | exact At.z | apply At.s))) (by simp), ?_⟩; intro _ e; replace hs := Sat.wra hs (by (repeat (first | exact At.z | apply At.s))) e (by simp [*]); clear e; simp only [put] at hs)
        refine ⟨_, Sat.ld hs (by (repeat (first | exact At.z | apply At.s))) (by rfl), ?_⟩
        refine ⟨_, Sat.ld hs (by (repeat (first | exact At.z | apply At.s))) (by rfl), ?_⟩
        refine ⟨_, Sat.ld hs (by (repeat (first | exact At.z | apply At.s))) (by rfl), ?_⟩
        exact k _ hs.drop.drop
      rw [if_neg c4]
      rw [if_neg (fun y => c4 (c3.2 y))] at k
      refine ⟨by decide, by decide, _, hs.ld (.s .z) g0, ?_⟩
      by_cases c5 : x.getD 0 0 = 2
      case neg =>
        rw [if_neg (fun y => c5 y.1)] at k
        rw [if_neg (by rw [beq_iff_eq]; exact c5)]
        (refine ⟨Sat.can hs (by (repeat (first | exact At.z | apply At.s))) (by simp), ?_⟩; intro _ e; replace hs := Sat.wra hs (by (repeat (first | exact At.z | apply At.s))) e (by simp [*]); clear e; simp only [put] at hs)
        refine ⟨_, Sat.ld hs (by (repeat (first | exact At.z | apply At.s))) (by rfl), ?_⟩
        refine ⟨_, Sat.ld hs (by (repeat (first | exact At.z | apply At.s))) (by rfl), ?_⟩
        refine ⟨_, Sat.ld hs (by (repeat (first | exact At.z | apply At.s))) (by rfl), ?_⟩
        exact k _ hs.drop.drop
      rw [if_pos (by rw [beq_iff_eq]; exact c5)]
      by_cases c6 : x.getD 1 0 ≤ 8
      case neg =>
        rw [if_neg (fun y => c6 y.2.1)] at k
        rw [leI_eq, if_neg (by rw [decide_eq_true_eq]; exact c6)]
        (refine ⟨Sat.can hs (by (repeat (first | exact At.z | apply At.s))) (by simp), ?_⟩; intro _ e; replace hs := Sat.wra hs (by (repeat (first | exact At.z | apply At.s))) e (by simp [*]); clear e; simp only [put] at hs)
        refine ⟨_, Sat.ld hs (by (repeat (first | exact At.z | apply At.s))) (by rfl), ?_⟩
        refine ⟨_, Sat.ld hs (by (repeat (first | exact At.z | apply At.s))) (by rfl), ?_⟩
        refine ⟨_, Sat.ld hs (by (repeat (first | exact At.z | apply At.s))) (by rfl), ?_⟩
        exact k _ hs.drop.drop
      rw [leI_eq, if_pos (by rw [decide_eq_true_eq]; exact c6)]
      refine ⟨x, hx, hs.row0 (.s .z), ?_⟩
      refine laid_sp 2 (x.getD 1 0) g ⟨by decide, by decide⟩ hs ?_
      intro h4 hs
      refine ⟨Sat.whole hs (.s .z), ?_⟩
      by_cases c7 : x = laidM 2 (x.getD 1 0) g
      · rw [if_pos ⟨c5, c6, c7⟩] at k
        rw [if_pos (by rw [beq_iff_eq]; exact c7)]
        clear c7
        (refine ⟨Sat.can hs (by (repeat (first | exact At.z | apply At.s))) (by simp), ?_⟩; intro _ e; replace hs := Sat.wra hs (by (repeat (first | exact At.z | apply At.s))) e (by simp [*]); clear e; simp only [put] at hs)
        refine ⟨_, Sat.ld hs (by (repeat (first | exact At.z | apply At.s))) (by rfl), ?_⟩
        refine ⟨_, Sat.ld hs (by (repeat (first | exact At.z | apply At.s))) (by rfl), ?_⟩
        refine ⟨_, Sat.ld hs (by (repeat (first | exact At.z | apply At.s))) (by rfl), ?_⟩
        exact k _ hs.drop.drop
      · rw [if_neg (fun y => c7 y.2.2)] at k
        rw [if_neg (by rw [beq_iff_eq]; exact c7)]
        (refine ⟨Sat.can hs (by (repeat (first | exact At.z | apply At.s))) (by simp), ?_⟩; intro _ e; replace hs := Sat.wra hs (by (repeat (first | exact At.z | apply At.s))) e (by simp [*]); clear e; simp only [put] at hs)
        refine ⟨_, Sat.ld hs (by (repeat (first | exact At.z | apply At.s))) (by rfl), ?_⟩
        refine ⟨_, Sat.ld hs (by (repeat (first | exact At.z | apply At.s))) (by rfl), ?_⟩
        refine ⟨_, Sat.ld hs (by (repeat (first | exact At.z | apply At.s))) (by rfl), ?_⟩
        exact k _ hs.drop.drop
    refine ⟨by decide, by decide, _, hs.ld (.s .z) g0, ?_⟩
    by_cases c5 : x.getD 0 0 = 1
    · rw [if_pos (by rw [beq_iff_eq]; exact c5)]
      refine ⟨x, hx, hs.row0 (.s .z), ?_⟩
      refine laid_sp 1 0 g ⟨by decide, by decide⟩ hs ?_
      intro h4 hs
      refine ⟨Sat.whole hs (.s .z), ?_⟩
      refine two _ ?_ _ hs
      rw [beq_iff_eq]
      exact ⟨fun y => ⟨c5, y⟩, fun y => y.2⟩
    · rw [if_neg (by rw [beq_iff_eq]; exact c5)]
      exact two _ ⟨fun y => by simp at y, fun y => absurd y.1 c5⟩ _ hs
  by_cases c2 : g < 1
  · rw [ltI_eq, if_pos (by simpa using c2)]
    exact torn true (fun _ => Or.inl c2) (fun y => by simp at y)
  · rw [ltI_eq, if_neg (by simpa using c2)]
    intro _ e; subst e
    rw [ltI_eq]
    refine torn _ (fun y => Or.inr (by simpa [most] using y)) (fun y => ⟨c2, by simpa [most] using y⟩)
end
end Go.Proofs.Yteabcbpimjjdpaa

/- Contracts of the document's cells. Own work. -/
set_option maxRecDepth 100000
set_option linter.unusedVariables false
namespace Go.Proofs.Yteabcbpimjjdpaa
open Go Go.Vc

section
variable {h0 h : H} {A : List Ent} {i j p r b : Nat} {C : Cm}
end
end Go.Proofs.Yteabcbpimjjdpaa
end
