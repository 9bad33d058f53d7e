/- StreamDoes and its parts, laid together by a program of ours: Ch5 Ch6 Ch7 Ah By Mp Sh1 Sh2 Sh3 Sh4 Mac1 -/
import Derived.Laws.Closers25b
import Derived.Test.YteedolonhdbieaaGreatDoorK9
set_option autoImplicit false
set_option linter.all false
section
namespace Go.Proofs.YteedolonhdbieaaGreatDoor
open Go Go.Vc
def askedM (C : Cm) (i n : Int) : Int := if C.out = true then 8 else if i < 0 then 2 else if n ≤ i then 2 else 0
def asksCellM (C : Cm) (page cell : Int) : Int := if askedM C page C.s.pages.length ≠ 0 then askedM C page C.s.pages.length else askedM C cell C.cfg.cells
def w64 (n : Int) : Int := IntKind.i64.wrap n
def Cm.act (C : Cm) : Cm :=
 if C.left ≠ 0 then { C with acts := w64 (C.acts + 1), left := if C.left - 1 > -1 then C.left - 1 else -1 }
 else { C with acts := w64 (C.acts + 1), out := true, left := -1, mask := [] }
def maskAt (C : Cm) (i : Nat) : Int := if C.left ≠ 0 then 255 else if C.mask = [] then 0 else C.mask.getD (i % C.mask.length) 0
def errM (C : Cm) : Int := if C.left ≠ 0 then 0 else 8
theorem w64_range (n : Int) : -(2 ^ 63) ≤ w64 n /\ w64 n < 2 ^ 63 := by unfold w64; rw [IntKind.wrap_i64]; omega
theorem Cm.ok.act {C : Cm} (k : C.ok) : C.act.ok := by
 have r := w64_range (C.acts + 1)
 have := k.left
 unfold Cm.act
 split
 ·exact ⟨k.may, k.fits, k.typed, by dsimp only; split <;> omega, by have := k.left2; dsimp only; split <;> omega, k.mask, r, k.mlen⟩
 ·exact ⟨k.may, k.fits, k.typed, by dsimp only; omega, by dsimp only; omega, by intro n hn; simp at hn, r, by simp⟩
theorem chip_close {h0 h : H} {A : List Ent} {i p : Nat} {C C0 : Cm} {a b c m : Sl} (ok : C.ok) (ci : At A i (chipE p C0))
  (hs : Sat h0 (blk p (C.cells a b c m) :: matE 32 a C.s.pages :: sE b 1 (ints .i64 C.s.erases) :: sE c 1 (bools C.s.blown) :: sE m 1 (ints .u8 C.mask) :: del A i) h) : Sat h0 (put A i (chipE p C)) h :=
 Sat.back ci (Sat.close ⟨a, b, c, m⟩ ok hs)
section
variable {h0 h : H} {A : List Ent} {i p : Nat} {C : Cm}
theorem Acts_sp {Q : Int -> H -> Prop} (hs : Sat h0 A h) (ci : At A i (chipE p C)) (k : Q C.acts h) : F_chip_Chip_Acts ⟨p, 0, none⟩ Q h := by
 unfold F_chip_Chip_Acts G_chip_Chip_Acts
 obtain ⟨w, ok, hs⟩ := (hs.front ci).open_; dsimp only [chipL, List.cons_append, List.nil_append, Cm.cells] at hs
 exact ⟨_, hs.ld .z rfl, k⟩
theorem Out_sp {Q : Bool -> H -> Prop} (hs : Sat h0 A h) (ci : At A i (chipE p C)) (k : Q C.out h) : F_chip_Chip_Out ⟨p, 0, none⟩ Q h := by
 unfold F_chip_Chip_Out G_chip_Chip_Out
 obtain ⟨w, ok, hs⟩ := (hs.front ci).open_; dsimp only [chipL, List.cons_append, List.nil_append, Cm.cells] at hs
 exact ⟨_, hs.ld .z rfl, k⟩
theorem Restore_sp {Q : H -> Prop} (hs : Sat h0 A h) (ci : At A i (chipE p C)) (k : ∀ h', Sat h0 (put A i (chipE p { C with out := false })) h' -> Q h') : F_chip_Chip_Restore ⟨p, 0, none⟩ Q h := by
 unfold F_chip_Chip_Restore G_chip_Chip_Restore
 obtain ⟨w, ok, hs⟩ := (hs.front ci).open_; dsimp only [chipL, List.cons_append, List.nil_append, Cm.cells] at hs
 try simp only [add_mk, Nat.zero_add]
 (refine ⟨Sat.can hs (by repeat constructor) (by simp), ?_⟩; intro _ e; replace hs := Sat.wr hs (by repeat constructor) e; clear e; simp only [put, splice, List.set] at hs)
 exact k _ (chip_close ⟨ok.may, ok.fits, ok.typed, ok.left, ok.left2, ok.mask, ok.acts, ok.mlen⟩ ci hs)
theorem Config_sp {Q : Int -> Int -> Int -> Int -> Int -> Int -> Int -> H -> Prop} (hs : Sat h0 A h) (ci : At A i (chipE p C))
  (k : ∀ h', Sat h0 A h' -> Q C.cfg.cells C.cfg.slots C.cfg.fuses C.cfg.step C.cfg.keys C.cfg.erases C.cfg.area h') : F_chip_Chip_Config ⟨p, 0, none⟩ Q h := by
 unfold F_chip_Chip_Config G_chip_Chip_Config
 obtain ⟨w, ok, hs⟩ := (hs.front ci).open_; dsimp only [chipL, List.cons_append, List.nil_append, Cm.cells] at hs
 try simp only [add_mk, Nat.zero_add]
 (repeat first | refine ⟨_, Sat.ld hs (by repeat constructor) (by rfl), ?_⟩ | refine ⟨_, _, _, Sat.ld hs (by repeat constructor) (by rfl), ?_⟩ | (intro _ _ hn; replace hs := Sat.new hs hn) | refine ⟨Sat.cs hs (by repeat constructor) (by rfl), ?_⟩ | (refine ⟨Sat.can hs (by repeat constructor) (by simp), ?_⟩; intro _ e; replace hs := Sat.wr hs (by repeat constructor) e; clear e; simp only [put, splice, List.set] at hs))
 refine k _ ?_
 have := chip_close ok ci hs.drop
 rwa [ci.put_self] at this
theorem asked_b {Q : Int -> H -> Prop} (hs : Sat h0 A h) {a b c m : Sl} (ci : At A i (blk p (C.cells a b c m))) (n j : Int) (k : Q (askedM C j n) h) : F_chip_Chip_asked ⟨p, 0, none⟩ j n Q h := by
 unfold F_chip_Chip_asked G_chip_Chip_asked
 refine ⟨_, hs.ld ci rfl, ?_⟩
 unfold askedM at k
 simp only [ltI_eq, leI_eq, decide_eq_true_eq]
 split
 ·simpa [*] using k
 ·split
  ·simpa [*] using k
  ·split <;> simpa [*] using k
theorem asked_sp {Q : Int -> H -> Prop} (hs : Sat h0 A h) (ci : At A i (chipE p C)) (n j : Int) (k : Q (askedM C j n) h) : F_chip_Chip_asked ⟨p, 0, none⟩ j n Q h := by
 obtain ⟨w, ok, hs⟩ := (hs.front ci).open_; dsimp only [chipL, List.cons_append, List.nil_append, Cm.cells] at hs
 exact asked_b (C := C) hs .z n j k
theorem asksCell_sp {Q : Int -> H -> Prop} (hs : Sat h0 A h) (ci : At A i (chipE p C)) (page cell : Int) (k : Q (asksCellM C page cell) h) : F_chip_Chip_asksCell ⟨p, 0, none⟩ page cell Q h := by
 unfold F_chip_Chip_asksCell G_chip_Chip_asksCell
 obtain ⟨w, ok, hs⟩ := (hs.front ci).open_; dsimp only [chipL, List.cons_append, List.nil_append, Cm.cells] at hs
 have hl := (hs.rdM zs1).len
 refine ⟨_, _, _, hs.ld .z rfl, ?_⟩
 unfold asksCellM at k
 rw [hl] at k
 refine asked_b (C := C) hs .z _ _ ?_
 split
 ·rename_i h1; rw [if_pos (by simpa using h1)] at k; exact k
 ·rename_i h1; rw [if_neg (by simpa using h1)] at k
  refine ⟨_, hs.ld .z rfl, asked_b (C := C) hs .z _ _ k⟩
def mayV (v : Value) (f : Nat -> Int) : Option (Nat × Sl × List Int) -> Prop
 | none => v = .func (.func id_chip_Chip_begins_1) #[] #[] /\ f = fun _ => 255
 | some (b, _, mask) => v = .func (.func id_chip_Chip_begins_2) #[] #[.pointer (some ⟨b, 0, none⟩)] /\ f = fun i => if mask = [] then 0 else mask.getD (i % mask.length) 0
def mayL : Option (Nat × Sl × List Int) -> List Ent
 | none => []
 | some (b, m, mask) => [blk b [m.v], sE m 1 (ints .u8 mask)]
def mayE (v : Value) (f : Nat -> Int) : Ent := exE 3 (mayV v f) mayL
theorem begins_sp {Q : Value -> Int -> H -> Prop} (hs : Sat h0 A h) (ci : At A i (chipE p C))
  (k : ∀ v h', Sat h0 (mayE v (maskAt C) :: put A i (chipE p C.act)) h' -> Q v (errM C) h') : F_chip_Chip_begins ⟨p, 0, none⟩ Q h := by
 unfold F_chip_Chip_begins G_chip_Chip_begins
 obtain ⟨w, ok, hs⟩ := (hs.front ci).open_; dsimp only [chipL, List.cons_append, List.nil_append, Cm.cells] at hs
 try simp only [add_mk, Nat.zero_add]
 (repeat first | refine ⟨_, Sat.ld hs (by repeat constructor) (by rfl), ?_⟩ | refine ⟨_, _, _, Sat.ld hs (by repeat constructor) (by rfl), ?_⟩ | (intro _ _ hn; replace hs := Sat.new hs hn) | refine ⟨Sat.cs hs (by repeat constructor) (by rfl), ?_⟩ | (refine ⟨Sat.can hs (by repeat constructor) (by simp), ?_⟩; intro _ e; replace hs := Sat.wr hs (by repeat constructor) e; clear e; simp only [put, splice, List.set] at hs))
 have hl := ok.left
 have ha := ok.act
 by_cases h1 : C.left = 0
 ·rw [if_neg (by simp [h1])]
  (repeat first | refine ⟨_, Sat.ld hs (by repeat constructor) (by rfl), ?_⟩ | refine ⟨_, _, _, Sat.ld hs (by repeat constructor) (by rfl), ?_⟩ | (intro _ _ hn; replace hs := Sat.new hs hn) | refine ⟨Sat.cs hs (by repeat constructor) (by rfl), ?_⟩ | (refine ⟨Sat.can hs (by repeat constructor) (by simp), ?_⟩; intro _ e; replace hs := Sat.wr hs (by repeat constructor) e; clear e; simp only [put, splice, List.set] at hs))
  have e : errM C = 8 := by simp [errM, h1]
  rw [e] at k
  have em : maskAt C = fun i => if C.mask = [] then 0 else C.mask.getD (i % C.mask.length) 0 := by funext i; simp [maskAt, h1]
  have ea : C.act = { C with acts := w64 (C.acts + 1), out := true, left := -1, mask := [] } := by simp [Cm.act, h1]
  rw [em] at k
  rw [ea] at k ha
  refine k _ _ ?_
  replace hs := Sat.front hs (e := slE _ _ _ 1 (ints .u8 C.mask)) (by repeat constructor)
  replace hs := Sat.front hs (e := blk _ [w.m.v]) (by repeat constructor)
  replace hs := hs.sl_nil 1 none
  replace hs := Sat.front hs (e := slE _ _ _ 1 (ints .u8 [])) (by repeat constructor); replace hs := Sat.front hs (e := slE _ _ _ 1 (bools _)) (by repeat constructor); replace hs := Sat.front hs (e := slE _ _ _ 1 (ints .i64 _)) (by repeat constructor); replace hs := Sat.front hs (e := matE 32 _ _) (by repeat constructor); replace hs := Sat.front hs (e := blk p _) (by repeat constructor); simp only [del] at hs
  exact Sat.close (some (_, w.m, C.mask)) ⟨rfl, rfl⟩ (chip_close (a := w.a) (b := w.b) (c := w.c) (m := (none, 0, 0)) ha ci.s.s hs)
 ·rw [if_pos (by simp [h1])]
  (repeat first | refine ⟨_, Sat.ld hs (by repeat constructor) (by rfl), ?_⟩ | refine ⟨_, _, _, Sat.ld hs (by repeat constructor) (by rfl), ?_⟩ | (intro _ _ hn; replace hs := Sat.new hs hn) | refine ⟨Sat.cs hs (by repeat constructor) (by rfl), ?_⟩ | (refine ⟨Sat.can hs (by repeat constructor) (by simp), ?_⟩; intro _ e; replace hs := Sat.wr hs (by repeat constructor) e; clear e; simp only [put, splice, List.set] at hs))
  have e : errM C = 0 := by simp [errM, h1]
  rw [e] at k
  have em : maskAt C = fun i => 255 := by funext i; simp [maskAt, h1]
  have hw : IntKind.i64.wrap (C.left - 1) = C.left - 1 := by
   have := ok.left2
   rw [IntKind.wrap_i64]; omega
  have ea : C.act = { C with acts := w64 (C.acts + 1), left := if C.left - 1 > -1 then C.left - 1 else -1 } := by simp [Cm.act, h1]
  rw [em] at k
  rw [ea] at k ha
  rw [hw] at hs
  refine k _ _ ?_
  exact Sat.close none ⟨rfl, rfl⟩ (chip_close ha ci hs)
theorem call_may {v : Value} {f : Nat -> Int} {Q : List DV -> H -> Prop} (hs : Sat h0 A h) (mm : At A i (mayE v f)) (n : Nat) {x : Int} (hx : x = n) (k : Q [DV.one (.int .u8 (f n))] h) : callFn PP v [DV.one (.int .i64 x)] Q h := by
 obtain ⟨w, e, hs⟩ := (hs.front mm).open_
 subst hx
 cases w with
 | none =>
  obtain ⟨rfl, rfl⟩ := e
  refine callFn_of R_chip_Chip_begins_1 (by simp) (by simp) (by simp [DV.ok]) ?_
  show F_chip_Chip_begins_1 (n : Int) (fun i h => Q [DV.one (.int .u8 i)] h) h
  unfold F_chip_Chip_begins_1 G_chip_Chip_begins_1
  exact k
 | some w =>
  obtain ⟨b, m, mask⟩ := w
  obtain ⟨rfl, rfl⟩ := e
  refine callFn_of R_chip_Chip_begins_2 (by simp) (by simp) (by simp [DV.ok]) ?_
  show F_chip_Chip_begins_2 (n : Int) ⟨b, 0, none⟩ (fun i h => Q [DV.one (.int .u8 i)] h) h
  unfold F_chip_Chip_begins_2 G_chip_Chip_begins_2
  replace hs : Sat h0 (blk b [m.v] :: sE m 1 (ints .u8 mask) :: del A i) h := hs
  dsimp only at k ⊢
  have hl := hs.sl_len zs1
  simp only [ints_length, Nat.mul_one] at hl
  refine ⟨_, _, _, hs.ld .z rfl, ?_⟩
  by_cases h1 : mask = []
  ·rw [if_pos h1] at k
   subst h1
   rw [if_pos (by simp at hl; simp [← hl])]
   exact k
  ·rw [if_neg h1] at k
   have hp : 0 < mask.length := List.length_pos_iff.2 h1
   rw [if_neg (by simp; omega)]
   refine ⟨_, _, _, hs.ld .z rfl, ?_⟩
   refine ⟨_, _, _, hs.ld .z rfl, ?_⟩
   obtain ⟨q, hq⟩ := hs.sl_some zs1 (by omega)
   obtain ⟨mp, ml, mc⟩ := m
   simp only at hq hl
   subst hq
   have e : (n : Int).tmod (ml : Int) = ((n % ml : Nat) : Int) := by rw [Int.tmod_eq_emod_of_nonneg (by omega)]; omega
   rw [hl] at k
   have hlt : n % ml < ml := Nat.mod_lt _ (by omega)
   refine ⟨by dsimp only; omega, _, rfl, by dsimp only; rw [e]; omega, by dsimp only; rw [e]; omega, _, ?_, k⟩
   dsimp only
   rw [e]
   try simp only [add_mk, Nat.zero_add, Int.toNat_natCast, Nat.mul_one]
   refine hs.sld zs1 ?_
   rw [ints_get, List.getElem?_eq_getElem (by omega)]
   simp [List.getD, List.getElem?_eq_getElem (show n % ml < mask.length by omega)]
theorem askedM_zero {i n : Int} (e : askedM C i n = 0) : C.out = false /\ 0 ≤ i /\ i < n := by
 unfold askedM at e
 split at e
 ·omega
 ·rename_i h1
  split at e
  ·omega
  ·split at e
   ·omega
   ·exact ⟨by simpa using h1, by omega, by omega⟩
def blownM (C : Cm) (i : Int) : Bool × Int := if askedM C i C.s.blown.length ≠ 0 then (false, askedM C i C.s.blown.length) else (C.s.blown.getD i.toNat false, 0)
def erasesM (C : Cm) (i : Int) : Int × Int := if askedM C i C.s.pages.length ≠ 0 then (0, askedM C i C.s.pages.length) else (C.s.erases.getD i.toNat 0, 0)
theorem Blown_sp {Q : Bool -> Int -> H -> Prop} (hs : Sat h0 A h) (ci : At A i (chipE p C)) (j : Int) (k : Q (blownM C j).1 (blownM C j).2 h) : F_chip_Chip_Blown ⟨p, 0, none⟩ j Q h := by
 unfold F_chip_Chip_Blown G_chip_Chip_Blown
 have hs' := hs
 obtain ⟨w, ok, hs⟩ := (hs.front ci).open_; dsimp only [chipL, List.cons_append, List.nil_append, Cm.cells] at hs
 try simp only [add_mk, Nat.zero_add]
 have hl := hs.sl_len zs3
 simp only [bools_length, Nat.mul_one] at hl
 refine ⟨_, _, _, hs.ld .z rfl, ?_⟩
 rw [← hl]
 refine asked_sp hs' ci _ _ ?_
 unfold blownM at k
 by_cases h1 : askedM C j C.s.blown.length = 0
 ·rw [if_neg (by simpa using h1)]
  rw [if_neg (by simpa using h1)] at k
  obtain ⟨_, h2, h3⟩ := askedM_zero h1
  refine ⟨_, _, _, hs.ld .z rfl, ?_⟩
  obtain ⟨q, hq⟩ := hs.sl_some zs3 (by omega)
  obtain ⟨w1, w2, ⟨cp, cl, cc⟩, w4⟩ := w
  simp only at hq hl
  subst hq
  refine ⟨_, rfl, h2, by simp only; omega, _, ?_, k⟩
  try simp only [add_mk, Nat.zero_add, Nat.mul_one]
  refine hs.sld zs3 ?_
  rw [bools_get, List.getElem?_eq_getElem (by omega)]
  simp [List.getD, List.getElem?_eq_getElem (show j.toNat < C.s.blown.length by omega)]
 ·rw [if_pos (by simpa using h1)]
  rw [if_pos (by simpa using h1)] at k
  exact k
theorem Erases_sp {Q : Int -> Int -> H -> Prop} (hs : Sat h0 A h) (ci : At A i (chipE p C)) (j : Int) (k : Q (erasesM C j).1 (erasesM C j).2 h) : F_chip_Chip_Erases ⟨p, 0, none⟩ j Q h := by
 unfold F_chip_Chip_Erases G_chip_Chip_Erases
 have hs' := hs
 obtain ⟨w, ok, hs⟩ := (hs.front ci).open_; dsimp only [chipL, List.cons_append, List.nil_append, Cm.cells] at hs
 try simp only [add_mk, Nat.zero_add]
 have hl := hs.sl_len zs2
 simp only [ints_length, Nat.mul_one] at hl
 have hl1 := (hs.rdM zs1).len
 have hf := ok.fits
 have hnp := hf.pages
 have hne := hf.erases
 refine ⟨_, _, _, hs.ld .z rfl, ?_⟩
 rw [← hl1]
 refine asked_sp hs' ci _ _ ?_
 unfold erasesM at k
 by_cases h1 : askedM C j C.s.pages.length = 0
 ·rw [if_neg (by simpa using h1)]
  rw [if_neg (by simpa using h1)] at k
  obtain ⟨_, h2, h3⟩ := askedM_zero h1
  refine ⟨_, _, _, hs.ld .z rfl, ?_⟩
  obtain ⟨q, hq⟩ := hs.sl_some zs2 (by omega)
  obtain ⟨w1, ⟨cp, cl, cc⟩, w2, w4⟩ := w
  simp only at hq hl
  subst hq
  refine ⟨_, rfl, h2, by simp only; omega, _, ?_, k⟩
  try simp only [add_mk, Nat.zero_add, Nat.mul_one]
  refine hs.sld zs2 ?_
  rw [ints_get, List.getElem?_eq_getElem (by omega)]
  simp [List.getD, List.getElem?_eq_getElem (show j.toNat < C.s.erases.length by omega)]
 ·rw [if_pos (by simpa using h1)]
  rw [if_pos (by simpa using h1)] at k
  exact k
def cutM (C : Cm) (n : Int) (mask : List Int) : Cm := { C with left := if n > -1 then n else -1, mask := mask }
theorem Cut_sp {Q : H -> Prop} {q : Option Addr} {l c : Nat} {bs : List Int} (hs : Sat h0 A h) (ci : At A i (chipE p C)) (n : Int) (hn : n < 2 ^ 63) (rd : hsv h q 1 l (ints .u8 bs)) (hb : bytesOk bs) (hl : l * 1 ≤ 2 ^ 47)
  (k : ∀ h', Sat h0 (put A i (chipE p (cutM C n bs))) h' -> Q h') : F_chip_Chip_Cut ⟨p, 0, none⟩ n q l c Q h := by
 unfold F_chip_Chip_Cut G_chip_Chip_Cut
 obtain ⟨w, ok, hs⟩ := (hs.front ci).open_; dsimp only [chipL, List.cons_append, List.nil_append, Cm.cells] at hs
 try simp only [add_mk, Nat.zero_add]
 refine Clone_bytes_spec q l c _ _ h rd hl ?_
 intro p' c' h' bs' x o nb
 replace hs := hs.own x o nb
 (repeat first | refine ⟨_, Sat.ld hs (by repeat constructor) (by rfl), ?_⟩ | refine ⟨_, _, _, Sat.ld hs (by repeat constructor) (by rfl), ?_⟩ | (intro _ _ hn; replace hs := Sat.new hs hn) | refine ⟨Sat.cs hs (by repeat constructor) (by rfl), ?_⟩ | (refine ⟨Sat.can hs (by repeat constructor) (by simp), ?_⟩; intro _ e; replace hs := Sat.wr hs (by repeat constructor) e; clear e; simp only [put, splice, List.set] at hs))
 refine k _ ?_
 have okc : (cutM C n bs).ok := ⟨ok.may, ok.fits, ok.typed, by simp only [cutM]; split <;> omega, by simp only [cutM]; split <;> omega, hb, ok.acts, by have := rd.1; simp at this; simp only [cutM]; omega⟩
 replace hs := Sat.front hs (e := slE _ _ _ 1 (ints .u8 bs)) (by repeat constructor); replace hs := Sat.front hs (e := slE _ _ _ 1 (bools _)) (by repeat constructor); replace hs := Sat.front hs (e := slE _ _ _ 1 (ints .i64 _)) (by repeat constructor); replace hs := Sat.front hs (e := matE 32 _ _) (by repeat constructor); replace hs := Sat.front hs (e := blk p _) (by repeat constructor); simp only [del] at hs
 exact (chip_close (C := cutM C n bs) (a := w.a) (b := w.b) (c := w.c) (m := (p', l, c')) okc ci.s hs).drop
def blowM (C : Cm) (i : Int) : Cm × Int :=
 if askedM C i C.s.blown.length ≠ 0 then (C, askedM C i C.s.blown.length)
 else (if bits .and .u8 (maskAt C 0) 1 = 1 then { C.act with s := { C.s with blown := C.s.blown.set i.toNat true } } else C.act, errM C)
theorem Blow_sp {Q : Int -> H -> Prop} (hs : Sat h0 A h) (ci : At A i (chipE p C)) (j : Int) (k : ∀ h', Sat h0 (put A i (chipE p (blowM C j).1)) h' -> Q (blowM C j).2 h') : F_chip_Chip_Blow ⟨p, 0, none⟩ j Q h := by
 unfold F_chip_Chip_Blow G_chip_Chip_Blow
 have hs' := hs
 obtain ⟨w, ok, hs⟩ := (hs.front ci).open_; dsimp only [chipL, List.cons_append, List.nil_append, Cm.cells] at hs
 try simp only [add_mk, Nat.zero_add]
 have hl := hs.sl_len zs3
 simp only [bools_length, Nat.mul_one] at hl
 refine ⟨_, _, _, hs.ld .z rfl, ?_⟩
 rw [← hl]
 refine asked_sp hs' ci _ _ ?_
 unfold blowM at k
 by_cases h1 : askedM C j C.s.blown.length = 0
 case neg =>
  rw [if_pos (by simpa using h1)]
  rw [if_pos (by simpa using h1)] at k
  exact k _ (ci.put_self.symm ▸ hs')
 rw [if_neg (by simpa using h1)]
 rw [if_neg (by simpa using h1)] at k
 obtain ⟨_, h2, h3⟩ := askedM_zero h1
 refine begins_sp hs' ci ?_
 intro v h2' hs
 refine call_may hs .z 0 rfl ?_
 refine ⟨_, _, rfl, _, rfl, rfl, ?_⟩
 by_cases h4 : bits .and .u8 (maskAt C 0) 1 = 1
 case neg =>
  rw [if_neg (by simpa using h4)]
  rw [if_neg h4] at k
  exact k _ hs.drop
 rw [if_pos (by simpa using h4)]
 rw [if_pos h4] at k
 have ci2 := (ci.put (chipE p C.act)).s (x := mayE v (maskAt C))
 obtain ⟨w', ok', hs⟩ := (hs.front ci2).open_
 dsimp only [chipL, List.cons_append, List.nil_append, Cm.cells] at hs
 refine ⟨_, _, _, hs.ld .z rfl, ?_⟩
 have eb : C.act.s = C.s := by unfold Cm.act; split <;> rfl
 rw [eb] at hs
 have hl' := hs.sl_len zs3
 simp only [bools_length, Nat.mul_one] at hl'
 obtain ⟨q, hq⟩ := hs.sl_some zs3 (by omega)
 obtain ⟨w1, w2, ⟨cp, cl, cc⟩, w4⟩ := w'
 simp only at hq hl'
 subst hq
 refine ⟨_, rfl, h2, by dsimp only; omega, ?_⟩
 try simp only [add_mk, Nat.zero_add, Nat.mul_one]
 refine ⟨hs.scan zs3 (by dsimp only; omega) (by simp; omega), ?_⟩
 intro h5 e5
 replace hs := hs.swr zs3 e5 (by dsimp only; omega) (by simp; omega) (by simp)
 simp only [put, splice] at hs
 have ec : ({ C.act with s := { C.s with blown := C.s.blown.set j.toNat true } } : Cm).ok :=
  ⟨ok'.may, ⟨by have := ok'.fits.pages; rw [eb] at this; exact this, by have := ok'.fits.cells; rw [eb] at this; exact this, by have := ok'.fits.erases; rw [eb] at this; exact this,
   by have := ok'.fits.blown; rw [eb] at this; simpa using this⟩, by have := ok'.typed; rw [eb] at this; exact ⟨this.bytes, this.erases⟩, ok'.left, ok'.left2, ok'.mask, ok'.acts, ok'.mlen⟩
 have e6 : (bools C.s.blown).set j.toNat (Value.bool true) = bools (C.s.blown.set j.toNat true) := by simp [bools, List.map_set]
 rw [e6] at hs
 have := chip_close (a := w1) (b := w2) (c := (some ⟨q, 0, none⟩, cl, cc)) (m := w4) ec ci2 hs
 simp only [put_succ, put_put] at this
 exact k _ this.drop
end
section
variable {h0 h : H} {A : List Ent} {i p : Nat} {C : Cm}
theorem asksCellM_zero {page cell : Int} (ok : C.ok) (e : asksCellM C page cell = 0) : C.out = false /\ 0 ≤ page /\ page < C.s.pages.length /\ 0 ≤ cell /\ cell < C.cfg.cells /\
  ∃ hj : page.toNat < C.s.pages.length, (C.s.pages[page.toNat].length : Int) = 32 * C.cfg.cells /\ (cell.toNat + 1) * 32 ≤ C.s.pages[page.toNat].length := by
 unfold asksCellM at e
 split at e
 ·rename_i h1; exact absurd e h1
 ·rename_i h1
  have h1 : askedM C page C.s.pages.length = 0 := by simpa using h1
  obtain ⟨h2, h3, h4⟩ := askedM_zero h1
  obtain ⟨_, h5, h6⟩ := askedM_zero e
  have hj : page.toNat < C.s.pages.length := by omega
  have hl := ok.fits.cells _ (List.getElem_mem hj)
  exact ⟨h2, h3, h4, h5, h6, hj, hl, by omega⟩
def readM (C : Cm) (page cell : Int) : List Int × Int :=
 if asksCellM C page cell ≠ 0 then (zeros 32, asksCellM C page cell) else (cellAt (C.s.pages.getD page.toNat []) cell.toNat, 0)
theorem Read_sp {Q : List Int -> Int -> H -> Prop} (hs : Sat h0 A h) (ci : At A i (chipE p C)) (page cell : Int) (k : ∀ h', Sat h0 A h' -> Q (readM C page cell).1 (readM C page cell).2 h') :
  F_chip_Chip_Read ⟨p, 0, none⟩ page cell Q h := by
 unfold F_chip_Chip_Read G_chip_Chip_Read
 try simp only [add_mk, Nat.zero_add, List.append_nil]
 (intro _ _ hn; replace hs := Sat.new hs hn)
 refine asksCell_sp hs (ci.s) _ _ ?_
 unfold readM at k
 by_cases h1 : asksCellM C page cell = 0
 case neg =>
  rw [if_pos (by simpa using h1)]
  rw [if_pos (by simpa using h1)] at k
  (refine ⟨Sat.can hs (by repeat constructor) (by simp), ?_⟩; intro _ e; replace hs := Sat.wra hs (by repeat constructor) e (by simp [*]); clear e; simp only [put] at hs)
  refine ⟨_, ?_, hs.row0 (by repeat constructor), ?_⟩
  ·simp
  exact k _ hs.drop
 rw [if_neg (by simpa using h1)]
 rw [if_neg (by simpa using h1)] at k
 have hs' := hs
 obtain ⟨w, ok, hs⟩ := (hs.front ci.s).open_
 obtain ⟨_, h2, h3, h4, h5, hj, hl, hk⟩ := asksCellM_zero ok h1
 dsimp only [chipL, List.cons_append, List.nil_append, Cm.cells] at hs
 refine ⟨_, _, _, hs.ld .z rfl, ?_⟩
 have rd := hs.rdM zs1
 have hlen := rd.len
 obtain ⟨q, x, q', e1, e2, e3, e4, e5⟩ := rd.cell hj hk
 rw [e1]
 refine ⟨_, rfl, h2, by (try dsimp only); omega, ?_⟩
 refine ⟨_, _, _, e2, ?_⟩
 refine ⟨_, e4, h4, by omega, ?_⟩
 refine ⟨_, cellAt_length hk, e5, ?_⟩
 replace hs := hs'
 have hcl := cellAt_length hk
 (refine ⟨Sat.can hs (by repeat constructor) (by simp), ?_⟩; intro _ e; replace hs := Sat.wra hs (by repeat constructor) e (by simp [*]); clear e; simp only [put] at hs)
 refine ⟨_, ?_, hs.row0 (by repeat constructor), ?_⟩
 ·exact hcl
 have : C.s.pages.getD page.toNat [] = C.s.pages[page.toNat] := by simp [List.getD, List.getElem?_eq_getElem hj]
 rw [this] at k
 exact k _ hs.drop
def progCell (old x : List Int) (f : Nat -> Int) : List Int := mapTo (fun i now => bits .andNot .u8 now (bits .andNot .u8 (f i) (x.getD i 0))) 32 old
def Cm.setPage (C : Cm) (j : Nat) (row : List Int) : Cm := { C with s := { C.s with pages := C.s.pages.set j row } }
def rowOf (C : Cm) (page : Int) : List Int := C.s.pages.getD page.toNat []
def programM (C : Cm) (page cell : Int) (x : List Int) : Cm × Int :=
 if asksCellM C page cell ≠ 0 then (C, asksCellM C page cell)
 else (C.act.setPage page.toNat (rowSet (rowOf C page) cell.toNat (progCell (cellAt (rowOf C page) cell.toNat) x (maskAt C))), errM C)
theorem act_s (C : Cm) : C.act.s = C.s := by unfold Cm.act; split <;> rfl
theorem act_cfg (C : Cm) : C.act.cfg = C.cfg := by unfold Cm.act; split <;> rfl
theorem byte_bits (op : BinOp) (a b : Int) : isByte (bits op .u8 a b) := by
 have h1 := bits_lo_u8 op a b; have h2 := bits_hi_u8 op a b
 unfold isByte; omega
theorem Cm.ok.setPage {C : Cm} (ok : C.ok) {j : Nat} {row : List Int} (hl : (row.length : Int) = 32 * C.cfg.cells) (hb : bytesOk row) : (C.setPage j row).ok := by
 refine ⟨ok.may, ⟨by simpa [Cm.setPage] using ok.fits.pages, ?_, ok.fits.erases, ok.fits.blown⟩, ⟨?_, ok.typed.erases⟩, ok.left, ok.left2, ok.mask, ok.acts, ok.mlen⟩
 ·intro l hm
  rcases List.mem_or_eq_of_mem_set hm with hm | hm
  ·exact ok.fits.cells l hm
  ·rw [hm]; exact hl
 ·intro l hm
  rcases List.mem_or_eq_of_mem_set hm with hm | hm
  ·exact ok.typed.bytes l hm
  ·rw [hm]; exact hb
theorem mapTo_mem {g : Nat -> Int -> Int} {n : Nat} {ns : List Int} {P : Int -> Prop} (h1 : ∀ v, v ∈ ns -> P v) (h2 : ∀ i v, v ∈ ns -> P (g i v)) : ∀ v, v ∈ mapTo g n ns -> P v := by
 intro v hv
 obtain ⟨i, hi⟩ := List.mem_iff_getElem?.1 hv
 rw [mapTo_get] at hi
 cases e : ns[i]? with
 | none => rw [e] at hi; simp at hi
 | some u =>
  rw [e] at hi
  have hu : u ∈ ns := List.mem_iff_getElem?.2 ⟨i, e⟩
  simp only [Option.map_some, Option.some.injEq] at hi
  rw [← hi]; split
  ·exact h2 _ _ hu
  ·exact h1 _ hu
theorem cellAt_mem {row : List Int} {k : Nat} {v : Int} (h : v ∈ cellAt row k) : v ∈ row := List.mem_of_mem_drop (List.mem_of_mem_take h)
theorem rowSet_mem {row c : List Int} {k : Nat} {v : Int} (h : v ∈ rowSet row k c) : v ∈ row ∨ v ∈ c := by
 simp only [rowSet, List.mem_append] at h
 rcases h with (h | h) | h
 ·exact Or.inl (List.mem_of_mem_take h)
 ·exact Or.inr h
 ·exact Or.inl (List.mem_of_mem_drop h)
theorem Program_sp {Q : Int -> H -> Prop} (hs : Sat h0 A h) (ci : At A i (chipE p C)) (page cell : Int) (x : List Int) (hx : x.length = 32) (k : ∀ h', Sat h0 (put A i (chipE p (programM C page cell x).1)) h' -> Q (programM C page cell x).2 h') :
  F_chip_Chip_Program ⟨p, 0, none⟩ page cell x Q h := by
 unfold F_chip_Chip_Program G_chip_Chip_Program
 try simp only [add_mk, Nat.zero_add, List.append_nil]
 intro nx _ hn
 replace hs := Sat.new hs hn
 clear hn
 refine asksCell_sp hs (ci.s) _ _ ?_
 unfold programM at k
 by_cases h1 : asksCellM C page cell = 0
 case neg =>
  rw [if_pos (by simpa using h1)]
  rw [if_pos (by simpa using h1)] at k
  exact k _ (ci.put_self.symm ▸ hs.drop)
 rw [if_neg (by simpa using h1)]
 rw [if_neg (by simpa using h1)] at k
 obtain ⟨w0, ok, _⟩ := (hs.front ci.s).open_
 obtain ⟨_, h2, h3, h4, h5, hj, hl, hk⟩ := asksCellM_zero ok h1
 have erow : rowOf C page = C.s.pages[page.toNat] := by simp [rowOf, List.getD, List.getElem?_eq_getElem hj]
 rw [erow] at k
 refine begins_sp hs ci.s ?_
 intro v h6 hs
 simp only [put_succ] at hs
 have ci2 := ((ci.put (chipE p C.act)).s (x := blk nx (ints .u8 x))).s (x := mayE v (maskAt C))
 have hsO := (hs.front ci2).open_
 obtain ⟨w, ok', hsO⟩ := hsO
 dsimp only [chipL, List.cons_append, List.nil_append, Cm.cells] at hsO
 rw [act_s] at hsO
 refine ⟨_, _, _, hsO.ld .z rfl, ?_⟩
 have rd := hsO.rdM zs1
 have hlen := rd.len
 obtain ⟨q, y, q', e1, e2, e3, e4, e5⟩ := rd.cell hj hk
 rw [e1]
 refine ⟨_, rfl, h2, by (try dsimp only); omega, ?_⟩
 refine ⟨_, _, _, e2, ?_⟩
 refine ⟨_, e4, h4, by omega, ?_⟩
 have hcl := cellAt_length hk
 refine ⟨_, hcl, e5, ?_⟩
 intro no _ hn
 replace hs := Sat.new hs hn
 clear hn
 (refine ⟨Sat.can hs (by repeat constructor) (by simp), ?_⟩; intro _ e; replace hs := Sat.wra hs (by repeat constructor) e (by simp [*]); clear e; simp only [put] at hs)
 refine ⟨_, ?_, hs.row0 (by repeat constructor), ?_⟩
 ·exact hcl
 intro nn _ hn
 replace hs := Sat.new hs hn
 clear hn
 (refine ⟨Sat.can hs (by repeat constructor) (by simp), ?_⟩; intro _ e; replace hs := Sat.wra hs (by repeat constructor) e (by simp [*]); clear e; simp only [put] at hs)
 intro J hJ
 generalize hold : cellAt C.s.pages[page.toNat] cell.toNat = old at *
 let g := fun (i : Nat) (now : Int) => bits .andNot .u8 now (bits .andNot .u8 (maskAt C i) (x.getD i 0))
 refine loop_up 32 (fun i h => Sat h0 (blk nn (ints .u8 (mapTo g i old)) :: blk no (ints .u8 old) :: mayE v (maskAt C) :: blk nx (ints .u8 x) :: put A _ (chipE p C.act)) h) ?_ ?_ 0 _ (by omega) (by simpa using hs)
 ·intro j h7 hjl hs hk'
  apply hJ
  rw [ltI_eq, if_pos (by simp; omega)]
  simp only [Int.toNat_natCast, Nat.mul_one]
  have hmj : j < (mapTo g j old).length := by simp; omega
  have eg : (mapTo g j old)[j] = old[j] := by
   have := mapTo_get g j old j
   rw [List.getElem?_eq_getElem hmj, List.getElem?_eq_getElem (by omega)] at this
   simpa using this
  refine ⟨by omega, by omega, _, hs.ld .z (by rw [ints_get, List.getElem?_eq_getElem hmj]; rfl), by omega, by omega, _, hs.ld zs3 (by rw [ints_get, List.getElem?_eq_getElem (by omega)]; rfl), ?_⟩
  refine call_may hs zs2 j rfl ?_
  refine ⟨_, _, rfl, _, rfl, rfl, hcs_one (hs.ld zs3 (by rw [ints_get, List.getElem?_eq_getElem (by omega)]; rfl)), hcs_one (hs.ld .z (by rw [ints_get, List.getElem?_eq_getElem hmj]; rfl)), by omega, by omega, hs.can .z (by simp; omega), ?_⟩
  intro h8 e8
  replace hs := hs.wr .z e8
  rw [wrap_succ (by omega)]
  refine hk' _ ?_
  simp only [splice_cons, splice_nil, ints_set, put] at hs
  have e9 := mapTo_succ g j old (by omega)
  rw [← e9]
  have e10 : x.getD j 0 = x[j] := by simp [List.getD, List.getElem?_eq_getElem (show j < x.length by omega)]
  rw [eg] at hs
  simpa only [g, e10] using hs
 ·intro h7 hs
  apply hJ
  rw [ltI_eq, if_neg (by simp)]
  have hnl : (mapTo g 32 old).length = 32 := by simpa using hcl
  refine ⟨_, ?_, hs.row0 (by repeat constructor), ?_⟩
  ·exact hnl
  refine ⟨_, hcl, hs.row0 zs1, ?_⟩
  have ci3 := (ci2.s (x := blk no (ints .u8 old))).s (x := blk nn (ints .u8 (mapTo g 32 old)))
  obtain ⟨w', _, hsO⟩ := (hs.front ci3).open_
  dsimp only [chipL, List.cons_append, List.nil_append, Cm.cells] at hsO
  rw [act_s] at hsO
  have hrow : (C.s.pages[page.toNat].length : Int) = 32 * C.act.cfg.cells := by rw [act_cfg]; exact hl
  have ok2 := ok'.setPage (j := page.toNat) (row := rowSet C.s.pages[page.toNat] cell.toNat (mapTo g 32 old)) (by rw [rowSet_length hk hnl]; exact hrow) (by
   intro n hn
   rcases rowSet_mem hn with hn | hn
   ·exact ok.typed.bytes _ (List.getElem_mem hj) n hn
   ·refine mapTo_mem (P := isByte) (fun v hv => ?_) (fun i v hv => byte_bits _ _ _) n hn
    rw [← hold] at hv
    exact ok.typed.bytes _ (List.getElem_mem hj) v (cellAt_mem hv))
  split
  case isTrue hne =>
   refine ⟨_, _, _, hsO.ld .z rfl, ?_⟩
   have hl1 := (hsO.rdM zs1).len
   obtain ⟨y', hd, R, e6, hsT, give⟩ := (hsO.front zs1).row_take hj
   obtain ⟨⟨wp, wl, wc⟩, wb, wc', wm⟩ := w'
   dsimp only at hl1 hsT give
   have hl2 : C.s.pages.length = wl := hl1
   obtain ⟨qb, hq⟩ := hsT.sl_some zs1 (show 0 < wl by omega)
   subst hq
   refine ⟨_, rfl, h2, by dsimp only; omega, ?_⟩
   try simp only [add_mk, Nat.zero_add, Nat.mul_one]
   refine ⟨_, _, _, hsT.sld zs1 e6, ?_⟩
   refine ⟨_, ?_, hs.row0 (by repeat constructor), ?_⟩
   ·exact hnl
   have hyl := hsT.sl_len .z
   simp only [ints_length] at hyl
   obtain ⟨yp, yl, yc⟩ := y'
   dsimp only at hyl
   obtain ⟨yb, hy⟩ := hsT.sl_some .z (by dsimp only; omega)
   dsimp only at hy
   subst hy
   refine ⟨_, rfl, h4, by dsimp only; omega, ?_⟩
   try simp only [add_mk, Nat.zero_add]
   refine ⟨hsT.scan .z (by dsimp only; omega) (by simp; omega), ?_⟩
   intro h8 e8
   have hsW := hsT.swr .z e8 (by dsimp only; omega) (by simp [hcl]; omega) (ints_one _ _)
   rw [splice_rowSet hk hnl] at hsW
   have hsG := give _ _ _ hsW
   have hsC := chip_close (a := (some ⟨qb, 0, none⟩, wl, wc)) (b := wb) (c := wc') (m := wm) ok2 ci3 (by rw [Cm.setPage, act_s]; exact hsG.front zs1)
   simp only [put_succ, put_put] at hsC
   exact k _ hsC.drop.drop.drop.drop
  case isFalse hne =>
   have hne : mapTo g 32 old = old := by simpa using hne
   replace hne : progCell old x (maskAt C) = old := hne
   have e1 : rowSet C.s.pages[page.toNat] cell.toNat (cellAt C.s.pages[page.toNat] cell.toNat) = C.s.pages[page.toNat] := by
    unfold rowSet cellAt
    rw [List.append_assoc, ← List.drop_drop, List.take_append_drop, List.take_append_drop]
   have e2 : C.act.setPage page.toNat C.s.pages[page.toNat] = C.act := by
    have : C.act.s.pages.set page.toNat C.s.pages[page.toNat] = C.act.s.pages := by rw [act_s]; exact List.set_getElem_self hj
    unfold Cm.setPage; rw [this]
   rw [hne, ← hold, e1, e2] at k
   exact k _ hs.drop.drop.drop.drop
def eraseRow (row : List Int) (f : Nat -> Int) : List Int := mapTo (fun i b => bits .or .u8 b (f i)) row.length row
def Cm.setErase (C : Cm) (j : Nat) (n : Int) : Cm := { C with s := { C.s with erases := C.s.erases.set j n } }
def eraseM (C : Cm) (page : Int) : Cm × Int :=
 if askedM C page C.s.pages.length ≠ 0 then (C, askedM C page C.s.pages.length)
 else if C.cfg.erases ≤ C.s.erases.getD page.toNat 0 then (C, 9)
 else ((C.act.setErase page.toNat (C.s.erases.getD page.toNat 0 + 1)).setPage page.toNat (eraseRow (rowOf C page) (maskAt C)), errM C)
theorem Cm.ok.setErase {C : Cm} (ok : C.ok) {j : Nat} {n : Int} (hn : -(2 ^ 63) ≤ n /\ n < 2 ^ 63) : (C.setErase j n).ok := by
 refine ⟨ok.may, ⟨ok.fits.pages, ok.fits.cells, by simpa [Cm.setErase] using ok.fits.erases, ok.fits.blown⟩, ⟨ok.typed.bytes, ?_⟩, ok.left, ok.left2, ok.mask, ok.acts, ok.mlen⟩
 intro l hm
 rcases List.mem_or_eq_of_mem_set hm with hm | hm
 ·exact ok.typed.erases l hm
 ·rw [hm]; exact hn
theorem mapTo_out {g : Nat -> Int -> Int} {i j : Nat} {ns : List Int} (h : i ≤ j) (hj : j < ns.length) : (mapTo g i ns)[j]? = some ns[j] := by
 rw [mapTo_get, List.getElem?_eq_getElem hj]; simp; omega
theorem Erase_sp {Q : Int -> H -> Prop} (hs : Sat h0 A h) (ci : At A i (chipE p C)) (page : Int) (k : ∀ h', Sat h0 (put A i (chipE p (eraseM C page).1)) h' -> Q (eraseM C page).2 h') :
  F_chip_Chip_Erase ⟨p, 0, none⟩ page Q h := by
 unfold F_chip_Chip_Erase G_chip_Chip_Erase
 try simp only [add_mk, Nat.zero_add]
 have hs' := hs
 obtain ⟨w, ok, hs⟩ := (hs.front ci).open_; dsimp only [chipL, List.cons_append, List.nil_append, Cm.cells] at hs
 have hlp := (hs.rdM zs1).len
 have hle := hs.sl_len zs2
 simp only [ints_length, Nat.mul_one] at hle
 refine ⟨_, _, _, hs.ld .z rfl, ?_⟩
 rw [← hlp]
 refine asked_sp hs' ci _ _ ?_
 unfold eraseM at k
 by_cases h1 : askedM C page C.s.pages.length = 0
 case neg =>
  rw [if_pos (by simpa using h1)]
  rw [if_pos (by simpa using h1)] at k
  exact k _ (ci.put_self.symm ▸ hs')
 rw [if_neg (by simpa using h1)]
 rw [if_neg (by simpa using h1)] at k
 obtain ⟨_, h2, h3⟩ := askedM_zero h1
 have hf1 := ok.fits.pages
 have hf2 := ok.fits.erases
 have hje : page.toNat < C.s.erases.length := by omega
 have hjp : page.toNat < C.s.pages.length := by omega
 have eer : C.s.erases.getD page.toNat 0 = C.s.erases[page.toNat] := by simp [List.getD, List.getElem?_eq_getElem hje]
 have erow : rowOf C page = C.s.pages[page.toNat] := by simp [rowOf, List.getD, List.getElem?_eq_getElem hjp]
 rw [eer, erow] at k
 refine ⟨_, _, _, hs.ld .z rfl, ?_⟩
 obtain ⟨w1, ⟨ep, el, ec⟩, w3, w4⟩ := w
 replace hle : C.s.erases.length = el := hle
 obtain ⟨eb, he⟩ := hs.sl_some zs2 (show 0 < el by omega)
 dsimp only at he
 subst he
 refine ⟨_, rfl, h2, by (try dsimp only); omega, ?_⟩
 try simp only [add_mk, Nat.zero_add, Nat.mul_one]
 refine ⟨_, hs.sld zs2 (by rw [ints_get, List.getElem?_eq_getElem hje]; rfl), ?_⟩
 refine ⟨_, Sat.ld hs (by repeat constructor) (by rfl), ?_⟩
 by_cases h4 : C.cfg.erases ≤ C.s.erases[page.toNat]
 case pos =>
  rw [leI_eq, if_pos (by simpa using h4)]
  rw [if_pos h4] at k
  exact k _ (ci.put_self.symm ▸ hs')
 rw [leI_eq, if_neg (by simpa using h4)]
 rw [if_neg h4] at k
 refine begins_sp hs' ci ?_
 intro v h6 hs
 have ci2 := (ci.put (chipE p C.act)).s (x := mayE v (maskAt C))
 obtain ⟨w, ok', hs⟩ := (hs.front ci2).open_
 dsimp only [chipL, List.cons_append, List.nil_append, Cm.cells] at hs
 rw [act_s] at hs
 have hle := hs.sl_len zs2
 simp only [ints_length, Nat.mul_one] at hle
 have hlp := (hs.rdM zs1).len
 obtain ⟨⟨pp, pl, pc⟩, ⟨ep, el, ec⟩, w3, w4⟩ := w
 replace hle : C.s.erases.length = el := hle
 replace hlp : C.s.pages.length = pl := hlp
 obtain ⟨eb, he⟩ := hs.sl_some zs2 (show 0 < el by omega)
 dsimp only at he
 subst he
 refine ⟨_, _, _, Sat.ld hs (by repeat constructor) (by rfl), ?_⟩
 refine ⟨_, rfl, h2, by (try dsimp only); omega, ?_⟩
 try simp only [add_mk, Nat.zero_add, Nat.mul_one]
 refine ⟨_, hs.sld zs2 (by rw [ints_get, List.getElem?_eq_getElem hje]; rfl), ?_⟩
 refine ⟨_, rfl, h2, by (try dsimp only); omega, ?_⟩
 try simp only [add_mk, Nat.zero_add, Nat.mul_one]
 refine ⟨hs.scan zs2 (show 0 < el by omega) (by simp; omega), ?_⟩
 intro h7 e7
 replace hs := hs.swr zs2 e7 (show 0 < el by omega) (by simp; omega) (by simp)
 simp only [put, splice, ints_set] at hs
 have hce := ok.typed.erases _ (List.getElem_mem hje)
 have hcm := ok.may.erases
 rw [show IntKind.i64.wrap (C.s.erases[page.toNat] + 1) = C.s.erases[page.toNat] + 1 by rw [IntKind.wrap_i64]; omega] at hs
 have hs7 := hs
 refine ⟨_, _, _, Sat.ld hs (by repeat constructor) (by rfl), ?_⟩
 obtain ⟨⟨yp, yl, yc⟩, hd, R, e8, hs, give⟩ := (hs.front zs1).row_take hjp
 obtain ⟨qb, hq⟩ := hs.sl_some zs1 (show 0 < pl by omega)
 dsimp only at hq
 subst hq
 refine ⟨_, rfl, h2, by (try dsimp only); omega, ?_⟩
 try simp only [add_mk, Nat.zero_add, Nat.mul_one]
 refine ⟨_, _, _, hs.sld zs1 e8, ?_⟩
 have hcl := ok.fits.cells _ (List.getElem_mem hjp)
 have hcc := ok.may.cells
 have hcs := ok.may.slots
 have hyl := hs.sl_len .z
 simp only [ints_length] at hyl
 obtain ⟨yb, hy⟩ := hs.sl_some .z (show 0 < yl by omega)
 dsimp only at hy
 subst hy
 have hbr := ok.typed.bytes _ (List.getElem_mem hjp)
 generalize C.s.pages[page.toNat] = row at *
 let g := fun (i : Nat) (b : Int) => bits .or .u8 b (maskAt C i)
 intro J hJ
 have hmg : ∀ n, (mapTo g n row).length = row.length := fun n => by simp
 refine loop_up C.cfg.cells.toNat (fun k h => Sat h0 (sE (some ⟨yb, 0, none⟩, yl, yc) 32 (ints .u8 (mapTo g (32 * k) row)) :: sE (some ⟨qb, 0, none⟩, pl, pc) 1 hd :: ((blk p (C.act.cells (some ⟨qb, 0, none⟩, pl, pc) (some ⟨eb, 0, none⟩, el, ec) w3 w4) ::
   sE (some ⟨eb, 0, none⟩, el, ec) 1 (ints .i64 (C.s.erases.set page.toNat (C.s.erases[page.toNat] + 1))) :: sE w3 1 (bools C.s.blown) :: sE w4 1 (ints .u8 C.act.mask) :: mayE v (maskAt C) :: del (put A i (chipE p C.act)) i) ++ R)) h) ?_ ?_ 0 _ (by omega) (by rw [Nat.mul_zero, mapTo_zero]; exact hs)
 ·intro k h8 hk hs hk'
  apply hJ
  rw [ltI_eq, if_pos (by simp; omega)]
  simp only [Cm.cells] at hs
  refine ⟨_, _, _, hs.ld zs2 rfl, ?_⟩
  refine ⟨_, rfl, h2, by (try dsimp only); omega, ?_⟩
  try simp only [add_mk, Nat.zero_add, Nat.mul_one]
  refine ⟨_, _, _, hs.sld zs1 e8, ?_⟩
  refine ⟨_, rfl, by omega, by (try dsimp only); omega, ?_⟩
  intro J2 hJ2
  refine loop_up 32 (fun j h => Sat h0 (sE (some ⟨yb, 0, none⟩, yl, yc) 32 (ints .u8 (mapTo g (32 * k + j) row)) :: sE (some ⟨qb, 0, none⟩, pl, pc) 1 hd :: ((blk p (C.act.cells (some ⟨qb, 0, none⟩, pl, pc) (some ⟨eb, 0, none⟩, el, ec) w3 w4) ::
   sE (some ⟨eb, 0, none⟩, el, ec) 1 (ints .i64 (C.s.erases.set page.toNat (C.s.erases[page.toNat] + 1))) :: sE w3 1 (bools C.s.blown) :: sE w4 1 (ints .u8 C.act.mask) :: mayE v (maskAt C) :: del (put A i (chipE p C.act)) i) ++ R)) h) ?_ ?_ 0 _ (by omega) (by rw [Nat.add_zero]; exact hs)
  ·intro j h9 hj hs hk2
   apply hJ2
   rw [ltI_eq, if_pos (by simp; omega)]
   try simp only [add_mk, Nat.zero_add, Nat.mul_one, Int.toNat_natCast]
   have hlt : k * 32 + j < row.length := by omega
   have ea : (mapTo g (32 * k + j) row)[k * 32 + j]? = some row[k * 32 + j] := mapTo_out (by omega) hlt
   have eb' : (ints .u8 (mapTo g (32 * k + j) row))[k * 32 + j]? = some (.int .u8 row[k * 32 + j]) := by rw [ints_get, ea]; rfl
   refine ⟨by omega, by omega, _, hs.sld .z eb', ?_⟩
   have ew : IntKind.i64.wrap (IntKind.i64.wrap ((k : Int) * 32) + (j : Int)) = ((k * 32 + j : Nat) : Int) := by rw [wrap_id (n := (k : Int) * 32) (by omega), wrap_id (by omega)]; omega
   rw [ew]
   refine call_may (i := 6) hs zs6 (k * 32 + j) rfl ?_
   refine ⟨_, _, rfl, _, rfl, rfl, hcs_one (hs.sld .z eb'), by omega, by omega, hs.scan .z (show 0 < yl by omega) (by simp; omega), ?_⟩
   intro h10 e10
   replace hs := hs.swr .z e10 (show 0 < yl by omega) (by simp; omega) (by simp)
   rw [wrap_succ (by omega)]
   refine hk2 _ ?_
   simp only [splice_cons, splice_nil, ints_set, put] at hs
   have e11 : (mapTo g (32 * k + j) row).set (k * 32 + j) (bits .or .u8 row[k * 32 + j] (maskAt C (k * 32 + j))) = mapTo g (32 * k + (j + 1)) row := by
    have := mapTo_succ g (32 * k + j) row (by omega)
    rw [show 32 * k + (j + 1) = 32 * k + j + 1 by omega, ← this]
    have e12 : 32 * k + j = k * 32 + j := by omega
    simp only [e12, g]
   rw [e11] at hs
   exact hs
  ·intro h9 hs
   apply hJ2
   rw [ltI_eq, if_neg (by simp)]
   rw [wrap_succ (by omega)]
   exact hk' _ hs
 ·intro h8 hs
  apply hJ
  rw [ltI_eq, if_neg (by simp; omega)]
  have e12 : mapTo g (32 * C.cfg.cells.toNat) row = eraseRow row (maskAt C) := by
   unfold eraseRow
   have : 32 * C.cfg.cells.toNat = row.length := by omega
   rw [this]
  rw [e12] at hs
  replace hs := (give _ _ _ hs).front zs1
  have hce' : ((C.act.setErase page.toNat (C.s.erases[page.toNat] + 1)).setPage page.toNat (eraseRow row (maskAt C))).ok := by
   refine (ok'.setErase (by omega)).setPage ?_ ?_
   ·show ((eraseRow row (maskAt C)).length : Int) = 32 * C.act.cfg.cells
    rw [act_cfg, ← e12, hmg]; exact hcl
   ·refine mapTo_mem (P := isByte) (fun v hv => hbr v hv) (fun i v hv => byte_bits _ _ _)
  have hsC := chip_close (a := (some ⟨qb, 0, none⟩, pl, pc)) (b := (some ⟨eb, 0, none⟩, el, ec)) (c := w3) (m := w4) hce' ci2 (by rw [Cm.setPage, Cm.setErase, act_s]; exact hs)
  simp only [put_succ, put_put] at hsC
  exact k _ hsC.drop
end
structure St.small (s : St) : Prop where
 pages : s.pages.length * 24 + 4096 ≤ 2 ^ 47
 rows : ∀ l, l ∈ s.pages -> l.length + 4096 ≤ 2 ^ 47
 erases : s.erases.length * 8 + 4096 ≤ 2 ^ 47
 blown : s.blown.length + 4096 ≤ 2 ^ 47
theorem Cm.ok.small {C : Cm} (ok : C.ok) : C.s.small := by
 have h1 := ok.may.np; have h2 := ok.may.nf; have h3 := ok.fits; have h4 := ok.may.cells
 refine ⟨by have := h3.pages; omega, fun l hl => by have := h3.cells l hl; omega, by have := h3.erases; omega, by have := h3.blown; omega⟩
section
variable {h0 h : H} {A : List Ent} {i p : Nat} {C : Cm}
theorem Clone_cells_sp {p : Option Addr} {l c : Nat} {bs : List Int} {Q : Option Addr -> Nat -> Nat -> H -> Prop} (hs : Sat h0 A h) (rd : hsv h p 32 l (ints .u8 bs)) (hb : bs.length ≤ 2 ^ 47)
  (k : ∀ p' c' h', Sat h0 (sE (p', l, c') 32 (ints .u8 bs) :: A) h' -> Q p' l c' h') : F_slices_Clone_api_Cell_api_Cell p l c Q h :=
 Clone_cells_spec p l c _ Q h rd (by have := rd.1; simp at this; omega) fun p' c' h' bs' x o n => k _ _ _ (hs.own x o n)
theorem Clone_ints_sp {p : Option Addr} {l c : Nat} {bs : List Int} {Q : Option Addr -> Nat -> Nat -> H -> Prop} (hs : Sat h0 A h) (rd : hsv h p 1 l (ints .i64 bs)) (hb : bs.length * 8 ≤ 2 ^ 47)
  (k : ∀ p' c' h', Sat h0 (sE (p', l, c') 1 (ints .i64 bs) :: A) h' -> Q p' l c' h') : F_slices_Clone_int_int p l c Q h :=
 Clone_ints_spec p l c _ Q h rd (by have := rd.1; simp at this; omega) fun p' c' h' bs' x o n => k _ _ _ (hs.own x o n)
theorem Clone_bools_sp {p : Option Addr} {l c : Nat} {bs : List Bool} {Q : Option Addr -> Nat -> Nat -> H -> Prop} (hs : Sat h0 A h) (rd : hsv h p 1 l (bools bs)) (hb : bs.length ≤ 2 ^ 47)
  (k : ∀ p' c' h', Sat h0 (sE (p', l, c') 1 (bools bs) :: A) h' -> Q p' l c' h') : F_slices_Clone_bool_bool p l c Q h :=
 Clone_bools_spec p l c _ Q h rd (by have := rd.1; simp at this; omega) fun p' c' h' bs' x o n => k _ _ _ (hs.own x o n)
theorem copied_sp {a b c : Sl} {s : St} {Q : Option Addr -> Nat -> Nat -> Option Addr -> Nat -> Nat -> Option Addr -> Nat -> Nat -> H -> Prop} (hs : Sat h0 A h) (rd : ∀ h', Sat h0 A h' -> RdS h' a b c s) (sm : s.small)
  (k : ∀ (a' b' c' : Sl) h', Sat h0 (stL a' b' c' s ++ A) h' -> Q a'.1 a'.2.1 a'.2.2 b'.1 b'.2.1 b'.2.2 c'.1 c'.2.1 c'.2.2 h') :
  F_chip_copied a.1 a.2.1 a.2.2 b.1 b.2.1 b.2.2 c.1 c.2.1 c.2.2 Q h := by
 unfold F_chip_copied G_chip_copied
 try simp only [add_mk, Nat.zero_add]
 intro n1 _ hn; replace hs := Sat.new hs hn
 intro n2 _ hn; replace hs := Sat.new hs hn
 intro J hJ
 have fin : ∀ q b2 b3 c2 c3 h', Sat h0 (blk q [.slice none 0 0, .slice b2 b.2.1 b3, .slice c2 c.2.1 c3] :: sE (b2, b.2.1, b3) 1 (ints .i64 s.erases) :: sE (c2, c.2.1, c3) 1 (bools s.blown) ::
   blk n1 [a.v, b.v, c.v] :: blk n2 [.slice none 0 0, .slice none 0 0, .slice none 0 0] :: A) h' -> J [SV.dv (DV.addr ⟨q, 0, none⟩)] h' := by
  intro q b2 b3 c2 c3 h' hs
  apply hJ
  (repeat first | refine ⟨_, Sat.ld hs (by repeat constructor) (by rfl), ?_⟩ | refine ⟨_, _, _, Sat.ld hs (by repeat constructor) (by rfl), ?_⟩ | (intro _ _ hn; replace hs := Sat.new hs hn) | refine ⟨Sat.cs hs (by repeat constructor) (by rfl), ?_⟩ | (refine ⟨Sat.can hs (by repeat constructor) (by simp), ?_⟩; intro _ e; replace hs := Sat.wr hs (by repeat constructor) e; clear e; simp only [put, splice, List.set] at hs))
  intro J2 hJ2
  have hlen := (rd _ hs.drop.drop.drop.drop.drop).pg.len
  replace hs := hs.mat_nil 32 none
  refine loop_up a.2.1 (fun i h => ∃ hd : Sl, hd.2.1 = i /\ Sat h0 (matE 32 hd (s.pages.take i) :: blk q [hd.v, .slice b2 b.2.1 b3, .slice c2 c.2.1 c3] :: sE (b2, b.2.1, b3) 1 (ints .i64 s.erases) :: sE (c2, c.2.1, c3) 1 (bools s.blown) ::
   blk n1 [a.v, b.v, c.v] :: blk n2 [.slice none 0 0, .slice none 0 0, .slice none 0 0] :: A) h) ?_ ?_ 0 _ (by omega) ⟨_, rfl, hs⟩
  ·rintro i h1 hi ⟨⟨hp, hl, hc⟩, e, hs⟩ hk
   simp only at e; subst e
   apply hJ2
   rw [ltI_eq, if_pos (by simp; omega)]
   have hlt : hl < s.pages.length := by omega
   obtain ⟨q', x, e1, e2, e3⟩ := (rd _ hs.drop.drop.drop.drop.drop.drop).pg.at hlt
   rw [e1]
   refine ⟨_, rfl, by omega, by omega, ?_⟩
   refine ⟨_, _, _, e2, ?_⟩
   refine ⟨_, _, _, Sat.ld hs (by repeat constructor) (by rfl), ?_⟩
   refine Clone_cells_sp hs e3 (Nat.le_trans (Nat.le_add_right _ _) (sm.rows _ (List.getElem_mem hlt))) ?_
   intro p' c' h2 hs
   refine ⟨Sat.cs hs (by repeat constructor) (by rfl), ?_⟩
   (intro _ _ hn; replace hs := Sat.new hs hn)
   refine ⟨Sat.cs hs (by repeat constructor) (by rfl), ?_⟩
   refine ⟨_, Sat.bv hs (.z) (by simp) (by simp), ?_⟩
   replace hs := Sat.front hs zs1
   have hpl := sm.pages
   refine Sat.app_row hs zs1 (by dsimp only; omega) ?_
   intro p2 c2' h4 hs
   simp only [put, del] at hs
   (refine ⟨Sat.can hs (by repeat constructor) (by simp), ?_⟩; intro _ e; replace hs := Sat.wr hs (by repeat constructor) e; clear e; simp only [put, splice, List.set] at hs)
   rw [wrap_succ (by omega)]
   refine hk _ ⟨(p2, hl + 1, c2'), rfl, ?_⟩
   rw [List.take_succ_eq_append_getElem hlt]
   exact hs.sub (by (repeat (first | exact List.Sublist.refl _ | apply List.Sublist.cons_cons | apply List.Sublist.cons)))
  ·rintro h1 ⟨⟨hp, hl, hc⟩, e, hs⟩
   simp only at e; subst e
   apply hJ2
   rw [ltI_eq, if_neg (by simp)]
   (repeat first | refine ⟨_, Sat.ld hs (by repeat constructor) (by rfl), ?_⟩ | refine ⟨_, _, _, Sat.ld hs (by repeat constructor) (by rfl), ?_⟩ | (intro _ _ hn; replace hs := Sat.new hs hn) | refine ⟨Sat.cs hs (by repeat constructor) (by rfl), ?_⟩ | (refine ⟨Sat.can hs (by repeat constructor) (by simp), ?_⟩; intro _ e; replace hs := Sat.wr hs (by repeat constructor) e; clear e; simp only [put, splice, List.set] at hs))
   refine k (hp, _, hc) (b2, _, b3) (c2, _, c3) _ ?_
   rw [← hlen, List.take_length] at hs
   replace hs := Sat.front hs (e := blk n2 _) (by repeat constructor)
   replace hs := Sat.front hs (e := blk n1 _) (by repeat constructor)
   replace hs := Sat.front hs (e := blk q _) (by repeat constructor)
   simp only [del] at hs
   have := hs.drop.drop.drop
   rw [hlen] at this
   exact this
 repeat' (first | refine ⟨_, Sat.ld hs (by repeat constructor) (by rfl), ?_⟩ | refine ⟨_, _, _, Sat.ld hs (by repeat constructor) (by rfl), ?_⟩ | (intro _ _ hn; replace hs := Sat.new hs hn) | refine ⟨Sat.cs hs (by repeat constructor) (by rfl), ?_⟩ | (refine ⟨Sat.can hs (by repeat constructor) (by simp), ?_⟩; intro _ e; replace hs := Sat.wr hs (by repeat constructor) e; clear e; simp only [put, splice, List.set] at hs) | (refine Clone_ints_sp hs (rd _ (hs.sub (by (repeat (first | exact List.Sublist.refl _ | apply List.Sublist.cons_cons | apply List.Sublist.cons))))).er (Nat.le_trans (Nat.le_add_right _ _) sm.erases) ?_; intro _ _ _ hs) | (refine Clone_bools_sp hs (rd _ (hs.sub (by (repeat (first | exact List.Sublist.refl _ | apply List.Sublist.cons_cons | apply List.Sublist.cons))))).bl (Nat.le_trans (Nat.le_add_right _ _) sm.blown) ?_; intro _ _ _ hs) | refine And.intro ?_ ?_)
 all_goals
  replace hs := Sat.front hs (e := blk n2 _) (by repeat constructor)
  replace hs := Sat.front hs (e := blk n1 _) (by repeat constructor)
  replace hs := Sat.front hs (e := slE _ _ _ 1 (bools _)) (by repeat constructor)
  replace hs := Sat.front hs (e := slE _ _ _ 1 (ints .i64 _)) (by repeat constructor)
  replace hs := Sat.front hs (e := blk _ [.slice none 0 0, .slice _ b.2.1 _, .slice _ c.2.1 _]) (by repeat constructor)
  exact fin _ _ _ _ _ _ hs
theorem chip_make {a b c m : Sl} (ok : C.ok) (hs : Sat h0 (blk p (C.cells a b c m) :: matE 32 a C.s.pages :: sE b 1 (ints .i64 C.s.erases) :: sE c 1 (bools C.s.blown) :: sE m 1 (ints .u8 C.mask) :: A) h) : Sat h0 (chipE p C :: A) h :=
 Sat.close ⟨a, b, c, m⟩ ok hs
theorem State_sp {Q : Option Addr -> Nat -> Nat -> Option Addr -> Nat -> Nat -> Option Addr -> Nat -> Nat -> H -> Prop} (hs : Sat h0 A h) (ci : At A i (chipE p C))
  (k : ∀ (a' b' c' : Sl) h', Sat h0 (stL a' b' c' C.s ++ A) h' -> Q a'.1 a'.2.1 a'.2.2 b'.1 b'.2.1 b'.2.2 c'.1 c'.2.1 c'.2.2 h') : F_chip_Chip_State ⟨p, 0, none⟩ Q h := by
 unfold F_chip_Chip_State G_chip_Chip_State
 try simp only [add_mk, Nat.zero_add]
 obtain ⟨w, ok, hs⟩ := (hs.front ci).open_; dsimp only [chipL, List.cons_append, List.nil_append, Cm.cells] at hs
 intro nl _ hn; replace hs := Sat.new hs hn
 refine ⟨_, _, _, Sat.ld hs (by repeat constructor) (by rfl), ?_⟩
 refine ⟨_, _, _, Sat.ld hs (by repeat constructor) (by rfl), ?_⟩
 refine ⟨_, _, _, Sat.ld hs (by repeat constructor) (by rfl), ?_⟩
 refine copied_sp (a := w.a) (b := w.b) (c := w.c) (s := C.s) hs (fun h' hs' => sat_rdS hs' (i := 2) (j := 3) (k := 4) zs2 zs3 zs4) ok.small ?_
 intro a' b' c' h' hs
 replace hs : Sat h0 (matE 32 a' C.s.pages :: sE b' 1 (ints .i64 C.s.erases) :: sE c' 1 (bools C.s.blown) :: blk nl [.slice none 0 0, .slice none 0 0, .slice none 0 0] :: chipL p C w ++ del A i) h' := hs
 dsimp only [chipL, List.cons_append, List.nil_append, Cm.cells] at hs
 (repeat first | refine ⟨_, Sat.ld hs (by repeat constructor) (by rfl), ?_⟩ | refine ⟨_, _, _, Sat.ld hs (by repeat constructor) (by rfl), ?_⟩ | (intro _ _ hn; replace hs := Sat.new hs hn) | refine ⟨Sat.cs hs (by repeat constructor) (by rfl), ?_⟩ | (refine ⟨Sat.can hs (by repeat constructor) (by simp), ?_⟩; intro _ e; replace hs := Sat.wr hs (by repeat constructor) e; clear e; simp only [put, splice, List.set] at hs))
 refine k a' b' c' _ ?_
 replace hs := Sat.front hs (e := slE w.m.1 _ _ 1 (ints .u8 C.mask)) (by repeat constructor)
 replace hs := Sat.front hs (e := slE w.c.1 w.c.2.1 w.c.2.2 1 (bools C.s.blown)) (by repeat constructor)
 replace hs := Sat.front hs (e := slE w.b.1 w.b.2.1 w.b.2.2 1 (ints .i64 C.s.erases)) (by repeat constructor)
 replace hs := Sat.front hs (e := matE 32 w.a C.s.pages) (by repeat constructor)
 replace hs := Sat.front hs (e := blk p _) (by repeat constructor)
 simp only [del] at hs
 have hC := chip_close (a := w.a) (b := w.b) (c := w.c) (m := w.m) ok ci.s.s.s.s hs
 simp only [put_succ, ci.put_self] at hC
 exact hC.sub (by (repeat (first | exact List.Sublist.refl _ | apply List.Sublist.cons_cons | apply List.Sublist.cons)))
end
end Go.Proofs.YteedolonhdbieaaGreatDoor
end
section
namespace Go.Proofs.YteedolonhdbieaaGreatDoor
open Go Go.Vc Go.ChangeShapes Go.WideShapes Go.ChangeAt Go.RowKit
set_option maxRecDepth 100000
section
variable {D : Type} {enc : TypeId × Value -> D} {W : World}
theorem ok_cfg (c : Cfg) : (DV.agg (c.vals.map .c)).ok := by
 intro y hy; simp only [Cfg.vals, List.map_cons, List.map_nil, List.mem_cons, List.not_mem_nil, or_false] at hy
 rcases hy with rfl | rfl | rfl | rfl | rfl | rfl | rfl <;> rfl
end
end Go.Proofs.YteedolonhdbieaaGreatDoor
end
section
namespace Go.Vc
abbrev b8 (x : Int) : BitVec 8 := BitVec.ofInt 8 x
theorem b8_nat (v : BitVec 8) : b8 (v.toNat : Int) = v := by simp [b8]
theorem w8_nat (v : BitVec 8) : IntKind.u8.wrap (v.toNat : Int) = (v.toNat : Int) := by
 have := v.isLt
 rw [IntKind.wrap_u8]; omega
theorem bits_and8 (x y : Int) : bits .and .u8 x y = ((b8 x &&& b8 y).toNat : Int) := w8_nat (b8 x &&& b8 y)
theorem bits_or8 (x y : Int) : bits .or .u8 x y = ((b8 x ||| b8 y).toNat : Int) := w8_nat (b8 x ||| b8 y)
theorem bits_xor8 (x y : Int) : bits .xor .u8 x y = ((b8 x ^^^ b8 y).toNat : Int) := w8_nat (b8 x ^^^ b8 y)
theorem bits_andNot8 (x y : Int) : bits .andNot .u8 x y = ((b8 x &&& ~~~ b8 y).toNat : Int) := w8_nat (b8 x &&& ~~~ b8 y)
theorem cut_prog (w m x : Int) : bits .or .u8 (bits .andNot .u8 w m) (bits .and .u8 (bits .and .u8 w x) m) = bits .andNot .u8 w (bits .andNot .u8 m x) := by
 simp only [bits_and8, bits_or8, bits_andNot8, b8_nat]
 congr 1; congr 1
 ext i hi
 simp [hi]
 cases (b8 w)[i] <;> cases (b8 m)[i] <;> cases (b8 x)[i] <;> rfl
theorem full_prog (w x : Int) : bits .and .u8 w x = bits .andNot .u8 w (bits .andNot .u8 255 x) := by
 simp only [bits_and8, bits_andNot8, b8_nat]
 congr 1; congr 1
 have : b8 255 = BitVec.allOnes 8 := by decide
 rw [this]
 ext i hi
 simp only [BitVec.getElem_and, BitVec.getElem_not, BitVec.getElem_allOnes, Bool.true_and, Bool.not_not]
theorem full_or (b : Int) : bits .or .u8 b 255 = 255 := by
 rw [bits_or8]
 have : b8 255 = BitVec.allOnes 8 := by decide
 rw [this, BitVec.or_allOnes]
 decide
@[irreducible] def mapP (r : Nat) (es : List (Value × DV)) (h : H) (f : Nat -> Prop) : Prop := hmap h r es /\ ∀ x, f x ↔ x = r
theorem hmap_lt {h : H} {r : Nat} {es : List (Value × DV)} (m : hmap h r es) : r < h.size := by
 obtain ⟨a, cl, e, _⟩ := m
 exact (Array.getElem?_eq_some_iff.1 e).1
def mapE (r : Nat) (es : List (Value × DV)) : Ent where
 tag := .of r
 P := mapP r es
 st := by unfold mapP; rintro h h' f ⟨⟨a, cl, k, ke⟩, e⟩ hs; exact ⟨⟨a, cl, by rw [hs r ((e r).2 rfl)]; exact k, ke⟩, e⟩
 lt := by unfold mapP; rintro h f x ⟨k, e⟩ hx; rw [(e x).1 hx]; exact hmap_lt k
theorem mapE_P {r : Nat} {es : List (Value × DV)} {h : H} {f : Nat -> Prop} : (mapE r es).P h f ↔ hmap h r es /\ ∀ x, f x ↔ x = r := by
 show mapP r es h f ↔ _; unfold mapP; rfl
theorem Sat.mapNew {h0 h h' : H} {A : List Ent} (s : Sat h0 A h) {b : Nat} (n : hmnew h b h') : Sat h0 (mapE b [] :: A) h' := by
 obtain ⟨rfl, rfl⟩ := n
 refine s.add ⟨by simp, fun x hx _ => by rw [Array.getElem?_push, if_neg (by omega)]⟩ (f := fun x => x = h.size) (mapE_P.2 ⟨⟨#[], 0, by simp, rfl, fun e he => by cases he⟩, fun _ => Iff.rfl⟩) fun x hx => by rw [hx]; exact Nat.le_refl _
theorem Sat.mapAt {h0 h : H} {A : List Ent} (s : Sat h0 A h) {i r : Nat} {es : List (Value × DV)} (a : At A i (mapE r es)) : hmap h r es := by
 obtain ⟨f, hp, _⟩ := s.take a
 exact (mapE_P.1 hp).1
theorem Sat.mapSet {h0 h h' : H} {A : List Ent} (s : Sat h0 A h) {i r : Nat} {es es' : List (Value × DV)} (a : At A i (mapE r es)) (e : hmset h r es' h') : Sat h0 (Vc.put A i (mapE r es')) h' := by
 refine s.upd a fun f hp => ?_
 obtain ⟨k, hf⟩ := mapE_P.1 hp
 have hlt := hmap_lt k
 obtain ⟨m, cl, rfl, hent⟩ := e
 refine ⟨f, mapE_P.2 ⟨⟨m, cl, by rw [Array.getElem?_setIfInBounds_self_of_lt hlt], hent⟩, hf⟩, fun _ => Or.inl, ⟨by simp, fun x _ hx => ?_⟩⟩
 rw [Array.getElem?_setIfInBounds_ne]
 intro y; exact hx ((hf x).2 y.symm)
theorem take_snoc (l : List Int) (n : Nat) (h : n < l.length) : l.take n ++ [l.getD n 0] = l.take (n + 1) := by
 rw [List.take_succ]; simp [List.getD, List.getElem?_eq_getElem h]
end Go.Vc
end
section
namespace Go.Proofs.YteedolonhdbieaaGreatDoor
open Go Go.Vc
set_option maxRecDepth 100000
theorem wrapU64 (n : Int) : IntKind.u64.wrap n = n % 18446744073709551616 := by simp [IntKind.wrap, IntKind.signed, IntKind.bits]
theorem hsvI {h : H} {p : Option Addr} {l : Nat} {k : IntKind} {ns : List Int} {x : Nat} (rd : hsv h p 1 l (ints k ns)) (hx : x < l) : ∃ q, p = some q /\ hc h (q.add x) = some (.int k (ns.getD x 0)) := by
 have hl : ns.length = l := by have := rd.1; simpa using this
 obtain ⟨q, hq, g⟩ := hsv_get rd (i := x) (v := .int k (ns.getD x 0)) (by rw [ints_get, List.getElem?_eq_getElem (by omega)]; simp [List.getD, List.getElem?_eq_getElem (show x < ns.length by omega)])
 exact ⟨q, hq, g⟩
/-! ### The model -/
def kM : List Int := [1116352408, 1899447441, 3049323471, 3921009573, 961987163, 1508970993, 2453635748, 2870763221, 3624381080, 310598401, 607225278, 1426881987, 1925078388, 2162078206, 2614888103, 3248222580, 3835390401, 4022224774, 264347078, 604807628, 770255983, 1249150122, 1555081692, 1996064986, 2554220882, 2821834349, 2952996808, 3210313671, 3336571891, 3584528711, 113926993, 338241895, 666307205, 773529912, 1294757372, 1396182291, 1695183700, 1986661051, 2177026350, 2456956037, 2730485921, 2820302411, 3259730800, 3345764771, 3516065817, 3600352804, 4094571909, 275423344, 430227734, 506948616, 659060556, 883997877, 958139571, 1322822218, 1537002063, 1747873779, 1955562222, 2024104815, 2227730452, 2361852424, 2428436474, 2756734187, 3204031479, 3329325298]
def sM : List Int := [1779033703, 3144134277, 1013904242, 2773480762, 1359893119, 2600822924, 528734635, 1541459225]
def rotM (x : Int) (n : Nat) : Int := bits .or .u32 (IntKind.u32.wrap (x * 2 ^ (32 - n))) (x.fdiv (2 ^ n))
def x3 (a b c : Int) : Int := bits .xor .u32 (bits .xor .u32 a b) c
def sig0 (x : Int) : Int := x3 (rotM x 7) (rotM x 18) (x.fdiv (2 ^ 3))
def sig1 (x : Int) : Int := x3 (rotM x 17) (rotM x 19) (x.fdiv (2 ^ 10))
def accM (bs : List Int) : Nat -> Int
 | 0 => 0
 | j + 1 => bits .or .u32 (IntKind.u32.wrap (accM bs j * 2 ^ 8)) (IntKind.u32.wrap (bs.getD j 0))
def nxtM (w : List Int) (t : Nat) : Int :=
 IntKind.u32.wrap (IntKind.u32.wrap (IntKind.u32.wrap (w.getD (t - 16) 0 + sig0 (w.getD (t - 15) 0)) + w.getD (t - 7) 0) + sig1 (w.getD (t - 2) 0))
def wM (bs : List Int) : Nat -> List Int
 | 0 => zeros 64
 | t + 1 => (wM bs t).set t (if t < 16 then accM ((bs.drop (4 * t)).take 4) 4 else nxtM (wM bs t) t)
def nots (x : Int) : Int := bits .xor .u32 (if IntKind.u32.signed = true then -1 else IntKind.u32.max) x
def uM (a b c d e f g h k w : Int) : Int :=
 IntKind.u32.wrap (IntKind.u32.wrap (IntKind.u32.wrap (IntKind.u32.wrap (h + x3 (rotM e 6) (rotM e 11) (rotM e 25)) + bits .xor .u32 (bits .and .u32 e f) (bits .and .u32 (nots e) g)) + k) + w)
def vM (a b c : Int) : Int := IntKind.u32.wrap (x3 (rotM a 2) (rotM a 13) (rotM a 22) + x3 (bits .and .u32 a b) (bits .and .u32 a c) (bits .and .u32 b c))
def shStepM (s : List Int) (k w : Int) : List Int :=
 match s with
 | [a, b, c, d, e, f, g, h] => [IntKind.u32.wrap (uM a b c d e f g h k w + vM a b c), a, b, c, IntKind.u32.wrap (d + uM a b c d e f g h k w), e, f, g]
 | s => s
def rM (w s : List Int) : Nat -> List Int
 | 0 => s
 | t + 1 => shStepM (rM w s t) (kM.getD t 0) (w.getD t 0)
def aM (s r : List Int) : Nat -> List Int
 | 0 => s
 | i + 1 => (aM s r i).set i (IntKind.u32.wrap ((aM s r i).getD i 0 + r.getD i 0))
def pieceM (s bs : List Int) : List Int := aM s (rM (wM bs 64) s 64) 8
theorem wM_len (bs : List Int) (t : Nat) : (wM bs t).length = 64 := by
 induction t with
 | zero => simp [wM, zeros]
 | succ t ih => simp [wM, ih]
theorem len8 {s : List Int} (h : s.length = 8) : ∃ a b c d e f g i, s = [a, b, c, d, e, f, g, i] := by
 match s, h with
 | [a, b, c, d, e, f, g, i], _ => exact ⟨a, b, c, d, e, f, g, i, rfl⟩
theorem rM_len (w s : List Int) (h : s.length = 8) (t : Nat) : (rM w s t).length = 8 := by
 induction t with
 | zero => exact h
 | succ t ih =>
  obtain ⟨a, b, c, d, e, f, g, i, hx⟩ := len8 ih
  show (shStepM (rM w s t) _ _).length = 8
  rw [hx]; rfl
theorem aM_len (s r : List Int) (h : s.length = 8) (i : Nat) : (aM s r i).length = 8 := by
 induction i with
 | zero => exact h
 | succ i ih => simp [aM, ih]
theorem pieceM_len {s bs : List Int} (h : s.length = 8) : (pieceM s bs).length = 8 := aM_len _ _ h _
theorem kM_len : kM.length = 64 := by decide
theorem intsG {k : IntKind} {l : List Int} {i : Nat} (h : i < l.length) : (ints k l)[i]? = some (.int k (l.getD i 0)) := by
 rw [ints_get, List.getElem?_eq_getElem h]; simp [List.getD, List.getElem?_eq_getElem h]
theorem intsP (k : IntKind) (l : List Int) (i : Nat) (v : Int) : splice (ints k l) i [.int k v] = ints k (l.set i v) := by
 show (ints k l).set i (.int k v) = _
 rw [ints_set]
/-! ### The digest in memory -/
abbrev dgL (s sm : List Int) (n : Int) : List Value := ints .u32 s ++ (ints .u8 sm ++ .int .u64 n :: (ints .u32 kM ++ []))
section
variable {s sm : List Int} {n : Int}
theorem dg_len (h1 : s.length = 8) (h2 : sm.length = 64) : (dgL s sm n).length = 137 := by simp [h1, h2, kM_len]
theorem dg_s (h1 : s.length = 8) {i : Nat} (hi : i < 8) : (dgL s sm n)[i]? = some (.int .u32 (s.getD i 0)) := by
 rw [List.getElem?_append_left (by simp [h1, hi]), intsG (by omega)]
theorem dg_m (h1 : s.length = 8) (h2 : sm.length = 64) {i : Nat} (hi : i < 64) : (dgL s sm n)[8 + i]? = some (.int .u8 (sm.getD i 0)) := by
 rw [List.getElem?_append_right (by simp [h1]), List.getElem?_append_left (by simp [h1, h2, hi])]
 rw [show 8 + i - (ints .u32 s).length = i by simp [h1], intsG (by omega)]
theorem dg_n (h1 : s.length = 8) (h2 : sm.length = 64) : (dgL s sm n)[72]? = some (.int .u64 n) := by
 rw [List.getElem?_append_right (by simp [h1]), List.getElem?_append_right (by simp [h1, h2])]
 simp [h1, h2]
theorem dg_k (h1 : s.length = 8) (h2 : sm.length = 64) {i : Nat} (hi : i < 64) : (dgL s sm n)[73 + i]? = some (.int .u32 (kM.getD i 0)) := by
 rw [List.getElem?_append_right (by simp [h1]; omega), List.getElem?_append_right (by simp [h1, h2]; omega)]
 rw [show 73 + i - (ints .u32 s).length - (ints .u8 sm).length = i + 1 by simp [h1, h2]; omega, List.getElem?_cons_succ, List.append_nil, intsG (by rw [kM_len]; omega)]
theorem dg_ps (h1 : s.length = 8) {i : Nat} (hi : i < 8) (v : Int) : splice (dgL s sm n) i [.int .u32 v] = dgL (s.set i v) sm n := by
 show (dgL s sm n).set i _ = _
 rw [List.set_append_left _ _ (by simp [h1, hi]), ints_set]
theorem dg_pn (h1 : s.length = 8) (h2 : sm.length = 64) (v : Int) : splice (dgL s sm n) 72 [.int .u64 v] = dgL s sm v := by
 show (dgL s sm n).set 72 _ = _
 rw [List.set_append_right _ _ (by simp [h1]), List.set_append_right _ _ (by simp [h1, h2])]
 simp [h1, h2]
end
section
variable {h0 h : H} {A : List Ent} {i d : Nat}
theorem rot_sp {Q : Int -> H -> Prop} (x : Int) (k : Int) (m : Nat) (hm : bits .and .u64 (IntKind.u64.wrap k) 31 = ((32 - m : Nat) : Int)) (h1 : 1 ≤ m) (h2 : m < 32) (q : Q (rotM x m) h) : F_math_bits_RotateLeft32 x k Q h := by
 unfold F_math_bits_RotateLeft32 G_math_bits_RotateLeft32
 rw [hm]
 have e : IntKind.u64.wrap (32 - ((32 - m : Nat) : Int)) = (m : Int) := by rw [wrapU64]; omega
 rw [e]
 refine ⟨by omega, by omega, ?_⟩
 rw [Int.toNat_natCast, Int.toNat_natCast, Nat.min_eq_left (by omega), Nat.min_eq_left (by omega)]
 exact q
theorem shTurn_sp {Q : Int -> H -> Prop} (x : Int) (m : Nat) (hm : bits .and .u64 (IntKind.u64.wrap (IntKind.i64.wrap (0 - (m : Int)))) 31 = ((32 - m : Nat) : Int)) (h1 : 1 ≤ m) (h2 : m < 32) (q : Q (rotM x m) h) : F_sha_turn x (m : Int) Q h := by
 unfold F_sha_turn G_sha_turn
 exact rot_sp x _ m hm h1 h2 q
end
theorem addAdd (a : Addr) (i j : Nat) : (a.add i).add j = a.add (i + j) := by
 unfold Addr.add
 by_cases h : i = 0
 ·subst h; simp
 ·by_cases h2 : j = 0
  ·subst h2; simp
  ·have : ¬ i + j = 0 := by omega
   simp [h, h2]; omega
theorem subRd {h : H} {q : Option Addr} {l o n m : Nat} {k : IntKind} {bs : List Int} (rd : hsv h q 1 l (ints k bs)) (ho : o + n ≤ l) (hm : m = o -> n = 0) : hsv h (subAddr q o m 1) 1 n (ints k ((bs.drop o).take n)) := by
 have hl : bs.length = l := by have := rd.1; simpa using this
 refine ⟨by rw [ints_length, List.length_take, List.length_drop]; omega, ints_one _ _, ?_⟩
 by_cases c : n = 0
 ·subst c; exact Or.inl rfl
 unfold subAddr
 rw [if_neg (fun y => c (hm y))]
 obtain ⟨_, _, rd⟩ := rd
 rcases rd with rd | ⟨q', rfl, g⟩
 ·have := congrArg List.length rd
  rw [ints_length, List.length_nil] at this; omega
 ·refine Or.inr ⟨_, rfl, ?_⟩
  intro i v hv
  have hi : i < n := by
   have h1 : i < (ints k ((bs.drop o).take n)).length := (List.getElem?_eq_some_iff.1 hv).1
   rw [ints_length, List.length_take] at h1
   exact Nat.lt_of_lt_of_le h1 (Nat.min_le_left _ _)
  have e := g (o + i) v (by
   rw [ints_get] at hv ⊢
   rw [List.getElem?_take_of_lt hi, List.getElem?_drop] at hv
   exact hv)
  rw [Nat.mul_one, addAdd]
  exact e
theorem setD (l : List Int) (j k : Nat) (v : Int) : (l.set j v).getD k 0 = if j = k /\ k < l.length then v else l.getD k 0 := by
 rw [List.getD_eq_getElem?_getD, List.getElem?_set]
 by_cases c : j = k
 ·subst c
  by_cases d : j < l.length
  ·simp [d]
  ·simp [d]
 ·simp [c]
theorem setSame (l : List Int) (k : Nat) : l.set k (l.getD k 0) = l := by
 apply List.ext_getElem?
 intro j
 rw [List.getElem?_set]
 by_cases c : k = j
 ·subst c
  by_cases d : k < l.length
  ·simp [d, List.getD, List.getElem?_eq_getElem d]
  ·simp [d]
 ·simp [c]
theorem wM_hi (bs : List Int) : ∀ t k, t ≤ k -> (wM bs t).getD k 0 = 0
 | 0, k, _ => by
  show (zeros 64).getD k 0 = 0
  rw [List.getD_eq_getElem?_getD]
  unfold zeros
  rw [List.getElem?_replicate]; split <;> rfl
 | t + 1, k, h => by
  show ((wM bs t).set t _).getD k 0 = 0
  rw [setD, if_neg (by omega)]
  exact wM_hi bs t k (by omega)
theorem turn2_sp {h : H} {Q : Int -> H -> Prop} (x : Int) (m : Nat) {mi : Int} (e : mi = (m : Int)) (hm : bits .and .u64 (IntKind.u64.wrap (IntKind.i64.wrap (0 - (m : Int)))) 31 = ((32 - m : Nat) : Int)) (h1 : 1 ≤ m) (h2 : m < 32) (q : Q (rotM x m) h) : F_sha_turn x mi Q h := by
 subst e
 exact shTurn_sp x m hm h1 h2 q
section
variable {h0 h : H} {A : List Ent} {i d : Nat}
theorem take_sp {Q : H -> Prop} {s sm bs : List Int} {n : Int} {bp : Option Addr} {bc : Nat} (hs : Sat h0 A h) (cd : At A i (blk d (dgL s sm n))) (l1 : s.length = 8) (l2 : sm.length = 64) (hbc : 64 ≤ bc) (rd : ∀ h', Sat h0 A h' -> hsv h' bp 1 64 (ints .u8 bs))
  (k : ∀ h', Sat h0 (put A i (blk d (dgL (pieceM s bs) sm n))) h' -> Q h') : F_sha_Digest_take ⟨d, 0, none⟩ bp 64 bc Q h := by
 unfold F_sha_Digest_take G_sha_Digest_take
 try simp only [add_mk, Nat.zero_add, List.append_nil]
 intro wn _ hn; replace hs := Sat.new hs hn
 intro J10 hJ10
 refine loop_up 16 (fun t h => Sat h0 (blk wn (ints .u32 (wM bs t)) :: A) h) ?_ ?_ 0 _ (by omega) hs
 ·intro t h1 ht hs hk
  apply hJ10
  rw [ltI_eq, if_pos (by simp; omega)]
  have e4 : IntKind.i64.wrap (4 * (t : Int)) = ((4 * t : Nat) : Int) := by rw [wrap_id (by omega)]; push_cast; rfl
  have e8 : IntKind.i64.wrap (((4 * t : Nat) : Int) + 4) = ((4 * t + 4 : Nat) : Int) := by rw [wrap_id (by omega)]; push_cast; rfl
  rw [e4, e8]
  simp only [Int.toNat_natCast, Nat.mul_one]
  refine ⟨by omega, by omega, by omega, ?_⟩
  rw [show 4 * t + 4 - 4 * t = 4 by omega]
  obtain ⟨pc, hpc⟩ : ∃ pc, pc = (bs.drop (4 * t)).take 4 := ⟨_, rfl⟩
  have hlen := wM_len bs t
  intro J13 hJ13
  refine loop_up 4 (fun j h => Sat h0 (blk wn (ints .u32 ((wM bs t).set t (accM pc j))) :: A) h) ?_ ?_ 0 _ (by omega) (by
   have : (wM bs t).set t (accM pc 0) = wM bs t := by
    have := setSame (wM bs t) t
    rw [wM_hi bs t t (Nat.le_refl _)] at this
    exact this
   rw [this]; exact hs)
  ·intro j h2 hj hs hk2
   apply hJ13
   rw [ltI_eq, if_pos (by simp; omega)]
   obtain ⟨q, hq, g⟩ := hsvI (subRd (o := 4 * t) (n := 4) (m := bc) (rd _ hs.drop) (by omega) (by omega)) (x := j) (by omega)
   rw [← hpc] at g
   refine ⟨q, hq, by omega, by omega, _, g, by omega, by omega, ?_⟩
   have gw := hs.ld (i := 0) (b := wn) .z (intsG (k := .u32) (l := (wM bs t).set t (accM pc j)) (i := t) (by simp [hlen]; omega))
   rw [setD, if_pos ⟨rfl, by omega⟩] at gw
   refine ⟨_, gw, by decide, by omega, by omega, ?_⟩
   refine ⟨Sat.can hs .z (by simp [hlen]; omega), ?_⟩
   intro h3 e
   replace hs := Sat.wr hs .z e
   clear e
   rw [intsP, List.set_set] at hs
   rw [wrap_succ (by omega)]
   exact hk2 _ hs
  ·intro h2 hs
   apply hJ13
   rw [ltI_eq, if_neg (by decide), wrap_succ (by omega)]
   refine hk _ ?_
   show Sat h0 (blk wn (ints .u32 ((wM bs t).set t _)) :: A) h2
   rw [if_pos ht, ← hpc]
   exact hs
 ·intro h1 hs
  apply hJ10
  rw [ltI_eq, if_neg (by decide)]
  clear hJ10 J10
  intro J23 hJ23
  refine loop_up 64 (fun t h => 16 ≤ t /\ Sat h0 (blk wn (ints .u32 (wM bs t)) :: A) h) ?_ ?_ 16 _ (by omega) ⟨by omega, hs⟩
  ·rintro t h2 ht ⟨ht2, hs⟩ hk
   apply hJ23
   rw [ltI_eq, if_pos (by simp; omega)]
   have hlen := wM_len bs t
   have e15 : IntKind.i64.wrap ((t : Int) - 15) = ((t - 15 : Nat) : Int) := by rw [wrap_id (by omega)]; omega
   have e2 : IntKind.i64.wrap ((t : Int) - 2) = ((t - 2 : Nat) : Int) := by rw [wrap_id (by omega)]; omega
   have e16 : IntKind.i64.wrap ((t : Int) - 16) = ((t - 16 : Nat) : Int) := by rw [wrap_id (by omega)]; omega
   have e7 : IntKind.i64.wrap ((t : Int) - 7) = ((t - 7 : Nat) : Int) := by rw [wrap_id (by omega)]; omega
   rw [e15, e2, e16, e7]
   simp only [Int.toNat_natCast, Nat.mul_one]
   have g := fun (x : Nat) (hx : x < 64) => hs.ld (i := 0) (b := wn) .z (intsG (k := .u32) (l := wM bs t) (i := x) (by omega))
   refine ⟨by omega, by omega, _, g _ (by omega), by omega, by omega, _, g _ (by omega), by omega, by omega, _, g _ (by omega), by decide, by omega, by omega, _, g _ (by omega), by decide, ?_⟩
   refine turn2_sp _ 7 rfl (by decide +kernel) (by decide) (by decide) ?_
   refine ⟨hcs_one (g _ (by omega)), hcs_one (g _ (by omega)), ?_⟩
   refine turn2_sp _ 18 rfl (by decide +kernel) (by decide) (by decide) ?_
   refine ⟨hcs_one (g _ (by omega)), hcs_one (g _ (by omega)), ?_⟩
   refine turn2_sp _ 17 rfl (by decide +kernel) (by decide) (by decide) ?_
   refine ⟨hcs_one (g _ (by omega)), hcs_one (g _ (by omega)), ?_⟩
   refine turn2_sp _ 19 rfl (by decide +kernel) (by decide) (by decide) ?_
   refine ⟨hcs_one (g _ (by omega)), hcs_one (g _ (by omega)), by omega, by omega, ?_⟩
   refine ⟨Sat.can hs .z (by simp [hlen]; omega), ?_⟩
   intro h3 e
   replace hs := Sat.wr hs .z e
   clear e
   rw [intsP] at hs
   rw [wrap_succ (by omega)]
   refine hk _ ⟨by omega, ?_⟩
   show Sat h0 (blk wn (ints .u32 ((wM bs t).set t _)) :: A) h3
   rw [if_neg (by omega)]
   exact hs
  ·rintro h2 ⟨_, hs⟩
   apply hJ23
   rw [ltI_eq, if_neg (by decide)]
   clear hJ23 J23
   refine ⟨s, l1, hs.row (i := i + 1) (.s cd) (fun x hx => by rw [Nat.zero_add, dg_s l1 (by omega), List.getElem?_eq_getElem hx]; simp [List.getD, List.getElem?_eq_getElem hx]), ?_⟩
   intro sn _ hn; replace hs := Sat.new hs hn
   refine ⟨Sat.can hs .z (by simp [l1, zeros]), ?_⟩
   intro h3 e
   replace hs := Sat.wra hs .z e (by simp [l1, zeros])
   clear e
   simp only [put_zero] at hs
   obtain ⟨w, hw⟩ : ∃ w, w = wM bs 64 := ⟨_, rfl⟩
   have hwl : w.length = 64 := by rw [hw]; exact wM_len _ _
   rw [← hw] at hs
   intro J46 hJ46
   refine loop_up 64 (fun t h => Sat h0 (blk sn (ints .u32 (rM w s t)) :: blk wn (ints .u32 w) :: A) h) ?_ ?_ 0 _ (by omega) hs
   ·intro t h4 ht hs hk
    apply hJ46
    rw [ltI_eq, if_pos (by simp; omega)]
    obtain ⟨a, b, c, dd, e, f, g, hh, hr⟩ := len8 (rM_len w s l1 t)
    rw [hr] at hs
    simp only [Int.toNat_natCast, Nat.mul_one]
    have gk : hc h4 ⟨d, 73 + t, none⟩ = some (.int .u32 (kM.getD t 0)) := hs.ld (i := i + 2) (.s (.s cd)) (dg_k l1 l2 ht)
    have gw : hc h4 ⟨wn, t, none⟩ = some (.int .u32 (w.getD t 0)) := hs.ld zs1 (intsG (by omega))
    have g0 : hc h4 ⟨sn, 0, none⟩ = some (.int .u32 a) := hs.ld .z rfl
    have g1 : hc h4 ⟨sn, 1, none⟩ = some (.int .u32 b) := hs.ld .z rfl
    have g2 : hc h4 ⟨sn, 2, none⟩ = some (.int .u32 c) := hs.ld .z rfl
    have g3 : hc h4 ⟨sn, 3, none⟩ = some (.int .u32 dd) := hs.ld .z rfl
    have g4 : hc h4 ⟨sn, 4, none⟩ = some (.int .u32 e) := hs.ld .z rfl
    have g5 : hc h4 ⟨sn, 5, none⟩ = some (.int .u32 f) := hs.ld .z rfl
    have g6 : hc h4 ⟨sn, 6, none⟩ = some (.int .u32 g) := hs.ld .z rfl
    have g7 : hc h4 ⟨sn, 7, none⟩ = some (.int .u32 hh) := hs.ld .z rfl
    refine ⟨by decide, by decide, _, g7, by decide, by decide, _, g4, by decide, by decide, _, g4, by decide, by decide, _, g4, by decide, by decide, _, g4, by decide, by decide, _, g5, by decide, by decide, _, g4, by decide, by decide, _, g6, by omega, by omega, _, gk, by omega, by omega, _, gw, ?_⟩
    refine turn2_sp _ 6 rfl (by decide +kernel) (by decide) (by decide) ?_
    refine ⟨hcs_one gw, hcs_one gk, hcs_one g6, hcs_one g4, hcs_one g5, hcs_one g4, hcs_one g4, hcs_one g4, hcs_one g7, ?_⟩
    refine turn2_sp _ 11 rfl (by decide +kernel) (by decide) (by decide) ?_
    refine ⟨hcs_one gw, hcs_one gk, hcs_one g6, hcs_one g4, hcs_one g5, hcs_one g4, hcs_one g4, hcs_one g7, ?_⟩
    refine turn2_sp _ 25 rfl (by decide +kernel) (by decide) (by decide) ?_
    refine ⟨hcs_one gw, hcs_one gk, hcs_one g6, hcs_one g4, hcs_one g5, hcs_one g4, hcs_one g7, ?_⟩
    refine ⟨by decide, by decide, _, g0, by decide, by decide, _, g0, by decide, by decide, _, g0, by decide, by decide, _, g0, by decide, by decide, _, g1, by decide, by decide, _, g0, by decide, by decide, _, g2, by decide, by decide, _, g1, by decide, by decide, _, g2, ?_⟩
    refine turn2_sp _ 2 rfl (by decide +kernel) (by decide) (by decide) ?_
    refine ⟨hcs_one g2, hcs_one g1, hcs_one g2, hcs_one g0, hcs_one g1, hcs_one g0, hcs_one g0, hcs_one g0, ?_⟩
    refine turn2_sp _ 13 rfl (by decide +kernel) (by decide) (by decide) ?_
    refine ⟨hcs_one g2, hcs_one g1, hcs_one g2, hcs_one g0, hcs_one g1, hcs_one g0, hcs_one g0, ?_⟩
    refine turn2_sp _ 22 rfl (by decide +kernel) (by decide) (by decide) ?_
    refine ⟨hcs_one g2, hcs_one g1, hcs_one g2, hcs_one g0, hcs_one g1, hcs_one g0, ?_⟩
    refine ⟨by decide, by decide, _, g0, by decide, by decide, _, g1, by decide, by decide, _, g2, by decide, by decide, _, g3, by decide, by decide, _, g4, by decide, by decide, _, g5, by decide, by decide, _, g6, ?_⟩
    refine ⟨Sat.can hs .z (by simp), ?_⟩
    intro h5 e5
    replace hs := Sat.wra hs .z e5 rfl
    clear e5
    simp only [put_zero] at hs
    rw [wrap_succ (by omega)]
    refine hk _ ?_
    show Sat h0 (blk sn (ints .u32 (shStepM (rM w s t) _ _)) :: blk wn (ints .u32 w) :: A) h5
    rw [hr]
    exact hs
   ·intro h4 hs
    apply hJ46
    rw [ltI_eq, if_neg (by decide)]
    clear hJ46 J46
    obtain ⟨r, hr⟩ : ∃ r, r = rM w s 64 := ⟨_, rfl⟩
    have hrl : r.length = 8 := by rw [hr]; exact rM_len _ _ l1 _
    rw [← hr] at hs
    intro J89 hJ89
    refine loop_up 8 (fun x h => Sat h0 (blk sn (ints .u32 r) :: blk wn (ints .u32 w) :: put A i (blk d (dgL (aM s r x) sm n))) h) ?_ ?_ 0 _ (by omega) (by
     have : put A i (blk d (dgL (aM s r 0) sm n)) = A := cd.put_self
     rw [this]; exact hs)
    ·intro x h5 hx hs hk
     apply hJ89
     rw [ltI_eq, if_pos (by simp; omega)]
     have cd2 := cd.put (blk d (dgL (aM s r x) sm n))
     have hal := aM_len s r l1 x
     simp only [Int.toNat_natCast, Nat.mul_one]
     refine ⟨by omega, by omega, _, hs.ld (i := i + 2) (.s (.s cd2)) (dg_s hal hx), by omega, by omega, _, hs.ld .z (intsG (by omega)), by omega, by omega, ?_⟩
     refine ⟨Sat.can hs (i := i + 2) (.s (.s cd2)) (by rw [dg_len hal l2]; omega), ?_⟩
     intro h6 e
     replace hs := Sat.wr hs (i := i + 2) (.s (.s cd2)) e
     clear e
     rw [dg_ps hal hx] at hs
     simp only [put_succ, put_put] at hs
     rw [wrap_succ (by omega)]
     exact hk _ hs
    ·intro h5 hs
     apply hJ89
     rw [ltI_eq, if_neg (by decide)]
     refine k _ ?_
     unfold pieceM
     rw [← hw, ← hr]
     exact hs.drop.drop
end
def blkM (ms : List Int) (i : Nat) : List Int := (ms.drop (64 * i)).take 64
def stM (ms : List Int) : Nat -> List Int
 | 0 => sM
 | k + 1 => pieceM (stM ms k) (blkM ms k)
theorem stM_len (ms : List Int) (k : Nat) : (stM ms k).length = 8 := by
 induction k with
 | zero => rfl
 | succ k ih => exact pieceM_len ih
theorem blkM_app {ms xs : List Int} {i : Nat} (h : 64 * (i + 1) ≤ ms.length) : blkM (ms ++ xs) i = blkM ms i := by
 unfold blkM
 rw [List.drop_append_of_le_length (by omega), List.take_append_of_le_length (by rw [List.length_drop]; omega)]
theorem stM_app {ms xs : List Int} : ∀ {k : Nat}, 64 * k ≤ ms.length -> stM (ms ++ xs) k = stM ms k
 | 0, _ => rfl
 | k + 1, h => by
  show pieceM (stM (ms ++ xs) k) (blkM (ms ++ xs) k) = pieceM (stM ms k) (blkM ms k)
  rw [stM_app (k := k) (by omega), blkM_app h]
structure DgOk (ms s sm : List Int) (n : Int) : Prop where
 s : s = stM ms (ms.length / 64)
 n : n = (ms.length : Int)
 l : sm.length = 64
 m : sm.take (ms.length % 64) = ms.drop (64 * (ms.length / 64))
theorem DgOk.sl {ms s sm : List Int} {n : Int} (D : DgOk ms s sm n) : s.length = 8 := by rw [D.s]; exact stM_len _ _
section
variable {s sm : List Int} {n : Int}
theorem dg_pm (h1 : s.length = 8) (h2 : sm.length = 64) {o : Nat} {xs : List Int} (hx : o + xs.length ≤ 64) : splice (dgL s sm n) (8 + o) (ints .u8 xs) = dgL s (sm.take o ++ xs ++ sm.drop (o + xs.length)) n := by
 have hl2 : (sm.take o ++ xs ++ sm.drop (o + xs.length)).length = 64 := by simp [h2]; omega
 apply List.ext_getElem?
 intro j
 rw [splice_get, ints_length, dg_len h1 h2]
 by_cases c1 : j < 8
 ·rw [if_neg (by omega), dg_s h1 c1, dg_s h1 c1]
 by_cases c2 : j < 72
 ·obtain ⟨y, rfl⟩ : ∃ y, j = 8 + y := ⟨j - 8, by omega⟩
  rw [dg_m h1 h2 (by omega), dg_m h1 hl2 (by omega)]
  by_cases c3 : o ≤ y /\ y < o + xs.length
  ·rw [if_pos (by omega), show 8 + y - (8 + o) = y - o by omega, intsG (by omega)]
   congr 2
   rw [List.getD_eq_getElem?_getD, List.getD_eq_getElem?_getD, List.getElem?_append_left (by simp [h2]; omega), List.getElem?_append_right (by simp [h2]; omega)]
   congr 2
   simp [h2]; omega
  ·rw [if_neg (by omega)]
   congr 2
   rw [List.getD_eq_getElem?_getD, List.getD_eq_getElem?_getD]
   by_cases c4 : y < o
   ·rw [List.append_assoc, List.getElem?_append_left (by simp [h2]; omega), List.getElem?_take_of_lt c4]
   ·rw [List.getElem?_append_right (by simp [h2]; omega), List.getElem?_drop]
    congr 2
    simp [h2]; omega
 by_cases c3 : j = 72
 ·subst c3
  rw [if_neg (by omega), dg_n h1 h2, dg_n h1 hl2]
 by_cases c4 : j < 137
 ·obtain ⟨y, rfl⟩ : ∃ y, j = 73 + y := ⟨j - 73, by omega⟩
  rw [if_neg (by omega), dg_k h1 h2 (by omega), dg_k h1 hl2 (by omega)]
 ·rw [if_neg (by omega), List.getElem?_eq_none (by rw [dg_len h1 h2]; omega), List.getElem?_eq_none (by rw [dg_len h1 hl2]; omega)]
end
section
variable {h0 h : H} {A : List Ent} {i d : Nat}
theorem dg_sv {s sm : List Int} {n : Int} (hs : Sat h0 A h) (cd : At A i (blk d (dgL s sm n))) (h1 : s.length = 8) (h2 : sm.length = 64) : hsv h (some ⟨d, 8, none⟩) 1 64 (ints .u8 sm) := by
 refine ⟨by simp [h2], ints_one _ _, Or.inr ⟨_, rfl, ?_⟩⟩
 refine hs.cs1 cd ?_
 intro x hx
 rw [ints_length, h2] at hx
 rw [dg_m h1 h2 hx, intsG (by omega)]
theorem wloop_sp {Q : H -> Prop} {T sm : List Int} {N : Int} {j : Nat} {o : Option Addr} {l c : Nat} (hs : Sat h0 (put A i (blk d (dgL (stM T j) sm N))) h) (cd0 : ∃ e, At A i e) (hN : N = (T.length : Int)) (hl : 64 * j + l = T.length) (hc : l ≤ c) (h2 : sm.length = 64)
  (rd : ∀ s' sm' h', Sat h0 (put A i (blk d (dgL s' sm' N))) h' -> hsv h' o 1 l (ints .u8 (T.drop (64 * j))))
  (k : ∀ s' sm' h', DgOk T s' sm' N -> Sat h0 (put A i (blk d (dgL s' sm' N))) h' -> Q h') :
  ∀ (J16 : List SV -> H -> Prop), (∀ (o17 : Option Addr) (n18 n19 : Nat) (h20 : H), (if leI 64 (n18 : Int) = true then (0 : Int) ≤ 64 /\ 64 ≤ (n19 : Int) /\ F_sha_Digest_take ⟨d, 0, none⟩ (subAddr o17 0 n19 1) 64 (n19 - 0)
   (fun h21 => (0 : Int) ≤ 64 /\ 64 ≤ (n18 : Int) /\ J16 [.dv (.one (.slice (subAddr o17 64 n19 1) (n18 - 64) (n19 - 64)))] h21) h20
   else ∃ l22 : List Value, hsv h20 o17 1 (n18.min 64) l22 /\ (l22 = [] ∨ ∃ p23 : Addr, subAddr (some ⟨d, 8, none⟩) 0 64 1 = some p23 /\ hcan h20 p23 (n18.min 64 * 1)) /\ ∀ h24 : H, h24 = hwrO h20 (subAddr (some ⟨d, 8, none⟩) 0 64 1) l22 -> Q h24) -> J16 [.dv (.one (.slice o17 n18 n19))] h20) -> J16 [.dv (.one (.slice o l c))] h := by
 intro J hJ
 obtain ⟨e0, cd0⟩ := cd0
 induction hn : l / 64 generalizing j o l c h sm with
 | zero =>
  apply hJ
  have hl64 : l < 64 := by omega
  rw [leI_eq, if_neg (by rw [decide_eq_true_iff]; omega)]
  have cd := cd0.put (blk d (dgL (stM T j) sm N))
  have hsl := stM_len T j
  have R := rd _ _ _ hs
  have hmin : l.min 64 = l := Nat.min_eq_left (by omega)
  rw [hmin]
  have sub0 : subAddr (some ⟨d, 8, none⟩) 0 64 1 = some ⟨d, 8, none⟩ := by unfold subAddr; simp
  rw [sub0]
  have hxl : (T.drop (64 * j)).length = l := by rw [List.length_drop]; omega
  refine ⟨_, R, Or.inr ⟨_, rfl, Sat.can hs cd (by rw [dg_len hsl h2]; omega)⟩, ?_⟩
  intro h1 e
  replace hs := Sat.wr hs cd e
  clear e
  have sp := dg_pm (n := N) (o := 0) (xs := T.drop (64 * j)) hsl h2 (by omega)
  rw [show 8 + 0 = 8 from rfl] at sp
  rw [sp] at hs
  simp only [put_put, List.take_zero, List.nil_append, Nat.zero_add] at hs
  refine k _ _ _ ⟨?_, hN, by simp [h2]; omega, ?_⟩ hs
  ·rw [show T.length / 64 = j by omega]
  ·rw [show T.length % 64 = l by omega, show T.length / 64 = j by omega, List.take_append_of_le_length (by omega), List.take_of_length_le (by omega)]
 | succ m ih =>
  apply hJ
  rw [leI_eq, if_pos (by rw [decide_eq_true_iff]; omega)]
  refine ⟨by decide, by omega, ?_⟩
  have cd := cd0.put (blk d (dgL (stM T j) sm N))
  have hsl := stM_len T j
  refine take_sp (bs := blkM T j) hs cd hsl h2 (by omega) ?_ ?_
  ·intro h' hs'
   have := subRd (o := 0) (n := 64) (m := c) (rd _ _ _ hs') (by omega) (by omega)
   rw [List.drop_zero] at this
   exact this
  ·intro h1 hs
   rw [put_put] at hs
   refine ⟨by decide, by omega, ?_⟩
   refine ih (j := j + 1) (l := l - 64) hs (by omega) (by omega) h2 ?_ (by omega)
   intro s' sm' h' hs'
   have := subRd (o := 64) (n := l - 64) (m := c) (rd _ _ _ hs') (by omega) (by omega)
   rw [List.drop_drop, List.take_of_length_le (by rw [List.length_drop]; omega), show 64 * j + 64 = 64 * (j + 1) by omega] at this
   exact this
theorem shWrite_sp {Q : H -> Prop} {ms xs s sm : List Int} {n : Int} {bp : Option Addr} {bl bc : Nat} (hs : Sat h0 A h) (cd : At A i (blk d (dgL s sm n))) (D : DgOk ms s sm n) (hml : ms.length + xs.length < 2 ^ 61) (hbc : bl ≤ bc)
  (rd : ∀ s' sm' n' h', Sat h0 (put A i (blk d (dgL s' sm' n'))) h' -> hsv h' bp 1 bl (ints .u8 xs))
  (k : ∀ s' sm' n' h', DgOk (ms ++ xs) s' sm' n' -> Sat h0 (put A i (blk d (dgL s' sm' n'))) h' -> Q h') : F_sha_Digest_Write ⟨d, 0, none⟩ bp bl bc Q h := by
 unfold F_sha_Digest_Write G_sha_Digest_Write
 try simp only [add_mk, Nat.zero_add, List.append_nil]
 have l1 := D.sl
 have l2 := D.l
 have hn := D.n
 have hxl : xs.length = bl := by
  have := (rd s sm n h (by rw [cd.put_self]; exact hs)).1
  simpa using this
 refine ⟨_, hs.ld cd (dg_n l1 l2), by decide, _, hs.ld cd (dg_n l1 l2), ?_⟩
 refine ⟨Sat.can hs cd (by rw [dg_len l1 l2]; omega), ?_⟩
 intro h1 e
 replace hs := Sat.wr hs cd e
 clear e
 rw [dg_pn l1 l2] at hs
 have eN : IntKind.u64.wrap (n + IntKind.u64.wrap (bl : Int)) = ((ms ++ xs).length : Int) := by
  rw [wrapU64, wrapU64, List.length_append, hn]; push_cast; omega
 rw [eN] at hs
 obtain ⟨hv, hhv⟩ : ∃ hv, hv = ms.length % 64 := ⟨_, rfl⟩
 have eH : IntKind.i64.wrap (n.tmod 64) = (hv : Int) := by
  have : n.tmod 64 = (hv : Int) := by
   rw [hn, hhv, Int.tmod_eq_emod_of_nonneg (by omega)]; omega
  rw [this, wrap_id (by omega)]
 rw [eH]
 obtain ⟨T, hT⟩ : ∃ T, T = ms ++ xs := ⟨_, rfl⟩
 have hTl : T.length = ms.length + bl := by rw [hT, List.length_append, hxl]
 rw [← hT] at hs k
 have hmod := Nat.div_add_mod ms.length 64
 have est : s = stM T (ms.length / 64) := by rw [hT, stM_app (by omega)]; exact D.s
 have hdm : ms.drop (64 * (ms.length / 64)) = sm.take hv := by rw [hhv]; exact D.m.symm
 by_cases g : 0 < hv
 ·rw [ltI_eq, if_pos (by simp; exact g)]
  refine ⟨by omega, by omega, ?_⟩
  simp only [Int.toNat_natCast]
  obtain ⟨m, hm⟩ : ∃ m, m = bl.min (64 - hv) := ⟨_, rfl⟩
  have hm1 : m ≤ bl := by rw [hm]; exact Nat.min_le_left _ _
  have hm2 : m ≤ 64 - hv := by rw [hm]; exact Nat.min_le_right _ _
  have hm3 : m = bl ∨ m = 64 - hv := by rw [hm]; rcases Nat.le_total bl (64 - hv) with z | z; exact Or.inl (Nat.min_eq_left z); exact Or.inr (Nat.min_eq_right z)
  rw [← hm]
  have cd1 := cd.put (blk d (dgL s sm (T.length : Int)))
  have sub1 : subAddr (some ⟨d, 8, none⟩) hv 64 1 = some ⟨d, 8 + hv, none⟩ := by
   unfold subAddr
   rw [if_neg (by omega)]; simp
  rw [sub1]
  have R := rd _ _ _ _ hs
  have R2 := subRd (o := 0) (n := m) (m := m + 1) R (by omega) (by omega)
  have sub0 : subAddr bp 0 (m + 1) 1 = bp := by
   unfold subAddr
   rw [if_neg (by omega)]
   cases bp with
   | none => rfl
   | some q => simp [add_zero]
  rw [sub0, List.drop_zero] at R2
  have hxt : (xs.take m).length = m := by rw [List.length_take]; omega
  refine ⟨_, R2, Or.inr ⟨_, rfl, Sat.can hs cd1 (by rw [dg_len l1 l2]; omega)⟩, ?_⟩
  intro h2 e
  replace hs := Sat.wr hs cd1 e
  clear e
  rw [dg_pm l1 l2 (by omega)] at hs
  rw [put_put, hxt] at hs
  refine ⟨by omega, by omega, ?_⟩
  rw [wrap_id (n := (hv : Int) + (m : Int)) (by omega), ltI_eq]
  obtain ⟨sm1, hsm1⟩ : ∃ sm1, sm1 = sm.take hv ++ xs.take m ++ sm.drop (hv + m) := ⟨_, rfl⟩
  rw [← hsm1] at hs
  have hl1 : sm1.length = 64 := by rw [hsm1]; simp [l2]; omega
  have hst : (sm.take hv).length = hv := by rw [List.length_take]; omega
  by_cases gs : hv + m < 64
  ·rw [if_pos (by rw [decide_eq_true_iff]; omega)]
   have hmb : m = bl := by omega
   refine k _ _ _ _ ⟨?_, rfl, hl1, ?_⟩ hs
   ·rw [est, show T.length / 64 = ms.length / 64 by omega]
   ·rw [show T.length % 64 = hv + m by omega, show T.length / 64 = ms.length / 64 by omega, hsm1, List.take_append_of_le_length (by simp [l2]; omega), List.take_of_length_le (by simp [l2]; omega)]
    rw [hT, List.drop_append_of_le_length (by omega), hdm, List.take_of_length_le (l := xs) (i := m) (by omega)]
  ·rw [if_neg (by rw [decide_eq_true_iff]; omega)]
   have hm64 : hv + m = 64 := by omega
   have cd2 := cd.put (blk d (dgL s sm1 (T.length : Int)))
   have sub8 : subAddr (some ⟨d, 8, none⟩) 0 64 1 = some ⟨d, 8, none⟩ := by unfold subAddr; simp
   rw [sub8]
   refine take_sp (bs := sm1) hs cd2 l1 hl1 (by omega) (fun h' hs' => dg_sv hs' cd2 l1 hl1) ?_
   intro h3 hs
   rw [put_put] at hs
   have hb : sm1 = blkM T (ms.length / 64) := by
    unfold blkM
    rw [hT, List.drop_append_of_le_length (by omega), hdm, hsm1, List.drop_of_length_le (by omega), List.append_nil, List.take_append, List.take_of_length_le (l := sm.take hv) (i := 64) (by omega), hst, show 64 - hv = m by omega]
   rw [est, show pieceM (stM T (ms.length / 64)) sm1 = stM T (ms.length / 64 + 1) by rw [hb]; rfl] at hs
   refine wloop_sp (T := T) (j := ms.length / 64 + 1) (l := bl - m) (c := bc - m) hs ⟨_, cd⟩ rfl (by omega) (by omega) hl1 ?_ (fun s' sm' h' D' hs' => k s' sm' _ h' D' hs')
   intro s' sm' h' hs'
   have := subRd (o := m) (n := bl - m) (m := bc) (rd _ _ _ _ hs') (by omega) (by omega)
   rw [List.take_of_length_le (by rw [List.length_drop]; omega)] at this
   have hd : T.drop (64 * (ms.length / 64 + 1)) = xs.drop m := by
    rw [hT, List.drop_append, List.drop_of_length_le (by omega), List.nil_append, show 64 * (ms.length / 64 + 1) - ms.length = m by omega]
   rw [hd]
   exact this
 ·rw [ltI_eq, if_neg (by simp; omega)]
  have hv0 : hv = 0 := by omega
  rw [est] at hs
  refine wloop_sp (T := T) (j := ms.length / 64) (l := bl) (c := bc) hs ⟨_, cd⟩ rfl (by omega) hbc l2 ?_ (fun s' sm' h' D' hs' => k s' sm' _ h' D' hs')
  intro s' sm' h' hs'
  have hd : T.drop (64 * (ms.length / 64)) = xs := by
   rw [hT, List.drop_append, List.drop_of_length_le (by omega), List.nil_append, show 64 * (ms.length / 64) - ms.length = 0 by omega, List.drop_zero]
  rw [hd]
  exact rd _ _ _ _ hs'
end
def zM (n : Nat) : Nat := (119 - n % 64) % 64
def lenB (n i : Nat) : Int := IntKind.u8.wrap ((IntKind.u64.wrap (8 * (n : Int))).fdiv (2 ^ min (56 - 8 * i) 64))
def endM (n : Nat) : Nat -> List Int
 | 0 => (zeros 73).set 0 128
 | i + 1 => (endM n i).set (1 + zM n + i) (lenB n i)
def tailM (n : Nat) : List Int := (endM n 8).take (9 + zM n)
def outB (s : List Int) (t : Nat) : Int := IntKind.u8.wrap ((s.getD (t / 4) 0).fdiv (2 ^ min (24 - 8 * (t % 4)) 32))
def oM (s : List Int) : Nat -> List Int
 | 0 => zeros 32
 | t + 1 => (oM s t).set t (outB s t)
def fullM (ms : List Int) : List Int := ms ++ tailM ms.length
def shaM (ms : List Int) : List Int := oM (stM (fullM ms) ((fullM ms).length / 64)) 32
theorem endM_len (n i : Nat) : (endM n i).length = 73 := by
 induction i with
 | zero => simp [endM, zeros]
 | succ i ih => simp [endM, ih]
theorem oM_len (s : List Int) (t : Nat) : (oM s t).length = 32 := by
 induction t with
 | zero => simp [oM, zeros]
 | succ t ih => simp [oM, ih]
theorem shaM_len (ms : List Int) : (shaM ms).length = 32 := oM_len _ _
theorem zM_lt (n : Nat) : zM n < 64 := Nat.mod_lt _ (by decide)
theorem tailM_len (n : Nat) : (tailM n).length = 9 + zM n := by
 have := zM_lt n
 unfold tailM
 rw [List.length_take, endM_len]; omega
theorem dg_new : DgOk [] sM (zeros 64) 0 := ⟨rfl, rfl, by simp [zeros], rfl⟩
section
variable {h0 h : H} {A : List Ent} {i d : Nat}
theorem blk_sv {b : Nat} {k : IntKind} {ms : List Int} (hs : Sat h0 A h) (m : At A i (blk b (ints k ms))) {n : Nat} (hn : n ≤ ms.length) : hsv h (some ⟨b, 0, none⟩) 1 n (ints k (ms.take n)) := by
 refine ⟨by rw [ints_length, List.length_take]; omega, ints_one _ _, Or.inr ⟨_, rfl, ?_⟩⟩
 refine hs.cs1 m ?_
 intro x hx
 rw [ints_length, List.length_take] at hx
 rw [Nat.zero_add, ints_get, ints_get, List.getElem?_take_of_lt (by omega)]
theorem getM {l : List Int} {k : IntKind} {x : Nat} (hx : x < l.length) : l[x]?.map (Value.int k) = some (.int k (l.getD x 0)) := by
 rw [List.getElem?_eq_getElem hx]; simp [List.getD, List.getElem?_eq_getElem hx]
theorem start_sp {Q : List Int -> H -> Prop} (hs : Sat h0 A h) (k : ∀ h', Sat h0 A h' -> Q sM h') : F_sha_start Q h := by
 unfold F_sha_start G_sha_start
 intro b _ hn; replace hs := Sat.new hs hn
 refine ⟨Sat.can hs .z (by simp [zeros]), ?_⟩
 intro h2 e
 replace hs := Sat.wra hs .z e (by simp [zeros])
 clear e
 simp only [put_zero] at hs
 exact ⟨sM, rfl, hs.row0 .z, k _ hs.drop⟩
theorem rounds_sp {Q : List Int -> H -> Prop} (hs : Sat h0 A h) (k : ∀ h', Sat h0 A h' -> Q kM h') : F_sha_rounds Q h := by
 unfold F_sha_rounds G_sha_rounds
 intro b _ hn; replace hs := Sat.new hs hn
 refine ⟨Sat.can hs .z (by simp [zeros]), ?_⟩
 intro h2 e
 replace hs := Sat.wra hs .z e (by simp [zeros])
 clear e
 simp only [put_zero] at hs
 exact ⟨kM, rfl, hs.row0 .z, k _ hs.drop⟩
theorem NewD_sp {Q : Option Addr -> H -> Prop} (hs : Sat h0 A h) (k : ∀ d h', Sat h0 (blk d (dgL sM (zeros 64) 0) :: A) h' -> Q (some ⟨d, 0, none⟩) h') : F_sha_New Q h := by
 unfold F_sha_New G_sha_New
 refine start_sp hs ?_
 intro h1 hs
 refine rounds_sp hs ?_
 intro h2 hs
 intro d _ hn; replace hs := Sat.new hs hn
 exact k _ _ hs
theorem shCopy_sp {Q : Option Addr -> H -> Prop} {s sm : List Int} {n : Int} (hs : Sat h0 A h) (cd : At A i (blk d (dgL s sm n))) (l1 : s.length = 8) (l2 : sm.length = 64)
  (k : ∀ c h', Sat h0 (blk c (dgL s sm n) :: A) h' -> Q (some ⟨c, 0, none⟩) h') : F_sha_Digest_Copy ⟨d, 0, none⟩ Q h := by
 unfold F_sha_Digest_Copy G_sha_Digest_Copy
 try simp only [add_mk, Nat.zero_add]
 refine ⟨s, l1, hs.row cd (fun x hx => by rw [Nat.zero_add, dg_s l1 (by omega), getM hx]), sm, l2, hs.row cd (fun x hx => by rw [dg_m l1 l2 (by omega), getM hx]), n, hs.ld cd (dg_n l1 l2), kM, kM_len, hs.row cd (fun x hx => by rw [dg_k l1 l2 (by rw [kM_len] at hx; exact hx), getM hx]), ?_⟩
 intro c _ hn; replace hs := Sat.new hs hn
 refine ⟨Sat.can hs .z (by simp [zeros, l1, l2, kM_len]), ?_⟩
 intro h2 e
 replace hs := Sat.wra hs .z e (by simp [zeros, l1, l2, kM_len])
 clear e
 simp only [put_zero] at hs
 exact k _ _ hs
theorem Sum_sp {Q : List Int -> H -> Prop} {ms s sm : List Int} {n : Int} (hs : Sat h0 A h) (cd : At A i (blk d (dgL s sm n))) (D : DgOk ms s sm n) (hml : ms.length < 2 ^ 60) (k : ∀ h', Sat h0 A h' -> Q (shaM ms) h') : F_sha_Digest_Sum ⟨d, 0, none⟩ Q h := by
 unfold F_sha_Digest_Sum G_sha_Digest_Sum
 try simp only [add_mk, Nat.zero_add, List.append_nil]
 have l1 := D.sl
 have l2 := D.l
 have hn := D.n
 have hz := zM_lt ms.length
 intro ob _ hn5; replace hs := Sat.new hs hn5; clear hn5
 refine shCopy_sp hs cd.s l1 l2 ?_
 intro c h1 hs
 intro eb _ hn10; replace hs := Sat.new hs hn10; clear hn10
 refine ⟨by decide, by decide, ?_⟩
 refine ⟨Sat.can hs .z (by simp [zeros]), ?_⟩
 intro h2 e
 replace hs := Sat.wr hs .z e
 clear e
 rw [intsP] at hs
 simp only [put_zero] at hs
 replace hs : Sat h0 (blk eb (ints .u8 (endM ms.length 0)) :: blk c (dgL s sm n) :: blk ob (ints .u8 (zeros 32)) :: A) h2 := hs
 refine ⟨_, hs.ld cd.s.s.s (dg_n l1 l2), by decide, by decide, ?_⟩
 have e1 : n.tmod 64 = ((ms.length % 64 : Nat) : Int) := by rw [hn, Int.tmod_eq_emod_of_nonneg (by omega)]; omega
 have e2 : (IntKind.i64.wrap (119 - IntKind.i64.wrap (n.tmod 64))).tmod 64 = (zM ms.length : Int) := by
  rw [e1, wrap_id (n := ((ms.length % 64 : Nat) : Int)) (by omega), wrap_id (by omega)]
  unfold zM
  rw [Int.tmod_eq_emod_of_nonneg (by omega)]; omega
 rw [e2, wrap_id (n := 1 + (zM ms.length : Int)) (by omega)]
 intro J16 hJ16
 refine loop_up 8 (fun t h => Sat h0 (blk eb (ints .u8 (endM ms.length t)) :: blk c (dgL s sm n) :: blk ob (ints .u8 (zeros 32)) :: A) h) ?_ ?_ 0 _ (by omega) hs
 ·intro t h3 ht hs hk
  apply hJ16
  rw [ltI_eq, if_pos (by simp; omega)]
  have hel := endM_len ms.length t
  have e3 : IntKind.i64.wrap (56 - IntKind.i64.wrap (8 * (t : Int))) = ((56 - 8 * t : Nat) : Int) := by rw [wrap_id (n := 8 * (t : Int)) (by omega), wrap_id (by omega)]; omega
  have e4 : IntKind.i64.wrap (1 + (zM ms.length : Int) + (t : Int)) = ((1 + zM ms.length + t : Nat) : Int) := by rw [wrap_id (by omega)]; push_cast; rfl
  rw [e3, e4]
  simp only [Int.toNat_natCast, Nat.mul_one]
  refine ⟨_, hs.ld cd.s.s.s (dg_n l1 l2), by omega, by omega, by omega, ?_⟩
  refine ⟨Sat.can hs .z (by simp [hel]; omega), ?_⟩
  intro h4 e
  replace hs := Sat.wr hs .z e
  clear e
  rw [intsP] at hs
  simp only [put_zero] at hs
  rw [wrap_succ (by omega)]
  refine hk _ ?_
  rw [hn] at hs ⊢
  exact hs
 ·intro h3 hs
  apply hJ16
  rw [ltI_eq, if_neg (by decide)]
  clear hJ16 J16
  have hel := endM_len ms.length 8
  have e4 : IntKind.i64.wrap (1 + (zM ms.length : Int) + 8) = ((9 + zM ms.length : Nat) : Int) := by rw [wrap_id (by omega)]; push_cast; omega
  rw [e4]
  simp only [Int.toNat_natCast, Nat.mul_one]
  have sub0 : subAddr (some ⟨eb, 0, none⟩) 0 73 1 = some ⟨eb, 0, none⟩ := by unfold subAddr; simp
  rw [sub0, Nat.sub_zero]
  refine ⟨by omega, by omega, _, rfl, ?_⟩
  have htl := tailM_len ms.length
  refine shWrite_sp (xs := tailM ms.length) hs zs1 D (by omega) (by omega) ?_ ?_
  ·intro s' sm' n' h' hs'
   simp only [put_succ, put_zero] at hs'
   exact blk_sv hs' .z (by omega)
  intro s' sm' n' h4 D' hs
  simp only [put_succ, put_zero] at hs
  intro hb _ hn24; replace hs := Sat.new hs hn24; clear hn24
  refine ⟨_, rfl, s', D'.sl, hs.row zs2 (fun x hx => by rw [Nat.zero_add, dg_s D'.sl (by have := D'.sl; omega), getM hx]), ?_⟩
  have hs8 := D'.sl
  have hst : s' = stM (fullM ms) ((fullM ms).length / 64) := D'.s
  intro J29 hJ29
  refine loop_up 8 (fun t h => Sat h0 (blk hb (ints .u8 (oM s' (4 * t))) :: blk eb (ints .u8 (endM ms.length 8)) :: blk c (dgL s' sm' n') :: blk ob (ints .u8 (zeros 32)) :: A) h) ?_ ?_ 0 _ (by omega) hs
  ·intro t h5 ht hs hk
   apply hJ29
   rw [ltI_eq, if_pos (by simp; omega)]
   refine ⟨by omega, by omega, ?_⟩
   simp only [Int.toNat_natCast]
   intro J32 hJ32
   refine loop_up 4 (fun x h => Sat h0 (blk hb (ints .u8 (oM s' (4 * t + x))) :: blk eb (ints .u8 (endM ms.length 8)) :: blk c (dgL s' sm' n') :: blk ob (ints .u8 (zeros 32)) :: A) h) ?_ ?_ 0 _ (by omega) hs
   ·intro x h6 hx hs hk2
    apply hJ32
    rw [ltI_eq, if_pos (by simp; omega)]
    have hol := oM_len s' (4 * t + x)
    have e5 : IntKind.i64.wrap (24 - IntKind.i64.wrap (8 * (x : Int))) = ((24 - 8 * x : Nat) : Int) := by rw [wrap_id (n := 8 * (x : Int)) (by omega), wrap_id (by omega)]; omega
    have e6 : IntKind.i64.wrap (IntKind.i64.wrap (4 * (t : Int)) + (x : Int)) = ((4 * t + x : Nat) : Int) := by rw [wrap_id (n := 4 * (t : Int)) (by omega), wrap_id (by omega)]; push_cast; rfl
    rw [e5, e6]
    simp only [Int.toNat_natCast, Nat.mul_one]
    refine ⟨by omega, by omega, by omega, ?_⟩
    refine ⟨Sat.can hs .z (by simp [hol]; omega), ?_⟩
    intro h7 e
    replace hs := Sat.wr hs .z e
    clear e
    rw [intsP] at hs
    simp only [put_zero] at hs
    rw [wrap_succ (by omega)]
    refine hk2 _ ?_
    have eo : outB s' (4 * t + x) = IntKind.u8.wrap ((s'.getD t 0).fdiv (2 ^ min (24 - 8 * x) 32)) := by
     unfold outB
     rw [show (4 * t + x) / 4 = t by omega, show (4 * t + x) % 4 = x by omega]
    rw [← eo] at hs
    exact hs
   ·intro h6 hs
    apply hJ32
    rw [ltI_eq, if_neg (by decide), wrap_succ (by omega)]
    exact hk _ hs
  ·intro h5 hs
   apply hJ29
   rw [ltI_eq, if_neg (by decide)]
   refine ⟨_, oM_len _ _, hs.row0 .z, ?_⟩
   refine ⟨Sat.can hs zs3 (by simp [zeros]), ?_⟩
   intro h6 e
   replace hs := Sat.wra hs zs3 e (by simp [zeros, oM_len])
   clear e
   simp only [put_succ, put_zero] at hs
   refine ⟨_, oM_len _ _, hs.row0 zs3, ?_⟩
   rw [hst]
   exact k _ hs.drop.drop.drop.drop
theorem ShaOf_sp {Q : List Int -> H -> Prop} {bs : List Int} {bp : Option Addr} {bl bc : Nat} (hs : Sat h0 A h) (hbc : bl ≤ bc) (hbl : bl < 2 ^ 60) (rd : ∀ h', Sat h0 A h' -> hsv h' bp 1 bl (ints .u8 bs)) (k : ∀ h', Sat h0 A h' -> Q (shaM bs) h') : F_sha_Of bp bl bc Q h := by
 unfold F_sha_Of G_sha_Of
 simp only [List.append_nil]
 have hxl : bs.length = bl := by have := (rd _ hs).1; simpa using this
 intro ob _ hn; replace hs := Sat.new hs hn
 refine NewD_sp hs ?_
 intro d h1 hs
 refine ⟨_, rfl, ?_⟩
 refine shWrite_sp (xs := bs) hs .z dg_new (by simp; omega) hbc (fun s' sm' n' h' hs' => rd _ hs'.drop.drop) ?_
 intro s' sm' n' h2 D hs
 simp only [put_zero] at hs
 refine ⟨_, rfl, ?_⟩
 refine Sum_sp hs .z D (by simp; omega) ?_
 intro h3 hs
 rw [List.nil_append]
 refine ⟨Sat.can hs zs1 (by simp [zeros, shaM_len]), ?_⟩
 intro h4 e
 replace hs := Sat.wra hs zs1 e (by simp [zeros, shaM_len])
 clear e
 simp only [put_succ, put_zero] at hs
 exact ⟨_, shaM_len _, hs.row0 zs1, k _ hs.drop.drop⟩
end
def keyM (key : List Int) : List Int := if 64 < key.length then shaM key else key
def kbM (key : List Int) : List Int := keyM key ++ zeros (64 - (keyM key).length)
def xM (kb : List Int) (x : Int) : Nat -> List Int
 | 0 => zeros 64
 | t + 1 => (xM kb x t).set t (bits .xor .u8 (kb.getD t 0) x)
def innerM (key : List Int) : List Int := xM (kbM key) 54 64
def outerM (key : List Int) : List Int := xM (kbM key) 92 64
def macM (key b : List Int) : List Int := shaM (outerM key ++ shaM (innerM key ++ b))
theorem xM_len (kb : List Int) (x : Int) (t : Nat) : (xM kb x t).length = 64 := by
 induction t with
 | zero => simp [xM, zeros]
 | succ t ih => simp [xM, ih]
theorem keyM_len (key : List Int) : (keyM key).length ≤ 64 := by
 unfold keyM
 split
 ·rw [shaM_len]; omega
 ·omega
theorem kbM_len (key : List Int) : (kbM key).length = 64 := by
 have := keyM_len key
 unfold kbM
 simp [zeros]; omega
theorem macM_len (key b : List Int) : (macM key b).length = 32 := shaM_len _
theorem spliceI {k : IntKind} {l xs : List Int} {o : Nat} (h : o + xs.length ≤ l.length) : splice (ints k l) o (ints k xs) = ints k (l.take o ++ xs ++ l.drop (o + xs.length)) := by
 apply List.ext_getElem?
 intro j
 rw [splice_get, ints_length, ints_length]
 by_cases c : o ≤ j /\ j < o + xs.length /\ j < l.length
 ·rw [if_pos c, ints_get, ints_get, List.getElem?_append_left (by simp; omega), List.getElem?_append_right (by simp; omega)]
  congr 2
  simp; omega
 ·rw [if_neg c, ints_get, ints_get]
  congr 1
  by_cases c2 : j < o
  ·rw [List.append_assoc, List.getElem?_append_left (by simp; omega), List.getElem?_take_of_lt c2]
  ·by_cases c3 : j < l.length
   ·rw [List.getElem?_append_right (by simp; omega), List.getElem?_drop]
    congr 1
    simp; omega
   ·rw [List.getElem?_eq_none (by omega), List.getElem?_eq_none (by simp; omega)]
section
variable {h0 h : H} {A : List Ent} {i d m : Nat}
abbrev macL (d : Nat) (key : List Int) : List Value := .pointer (some ⟨d, 0, none⟩) :: ints .u8 (outerM key)
theorem blk_svo {b : Nat} {k : IntKind} {pre : List Value} {ms : List Int} (hs : Sat h0 A h) (m : At A i (blk b (pre ++ ints k ms))) : hsv h (some ⟨b, pre.length, none⟩) 1 ms.length (ints k ms) := by
 refine ⟨by simp, ints_one _ _, Or.inr ⟨_, rfl, ?_⟩⟩
 refine hs.cs1 m ?_
 intro x hx
 rw [List.getElem?_append_right (by omega)]
 congr 1; omega
theorem MacNew_sp {Q : Option Addr -> H -> Prop} {key : List Int} {kp : Option Addr} {kl kc : Nat} (hs : Sat h0 A h) (hkc : kl ≤ kc) (hkl : kl < 2 ^ 60) (rd : ∀ h', Sat h0 A h' -> hsv h' kp 1 kl (ints .u8 key))
  (k : ∀ m d s sm n h', DgOk (innerM key) s sm n -> Sat h0 (blk d (dgL s sm n) :: blk m (macL d key) :: A) h' -> Q (some ⟨m, 0, none⟩) h') : F_mac_New kp kl kc Q h := by
 unfold F_mac_New G_mac_New
 try simp only [add_mk, Nat.zero_add, List.append_nil]
 have hxl : key.length = kl := by have := (rd _ hs).1; simpa using this
 intro kb _ hn; replace hs := Sat.new hs hn
 intro J11 hJ11
 -- the block key
 have way : ∀ (p : Option Addr) (l c : Nat) h', Sat h0 (blk kb (ints .u8 (zeros 64)) :: A) h' -> hsv h' p 1 l (ints .u8 (keyM key)) -> J11 [.dv (.one (.slice p l c))] h' := by
  intro p l c h2 hs rd2
  have hl2 : (keyM key).length = l := by have := rd2.1; simpa using this
  have hk64 := keyM_len key
  apply hJ11
  have sub0 : ∀ x, subAddr (some ⟨x, 0, none⟩) 0 64 1 = some ⟨x, 0, none⟩ := by intro x; unfold subAddr; simp
  rw [show l.min 64 = l from Nat.min_eq_left (by omega), sub0]
  refine ⟨_, rd2, Or.inr ⟨_, rfl, Sat.can hs .z (by simp [zeros]; omega)⟩, ?_⟩
  intro h3 e
  replace hs := Sat.wr hs .z e
  clear e
  rw [spliceI (by simp [zeros]; omega)] at hs
  have ekb : (zeros 64).take 0 ++ keyM key ++ (zeros 64).drop (0 + (keyM key).length) = kbM key := by
   unfold kbM
   rw [List.take_zero, List.nil_append, Nat.zero_add]
   unfold zeros
   rw [List.drop_replicate]
  rw [ekb] at hs
  simp only [put_zero] at hs
  refine NewD_sp hs ?_
  intro d h4 hs
  intro m _ hn; replace hs := Sat.new hs hn
  intro ib _ hn; replace hs := Sat.new hs hn
  have kl64 := kbM_len key
  refine ⟨_, kl64, hs.row0 zs3, ?_⟩
  intro J29 hJ29
  refine loop_up 64 (fun t h => Sat h0 (blk ib (ints .u8 (xM (kbM key) 54 t)) :: blk m (.pointer (some ⟨d, 0, none⟩) :: ints .u8 (xM (kbM key) 92 t)) :: blk d (dgL sM (zeros 64) 0) :: blk kb (ints .u8 (kbM key)) :: A) h) ?_ ?_ 0 _ (by omega) hs
  ·intro t h5 ht hs hk
   apply hJ29
   rw [ltI_eq, if_pos (by simp; omega)]
   have x1 := xM_len (kbM key) 54 t
   have x2 := xM_len (kbM key) 92 t
   simp only [Int.toNat_natCast, Nat.mul_one]
   refine ⟨by omega, by omega, by omega, by omega, ?_⟩
   refine ⟨Sat.can hs .z (by simp [x1]; omega), ?_⟩
   intro h6 e
   replace hs := Sat.wr hs .z e
   clear e
   rw [intsP] at hs
   simp only [put_zero] at hs
   refine ⟨by omega, by omega, ?_⟩
   refine ⟨Sat.can hs zs1 (by simp [x2]; omega), ?_⟩
   intro h7 e
   replace hs := Sat.wr hs zs1 e
   clear e
   have es : splice (.pointer (some ⟨d, 0, none⟩) :: ints .u8 (xM (kbM key) 92 t)) (1 + t) [.int .u8 (bits .xor .u8 ((kbM key).getD t 0) 92)] = .pointer (some ⟨d, 0, none⟩) :: ints .u8 (xM (kbM key) 92 (t + 1)) := by
    show (Value.pointer (some ⟨d, 0, none⟩) :: ints .u8 (xM (kbM key) 92 t)).set (1 + t) _ = _
    rw [show 1 + t = t + 1 by omega, List.set_cons_succ, ints_set]; rfl
   rw [es] at hs
   simp only [put_succ, put_zero] at hs
   rw [wrap_succ (by omega)]
   exact hk _ hs
  ·intro h5 hs
   apply hJ29
   rw [ltI_eq, if_neg (by decide)]
   refine ⟨_, hs.ld zs1 rfl, _, rfl, ?_⟩
   have il : (innerM key).length = 64 := xM_len _ _ _
   refine shWrite_sp (xs := innerM key) hs zs2 dg_new (by simp [il]) (by omega) ?_ ?_
   ·intro s' sm' n' h' hs'
    simp only [put_succ, put_zero] at hs'
    have := blk_sv hs' .z (n := 64) (by rw [xM_len]; omega)
    rw [List.take_of_length_le (by rw [xM_len]; omega)] at this
    exact this
   ·intro s' sm' n' h6 D hs
    simp only [put_succ, put_zero] at hs
    rw [List.nil_append] at D
    replace hs := hs.front zs2
    simp only [del] at hs
    exact k m d s' sm' n' _ D (hs.sub (by (repeat (first | exact List.Sublist.refl _ | apply List.Sublist.cons_cons | apply List.Sublist.cons))))
 by_cases g : 64 < kl
 ·rw [ltI_eq, if_pos (by rw [decide_eq_true_iff]; omega)]
  refine ShaOf_sp (bs := key) hs hkc hkl (fun h' hs' => rd _ hs'.drop) ?_
  intro h2 hs
  intro hb _ hn; replace hs := Sat.new hs hn
  refine ⟨Sat.can hs .z (by simp [zeros]), ?_⟩
  intro h3 e
  replace hs := Sat.wra hs .z e (by simp [zeros, shaM_len])
  clear e
  simp only [put_zero] at hs
  have ek : keyM key = shaM key := by unfold keyM; rw [if_pos (by omega)]
  refine way _ _ _ _ hs.drop ?_
  rw [ek]
  have := blk_sv hs .z (n := 32) (by rw [shaM_len]; omega)
  rw [List.take_of_length_le (by rw [shaM_len]; omega)] at this
  have sub0 : subAddr (some ⟨hb, 0, none⟩) 0 32 1 = some ⟨hb, 0, none⟩ := by unfold subAddr; simp
  rw [sub0]
  exact this
 ·rw [ltI_eq, if_neg (by rw [decide_eq_true_iff]; omega)]
  have ek : keyM key = key := by unfold keyM; rw [if_neg (by omega)]
  refine way _ _ _ _ hs ?_
  rw [ek]
  exact rd _ hs.drop
theorem MacSum_sp {Q : List Int -> H -> Prop} {key ms s sm : List Int} {n : Int} {j : Nat} (hs : Sat h0 A h) (cm : At A j (blk m (macL d key))) (cd : At A i (blk d (dgL s sm n))) (D : DgOk ms s sm n) (hml : ms.length < 2 ^ 60)
  (k : ∀ h', Sat h0 A h' -> Q (shaM (outerM key ++ shaM ms)) h') : F_mac_Mac_Sum ⟨m, 0, none⟩ Q h := by
 unfold F_mac_Mac_Sum G_mac_Mac_Sum
 try simp only [add_mk, Nat.zero_add, List.append_nil]
 have sub0 : ∀ x o l, 0 < l -> subAddr (some ⟨x, o, none⟩) 0 l 1 = some ⟨x, o, none⟩ := by
  intro x o l hl
  unfold subAddr
  rw [if_neg (by omega)]; simp
 have ol : (outerM key).length = 64 := xM_len _ _ _
 have cm2 : At A j (blk m ([.pointer (some ⟨d, 0, none⟩)] ++ ints .u8 (outerM key))) := by simpa only [List.cons_append, List.nil_append] using cm
 intro ob _ hn; replace hs := Sat.new hs hn
 refine ⟨_, hs.ld cm.s rfl, _, rfl, ?_⟩
 refine Sum_sp hs cd.s D hml ?_
 intro h1 hs
 intro hb _ hn; replace hs := Sat.new hs hn
 refine ⟨Sat.can hs .z (by simp [zeros]), ?_⟩
 intro h2 e
 replace hs := Sat.wra hs .z e (by simp [zeros, shaM_len])
 clear e
 simp only [put_zero] at hs
 refine NewD_sp hs ?_
 intro d2 h3 hs
 rw [sub0 _ _ _ (by decide), sub0 _ _ _ (by decide)]
 refine ⟨_, rfl, ?_⟩
 refine shWrite_sp (xs := outerM key) hs .z dg_new (by simp [ol]) (by omega) ?_ ?_
 ·intro s' sm' n' h' hs'
  simp only [put_zero] at hs'
  have := blk_svo (k := .u8) (ms := outerM key) (pre := [.pointer (some ⟨d, 0, none⟩)]) hs' cm2.s.s.s
  rw [ol] at this
  exact this
 intro s1 sm1 n1 h4 D1 hs
 simp only [put_zero] at hs
 rw [List.nil_append] at D1
 refine ⟨_, rfl, ?_⟩
 refine shWrite_sp (xs := shaM ms) hs .z D1 (by simp [ol, shaM_len]) (by omega) ?_ ?_
 ·intro s' sm' n' h' hs'
  simp only [put_zero] at hs'
  have := blk_sv hs' zs1 (n := 32) (by rw [shaM_len]; omega)
  rw [List.take_of_length_le (by rw [shaM_len]; omega)] at this
  exact this
 intro s2 sm2 n2 h5 D2 hs
 simp only [put_zero] at hs
 refine ⟨_, rfl, ?_⟩
 refine Sum_sp hs .z D2 (by simp [ol, shaM_len]) ?_
 intro h6 hs
 refine ⟨Sat.can hs zs2 (by simp [zeros, shaM_len]), ?_⟩
 intro h7 e
 replace hs := Sat.wra hs zs2 e (by simp [zeros, shaM_len])
 clear e
 simp only [put_succ, put_zero] at hs
 exact ⟨_, shaM_len _, hs.row0 zs2, k _ hs.drop.drop.drop⟩
theorem MacOf_sp {Q : List Int -> H -> Prop} {key b : List Int} {kp bp : Option Addr} {kl kc bl bc : Nat} (hs : Sat h0 A h) (hkc : kl ≤ kc) (hkl : kl < 2 ^ 60) (hbc : bl ≤ bc) (hbl : bl < 2 ^ 59)
  (rk : ∀ h', Sat h0 A h' -> hsv h' kp 1 kl (ints .u8 key)) (rb : ∀ h', Sat h0 A h' -> hsv h' bp 1 bl (ints .u8 b)) (k : ∀ h', Sat h0 A h' -> Q (macM key b) h') : F_mac_Of kp kl kc bp bl bc Q h := by
 unfold F_mac_Of G_mac_Of
 try simp only [add_mk, Nat.zero_add, List.append_nil]
 have hxl : b.length = bl := by have := (rb _ hs).1; simpa using this
 have il : (innerM key).length = 64 := xM_len _ _ _
 intro ob _ hn; replace hs := Sat.new hs hn
 refine MacNew_sp (key := key) hs hkc hkl (fun h' hs' => rk _ hs'.drop) ?_
 intro m d s sm n h1 D hs
 refine ⟨_, rfl, _, hs.ld zs1 rfl, _, rfl, ?_⟩
 refine shWrite_sp (xs := b) hs .z D (by rw [il]; omega) hbc (fun s' sm' n' h' hs' => rb _ hs'.drop.drop.drop) ?_
 intro s' sm' n' h2 D2 hs
 simp only [put_zero] at hs
 refine ⟨_, rfl, ?_⟩
 refine MacSum_sp hs (j := 1) zs1 .z D2 (by rw [List.length_append, il]; omega) ?_
 intro h3 hs
 refine ⟨Sat.can hs zs2 (by simp [zeros, shaM_len]), ?_⟩
 intro h4 e
 replace hs := Sat.wra hs zs2 e (by simp [zeros, shaM_len])
 clear e
 simp only [put_succ, put_zero] at hs
 exact ⟨_, shaM_len _, hs.row0 zs2, k _ hs.drop.drop.drop⟩
end
end Go.Proofs.YteedolonhdbieaaGreatDoor
end
