/- LogWhole: what is proved and its parts, laid together by a program of ours: Ch1 Cm Ag Ch2 Ch3 Ch4 Ch5 Ch6 Ch7 Ah Ch8 -/
import Derived.Laws.Closers25b
import Derived.Test.YteabcbpimjjdpaaRows
import Derived.Test.YteabcbpimjjdpaaK6
set_option autoImplicit false
set_option linter.all false
/- Contracts of the chip's small functions. Own work. -/
section
set_option linter.unusedVariables false
namespace Go.Proofs.Yteabcbpimjjdpaa
open Go Go.Vc

structure Cfg where
  cells : Int
  slots : Int
  fuses : Int
  step : Int
  keys : Int
  erases : Int
  area : Int

def Cfg.vals (c : Cfg) : List Value :=
  [.int .i64 c.cells, .int .i64 c.slots, .int .i64 c.fuses, .int .i64 c.step, .int .i64 c.keys, .int .i64 c.erases, .int .i64 c.area]

structure Cfg.may (c : Cfg) : Prop where
  slots : 1 ≤ c.slots ∧ c.slots ≤ 8
  cells : c.slots + 3 ≤ c.cells ∧ c.cells ≤ 256
  fuses : 1 ≤ c.fuses ∧ c.fuses ≤ 64
  step : 1 ≤ c.step ∧ c.step ≤ 65536
  keys : 1 ≤ c.keys ∧ c.keys ≤ 64
  erases : 0 ≤ c.erases ∧ c.erases ≤ 65536
  area : 0 ≤ c.area ∧ c.area ≤ 64

theorem within_iff (n a b : Int) (Q : Bool → H → Prop) (h : H) : F_chip_within n a b Q h = Q (decide (a ≤ n) && decide (n ≤ b)) h := by
  unfold F_chip_within G_chip_within
  by_cases h1 : a ≤ n <;> simp [h1]
open Classical in
theorem May_spec (c : Cfg) (Q : Int → H → Prop) (h : H) (k : ∀ h', Ext none_ h h' → Q (if c.may then 0 else 1) h') :
    F_chip_May c.cells c.slots c.fuses c.step c.keys c.erases c.area Q h := by
  unfold F_chip_May G_chip_May
  intro b h' hn
  have kb := hn.blk
  have kx := k h' hn.ext
  have hc0 := kb.hc
  intro J hJ
  have fin : ∀ r : Bool, (r = true ↔ c.may) → J [SV.dv (DV.one (Value.bool r))] h' := by
    intro r hr
    apply hJ
    by_cases hm : c.may
    · rw [hr.2 hm]; rw [if_pos hm] at kx; simpa using kx
    · have : r = false := by cases r; rfl; exact absurd (hr.1 rfl) hm
      rw [this]; rw [if_neg hm] at kx; simpa using kx
  simp only [add_mk, hc0, Nat.zero_add, List.getElem?_cons_succ, List.getElem?_cons_zero, Option.some.injEq, Value.int.injEq, true_and, exists_eq_left']
  simp only [within_iff, hc0, List.getElem?_cons_succ, List.getElem?_cons_zero, Option.some.injEq, Value.int.injEq, true_and, exists_eq_left', Bool.and_eq_true, decide_eq_true_eq]
  have w3 : 1 ≤ c.slots ∧ c.slots ≤ 8 → IntKind.i64.wrap (c.slots + 3) = c.slots + 3 := by
    intro h1; rw [IntKind.wrap_i64]; omega
  split
  case isFalse h1 => exact fin false (by simp; intro hm; exact h1 hm.slots)
  rename_i h1
  rw [w3 h1]
  split
  case isFalse h2 => exact fin false (by simp; intro hm; exact h2 hm.cells)
  rename_i h2
  split
  case isFalse h3 => exact fin false (by simp; intro hm; exact h3 hm.fuses)
  rename_i h3
  split
  case isFalse h4 => exact fin false (by simp; intro hm; exact h4 hm.step)
  rename_i h4
  split
  case isFalse h5 => exact fin false (by simp; intro hm; exact h5 hm.keys)
  rename_i h5
  split
  case isFalse h6 => exact fin false (by simp; intro hm; exact h6 hm.erases)
  rename_i h6
  refine fin _ ?_
  simp only [Bool.and_eq_true, decide_eq_true_eq]
  exact ⟨fun h7 => ⟨h1, h2, h3, h4, h5, h6, h7⟩, fun hm => hm.area⟩

theorem pages_spec (c : Cfg) (hm : c.may) (Q : Int → H → Prop) (h : H) (k : ∀ h', Ext none_ h h' → Q (2 + 2 * c.area) h') :
    F_chip_pages c.cells c.slots c.fuses c.step c.keys c.erases c.area Q h := by
  unfold F_chip_pages G_chip_pages
  intro b h' hn
  have kx := k h' hn.ext
  have ha := hm.area
  have e : IntKind.i64.wrap (2 + IntKind.i64.wrap (2 * c.area)) = 2 + 2 * c.area := by simp only [IntKind.wrap_i64]; omega
  simpa [hn.blk.hc, e] using kx

theorem fuses_spec (c : Cfg) (hm : c.may) (Q : Int → H → Prop) (h : H) (k : ∀ h', Ext none_ h h' → Q (c.slots * c.fuses + c.keys) h') :
    F_chip_fuses c.cells c.slots c.fuses c.step c.keys c.erases c.area Q h := by
  unfold F_chip_fuses G_chip_fuses
  intro b h' hn
  have kx := k h' hn.ext
  have h1 := hm.slots; have h2 := hm.fuses; have h3 := hm.keys
  have e1 : 0 ≤ c.slots * c.fuses := Int.mul_nonneg (by omega) (by omega)
  have e2 : c.slots * c.fuses ≤ 8 * 64 := Int.mul_le_mul (by omega) (by omega) (by omega) (by omega)
  have e : IntKind.i64.wrap (IntKind.i64.wrap (c.slots * c.fuses) + c.keys) = c.slots * c.fuses + c.keys := by simp only [IntKind.wrap_i64]; omega
  simpa [hn.blk.hc, e] using kx
end Go.Proofs.Yteabcbpimjjdpaa
end

/- The chip's model and how it lies in memory (chip.Chip and the document's chip alike). Own work. -/
section
set_option linter.unusedVariables false
namespace Go.Proofs.Yteabcbpimjjdpaa
open Go Go.Vc

/-- What a chip holds: pages (flat bytes, 32 a cell), erases, fuses. -/
structure St where
  pages : List (List Int)
  erases : List Int
  blown : List Bool
structure Cm where
  cfg : Cfg
  s : St
  acts : Int
  out : Bool
  left : Int
  mask : List Int

instance (c : Cfg) : Decidable c.may :=
  decidable_of_iff ((1 ≤ c.slots ∧ c.slots ≤ 8) ∧ (c.slots + 3 ≤ c.cells ∧ c.cells ≤ 256) ∧ (1 ≤ c.fuses ∧ c.fuses ≤ 64) ∧ (1 ≤ c.step ∧ c.step ≤ 65536) ∧ (1 ≤ c.keys ∧ c.keys ≤ 64) ∧ (0 ≤ c.erases ∧ c.erases ≤ 65536) ∧ (0 ≤ c.area ∧ c.area ≤ 64))
    ⟨fun ⟨a, b, c, d, e, f, g⟩ => ⟨a, b, c, d, e, f, g⟩, fun ⟨a, b, c, d, e, f, g⟩ => ⟨a, b, c, d, e, f, g⟩⟩
def Cfg.may? (c : Cfg) : Int := if c.may then 0 else 1
def Cfg.np (c : Cfg) : Int := 2 + 2 * c.area
def Cfg.nf (c : Cfg) : Int := c.slots * c.fuses + c.keys
def isByte (n : Int) : Prop := 0 ≤ n ∧ n < 256
def bytesOk (ns : List Int) : Prop := ∀ n, n ∈ ns → isByte n

/-- Are the sizes those of the config? -/
structure St.fits (c : Cfg) (s : St) : Prop where
  pages : (s.pages.length : Int) = c.np
  cells : ∀ l, l ∈ s.pages → (l.length : Int) = 32 * c.cells
  erases : (s.erases.length : Int) = c.np
  blown : (s.blown.length : Int) = c.nf
/-- Are the numbers of their kinds? -/
structure St.typed (s : St) : Prop where
  bytes : ∀ l, l ∈ s.pages → bytesOk l
  erases : ∀ n, n ∈ s.erases → -(2 ^ 63) ≤ n ∧ n < 2 ^ 63
structure Cm.ok (C : Cm) : Prop where
  may : C.cfg.may
  fits : C.s.fits C.cfg
  typed : C.s.typed
  left : -1 ≤ C.left
  left2 : C.left < 2 ^ 63
  mask : bytesOk C.mask
  acts : -(2 ^ 63) ≤ C.acts ∧ C.acts < 2 ^ 63
  mlen : C.mask.length ≤ 2 ^ 47

/-- Slices of a state, read only. -/
structure RdS (h : H) (a b c : Sl) (s : St) : Prop where
  pg : RdM h 32 a s.pages
  er : hsv h b.1 1 b.2.1 (ints .i64 s.erases)
  bl : hsv h c.1 1 c.2.1 (bools s.blown)

abbrev stL (a b c : Sl) (s : St) : List Ent := [matE 32 a s.pages, sE b 1 (ints .i64 s.erases), sE c 1 (bools s.blown)]

def Cm.cells (C : Cm) (a b c m : Sl) : List Value :=
  [.int .i64 C.cfg.cells, .int .i64 C.cfg.slots, .int .i64 C.cfg.fuses, .int .i64 C.cfg.step, .int .i64 C.cfg.keys, .int .i64 C.cfg.erases, .int .i64 C.cfg.area, a.v, b.v, c.v,
    .int .i64 C.acts, .bool C.out, .int .i64 C.left, m.v]
/-- The places of a chip's parts. -/
structure Pl where
  a : Sl
  b : Sl
  c : Sl
  m : Sl
abbrev chipL (p : Nat) (C : Cm) (w : Pl) : List Ent := [blk p (C.cells w.a w.b w.c w.m), matE 32 w.a C.s.pages, sE w.b 1 (ints .i64 C.s.erases), sE w.c 1 (bools C.s.blown), sE w.m 1 (ints .u8 C.mask)]
def chipE (p : Nat) (C : Cm) : Ent := exE 2 (fun _ => C.ok) (chipL p C)

theorem RdS.ext {h h' : H} (x : Ext none_ h h') {a b c : Sl} {s : St} (r : RdS h a b c s) : RdS h' a b c s :=
  ⟨r.pg.ext x, hsv_ext x r.er (fun _ _ y => y), hsv_ext x r.bl (fun _ _ y => y)⟩
theorem sat_rdS {h0 h : H} {A : List Ent} (hs : Sat h0 A h) {i j k : Nat} {a b c : Sl} {s : St} (m : At A i (matE 32 a s.pages)) (n : At A j (sE b 1 (ints .i64 s.erases))) (o : At A k (sE c 1 (bools s.blown))) : RdS h a b c s :=
  ⟨hs.rdM m, hs.sv n, hs.sv o⟩
end Go.Proofs.Yteabcbpimjjdpaa
end

/- What arguments of the statements are. Own work. -/
section
set_option maxRecDepth 100000
set_option linter.unusedVariables false
namespace Go.Proofs.Yteabcbpimjjdpaa
open Go Go.Vc Go.ChangeShapes Go.WideShapes Go.ChangeAt Go.RowKit

theorem Try.own : ownKnob Try.prog.godebug = none := by kernel_rfl
theorem Try.laidOut : laidOutB Try.prog = true := by kernel_rfl
theorem Try.ubool : Try.prog.underlying 4 = some .bool := by kernel_rfl
theorem xCfg : xsh PP 8 23 = some [.int .i64, .int .i64, .int .i64, .int .i64, .int .i64, .int .i64, .int .i64] := by kernel_rfl
theorem xByte : xsh PP 8 5 = some [.int .u8] := by kernel_rfl

section
variable {D : Type} {enc : TypeId × Value → D} {W : World}
theorem cfg_of {v : Value} {base : Nat} (h : Rdt enc PP W 23 v.cells.toList) (ho : Value.okWide PP W .any base 23 v) : ∃ c : Cfg, v = .agg c.vals.toArray := by
  have e := okw_agg (by kernel_rfl) ho
  obtain ⟨a1, r1, e1, _, a2, r2, rfl, _, a3, r3, rfl, _, a4, r4, rfl, _, a5, r5, rfl, _, a6, r6, rfl, _, a7, r7, rfl, _, hr⟩ := Rdt.xm 8 _ _ _ xCfg h
  simp only [XM] at hr
  subst hr
  refine ⟨⟨a1, a2, a3, a4, a5, a6, a7⟩, ?_⟩
  rw [e]
  congr 1
  rw [← Array.toArray_toList (xs := v.cells), e1]
  rfl
theorem bytes_of {p : Option Addr} {l c : Nat} (h : Sli enc PP W 5 p l c) : ∃ ns : List Int, hsv W.heap p 1 l (ints .u8 ns) ∧ bytesOk ns ∧ ns.length + 4096 ≤ 2 ^ 47 := by
  have hb : Try.prog.bytesOf 5 = 1 := by kernel_rfl
  have hc : Try.prog.cellsOf 5 = 1 := by kernel_rfl
  obtain ⟨ess, h1, h2, h3, _⟩ := h.els xByte
  have hlc := h.1
  have hr := h.2.1
  rw [hb] at hr
  rw [hc] at h3
  have key : ∀ ess : List (List Value), (∀ es, es ∈ ess → es.length = Try.prog.cellsOf 5 ∧ XM enc PP W [XSh.int .u8] es) → ∃ ns : List Int, ess.flatten = ints .u8 ns ∧ bytesOk ns := by
    intro ess
    induction ess with
    | nil => intro _; exact ⟨[], rfl, by intro n hn; simp at hn⟩
    | cons x r ih =>
      intro h
      obtain ⟨ns, e, hn⟩ := ih fun es hes => h es (by simp [hes])
      obtain ⟨n, rest, rfl, hh, hr⟩ := (h x (by simp)).2
      simp only [XM] at hr
      subst hr
      refine ⟨n :: ns, by simp [e], ?_⟩
      intro m hm
      rcases List.mem_cons.1 hm with rfl | hm
      · exact has_u8 hh
      · exact hn m hm
  obtain ⟨ns, e, hn⟩ := key ess h2
  rw [e] at h3
  have : ns.length = l := by have := h3.1; simpa using this
  refine ⟨ns, h3, hn, ?_⟩
  unfold reachBytes at hr
  omega
end
end Go.Proofs.Yteabcbpimjjdpaa
end

/- Contracts: blank cells, clones. Own work. -/
section
set_option linter.unusedVariables false
namespace Go.Proofs.Yteabcbpimjjdpaa
open Go Go.Vc

def blankCell : List Int := List.replicate 32 255
theorem mapTo_const (n : Nat) (v : Int) (ns : List Int) (hl : ns.length = n) : mapTo (fun _ _ => v) n ns = List.replicate n v := by
  apply List.ext_getElem?; intro j
  rw [mapTo_get, List.getElem?_replicate]
  by_cases h : j < n
  · simp [h, hl]
  · rw [if_neg h, List.getElem?_eq_none (by omega)]; rfl

theorem blank_spec (Q : List Int → H → Prop) (h : H) (k : ∀ h', Ext none_ h h' → Q blankCell h') : F_chip_blank Q h := by
  unfold F_chip_blank G_chip_blank
  intro b2 h3 n2 b5 h6 n5 J hJ
  have x6 : Ext none_ h h6 := n2.ext.trans n5.ext
  have hb2 : b2 < h6.size := by have := n2.size; have := n5.size; have := n2.b; omega
  have hb2' : h.size ≤ b2 := by rw [n2.b]; exact Nat.le_refl _
  have hb5 : h.size ≤ b5 := by have := n2.size; rw [n5.b]; omega
  have hne : b2 ≠ b5 := by have := n2.size; have := n5.b; have := n2.b; omega
  refine loop_up 32 (fun i h' => Blk h' b5 (ints .u8 (mapTo (fun _ _ => 255) i (zeros 32))) ∧ Blk h' b2 (ints .u8 (zeros 32)) ∧ Ext none_ h h') ?_ ?_ 0 h6 (by omega)
    ⟨by simpa using n5.blk, n5.ext.blk n2.blk (fun x => x), x6⟩
  · rintro i h' hi ⟨k5, k2, hx⟩ hk
    apply hJ
    rw [ltI_eq, if_pos (by simp; omega)]
    refine ⟨by omega, by omega, ?_, ?_⟩
    · simp only [add_mk]; apply k5.can; simp; omega
    · intro h11 e
      simp only [add_mk, Int.toNat_natCast, Nat.mul_one, Nat.zero_add] at e
      rw [wrap_succ (by omega)]
      refine hk h11 ?_
      have w := k5.wr i [Value.int .u8 255]
      have w2 := k2.wr_ne (a := ⟨b5, i, none⟩) (xs := [Value.int .u8 255]) hne
      rw [← e] at w w2
      refine ⟨?_, w2, ?_⟩
      · simp only [splice_cons, splice_nil, ints_set] at w
        have := mapTo_succ (fun _ _ => 255) i (zeros 32) (by simpa using hi)
        rw [this] at w; exact w
      · rw [e]; exact hx.comp (Ext.wr h' b5 i _) (by rintro x h1 rfl; omega)
  · rintro h' ⟨k5, k2, hx⟩
    apply hJ
    rw [ltI_eq, if_neg (by simp)]
    rw [mapTo_const 32 255 _ (by simp)] at k5
    refine ⟨blankCell, by simp [blankCell], k5.hrow (by intro i hi; rw [Nat.zero_add, ints_get]; rfl), k2.can (by simp), ?_⟩
    intro h14 e
    have w := k2.wr 0 (ints IntKind.u8 blankCell ++ [])
    rw [splice_all _ _ (by simp [blankCell])] at w
    rw [← e] at w
    refine ⟨blankCell, by simp [blankCell], w.hrow (by intro i hi; simp [ints_get]), k _ ?_⟩
    rw [e]; exact hx.comp (Ext.wr h' b2 0 _) (by rintro x h1 rfl; omega)

theorem clone_body (sz : Nat) (z : List Value) (B : Nat) (hsz : 0 < sz) (hz : z.length = sz) (p : Option Addr) (l : Nat) (vs : List Value) (Q : Option Addr → Nat → Nat → H → Prop) (h : H) (hs : hsv h p sz l vs) (hb : l * B ≤ 2 ^ 47)
    (k : ∀ p' c' h' bs, Ext none_ h h' → OwnS h' p' l c' sz vs bs → newB h bs → Q p' l c' h') :
    if p.isNone = true then Q none 0 0 h else ∀ (n5 : Nat) (h6 : H), hnew h n5 [] h6 → ∃ (l8 : List Value), hsv h6 p sz l l8 ∧
      pApp h6 sz z B (some (Addr.mk n5 0 none)) 0 0 l l8 fun (o9 : Option Addr) (n10 n11 : Nat) (h12 : H) => Q o9 n10 n11 h12 := by
  cases p with
  | none =>
    have e := hsv_none hs
    have hl : l = 0 := by
      have := hs.1; rw [e] at this
      rcases Nat.eq_zero_or_pos l with h0 | h0
      · exact h0
      · have := Nat.mul_pos h0 hsz; simp_all
    subst hl
    simp only [Option.isNone_none, if_true]
    refine k none 0 h [] (Ext.refl _ _) ?_ (by intro b hb; simp at hb)
    rw [e]; exact OwnS.nil _ _ _
  | some a =>
    rw [if_neg (by simp)]
    intro b h' hn
    have hs' := hsv_ext hn.ext hs (fun _ _ x => x)
    refine ⟨_, hs', pApp_empty hs'.1 hz hs'.2.1 hb ?_⟩
    intro p' c' h'' bs hx ho hbs
    exact k p' c' h'' bs (hn.ext.trans hx) ho (hbs.ext hn.ext)
theorem Clone_bytes_spec (p : Option Addr) (l c : Nat) (vs : List Value) (Q : Option Addr → Nat → Nat → H → Prop) (h : H) (hs : hsv h p 1 l vs) (hb : l * 1 ≤ 2 ^ 47)
    (k : ∀ p' c' h' bs, Ext none_ h h' → OwnS h' p' l c' 1 vs bs → newB h bs → Q p' l c' h') : F_slices_Clone_byte_byte p l c Q h := by
  unfold F_slices_Clone_byte_byte; exact clone_body 1 _ 1 (by omega) rfl p l vs Q h hs hb k
theorem Clone_ints_spec (p : Option Addr) (l c : Nat) (vs : List Value) (Q : Option Addr → Nat → Nat → H → Prop) (h : H) (hs : hsv h p 1 l vs) (hb : l * 8 ≤ 2 ^ 47)
    (k : ∀ p' c' h' bs, Ext none_ h h' → OwnS h' p' l c' 1 vs bs → newB h bs → Q p' l c' h') : F_slices_Clone_int_int p l c Q h := by
  unfold F_slices_Clone_int_int; exact clone_body 1 _ 8 (by omega) rfl p l vs Q h hs hb k
theorem Clone_bools_spec (p : Option Addr) (l c : Nat) (vs : List Value) (Q : Option Addr → Nat → Nat → H → Prop) (h : H) (hs : hsv h p 1 l vs) (hb : l * 1 ≤ 2 ^ 47)
    (k : ∀ p' c' h' bs, Ext none_ h h' → OwnS h' p' l c' 1 vs bs → newB h bs → Q p' l c' h') : F_slices_Clone_bool_bool p l c Q h := by
  unfold F_slices_Clone_bool_bool; exact clone_body 1 _ 1 (by omega) rfl p l vs Q h hs hb k
theorem Clone_cells_spec (p : Option Addr) (l c : Nat) (vs : List Value) (Q : Option Addr → Nat → Nat → H → Prop) (h : H) (hs : hsv h p 32 l vs) (hb : l * 32 ≤ 2 ^ 47)
    (k : ∀ p' c' h' bs, Ext none_ h h' → OwnS h' p' l c' 32 vs bs → newB h bs → Q p' l c' h') : F_slices_Clone_api_Cell_api_Cell p l c Q h := by
  unfold F_slices_Clone_api_Cell_api_Cell; exact clone_body 32 _ 32 (by omega) (by simp) p l vs Q h hs hb k
end Go.Proofs.Yteabcbpimjjdpaa
end

/- Contract: slices.Repeat of one cell. Own work. -/
section
set_option linter.unusedVariables false
namespace Go.Proofs.Yteabcbpimjjdpaa
open Go Go.Vc

theorem wrap_u64_id {n : Int} (h : 0 ≤ n ∧ n < 2 ^ 64) : IntKind.u64.wrap n = n := by
  have : IntKind.u64.wrap n = n % 18446744073709551616 := by simp [IntKind.wrap, IntKind.bits, IntKind.signed]
  rw [this]; omega
theorem and32 {n : Int} (h : 0 ≤ n ∧ n < 2 ^ 32) : bits .and .u64 n 4294967295 = n := by
  have := bits_mask .u64 64 (by decide) (fun n h0 h1 => wrap_u64_id ⟨h0, h1⟩) 32 (by decide) n h.1 (by omega)
  have e : (2 : Int) ^ 32 - 1 = 4294967295 := by decide
  rw [e] at this
  rw [this]; omega
theorem fdiv32 {n : Int} (h : 0 ≤ n ∧ n < 2 ^ 32) : n.fdiv (2 ^ 32) = 0 := by
  rw [Int.fdiv_eq_ediv_of_nonneg _ (by decide)]; omega
theorem Mul_one (n : Int) (hn : 0 ≤ n ∧ n < 2 ^ 31) (Q : Int → Int → H → Prop) (h : H) (k : Q 0 n h) : F_math_bits_Mul 1 n Q h := by
  unfold F_math_bits_Mul G_math_bits_Mul F_math_bits_Mul64 G_math_bits_Mul64
  rintro i rfl
  refine ⟨by decide, ?_⟩
  rintro i rfl
  refine ⟨by decide, by decide, ?_⟩
  rintro i rfl
  refine ⟨by decide, by decide, ?_⟩
  have a1 : bits .and .u64 1 4294967295 = 1 := and32 (by decide)
  have a2 : bits .and .u64 n 4294967295 = n := and32 (by omega)
  have f1 : (1 : Int).fdiv (2 ^ 32) = 0 := fdiv32 (by decide)
  have f2 : n.fdiv (2 ^ 32) = 0 := fdiv32 (by omega)
  have w0 : IntKind.u64.wrap 0 = 0 := wrap_u64_id (by decide)
  have wn : IntKind.u64.wrap n = n := wrap_u64_id (by omega)
  have f0 : (0 : Int).fdiv (2 ^ 32) = 0 := fdiv32 (by decide)
  have a0 : bits .and .u64 0 4294967295 = 0 := and32 (by decide)
  simpa only [a1, a2, f1, f2, Int.zero_mul, Int.mul_zero, Int.one_mul, w0, wn, f0, a0, Int.add_zero, Int.zero_add] using k

theorem rep_add {α : Type} (a b : Nat) (X : List α) : (List.replicate (a + b) X).flatten = (List.replicate a X).flatten ++ (List.replicate b X).flatten := by
  rw [← List.replicate_append_replicate, List.flatten_append]

theorem Repeat_spec (p : Option Addr) (c : Nat) (n : Nat) (X : List Value) (hX : X.length = 32) (hn : 1 ≤ n ∧ n ≤ 2 ^ 20) (Q : Option Addr → Nat → Nat → H → Prop) (h : H) (hs : hsv h p 32 1 X)
    (k : ∀ b h', Ext none_ h h' → Blk h' b (List.replicate n X).flatten → h.size ≤ b → Q (some ⟨b, 0, none⟩) n n h') : F_slices_Repeat_api_Cell_api_Cell p 1 c n Q h := by
  unfold F_slices_Repeat_api_Cell_api_Cell G_slices_Repeat_api_Cell_api_Cell
  intro J7 hJ7
  rw [ltI_eq, if_neg (by simp)]
  apply hJ7
  have w1 : IntKind.u64.wrap ((1 : Nat) : Int) = 1 := wrap_u64_id (by decide)
  have wn : IntKind.u64.wrap (n : Int) = n := wrap_u64_id (by omega)
  have wi : IntKind.i64.wrap (n : Int) = n := wrap_id (by omega)
  rw [w1, wn]
  apply Mul_one _ (by omega)
  intro J12 hJ12
  rw [ltI_eq, if_neg (by simp)]
  rintro i rfl
  rw [ltI_eq, if_neg (by simp; omega)]
  apply hJ12
  simp only [wi, Int.toNat_natCast]
  refine ⟨by omega, by omega, by omega, by omega, ?_⟩
  intro b h15 hnw
  have m1 : Nat.min 1 n = 1 := Nat.min_eq_left hn.1
  simp only [m1]
  have hs' := hsv_ext hnw.ext hs (fun _ _ x => x)
  have lenr : ∀ m : Nat, (List.replicate m X).flatten.length = m * 32 := fun m => by rw [flatten_replicate_length, hX]
  refine ⟨X, hs', Or.inr ⟨_, rfl, hnw.blk.can ?_⟩, ?_⟩
  · rw [flatten_replicate_length]; simp; omega
  intro h19 e19
  intro J hJ
  have hb : h.size ≤ b := by rw [hnw.b]; exact Nat.le_refl _
  -- the block holds i copies, and something
  have main : ∀ d i h', n - i ≤ d → 1 ≤ i → i ≤ n → Ext none_ h h' → (∃ rest, rest.length = (n - i) * 32 ∧ Blk h' b ((List.replicate i X).flatten ++ rest)) → J [SV.dv (DV.one (Value.int IntKind.i64 (i : Int)))] h' := by
    intro d
    induction d with
    | zero =>
      rintro i h' hd h1 h2 hx ⟨rest, hr, kb⟩
      have : i = n := by omega
      subst this
      apply hJ
      rw [ltI_eq, if_neg (by simp)]
      have : rest = [] := List.eq_nil_of_length_eq_zero (by simp [hr])
      subst this
      exact k b h' hx (by simpa using kb) hb
    | succ d ih =>
      rintro i h' hd h1 h2 hx ⟨rest, hr, kb⟩
      apply hJ
      by_cases hin : i < n
      · rw [ltI_eq, if_pos (by simp; omega)]
        have s0 : subAddr (some (Addr.mk b 0 none)) 0 n 32 = some (Addr.mk b 0 none) := by unfold subAddr; rw [if_neg (by omega)]; simp
        have s1 : subAddr (some (Addr.mk b 0 none)) i n 32 = some (Addr.mk b (i * 32) none) := by unfold subAddr; rw [if_neg (by omega)]; simp
        simp only [Int.toNat_natCast, s0, s1, Nat.sub_zero]
        generalize hm : Nat.min i (n - i) = m
        have hm1 : m ≤ i := by rw [← hm]; exact Nat.min_le_left _ _
        have hm2 : m ≤ n - i := by rw [← hm]; exact Nat.min_le_right _ _
        have hm3 : 1 ≤ m := by rw [← hm]; exact Nat.le_min.2 ⟨h1, by omega⟩
        have spl : (List.replicate i X).flatten = (List.replicate m X).flatten ++ (List.replicate (i - m) X).flatten := by
          rw [← rep_add]; congr 2; omega
        refine ⟨by omega, by omega, by omega, by omega, (List.replicate m X).flatten, ⟨lenr m, ?_, Or.inr ⟨_, rfl, ?_⟩⟩, Or.inr ⟨_, rfl, kb.can ?_⟩, ?_⟩
        · intro v hv
          obtain ⟨l, hl, hv⟩ := List.mem_flatten.1 hv
          rw [List.eq_of_mem_replicate hl] at hv
          exact hs.2.1 v hv
        · apply kb.hcs
          intro j hj
          rw [Nat.zero_add, spl, List.append_assoc, List.getElem?_append_left hj]
        · simp [lenr, hr, hX]
          have : m * 32 ≤ (n - i) * 32 := Nat.mul_le_mul_right _ hm2
          omega
        · intro h26 e
          have w : IntKind.i64.wrap ((i : Int) + (m : Int)) = ((i + m : Nat) : Int) := by rw [wrap_id (by omega)]; omega
          rw [w]
          refine ih (i + m) h26 (by omega) (by omega) (by omega) ?_ ?_
          · rw [e]; exact hx.comp (Ext.wr h' b _ _) (by rintro x hlt rfl; omega)
          · have kw := kb.wr (i * 32) (List.replicate m X).flatten
            have e' : h26 = hwr h' ⟨b, i * 32, none⟩ (List.replicate m X).flatten := e
            rw [← e'] at kw
            refine ⟨rest.drop (m * 32), by simp [hr]; omega, ?_⟩
            have hrr : rest = rest.take (m * 32) ++ rest.drop (m * 32) := by simp
            have : splice ((List.replicate i X).flatten ++ rest) (i * 32) (List.replicate m X).flatten = (List.replicate (i + m) X).flatten ++ rest.drop (m * 32) := by
              rw [hrr, ← List.append_assoc, ← lenr i, splice_append, rep_add]
              · simp
              · simp [lenr, hr]
                have : m * 32 ≤ (n - i) * 32 := Nat.mul_le_mul_right _ hm2
                omega
            rw [this] at kw
            exact kw
      · have : i = n := by omega
        subst this
        rw [ltI_eq, if_neg (by simp)]
        have : rest = [] := List.eq_nil_of_length_eq_zero (by simp [hr])
        subst this
        exact k b h' hx (by simpa using kb) hb
  have e' : h19 = hwr h15 ⟨b, 0, none⟩ X := e19
  have kb := hnw.blk.wr 0 X
  rw [← e'] at kb
  refine main n 1 h19 (by omega) (by omega) hn.1 ?_ ⟨(List.replicate (n - 1) (ints .u8 (zeros 32))).flatten, by simp, ?_⟩
  · rw [e']; exact hnw.ext.comp (Ext.wr h15 b _ _) (by rintro x hlt rfl; omega)
  · have : splice (List.replicate n (ints .u8 (zeros 32))).flatten 0 X = (List.replicate 1 X).flatten ++ (List.replicate (n - 1) (ints .u8 (zeros 32))).flatten := by
      have e1 : (List.replicate n (ints .u8 (zeros 32))).flatten = [] ++ ints .u8 (zeros 32) ++ (List.replicate (n - 1) (ints .u8 (zeros 32))).flatten := by
        have : n = 1 + (n - 1) := by omega
        rw [this, rep_add]; simp
      rw [e1]
      have := splice_append [] (ints .u8 (zeros 32)) (List.replicate (n - 1) (ints .u8 (zeros 32))).flatten X (by simp [hX])
      simp only [List.length_nil] at this
      rw [this]; simp
    rw [this] at kb
    exact kb
end Go.Proofs.Yteabcbpimjjdpaa
end

/- Contracts: what is copied; a new chip. Own work. -/
section
set_option linter.unusedVariables false
namespace Go.Proofs.Yteabcbpimjjdpaa
open Go Go.Vc

theorem May_sp {h0 h : H} {A : List Ent} (c : Cfg) {Q : Int → H → Prop} (hs : Sat h0 A h) (k : ∀ h', Sat h0 A h' → Q c.may? h') :
    F_chip_May c.cells c.slots c.fuses c.step c.keys c.erases c.area Q h := by
  apply May_spec
  intro h' x
  have := k h' (hs.ext x)
  unfold Cfg.may? at this
  by_cases hm : c.may
  · rw [if_pos hm] at this ⊢; exact this
  · rw [if_neg hm] at this ⊢; exact this
theorem pages_sp {h0 h : H} {A : List Ent} (c : Cfg) (hm : c.may) {Q : Int → H → Prop} (hs : Sat h0 A h) (k : ∀ h', Sat h0 A h' → Q c.np h') :
    F_chip_pages c.cells c.slots c.fuses c.step c.keys c.erases c.area Q h := pages_spec c hm Q h fun h' x => k h' (hs.ext x)
theorem fuses_sp {h0 h : H} {A : List Ent} (c : Cfg) (hm : c.may) {Q : Int → H → Prop} (hs : Sat h0 A h) (k : ∀ h', Sat h0 A h' → Q c.nf h') :
    F_chip_fuses c.cells c.slots c.fuses c.step c.keys c.erases c.area Q h := fuses_spec c hm Q h fun h' x => k h' (hs.ext x)

theorem Cfg.may.np {c : Cfg} (m : c.may) : 2 ≤ c.np ∧ c.np ≤ 130 := by have := m.area; unfold Cfg.np; omega
theorem Cfg.may.nf {c : Cfg} (m : c.may) : 0 ≤ c.nf ∧ c.nf ≤ 576 := by
  have h1 := m.slots; have h2 := m.fuses; have h3 := m.keys
  have e1 : 0 ≤ c.slots * c.fuses := Int.mul_nonneg (by omega) (by omega)
  have e2 : c.slots * c.fuses ≤ 8 * 64 := Int.mul_le_mul (by omega) (by omega) (by omega) (by omega)
  unfold Cfg.nf; omega

theorem Repeat_sp {h0 h : H} {A : List Ent} (n : Nat) {k : Int} {c i b : Nat} {X : List Int} {Q : Option Addr → Nat → Nat → H → Prop} (hk : k = (n : Int)) (hs : Sat h0 A h) (m : At A i (blk b (ints .u8 X ++ []))) (hX : X.length = 32)
    (hn : 1 ≤ n ∧ n ≤ 2 ^ 20) (kk : ∀ b h', Sat h0 (sE (some ⟨b, 0, none⟩, n, n) 32 (ints .u8 (List.replicate n X).flatten) :: A) h' → Q (some ⟨b, 0, none⟩) n n h') :
    F_slices_Repeat_api_Cell_api_Cell (some ⟨b, 0, none⟩) 1 c k Q h := by
  rw [hk]
  rw [List.append_nil] at m
  refine Repeat_spec _ _ n (ints .u8 X) (by simpa using hX) hn _ _ (hs.bv m (by simpa using hX) (ints_one _ _)) ?_
  intro b' h' x kb hb
  refine kk b' h' ?_
  have e : (List.replicate n (ints .u8 X)).flatten = ints .u8 (List.replicate n X).flatten := by
    simp [ints, List.map_flatten]
  rw [e] at kb
  exact (hs.ofBlk x kb hb).as_sl (.z) (by simp [hX]) (ints_one _ _)
def blankRow (c : Cfg) : List Int := (List.replicate c.cells.toNat blankCell).flatten
def freshSt (c : Cfg) : St := ⟨List.replicate c.np.toNat (blankRow c), zeros c.np.toNat, List.replicate c.nf.toNat false⟩
def freshC (c : Cfg) : Cm := ⟨c, freshSt c, 0, false, -1, []⟩

theorem freshC_ok {c : Cfg} (hm : c.may) : (freshC c).ok := by
  have h1 := hm.np; have h2 := hm.nf; have h3 := hm.cells; have h4 := hm.slots
  refine ⟨hm, ⟨by simp [freshC, freshSt]; omega, ?_, by simp [freshC, freshSt]; omega, by simp [freshC, freshSt]; omega⟩, ⟨?_, ?_⟩, by simp [freshC], by simp [freshC], by intro n hn; simp [freshC] at hn, by simp [freshC], by simp [freshC]⟩
  · intro l hl
    rw [List.eq_of_mem_replicate hl]
    simp [blankRow, blankCell, freshC]; omega
  · intro l hl
    rw [List.eq_of_mem_replicate hl]
    intro n hn
    simp only [blankRow, List.mem_flatten, List.mem_replicate] at hn
    obtain ⟨l, ⟨_, rfl⟩, hn⟩ := hn
    have := List.eq_of_mem_replicate hn
    unfold isByte; omega
  · intro n hn
    have := List.eq_of_mem_replicate hn
    omega
theorem New_sp {h0 h : H} {A : List Ent} (c : Cfg) {Q : Option Addr → Int → H → Prop} (hs : Sat h0 A h)
    (k1 : ¬ c.may → ∀ h', Sat h0 A h' → Q none 1 h')
    (k2 : c.may → ∀ p h', Sat h0 (chipE p (freshC c) :: A) h' → Q (some ⟨p, 0, none⟩) 0 h') :
    F_chip_New c.cells c.slots c.fuses c.step c.keys c.erases c.area Q h := by
  unfold F_chip_New G_chip_New
  simp only [add_mk, Nat.zero_add]
  intro g _ hn; have hs := Sat.new hs hn; clear hn
  (repeat first | refine ⟨_, Sat.ld hs (by (repeat (first | exact At.z | apply At.s))) (by rfl), ?_⟩ | refine ⟨_, _, _, Sat.ld hs (by (repeat (first | exact At.z | apply At.s))) (by rfl), ?_⟩ | (intro _ _ hn; replace hs := Sat.new hs hn; clear hn) | refine ⟨Sat.cs hs (by (repeat (first | exact At.z | apply At.s))) (by rfl), ?_⟩ | (refine ⟨Sat.can hs (by (repeat (first | exact At.z | apply At.s))) (by simp), ?_⟩; intro _ e; replace hs := Sat.wr hs (by (repeat (first | exact At.z | apply At.s))) e; clear e; simp only [put, splice, List.set] at hs))
  refine May_sp c hs ?_
  intro h1 hs
  unfold Cfg.may?
  by_cases hm : c.may
  case neg =>
    rw [if_neg hm, if_pos (by decide)]
    exact k1 hm _ hs.drop
  rw [if_pos hm, if_neg (by decide)]
  intro J hJ
  have hnp := hm.np
  have hnf := hm.nf
  have fin : ∀ p a b h', Sat h0 (blk g c.vals :: blk b (List.replicate c.nf.toNat [Value.bool false]).flatten :: blk a (List.replicate c.np.toNat [Value.int .i64 0]).flatten ::
      blk p [.slice none 0 0, .slice (some ⟨a, 0, none⟩) c.np.toNat c.np.toNat, .slice (some ⟨b, 0, none⟩) c.nf.toNat c.nf.toNat] :: A) h' → J [SV.dv (DV.addr ⟨p, 0, none⟩)] h' := by
    intro p a b h' hs
    apply hJ
    simp only [Cfg.vals] at hs
    (repeat first | refine ⟨_, Sat.ld hs (by (repeat (first | exact At.z | apply At.s))) (by rfl), ?_⟩ | refine ⟨_, _, _, Sat.ld hs (by (repeat (first | exact At.z | apply At.s))) (by rfl), ?_⟩ | (intro _ _ hn; replace hs := Sat.new hs hn; clear hn) | refine ⟨Sat.cs hs (by (repeat (first | exact At.z | apply At.s))) (by rfl), ?_⟩ | (refine ⟨Sat.can hs (by (repeat (first | exact At.z | apply At.s))) (by simp), ?_⟩; intro _ e; replace hs := Sat.wr hs (by (repeat (first | exact At.z | apply At.s))) e; clear e; simp only [put, splice, List.set] at hs))
    refine pages_sp c hm hs ?_
    intro _ hs J38 hJ38
    have hs := hs.mat_nil 32 none
    refine loop_up c.np.toNat (fun i h => ∃ hd : Sl, hd.2.1 = i ∧ Sat h0 (matE 32 hd (List.replicate i (blankRow c)) :: blk g c.vals :: blk b (List.replicate c.nf.toNat [Value.bool false]).flatten :: blk a (List.replicate c.np.toNat [Value.int .i64 0]).flatten ::
      blk p [hd.v, .slice (some ⟨a, 0, none⟩) c.np.toNat c.np.toNat, .slice (some ⟨b, 0, none⟩) c.nf.toNat c.nf.toNat] :: A) h) ?_ ?_ 0 _ (by omega) ⟨_, rfl, hs⟩
    · rintro i h1 hi ⟨⟨hp, hl, hc⟩, e, hs⟩ hk
      simp only at e; subst e
      apply hJ38
      rw [ltI_eq, if_pos (by simp; omega)]
      simp only [Cfg.vals] at hs
      (repeat first | refine ⟨_, Sat.ld hs (by (repeat (first | exact At.z | apply At.s))) (by rfl), ?_⟩ | refine ⟨_, _, _, Sat.ld hs (by (repeat (first | exact At.z | apply At.s))) (by rfl), ?_⟩ | (intro _ _ hn; replace hs := Sat.new hs hn; clear hn) | refine ⟨Sat.cs hs (by (repeat (first | exact At.z | apply At.s))) (by rfl), ?_⟩ | (refine ⟨Sat.can hs (by (repeat (first | exact At.z | apply At.s))) (by simp), ?_⟩; intro _ e; replace hs := Sat.wr hs (by (repeat (first | exact At.z | apply At.s))) e; clear e; simp only [put, splice, List.set] at hs))
      refine blank_spec _ _ fun h2 x2 => ?_
      have hs := hs.ext x2
      (repeat first | refine ⟨_, Sat.ld hs (by (repeat (first | exact At.z | apply At.s))) (by rfl), ?_⟩ | refine ⟨_, _, _, Sat.ld hs (by (repeat (first | exact At.z | apply At.s))) (by rfl), ?_⟩ | (intro _ _ hn; replace hs := Sat.new hs hn; clear hn) | refine ⟨Sat.cs hs (by (repeat (first | exact At.z | apply At.s))) (by rfl), ?_⟩ | (refine ⟨Sat.can hs (by (repeat (first | exact At.z | apply At.s))) (by simp), ?_⟩; intro _ e; replace hs := Sat.wr hs (by (repeat (first | exact At.z | apply At.s))) e; clear e; simp only [put, splice, List.set] at hs))
      have hc' := hm.cells
      have hc'' := hm.slots
      refine Repeat_sp c.cells.toNat ?_ hs (.z) rfl ?_ ?_
      · omega
      · omega
      intro b2 h3 hs
      (repeat first | refine ⟨_, Sat.ld hs (by (repeat (first | exact At.z | apply At.s))) (by rfl), ?_⟩ | refine ⟨_, _, _, Sat.ld hs (by (repeat (first | exact At.z | apply At.s))) (by rfl), ?_⟩ | (intro _ _ hn; replace hs := Sat.new hs hn; clear hn) | refine ⟨Sat.cs hs (by (repeat (first | exact At.z | apply At.s))) (by rfl), ?_⟩ | (refine ⟨Sat.can hs (by (repeat (first | exact At.z | apply At.s))) (by simp), ?_⟩; intro _ e; replace hs := Sat.wr hs (by (repeat (first | exact At.z | apply At.s))) e; clear e; simp only [put, splice, List.set] at hs))
      refine ⟨_, Sat.bv hs (.z) (by simp) (by simp), ?_⟩
      replace hs := Sat.front hs (e := sE (some ⟨b2, 0, none⟩, _, _) 32 _) (by (repeat (first | exact At.z | apply At.s)))
      refine Sat.app_row hs (by (repeat (first | exact At.z | apply At.s))) (by dsimp only; omega) ?_
      intro p' c' h4 hs
      simp only [put, del] at hs
      (repeat first | refine ⟨_, Sat.ld hs (by (repeat (first | exact At.z | apply At.s))) (by rfl), ?_⟩ | refine ⟨_, _, _, Sat.ld hs (by (repeat (first | exact At.z | apply At.s))) (by rfl), ?_⟩ | (intro _ _ hn; replace hs := Sat.new hs hn; clear hn) | refine ⟨Sat.cs hs (by (repeat (first | exact At.z | apply At.s))) (by rfl), ?_⟩ | (refine ⟨Sat.can hs (by (repeat (first | exact At.z | apply At.s))) (by simp), ?_⟩; intro _ e; replace hs := Sat.wr hs (by (repeat (first | exact At.z | apply At.s))) e; clear e; simp only [put, splice, List.set] at hs))
      rw [wrap_succ (by omega)]
      refine hk _ ⟨(p', hl + 1, c'), rfl, ?_⟩
      replace hs := Sat.front hs (e := blk p _) (by (repeat (first | exact At.z | apply At.s)))
      replace hs := Sat.front hs (e := blk a _) (by (repeat (first | exact At.z | apply At.s)))
      replace hs := Sat.front hs (e := blk b _) (by (repeat (first | exact At.z | apply At.s)))
      replace hs := Sat.front hs (e := blk g _) (by (repeat (first | exact At.z | apply At.s)))
      replace hs := Sat.front hs (e := matE 32 _ _) (by (repeat (first | exact At.z | apply At.s)))
      simp only [del] at hs
      rw [List.replicate_succ']
      exact hs.sub (by (repeat (first | exact List.Sublist.refl _ | apply List.Sublist.cons_cons | apply List.Sublist.cons)))
    · rintro h1 ⟨⟨hp, hl, hc⟩, e, hs⟩
      apply hJ38
      rw [ltI_eq, if_neg (by simp; omega)]
      simp only [Cfg.vals] at hs
      (repeat first | refine ⟨_, Sat.ld hs (by (repeat (first | exact At.z | apply At.s))) (by rfl), ?_⟩ | refine ⟨_, _, _, Sat.ld hs (by (repeat (first | exact At.z | apply At.s))) (by rfl), ?_⟩ | (intro _ _ hn; replace hs := Sat.new hs hn; clear hn) | refine ⟨Sat.cs hs (by (repeat (first | exact At.z | apply At.s))) (by rfl), ?_⟩ | (refine ⟨Sat.can hs (by (repeat (first | exact At.z | apply At.s))) (by simp), ?_⟩; intro _ e; replace hs := Sat.wr hs (by (repeat (first | exact At.z | apply At.s))) e; clear e; simp only [put, splice, List.set] at hs))
      refine k2 hm _ _ (Sat.close ⟨(hp, hl, hc), (some ⟨a, 0, none⟩, c.np.toNat, c.np.toNat), (some ⟨b, 0, none⟩, c.nf.toNat, c.nf.toNat), (none, 0, 0)⟩ (freshC_ok hm) ?_)
      have eb : (List.replicate c.nf.toNat [Value.bool false]).flatten = bools (freshC c).s.blown := by simp [freshC, freshSt, bools]
      have ea : (List.replicate c.np.toNat [Value.int .i64 0]).flatten = ints .i64 (freshC c).s.erases := by simp [freshC, freshSt, zeros, ints]
      rw [ea, eb] at hs
      replace hs := hs.as_sl (i := 3) (l := c.nf.toNat) (sz := 1) (.s (.s (.s .z))) (by simp [freshC, freshSt]) (bools_one _)
      replace hs := hs.as_sl (i := 4) (l := c.np.toNat) (sz := 1) (.s (.s (.s (.s .z)))) (by simp [freshC, freshSt]) (ints_one _ _)
      replace hs := hs.sl_nil 1 none
      simp only [put] at hs
      replace hs := Sat.front hs (e := slE _ _ _ 1 (bools _)) (by (repeat (first | exact At.z | apply At.s)))
      replace hs := Sat.front hs (e := slE _ _ _ 1 (ints .i64 _)) (by (repeat (first | exact At.z | apply At.s)))
      replace hs := Sat.front hs (e := matE 32 _ _) (by (repeat (first | exact At.z | apply At.s)))
      replace hs := Sat.front hs (e := blk _ [_, _, _, _, _, _, _, _, _, _, _, _, _, _]) (by (repeat (first | exact At.z | apply At.s)))
      simp only [del] at hs
      exact hs.sub (by (repeat (first | exact List.Sublist.refl _ | apply List.Sublist.cons_cons | apply List.Sublist.cons)))
  repeat' (first | refine ⟨_, Sat.ld hs (by (repeat (first | exact At.z | apply At.s))) (by rfl), ?_⟩ | (intro _ _ hn; replace hs := Sat.new hs hn; clear hn) | refine ⟨Sat.cs hs (by (repeat (first | exact At.z | apply At.s))) (by rfl), ?_⟩ | (refine ⟨Sat.can hs (by (repeat (first | exact At.z | apply At.s))) (by simp), ?_⟩; intro _ e; replace hs := Sat.wr hs (by (repeat (first | exact At.z | apply At.s))) e; clear e; simp only [put, splice, List.set] at hs) | refine ⟨by omega, ?_⟩ | (refine pages_sp c hm hs ?_; intro _ hs) | (refine fuses_sp c hm hs ?_; intro _ hs) | refine And.intro ?_ ?_)
  all_goals
    replace hs := Sat.front hs (e := blk _ [Value.slice none 0 0, Value.slice (some ⟨_, 0, none⟩) _ _, Value.slice (some ⟨_, 0, none⟩) _ _]) (by (repeat (first | exact At.z | apply At.s)))
    replace hs := Sat.front hs (e := blk _ (List.replicate c.np.toNat [Value.int .i64 0]).flatten) (by (repeat (first | exact At.z | apply At.s)))
    replace hs := Sat.front hs (e := blk _ (List.replicate c.nf.toNat [Value.bool false]).flatten) (by (repeat (first | exact At.z | apply At.s)))
    replace hs := Sat.front hs (e := blk _ c.vals) (by (repeat (first | exact At.z | apply At.s)))
    exact fin _ _ _ _ hs
end Go.Proofs.Yteabcbpimjjdpaa
end

/- Contracts of the chip's methods that lay nothing into pages. Own work. -/
section
set_option linter.unusedVariables false
namespace Go.Proofs.Yteabcbpimjjdpaa
open Go Go.Vc

def askedM (C : Cm) (i n : Int) : Int := if C.out = true then 8 else if i < 0 then 2 else if n ≤ i then 2 else 0
def asksCellM (C : Cm) (page cell : Int) : Int := if askedM C page C.s.pages.length ≠ 0 then askedM C page C.s.pages.length else askedM C cell C.cfg.cells
def w64 (n : Int) : Int := IntKind.i64.wrap n
def Cm.act (C : Cm) : Cm :=
  if C.left ≠ 0 then { C with acts := w64 (C.acts + 1), left := if C.left - 1 > -1 then C.left - 1 else -1 }
  else { C with acts := w64 (C.acts + 1), out := true, left := -1, mask := [] }
/-- Which bits of each byte an act may change. -/
def maskAt (C : Cm) (i : Nat) : Int := if C.left ≠ 0 then 255 else if C.mask = [] then 0 else C.mask.getD (i % C.mask.length) 0
def errM (C : Cm) : Int := if C.left ≠ 0 then 0 else 8

theorem w64_range (n : Int) : -(2 ^ 63) ≤ w64 n ∧ w64 n < 2 ^ 63 := by unfold w64; rw [IntKind.wrap_i64]; omega
theorem Cm.ok.act {C : Cm} (k : C.ok) : C.act.ok := by
  have r := w64_range (C.acts + 1)
  have := k.left
  unfold Cm.act
  split
  · exact ⟨k.may, k.fits, k.typed, by dsimp only; split <;> omega, by have := k.left2; dsimp only; split <;> omega, k.mask, r, k.mlen⟩
  · exact ⟨k.may, k.fits, k.typed, by dsimp only; omega, by dsimp only; omega, by intro n hn; simp at hn, r, by simp⟩

theorem chip_close {h0 h : H} {A : List Ent} {i p : Nat} {C C0 : Cm} {a b c m : Sl} (ok : C.ok) (ci : At A i (chipE p C0))
    (hs : Sat h0 (blk p (C.cells a b c m) :: matE 32 a C.s.pages :: sE b 1 (ints .i64 C.s.erases) :: sE c 1 (bools C.s.blown) :: sE m 1 (ints .u8 C.mask) :: del A i) h) : Sat h0 (put A i (chipE p C)) h :=
  Sat.back ci (Sat.close ⟨a, b, c, m⟩ ok hs)
section
variable {h0 h : H} {A : List Ent} {i p : Nat} {C : Cm}
theorem Acts_sp {Q : Int → H → Prop} (hs : Sat h0 A h) (ci : At A i (chipE p C)) (k : Q C.acts h) : F_chip_Chip_Acts ⟨p, 0, none⟩ Q h := by
  unfold F_chip_Chip_Acts G_chip_Chip_Acts
  obtain ⟨w, ok, hs⟩ := (hs.front ci).open_; dsimp only [chipL, List.cons_append, List.nil_append, Cm.cells] at hs
  exact ⟨_, hs.ld .z rfl, k⟩
theorem Out_sp {Q : Bool → H → Prop} (hs : Sat h0 A h) (ci : At A i (chipE p C)) (k : Q C.out h) : F_chip_Chip_Out ⟨p, 0, none⟩ Q h := by
  unfold F_chip_Chip_Out G_chip_Chip_Out
  obtain ⟨w, ok, hs⟩ := (hs.front ci).open_; dsimp only [chipL, List.cons_append, List.nil_append, Cm.cells] at hs
  exact ⟨_, hs.ld .z rfl, k⟩
theorem Restore_sp {Q : H → Prop} (hs : Sat h0 A h) (ci : At A i (chipE p C)) (k : ∀ h', Sat h0 (put A i (chipE p { C with out := false })) h' → Q h') : F_chip_Chip_Restore ⟨p, 0, none⟩ Q h := by
  unfold F_chip_Chip_Restore G_chip_Chip_Restore
  obtain ⟨w, ok, hs⟩ := (hs.front ci).open_; dsimp only [chipL, List.cons_append, List.nil_append, Cm.cells] at hs
  simp only [add_mk, Nat.zero_add]
  (refine ⟨Sat.can hs (by (repeat (first | exact At.z | apply At.s))) (by simp), ?_⟩; intro _ e; replace hs := Sat.wr hs (by (repeat (first | exact At.z | apply At.s))) e; clear e; simp only [put, splice, List.set] at hs)
  exact k _ (chip_close ⟨ok.may, ok.fits, ok.typed, ok.left, ok.left2, ok.mask, ok.acts, ok.mlen⟩ ci hs)
theorem Config_sp {Q : Int → Int → Int → Int → Int → Int → Int → H → Prop} (hs : Sat h0 A h) (ci : At A i (chipE p C))
    (k : ∀ h', Sat h0 A h' → Q C.cfg.cells C.cfg.slots C.cfg.fuses C.cfg.step C.cfg.keys C.cfg.erases C.cfg.area h') : F_chip_Chip_Config ⟨p, 0, none⟩ Q h := by
  unfold F_chip_Chip_Config G_chip_Chip_Config
  obtain ⟨w, ok, hs⟩ := (hs.front ci).open_; dsimp only [chipL, List.cons_append, List.nil_append, Cm.cells] at hs
  simp only [add_mk, Nat.zero_add]
  (repeat first | refine ⟨_, Sat.ld hs (by (repeat (first | exact At.z | apply At.s))) (by rfl), ?_⟩ | refine ⟨_, _, _, Sat.ld hs (by (repeat (first | exact At.z | apply At.s))) (by rfl), ?_⟩ | (intro _ _ hn; replace hs := Sat.new hs hn; clear hn) | refine ⟨Sat.cs hs (by (repeat (first | exact At.z | apply At.s))) (by rfl), ?_⟩ | (refine ⟨Sat.can hs (by (repeat (first | exact At.z | apply At.s))) (by simp), ?_⟩; intro _ e; replace hs := Sat.wr hs (by (repeat (first | exact At.z | apply At.s))) e; clear e; simp only [put, splice, List.set] at hs))
  refine k _ ?_
  have := chip_close ok ci hs.drop
  rwa [ci.put_self] at this
theorem asked_b {Q : Int → H → Prop} (hs : Sat h0 A h) {a b c m : Sl} (ci : At A i (blk p (C.cells a b c m))) (n j : Int) (k : Q (askedM C j n) h) : F_chip_Chip_asked ⟨p, 0, none⟩ j n Q h := by
  unfold F_chip_Chip_asked G_chip_Chip_asked
  refine ⟨_, hs.ld ci rfl, ?_⟩
  unfold askedM at k
  simp only [ltI_eq, leI_eq, decide_eq_true_eq]
  split
  · simpa [*] using k
  · split
    · simpa [*] using k
    · split <;> simpa [*] using k
theorem asked_sp {Q : Int → H → Prop} (hs : Sat h0 A h) (ci : At A i (chipE p C)) (n j : Int) (k : Q (askedM C j n) h) : F_chip_Chip_asked ⟨p, 0, none⟩ j n Q h := by
  obtain ⟨w, ok, hs⟩ := (hs.front ci).open_; dsimp only [chipL, List.cons_append, List.nil_append, Cm.cells] at hs
  exact asked_b (C := C) hs .z n j k
theorem asksCell_sp {Q : Int → H → Prop} (hs : Sat h0 A h) (ci : At A i (chipE p C)) (page cell : Int) (k : Q (asksCellM C page cell) h) : F_chip_Chip_asksCell ⟨p, 0, none⟩ page cell Q h := by
  unfold F_chip_Chip_asksCell G_chip_Chip_asksCell
  obtain ⟨w, ok, hs⟩ := (hs.front ci).open_; dsimp only [chipL, List.cons_append, List.nil_append, Cm.cells] at hs
  have hl := (hs.rdM (.s .z)).len
  refine ⟨_, _, _, hs.ld .z rfl, ?_⟩
  unfold asksCellM at k
  rw [hl] at k
  refine asked_b (C := C) hs .z _ _ ?_
  split
  · rename_i h1; rw [if_pos (by simpa using h1)] at k; exact k
  · rename_i h1; rw [if_neg (by simpa using h1)] at k
    refine ⟨_, hs.ld .z rfl, asked_b (C := C) hs .z _ _ k⟩

def mayV (v : Value) (f : Nat → Int) : Option (Nat × Sl × List Int) → Prop
  | none => v = .func (.func id_chip_Chip_begins_1) #[] #[] ∧ f = fun _ => 255
  | some (b, _, mask) => v = .func (.func id_chip_Chip_begins_2) #[] #[.pointer (some ⟨b, 0, none⟩)] ∧ f = fun i => if mask = [] then 0 else mask.getD (i % mask.length) 0
def mayL : Option (Nat × Sl × List Int) → List Ent
  | none => []
  | some (b, m, mask) => [blk b [m.v], sE m 1 (ints .u8 mask)]
def mayE (v : Value) (f : Nat → Int) : Ent := exE 3 (mayV v f) mayL
theorem begins_sp {Q : Value → Int → H → Prop} (hs : Sat h0 A h) (ci : At A i (chipE p C))
    (k : ∀ v h', Sat h0 (mayE v (maskAt C) :: put A i (chipE p C.act)) h' → Q v (errM C) h') : F_chip_Chip_begins ⟨p, 0, none⟩ Q h := by
  unfold F_chip_Chip_begins G_chip_Chip_begins
  obtain ⟨w, ok, hs⟩ := (hs.front ci).open_; dsimp only [chipL, List.cons_append, List.nil_append, Cm.cells] at hs
  simp only [add_mk, Nat.zero_add]
  (repeat first | refine ⟨_, Sat.ld hs (by (repeat (first | exact At.z | apply At.s))) (by rfl), ?_⟩ | refine ⟨_, _, _, Sat.ld hs (by (repeat (first | exact At.z | apply At.s))) (by rfl), ?_⟩ | (intro _ _ hn; replace hs := Sat.new hs hn; clear hn) | refine ⟨Sat.cs hs (by (repeat (first | exact At.z | apply At.s))) (by rfl), ?_⟩ | (refine ⟨Sat.can hs (by (repeat (first | exact At.z | apply At.s))) (by simp), ?_⟩; intro _ e; replace hs := Sat.wr hs (by (repeat (first | exact At.z | apply At.s))) e; clear e; simp only [put, splice, List.set] at hs))
  have hl := ok.left
  have ha := ok.act
  by_cases h1 : C.left = 0
  · rw [if_neg (by simp [h1])]
    (repeat first | refine ⟨_, Sat.ld hs (by (repeat (first | exact At.z | apply At.s))) (by rfl), ?_⟩ | refine ⟨_, _, _, Sat.ld hs (by (repeat (first | exact At.z | apply At.s))) (by rfl), ?_⟩ | (intro _ _ hn; replace hs := Sat.new hs hn; clear hn) | refine ⟨Sat.cs hs (by (repeat (first | exact At.z | apply At.s))) (by rfl), ?_⟩ | (refine ⟨Sat.can hs (by (repeat (first | exact At.z | apply At.s))) (by simp), ?_⟩; intro _ e; replace hs := Sat.wr hs (by (repeat (first | exact At.z | apply At.s))) e; clear e; simp only [put, splice, List.set] at hs))
    have e : errM C = 8 := by simp [errM, h1]
    rw [e] at k
    have em : maskAt C = fun i => if C.mask = [] then 0 else C.mask.getD (i % C.mask.length) 0 := by funext i; simp [maskAt, h1]
    have ea : C.act = { C with acts := w64 (C.acts + 1), out := true, left := -1, mask := [] } := by simp [Cm.act, h1]
    rw [em] at k
    rw [ea] at k ha
    refine k _ _ ?_
    replace hs := Sat.front hs (e := slE _ _ _ 1 (ints .u8 C.mask)) (by (repeat (first | exact At.z | apply At.s)))
    replace hs := Sat.front hs (e := blk _ [w.m.v]) (by (repeat (first | exact At.z | apply At.s)))
    replace hs := hs.sl_nil 1 none
    replace hs := Sat.front hs (e := slE _ _ _ 1 (ints .u8 [])) (by (repeat (first | exact At.z | apply At.s))); replace hs := Sat.front hs (e := slE _ _ _ 1 (bools _)) (by (repeat (first | exact At.z | apply At.s))); replace hs := Sat.front hs (e := slE _ _ _ 1 (ints .i64 _)) (by (repeat (first | exact At.z | apply At.s))); replace hs := Sat.front hs (e := matE 32 _ _) (by (repeat (first | exact At.z | apply At.s))); replace hs := Sat.front hs (e := blk p _) (by (repeat (first | exact At.z | apply At.s))); simp only [del] at hs
    exact Sat.close (some (_, w.m, C.mask)) ⟨rfl, rfl⟩ (chip_close (a := w.a) (b := w.b) (c := w.c) (m := (none, 0, 0)) ha ci.s.s hs)
  · rw [if_pos (by simp [h1])]
    (repeat first | refine ⟨_, Sat.ld hs (by (repeat (first | exact At.z | apply At.s))) (by rfl), ?_⟩ | refine ⟨_, _, _, Sat.ld hs (by (repeat (first | exact At.z | apply At.s))) (by rfl), ?_⟩ | (intro _ _ hn; replace hs := Sat.new hs hn; clear hn) | refine ⟨Sat.cs hs (by (repeat (first | exact At.z | apply At.s))) (by rfl), ?_⟩ | (refine ⟨Sat.can hs (by (repeat (first | exact At.z | apply At.s))) (by simp), ?_⟩; intro _ e; replace hs := Sat.wr hs (by (repeat (first | exact At.z | apply At.s))) e; clear e; simp only [put, splice, List.set] at hs))
    have e : errM C = 0 := by simp [errM, h1]
    rw [e] at k
    have em : maskAt C = fun i => 255 := by funext i; simp [maskAt, h1]
    have hw : IntKind.i64.wrap (C.left - 1) = C.left - 1 := by
      have := ok.left2
      rw [IntKind.wrap_i64]; omega
    have ea : C.act = { C with acts := w64 (C.acts + 1), left := if C.left - 1 > -1 then C.left - 1 else -1 } := by simp [Cm.act, h1]
    rw [em] at k
    rw [ea] at k ha
    rw [hw] at hs
    refine k _ _ ?_
    exact Sat.close none ⟨rfl, rfl⟩ (chip_close ha ci hs)
theorem call_may {v : Value} {f : Nat → Int} {Q : List DV → H → Prop} (hs : Sat h0 A h) (mm : At A i (mayE v f)) (n : Nat) {x : Int} (hx : x = n) (k : Q [DV.one (.int .u8 (f n))] h) : callFn PP v [DV.one (.int .i64 x)] Q h := by
  obtain ⟨w, e, hs⟩ := (hs.front mm).open_
  subst hx
  cases w with
  | none =>
    obtain ⟨rfl, rfl⟩ := e
    refine callFn_of R_chip_Chip_begins_1 (by simp) (by simp) (by simp [DV.ok]) ?_
    show F_chip_Chip_begins_1 (n : Int) (fun i h => Q [DV.one (.int .u8 i)] h) h
    unfold F_chip_Chip_begins_1 G_chip_Chip_begins_1
    exact k
  | some w =>
    obtain ⟨b, m, mask⟩ := w
    obtain ⟨rfl, rfl⟩ := e
    refine callFn_of R_chip_Chip_begins_2 (by simp) (by simp) (by simp [DV.ok]) ?_
    show F_chip_Chip_begins_2 (n : Int) ⟨b, 0, none⟩ (fun i h => Q [DV.one (.int .u8 i)] h) h
    unfold F_chip_Chip_begins_2 G_chip_Chip_begins_2
    replace hs : Sat h0 (blk b [m.v] :: sE m 1 (ints .u8 mask) :: del A i) h := hs
    dsimp only at k ⊢
    have hl := hs.sl_len (.s .z)
    simp only [ints_length, Nat.mul_one] at hl
    refine ⟨_, _, _, hs.ld .z rfl, ?_⟩
    by_cases h1 : mask = []
    · rw [if_pos h1] at k
      subst h1
      rw [if_pos (by simp at hl; simp [← hl])]
      exact k
    · rw [if_neg h1] at k
      have hp : 0 < mask.length := List.length_pos_iff.2 h1
      rw [if_neg (by simp; omega)]
      refine ⟨_, _, _, hs.ld .z rfl, ?_⟩
      refine ⟨_, _, _, hs.ld .z rfl, ?_⟩
      obtain ⟨q, hq⟩ := hs.sl_some (.s .z) (by omega)
      obtain ⟨mp, ml, mc⟩ := m
      simp only at hq hl
      subst hq
      have e : (n : Int).tmod (ml : Int) = ((n % ml : Nat) : Int) := by rw [Int.tmod_eq_emod_of_nonneg (by omega)]; omega
      rw [hl] at k
      have hlt : n % ml < ml := Nat.mod_lt _ (by omega)
      refine ⟨by dsimp only; omega, _, rfl, by dsimp only; rw [e]; omega, by dsimp only; rw [e]; omega, _, ?_, k⟩
      dsimp only
      rw [e]
      simp only [add_mk, Nat.zero_add, Int.toNat_natCast, Nat.mul_one]
      refine hs.sld (.s .z) ?_
      rw [ints_get, List.getElem?_eq_getElem (by omega)]
      simp [List.getD, List.getElem?_eq_getElem (show n % ml < mask.length by omega)]

theorem askedM_zero {i n : Int} (e : askedM C i n = 0) : C.out = false ∧ 0 ≤ i ∧ i < n := by
  unfold askedM at e
  split at e
  · omega
  · rename_i h1
    split at e
    · omega
    · split at e
      · omega
      · exact ⟨by simpa using h1, by omega, by omega⟩
def erasesM (C : Cm) (i : Int) : Int × Int := if askedM C i C.s.pages.length ≠ 0 then (0, askedM C i C.s.pages.length) else (C.s.erases.getD i.toNat 0, 0)
theorem Erases_sp {Q : Int → Int → H → Prop} (hs : Sat h0 A h) (ci : At A i (chipE p C)) (j : Int) (k : Q (erasesM C j).1 (erasesM C j).2 h) : F_chip_Chip_Erases ⟨p, 0, none⟩ j Q h := by
  unfold F_chip_Chip_Erases G_chip_Chip_Erases
  have hs' := hs
  obtain ⟨w, ok, hs⟩ := (hs.front ci).open_; dsimp only [chipL, List.cons_append, List.nil_append, Cm.cells] at hs
  simp only [add_mk, Nat.zero_add]
  have hl := hs.sl_len (i := 2) (.s (.s .z))
  simp only [ints_length, Nat.mul_one] at hl
  have hl1 := (hs.rdM (.s .z)).len
  have hf := ok.fits
  have hnp := hf.pages
  have hne := hf.erases
  refine ⟨_, _, _, hs.ld .z rfl, ?_⟩
  rw [← hl1]
  refine asked_sp hs' ci _ _ ?_
  unfold erasesM at k
  by_cases h1 : askedM C j C.s.pages.length = 0
  · rw [if_neg (by simpa using h1)]
    rw [if_neg (by simpa using h1)] at k
    obtain ⟨_, h2, h3⟩ := askedM_zero h1
    refine ⟨_, _, _, hs.ld .z rfl, ?_⟩
    obtain ⟨q, hq⟩ := hs.sl_some (i := 2) (.s (.s .z)) (by omega)
    obtain ⟨w1, ⟨cp, cl, cc⟩, w2, w4⟩ := w
    simp only at hq hl
    subst hq
    refine ⟨_, rfl, h2, by simp only; omega, _, ?_, k⟩
    simp only [add_mk, Nat.zero_add, Nat.mul_one]
    refine hs.sld (i := 2) (.s (.s .z)) ?_
    rw [ints_get, List.getElem?_eq_getElem (by omega)]
    simp [List.getD, List.getElem?_eq_getElem (show j.toNat < C.s.erases.length by omega)]
  · rw [if_pos (by simpa using h1)]
    rw [if_pos (by simpa using h1)] at k
    exact k
def cutM (C : Cm) (n : Int) (mask : List Int) : Cm := { C with left := if n > -1 then n else -1, mask := mask }
theorem Cut_sp {Q : H → Prop} {q : Option Addr} {l c : Nat} {bs : List Int} (hs : Sat h0 A h) (ci : At A i (chipE p C)) (n : Int) (hn : n < 2 ^ 63) (rd : hsv h q 1 l (ints .u8 bs)) (hb : bytesOk bs) (hl : l * 1 ≤ 2 ^ 47)
    (k : ∀ h', Sat h0 (put A i (chipE p (cutM C n bs))) h' → Q h') : F_chip_Chip_Cut ⟨p, 0, none⟩ n q l c Q h := by
  unfold F_chip_Chip_Cut G_chip_Chip_Cut
  obtain ⟨w, ok, hs⟩ := (hs.front ci).open_; dsimp only [chipL, List.cons_append, List.nil_append, Cm.cells] at hs
  simp only [add_mk, Nat.zero_add]
  refine Clone_bytes_spec q l c _ _ h rd hl ?_
  intro p' c' h' bs' x o nb
  replace hs := hs.own x o nb
  (repeat first | refine ⟨_, Sat.ld hs (by (repeat (first | exact At.z | apply At.s))) (by rfl), ?_⟩ | refine ⟨_, _, _, Sat.ld hs (by (repeat (first | exact At.z | apply At.s))) (by rfl), ?_⟩ | (intro _ _ hn; replace hs := Sat.new hs hn; clear hn) | refine ⟨Sat.cs hs (by (repeat (first | exact At.z | apply At.s))) (by rfl), ?_⟩ | (refine ⟨Sat.can hs (by (repeat (first | exact At.z | apply At.s))) (by simp), ?_⟩; intro _ e; replace hs := Sat.wr hs (by (repeat (first | exact At.z | apply At.s))) e; clear e; simp only [put, splice, List.set] at hs))
  refine k _ ?_
  have okc : (cutM C n bs).ok := ⟨ok.may, ok.fits, ok.typed, by simp only [cutM]; split <;> omega, by simp only [cutM]; split <;> omega, hb, ok.acts, by have := rd.1; simp at this; simp only [cutM]; omega⟩
  replace hs := Sat.front hs (e := slE _ _ _ 1 (ints .u8 bs)) (by (repeat (first | exact At.z | apply At.s))); replace hs := Sat.front hs (e := slE _ _ _ 1 (bools _)) (by (repeat (first | exact At.z | apply At.s))); replace hs := Sat.front hs (e := slE _ _ _ 1 (ints .i64 _)) (by (repeat (first | exact At.z | apply At.s))); replace hs := Sat.front hs (e := matE 32 _ _) (by (repeat (first | exact At.z | apply At.s))); replace hs := Sat.front hs (e := blk p _) (by (repeat (first | exact At.z | apply At.s))); simp only [del] at hs
  exact (chip_close (C := cutM C n bs) (a := w.a) (b := w.b) (c := w.c) (m := (p', l, c')) okc ci.s hs).drop
end
end Go.Proofs.Yteabcbpimjjdpaa
end

/- Contracts of the chip's Read, Program, Erase. Own work. -/
section
set_option linter.unusedVariables false
namespace Go.Proofs.Yteabcbpimjjdpaa
open Go Go.Vc

section
variable {h0 h : H} {A : List Ent} {i p : Nat} {C : Cm}
theorem asksCellM_zero {page cell : Int} (ok : C.ok) (e : asksCellM C page cell = 0) : C.out = false ∧ 0 ≤ page ∧ page < C.s.pages.length ∧ 0 ≤ cell ∧ cell < C.cfg.cells ∧
    ∃ hj : page.toNat < C.s.pages.length, (C.s.pages[page.toNat].length : Int) = 32 * C.cfg.cells ∧ (cell.toNat + 1) * 32 ≤ C.s.pages[page.toNat].length := by
  unfold asksCellM at e
  split at e
  · rename_i h1; exact absurd e h1
  · rename_i h1
    have h1 : askedM C page C.s.pages.length = 0 := by simpa using h1
    obtain ⟨h2, h3, h4⟩ := askedM_zero h1
    obtain ⟨_, h5, h6⟩ := askedM_zero e
    have hj : page.toNat < C.s.pages.length := by omega
    have hl := ok.fits.cells _ (List.getElem_mem hj)
    exact ⟨h2, h3, h4, h5, h6, hj, hl, by omega⟩
def readM (C : Cm) (page cell : Int) : List Int × Int :=
  if asksCellM C page cell ≠ 0 then (zeros 32, asksCellM C page cell) else (cellAt (C.s.pages.getD page.toNat []) cell.toNat, 0)
theorem Read_sp {Q : List Int → Int → H → Prop} (hs : Sat h0 A h) (ci : At A i (chipE p C)) (page cell : Int) (k : ∀ h', Sat h0 A h' → Q (readM C page cell).1 (readM C page cell).2 h') :
    F_chip_Chip_Read ⟨p, 0, none⟩ page cell Q h := by
  unfold F_chip_Chip_Read G_chip_Chip_Read
  simp only [add_mk, Nat.zero_add, List.append_nil]
  (intro _ _ hn; replace hs := Sat.new hs hn; clear hn)
  refine asksCell_sp hs (ci.s) _ _ ?_
  unfold readM at k
  by_cases h1 : asksCellM C page cell = 0
  case neg =>
    rw [if_pos (by simpa using h1)]
    rw [if_pos (by simpa using h1)] at k
    (refine ⟨Sat.can hs (by (repeat (first | exact At.z | apply At.s))) (by simp), ?_⟩; intro _ e; replace hs := Sat.wra hs (by (repeat (first | exact At.z | apply At.s))) e (by simp [*]); clear e; simp only [put] at hs)
    refine ⟨_, ?_, hs.row0 (by (repeat (first | exact At.z | apply At.s))), ?_⟩
    · simp
    exact k _ hs.drop
  rw [if_neg (by simpa using h1)]
  rw [if_neg (by simpa using h1)] at k
  have hs' := hs
  obtain ⟨w, ok, hs⟩ := (hs.front ci.s).open_
  obtain ⟨_, h2, h3, h4, h5, hj, hl, hk⟩ := asksCellM_zero ok h1
  dsimp only [chipL, List.cons_append, List.nil_append, Cm.cells] at hs
  refine ⟨_, _, _, hs.ld .z rfl, ?_⟩
  have rd := hs.rdM (.s .z)
  have hlen := rd.len
  obtain ⟨q, x, q', e1, e2, e3, e4, e5⟩ := rd.cell hj hk
  rw [e1]
  refine ⟨_, rfl, h2, by (try dsimp only); omega, ?_⟩
  refine ⟨_, _, _, e2, ?_⟩
  refine ⟨_, e4, h4, by omega, ?_⟩
  refine ⟨_, cellAt_length hk, e5, ?_⟩
  replace hs := hs'
  have hcl := cellAt_length hk
  (refine ⟨Sat.can hs (by (repeat (first | exact At.z | apply At.s))) (by simp), ?_⟩; intro _ e; replace hs := Sat.wra hs (by (repeat (first | exact At.z | apply At.s))) e (by simp [*]); clear e; simp only [put] at hs)
  refine ⟨_, ?_, hs.row0 (by (repeat (first | exact At.z | apply At.s))), ?_⟩
  · exact hcl
  have : C.s.pages.getD page.toNat [] = C.s.pages[page.toNat] := by simp [List.getD, List.getElem?_eq_getElem hj]
  rw [this] at k
  exact k _ hs.drop

def progCell (old x : List Int) (f : Nat → Int) : List Int := mapTo (fun i now => bits .andNot .u8 now (bits .andNot .u8 (f i) (x.getD i 0))) 32 old
def Cm.setPage (C : Cm) (j : Nat) (row : List Int) : Cm := { C with s := { C.s with pages := C.s.pages.set j row } }
def rowOf (C : Cm) (page : Int) : List Int := C.s.pages.getD page.toNat []
def programM (C : Cm) (page cell : Int) (x : List Int) : Cm × Int :=
  if asksCellM C page cell ≠ 0 then (C, asksCellM C page cell)
  else (C.act.setPage page.toNat (rowSet (rowOf C page) cell.toNat (progCell (cellAt (rowOf C page) cell.toNat) x (maskAt C))), errM C)
theorem act_s (C : Cm) : C.act.s = C.s := by unfold Cm.act; split <;> rfl
theorem act_cfg (C : Cm) : C.act.cfg = C.cfg := by unfold Cm.act; split <;> rfl
theorem byte_bits (op : BinOp) (a b : Int) : isByte (bits op .u8 a b) := by
  have h1 := bits_lo_u8 op a b; have h2 := bits_hi_u8 op a b
  unfold isByte; omega
theorem Cm.ok.setPage {C : Cm} (ok : C.ok) {j : Nat} {row : List Int} (hl : (row.length : Int) = 32 * C.cfg.cells) (hb : bytesOk row) : (C.setPage j row).ok := by
  refine ⟨ok.may, ⟨by simpa [Cm.setPage] using ok.fits.pages, ?_, ok.fits.erases, ok.fits.blown⟩, ⟨?_, ok.typed.erases⟩, ok.left, ok.left2, ok.mask, ok.acts, ok.mlen⟩
  · intro l hm
    rcases List.mem_or_eq_of_mem_set hm with hm | hm
    · exact ok.fits.cells l hm
    · rw [hm]; exact hl
  · intro l hm
    rcases List.mem_or_eq_of_mem_set hm with hm | hm
    · exact ok.typed.bytes l hm
    · rw [hm]; exact hb
theorem mapTo_mem {g : Nat → Int → Int} {n : Nat} {ns : List Int} {P : Int → Prop} (h1 : ∀ v, v ∈ ns → P v) (h2 : ∀ i v, v ∈ ns → P (g i v)) : ∀ v, v ∈ mapTo g n ns → P v := by
  intro v hv
  obtain ⟨i, hi⟩ := List.mem_iff_getElem?.1 hv
  rw [mapTo_get] at hi
  cases e : ns[i]? with
  | none => rw [e] at hi; simp at hi
  | some u =>
    rw [e] at hi
    have hu : u ∈ ns := List.mem_iff_getElem?.2 ⟨i, e⟩
    simp only [Option.map_some, Option.some.injEq] at hi
    rw [← hi]; split
    · exact h2 _ _ hu
    · exact h1 _ hu
theorem cellAt_mem {row : List Int} {k : Nat} {v : Int} (h : v ∈ cellAt row k) : v ∈ row := List.mem_of_mem_drop (List.mem_of_mem_take h)
theorem rowSet_mem {row c : List Int} {k : Nat} {v : Int} (h : v ∈ rowSet row k c) : v ∈ row ∨ v ∈ c := by
  simp only [rowSet, List.mem_append] at h
  rcases h with (h | h) | h
  · exact Or.inl (List.mem_of_mem_take h)
  · exact Or.inr h
  · exact Or.inl (List.mem_of_mem_drop h)

theorem Program_sp {Q : Int → H → Prop} (hs : Sat h0 A h) (ci : At A i (chipE p C)) (page cell : Int) (x : List Int) (hx : x.length = 32) (k : ∀ h', Sat h0 (put A i (chipE p (programM C page cell x).1)) h' → Q (programM C page cell x).2 h') :
    F_chip_Chip_Program ⟨p, 0, none⟩ page cell x Q h := by
  unfold F_chip_Chip_Program G_chip_Chip_Program
  simp only [add_mk, Nat.zero_add, List.append_nil]
  intro nx _ hn
  replace hs := Sat.new hs hn
  clear hn
  refine asksCell_sp hs (ci.s) _ _ ?_
  unfold programM at k
  by_cases h1 : asksCellM C page cell = 0
  case neg =>
    rw [if_pos (by simpa using h1)]
    rw [if_pos (by simpa using h1)] at k
    exact k _ (ci.put_self.symm ▸ hs.drop)
  rw [if_neg (by simpa using h1)]
  rw [if_neg (by simpa using h1)] at k
  obtain ⟨w0, ok, _⟩ := (hs.front ci.s).open_
  obtain ⟨_, h2, h3, h4, h5, hj, hl, hk⟩ := asksCellM_zero ok h1
  have erow : rowOf C page = C.s.pages[page.toNat] := by simp [rowOf, List.getD, List.getElem?_eq_getElem hj]
  rw [erow] at k
  refine begins_sp hs ci.s ?_
  intro v h6 hs
  simp only [put_succ] at hs
  have ci2 := ((ci.put (chipE p C.act)).s (x := blk nx (ints .u8 x))).s (x := mayE v (maskAt C))
  have hsO := (hs.front ci2).open_
  obtain ⟨w, ok', hsO⟩ := hsO
  dsimp only [chipL, List.cons_append, List.nil_append, Cm.cells] at hsO
  rw [act_s] at hsO
  refine ⟨_, _, _, hsO.ld .z rfl, ?_⟩
  have rd := hsO.rdM (.s .z)
  have hlen := rd.len
  obtain ⟨q, y, q', e1, e2, e3, e4, e5⟩ := rd.cell hj hk
  rw [e1]
  refine ⟨_, rfl, h2, by (try dsimp only); omega, ?_⟩
  refine ⟨_, _, _, e2, ?_⟩
  refine ⟨_, e4, h4, by omega, ?_⟩
  have hcl := cellAt_length hk
  refine ⟨_, hcl, e5, ?_⟩
  intro no _ hn
  replace hs := Sat.new hs hn
  clear hn
  (refine ⟨Sat.can hs (by (repeat (first | exact At.z | apply At.s))) (by simp), ?_⟩; intro _ e; replace hs := Sat.wra hs (by (repeat (first | exact At.z | apply At.s))) e (by simp [*]); clear e; simp only [put] at hs)
  refine ⟨_, ?_, hs.row0 (by (repeat (first | exact At.z | apply At.s))), ?_⟩
  · exact hcl
  intro nn _ hn
  replace hs := Sat.new hs hn
  clear hn
  (refine ⟨Sat.can hs (by (repeat (first | exact At.z | apply At.s))) (by simp), ?_⟩; intro _ e; replace hs := Sat.wra hs (by (repeat (first | exact At.z | apply At.s))) e (by simp [*]); clear e; simp only [put] at hs)
  intro J hJ
  generalize hold : cellAt C.s.pages[page.toNat] cell.toNat = old at *
  let g := fun (i : Nat) (now : Int) => bits .andNot .u8 now (bits .andNot .u8 (maskAt C i) (x.getD i 0))
  refine loop_up 32 (fun i h => Sat h0 (blk nn (ints .u8 (mapTo g i old)) :: blk no (ints .u8 old) :: mayE v (maskAt C) :: blk nx (ints .u8 x) :: put A _ (chipE p C.act)) h) ?_ ?_ 0 _ (by omega) (by simpa using hs)
  · intro j h7 hjl hs hk'
    apply hJ
    rw [ltI_eq, if_pos (by simp; omega)]
    simp only [Int.toNat_natCast, Nat.mul_one]
    have hmj : j < (mapTo g j old).length := by simp; omega
    have eg : (mapTo g j old)[j] = old[j] := by
      have := mapTo_get g j old j
      rw [List.getElem?_eq_getElem hmj, List.getElem?_eq_getElem (by omega)] at this
      simpa using this
    refine ⟨by omega, by omega, _, hs.ld .z (by rw [ints_get, List.getElem?_eq_getElem hmj]; rfl), by omega, by omega, _, hs.ld (.s (.s (.s .z))) (by rw [ints_get, List.getElem?_eq_getElem (by omega)]; rfl), ?_⟩
    refine call_may hs (.s (.s .z)) j rfl ?_
    refine ⟨_, _, rfl, _, rfl, rfl, hcs_one (hs.ld (.s (.s (.s .z))) (by rw [ints_get, List.getElem?_eq_getElem (by omega)]; rfl)), hcs_one (hs.ld .z (by rw [ints_get, List.getElem?_eq_getElem hmj]; rfl)), by omega, by omega, hs.can .z (by simp; omega), ?_⟩
    intro h8 e8
    replace hs := hs.wr .z e8
    rw [wrap_succ (by omega)]
    refine hk' _ ?_
    simp only [splice_cons, splice_nil, ints_set, put] at hs
    have e9 := mapTo_succ g j old (by omega)
    rw [← e9]
    have e10 : x.getD j 0 = x[j] := by simp [List.getD, List.getElem?_eq_getElem (show j < x.length by omega)]
    rw [eg] at hs
    simpa only [g, e10] using hs
  · intro h7 hs
    apply hJ
    rw [ltI_eq, if_neg (by simp)]
    have hnl : (mapTo g 32 old).length = 32 := by simpa using hcl
    refine ⟨_, ?_, hs.row0 (by (repeat (first | exact At.z | apply At.s))), ?_⟩
    · exact hnl
    refine ⟨_, hcl, hs.row0 (.s .z), ?_⟩
    have ci3 := (ci2.s (x := blk no (ints .u8 old))).s (x := blk nn (ints .u8 (mapTo g 32 old)))
    obtain ⟨w', _, hsO⟩ := (hs.front ci3).open_
    dsimp only [chipL, List.cons_append, List.nil_append, Cm.cells] at hsO
    rw [act_s] at hsO
    have hrow : (C.s.pages[page.toNat].length : Int) = 32 * C.act.cfg.cells := by rw [act_cfg]; exact hl
    have ok2 := ok'.setPage (j := page.toNat) (row := rowSet C.s.pages[page.toNat] cell.toNat (mapTo g 32 old)) (by rw [rowSet_length hk hnl]; exact hrow) (by
      intro n hn
      rcases rowSet_mem hn with hn | hn
      · exact ok.typed.bytes _ (List.getElem_mem hj) n hn
      · refine mapTo_mem (P := isByte) (fun v hv => ?_) (fun i v hv => byte_bits _ _ _) n hn
        rw [← hold] at hv
        exact ok.typed.bytes _ (List.getElem_mem hj) v (cellAt_mem hv))
    split
    case isTrue hne =>
      refine ⟨_, _, _, hsO.ld .z rfl, ?_⟩
      have hl1 := (hsO.rdM (.s .z)).len
      obtain ⟨y', hd, R, e6, hsT, give⟩ := (hsO.front (.s .z)).row_take hj
      obtain ⟨⟨wp, wl, wc⟩, wb, wc', wm⟩ := w'
      dsimp only at hl1 hsT give
      have hl2 : C.s.pages.length = wl := hl1
      obtain ⟨qb, hq⟩ := hsT.sl_some (.s .z) (show 0 < wl by omega)
      subst hq
      refine ⟨_, rfl, h2, by dsimp only; omega, ?_⟩
      simp only [add_mk, Nat.zero_add, Nat.mul_one]
      refine ⟨_, _, _, hsT.sld (.s .z) e6, ?_⟩
      refine ⟨_, ?_, hs.row0 (by (repeat (first | exact At.z | apply At.s))), ?_⟩
      · exact hnl
      have hyl := hsT.sl_len .z
      simp only [ints_length] at hyl
      obtain ⟨yp, yl, yc⟩ := y'
      dsimp only at hyl
      obtain ⟨yb, hy⟩ := hsT.sl_some .z (by dsimp only; omega)
      dsimp only at hy
      subst hy
      refine ⟨_, rfl, h4, by dsimp only; omega, ?_⟩
      simp only [add_mk, Nat.zero_add]
      refine ⟨hsT.scan .z (by dsimp only; omega) (by simp; omega), ?_⟩
      intro h8 e8
      have hsW := hsT.swr .z e8 (by dsimp only; omega) (by simp [hcl]; omega) (ints_one _ _)
      rw [splice_rowSet hk hnl] at hsW
      have hsG := give _ _ _ hsW
      have hsC := chip_close (a := (some ⟨qb, 0, none⟩, wl, wc)) (b := wb) (c := wc') (m := wm) ok2 ci3 (by rw [Cm.setPage, act_s]; exact hsG.front (.s .z))
      simp only [put_succ, put_put] at hsC
      exact k _ hsC.drop.drop.drop.drop
    case isFalse hne =>
      have hne : mapTo g 32 old = old := by simpa using hne
      replace hne : progCell old x (maskAt C) = old := hne
      have e1 : rowSet C.s.pages[page.toNat] cell.toNat (cellAt C.s.pages[page.toNat] cell.toNat) = C.s.pages[page.toNat] := by
        unfold rowSet cellAt
        rw [List.append_assoc, ← List.drop_drop, List.take_append_drop, List.take_append_drop]
      have e2 : C.act.setPage page.toNat C.s.pages[page.toNat] = C.act := by
        have : C.act.s.pages.set page.toNat C.s.pages[page.toNat] = C.act.s.pages := by rw [act_s]; exact List.set_getElem_self hj
        unfold Cm.setPage; rw [this]
      rw [hne, ← hold, e1, e2] at k
      exact k _ hs.drop.drop.drop.drop

def eraseRow (row : List Int) (f : Nat → Int) : List Int := mapTo (fun i b => bits .or .u8 b (f i)) row.length row
def Cm.setErase (C : Cm) (j : Nat) (n : Int) : Cm := { C with s := { C.s with erases := C.s.erases.set j n } }
def eraseM (C : Cm) (page : Int) : Cm × Int :=
  if askedM C page C.s.pages.length ≠ 0 then (C, askedM C page C.s.pages.length)
  else if C.cfg.erases ≤ C.s.erases.getD page.toNat 0 then (C, 9)
  else ((C.act.setErase page.toNat (C.s.erases.getD page.toNat 0 + 1)).setPage page.toNat (eraseRow (rowOf C page) (maskAt C)), errM C)
theorem Cm.ok.setErase {C : Cm} (ok : C.ok) {j : Nat} {n : Int} (hn : -(2 ^ 63) ≤ n ∧ n < 2 ^ 63) : (C.setErase j n).ok := by
  refine ⟨ok.may, ⟨ok.fits.pages, ok.fits.cells, by simpa [Cm.setErase] using ok.fits.erases, ok.fits.blown⟩, ⟨ok.typed.bytes, ?_⟩, ok.left, ok.left2, ok.mask, ok.acts, ok.mlen⟩
  intro l hm
  rcases List.mem_or_eq_of_mem_set hm with hm | hm
  · exact ok.typed.erases l hm
  · rw [hm]; exact hn
/-- The first i entries of a row mapped, in place. -/
theorem mapTo_out {g : Nat → Int → Int} {i j : Nat} {ns : List Int} (h : i ≤ j) (hj : j < ns.length) : (mapTo g i ns)[j]? = some ns[j] := by
  rw [mapTo_get, List.getElem?_eq_getElem hj]; simp; omega

theorem Erase_sp {Q : Int → H → Prop} (hs : Sat h0 A h) (ci : At A i (chipE p C)) (page : Int) (k : ∀ h', Sat h0 (put A i (chipE p (eraseM C page).1)) h' → Q (eraseM C page).2 h') :
    F_chip_Chip_Erase ⟨p, 0, none⟩ page Q h := by
  unfold F_chip_Chip_Erase G_chip_Chip_Erase
  simp only [add_mk, Nat.zero_add]
  have hs' := hs
  obtain ⟨w, ok, hs⟩ := (hs.front ci).open_; dsimp only [chipL, List.cons_append, List.nil_append, Cm.cells] at hs
  have hlp := (hs.rdM (.s .z)).len
  have hle := hs.sl_len (i := 2) (.s (.s .z))
  simp only [ints_length, Nat.mul_one] at hle
  refine ⟨_, _, _, hs.ld .z rfl, ?_⟩
  rw [← hlp]
  refine asked_sp hs' ci _ _ ?_
  unfold eraseM at k
  by_cases h1 : askedM C page C.s.pages.length = 0
  case neg =>
    rw [if_pos (by simpa using h1)]
    rw [if_pos (by simpa using h1)] at k
    exact k _ (ci.put_self.symm ▸ hs')
  rw [if_neg (by simpa using h1)]
  rw [if_neg (by simpa using h1)] at k
  obtain ⟨_, h2, h3⟩ := askedM_zero h1
  have hf1 := ok.fits.pages
  have hf2 := ok.fits.erases
  have hje : page.toNat < C.s.erases.length := by omega
  have hjp : page.toNat < C.s.pages.length := by omega
  have eer : C.s.erases.getD page.toNat 0 = C.s.erases[page.toNat] := by simp [List.getD, List.getElem?_eq_getElem hje]
  have erow : rowOf C page = C.s.pages[page.toNat] := by simp [rowOf, List.getD, List.getElem?_eq_getElem hjp]
  rw [eer, erow] at k
  refine ⟨_, _, _, hs.ld .z rfl, ?_⟩
  obtain ⟨w1, ⟨ep, el, ec⟩, w3, w4⟩ := w
  replace hle : C.s.erases.length = el := hle
  obtain ⟨eb, he⟩ := hs.sl_some (i := 2) (.s (.s .z)) (show 0 < el by omega)
  dsimp only at he
  subst he
  refine ⟨_, rfl, h2, by (try dsimp only); omega, ?_⟩
  simp only [add_mk, Nat.zero_add, Nat.mul_one]
  refine ⟨_, hs.sld (i := 2) (.s (.s .z)) (by rw [ints_get, List.getElem?_eq_getElem hje]; rfl), ?_⟩
  refine ⟨_, Sat.ld hs (by (repeat (first | exact At.z | apply At.s))) (by rfl), ?_⟩
  by_cases h4 : C.cfg.erases ≤ C.s.erases[page.toNat]
  case pos =>
    rw [leI_eq, if_pos (by simpa using h4)]
    rw [if_pos h4] at k
    exact k _ (ci.put_self.symm ▸ hs')
  rw [leI_eq, if_neg (by simpa using h4)]
  rw [if_neg h4] at k
  refine begins_sp hs' ci ?_
  intro v h6 hs
  have ci2 := (ci.put (chipE p C.act)).s (x := mayE v (maskAt C))
  obtain ⟨w, ok', hs⟩ := (hs.front ci2).open_
  dsimp only [chipL, List.cons_append, List.nil_append, Cm.cells] at hs
  rw [act_s] at hs
  have hle := hs.sl_len (i := 2) (.s (.s .z))
  simp only [ints_length, Nat.mul_one] at hle
  have hlp := (hs.rdM (.s .z)).len
  obtain ⟨⟨pp, pl, pc⟩, ⟨ep, el, ec⟩, w3, w4⟩ := w
  replace hle : C.s.erases.length = el := hle
  replace hlp : C.s.pages.length = pl := hlp
  obtain ⟨eb, he⟩ := hs.sl_some (i := 2) (.s (.s .z)) (show 0 < el by omega)
  dsimp only at he
  subst he
  refine ⟨_, _, _, Sat.ld hs (by (repeat (first | exact At.z | apply At.s))) (by rfl), ?_⟩
  refine ⟨_, rfl, h2, by (try dsimp only); omega, ?_⟩
  simp only [add_mk, Nat.zero_add, Nat.mul_one]
  refine ⟨_, hs.sld (i := 2) (.s (.s .z)) (by rw [ints_get, List.getElem?_eq_getElem hje]; rfl), ?_⟩
  refine ⟨_, rfl, h2, by (try dsimp only); omega, ?_⟩
  simp only [add_mk, Nat.zero_add, Nat.mul_one]
  refine ⟨hs.scan (i := 2) (.s (.s .z)) (show 0 < el by omega) (by simp; omega), ?_⟩
  intro h7 e7
  replace hs := hs.swr (i := 2) (.s (.s .z)) e7 (show 0 < el by omega) (by simp; omega) (by simp)
  simp only [put, splice, ints_set] at hs
  have hce := ok.typed.erases _ (List.getElem_mem hje)
  have hcm := ok.may.erases
  rw [show IntKind.i64.wrap (C.s.erases[page.toNat] + 1) = C.s.erases[page.toNat] + 1 by rw [IntKind.wrap_i64]; omega] at hs
  have hs7 := hs
  refine ⟨_, _, _, Sat.ld hs (by (repeat (first | exact At.z | apply At.s))) (by rfl), ?_⟩
  obtain ⟨⟨yp, yl, yc⟩, hd, R, e8, hs, give⟩ := (hs.front (.s .z)).row_take hjp
  obtain ⟨qb, hq⟩ := hs.sl_some (.s .z) (show 0 < pl by omega)
  dsimp only at hq
  subst hq
  refine ⟨_, rfl, h2, by (try dsimp only); omega, ?_⟩
  simp only [add_mk, Nat.zero_add, Nat.mul_one]
  refine ⟨_, _, _, hs.sld (.s .z) e8, ?_⟩
  have hcl := ok.fits.cells _ (List.getElem_mem hjp)
  have hcc := ok.may.cells
  have hcs := ok.may.slots
  have hyl := hs.sl_len .z
  simp only [ints_length] at hyl
  obtain ⟨yb, hy⟩ := hs.sl_some .z (show 0 < yl by omega)
  dsimp only at hy
  subst hy
  have hbr := ok.typed.bytes _ (List.getElem_mem hjp)
  generalize C.s.pages[page.toNat] = row at *
  let g := fun (i : Nat) (b : Int) => bits .or .u8 b (maskAt C i)
  intro J hJ
  have hmg : ∀ n, (mapTo g n row).length = row.length := fun n => by simp
  refine loop_up C.cfg.cells.toNat (fun k h => Sat h0 (sE (some ⟨yb, 0, none⟩, yl, yc) 32 (ints .u8 (mapTo g (32 * k) row)) :: sE (some ⟨qb, 0, none⟩, pl, pc) 1 hd :: ((blk p (C.act.cells (some ⟨qb, 0, none⟩, pl, pc) (some ⟨eb, 0, none⟩, el, ec) w3 w4) ::
      sE (some ⟨eb, 0, none⟩, el, ec) 1 (ints .i64 (C.s.erases.set page.toNat (C.s.erases[page.toNat] + 1))) :: sE w3 1 (bools C.s.blown) :: sE w4 1 (ints .u8 C.act.mask) :: mayE v (maskAt C) :: del (put A i (chipE p C.act)) i) ++ R)) h) ?_ ?_ 0 _ (by omega) (by rw [Nat.mul_zero, mapTo_zero]; exact hs)
  · intro k h8 hk hs hk'
    apply hJ
    rw [ltI_eq, if_pos (by simp; omega)]
    simp only [Cm.cells] at hs
    refine ⟨_, _, _, hs.ld (.s (.s .z)) rfl, ?_⟩
    refine ⟨_, rfl, h2, by (try dsimp only); omega, ?_⟩
    simp only [add_mk, Nat.zero_add, Nat.mul_one]
    refine ⟨_, _, _, hs.sld (.s .z) e8, ?_⟩
    refine ⟨_, rfl, by omega, by (try dsimp only); omega, ?_⟩
    intro J2 hJ2
    refine loop_up 32 (fun j h => Sat h0 (sE (some ⟨yb, 0, none⟩, yl, yc) 32 (ints .u8 (mapTo g (32 * k + j) row)) :: sE (some ⟨qb, 0, none⟩, pl, pc) 1 hd :: ((blk p (C.act.cells (some ⟨qb, 0, none⟩, pl, pc) (some ⟨eb, 0, none⟩, el, ec) w3 w4) ::
      sE (some ⟨eb, 0, none⟩, el, ec) 1 (ints .i64 (C.s.erases.set page.toNat (C.s.erases[page.toNat] + 1))) :: sE w3 1 (bools C.s.blown) :: sE w4 1 (ints .u8 C.act.mask) :: mayE v (maskAt C) :: del (put A i (chipE p C.act)) i) ++ R)) h) ?_ ?_ 0 _ (by omega) (by rw [Nat.add_zero]; exact hs)
    · intro j h9 hj hs hk2
      apply hJ2
      rw [ltI_eq, if_pos (by simp; omega)]
      simp only [add_mk, Nat.zero_add, Nat.mul_one, Int.toNat_natCast]
      have hlt : k * 32 + j < row.length := by omega
      have ea : (mapTo g (32 * k + j) row)[k * 32 + j]? = some row[k * 32 + j] := mapTo_out (by omega) hlt
      have eb' : (ints .u8 (mapTo g (32 * k + j) row))[k * 32 + j]? = some (.int .u8 row[k * 32 + j]) := by rw [ints_get, ea]; rfl
      refine ⟨by omega, by omega, _, hs.sld .z eb', ?_⟩
      have ew : IntKind.i64.wrap (IntKind.i64.wrap ((k : Int) * 32) + (j : Int)) = ((k * 32 + j : Nat) : Int) := by rw [wrap_id (n := (k : Int) * 32) (by omega), wrap_id (by omega)]; omega
      rw [ew]
      refine call_may (i := 6) hs (.s (.s (.s (.s (.s (.s .z)))))) (k * 32 + j) rfl ?_
      refine ⟨_, _, rfl, _, rfl, rfl, hcs_one (hs.sld .z eb'), by omega, by omega, hs.scan .z (show 0 < yl by omega) (by simp; omega), ?_⟩
      intro h10 e10
      replace hs := hs.swr .z e10 (show 0 < yl by omega) (by simp; omega) (by simp)
      rw [wrap_succ (by omega)]
      refine hk2 _ ?_
      simp only [splice_cons, splice_nil, ints_set, put] at hs
      have e11 : (mapTo g (32 * k + j) row).set (k * 32 + j) (bits .or .u8 row[k * 32 + j] (maskAt C (k * 32 + j))) = mapTo g (32 * k + (j + 1)) row := by
        have := mapTo_succ g (32 * k + j) row (by omega)
        rw [show 32 * k + (j + 1) = 32 * k + j + 1 by omega, ← this]
        have e12 : 32 * k + j = k * 32 + j := by omega
        simp only [e12, g]
      rw [e11] at hs
      exact hs
    · intro h9 hs
      apply hJ2
      rw [ltI_eq, if_neg (by simp)]
      rw [wrap_succ (by omega)]
      exact hk' _ hs
  · intro h8 hs
    apply hJ
    rw [ltI_eq, if_neg (by simp; omega)]
    have e12 : mapTo g (32 * C.cfg.cells.toNat) row = eraseRow row (maskAt C) := by
      unfold eraseRow
      have : 32 * C.cfg.cells.toNat = row.length := by omega
      rw [this]
    rw [e12] at hs
    replace hs := (give _ _ _ hs).front (.s .z)
    have hce' : ((C.act.setErase page.toNat (C.s.erases[page.toNat] + 1)).setPage page.toNat (eraseRow row (maskAt C))).ok := by
      refine (ok'.setErase (by omega)).setPage ?_ ?_
      · show ((eraseRow row (maskAt C)).length : Int) = 32 * C.act.cfg.cells
        rw [act_cfg, ← e12, hmg]; exact hcl
      · refine mapTo_mem (P := isByte) (fun v hv => hbr v hv) (fun i v hv => byte_bits _ _ _)
    have hsC := chip_close (a := (some ⟨qb, 0, none⟩, pl, pc)) (b := (some ⟨eb, 0, none⟩, el, ec)) (c := w3) (m := w4) hce' ci2 (by rw [Cm.setPage, Cm.setErase, act_s]; exact hs)
    simp only [put_succ, put_put] at hsC
    exact k _ hsC.drop
end
end Go.Proofs.Yteabcbpimjjdpaa
end

/- Contracts of copies: copied, State, Copy. Own work. -/
section
set_option linter.unusedVariables false
namespace Go.Proofs.Yteabcbpimjjdpaa
open Go Go.Vc

/-- May it be copied? -/
structure St.small (s : St) : Prop where
  pages : s.pages.length * 24 + 4096 ≤ 2 ^ 47
  rows : ∀ l, l ∈ s.pages → l.length + 4096 ≤ 2 ^ 47
  erases : s.erases.length * 8 + 4096 ≤ 2 ^ 47
  blown : s.blown.length + 4096 ≤ 2 ^ 47
theorem Cm.ok.small {C : Cm} (ok : C.ok) : C.s.small := by
  have h1 := ok.may.np; have h2 := ok.may.nf; have h3 := ok.fits; have h4 := ok.may.cells
  refine ⟨by have := h3.pages; omega, fun l hl => by have := h3.cells l hl; omega, by have := h3.erases; omega, by have := h3.blown; omega⟩

section
variable {h0 h : H} {A : List Ent} {i p : Nat} {C : Cm}
theorem Clone_cells_sp {p : Option Addr} {l c : Nat} {bs : List Int} {Q : Option Addr → Nat → Nat → H → Prop} (hs : Sat h0 A h) (rd : hsv h p 32 l (ints .u8 bs)) (hb : bs.length ≤ 2 ^ 47)
    (k : ∀ p' c' h', Sat h0 (sE (p', l, c') 32 (ints .u8 bs) :: A) h' → Q p' l c' h') : F_slices_Clone_api_Cell_api_Cell p l c Q h :=
  Clone_cells_spec p l c _ Q h rd (by have := rd.1; simp at this; omega) fun p' c' h' bs' x o n => k _ _ _ (hs.own x o n)
theorem Clone_ints_sp {p : Option Addr} {l c : Nat} {bs : List Int} {Q : Option Addr → Nat → Nat → H → Prop} (hs : Sat h0 A h) (rd : hsv h p 1 l (ints .i64 bs)) (hb : bs.length * 8 ≤ 2 ^ 47)
    (k : ∀ p' c' h', Sat h0 (sE (p', l, c') 1 (ints .i64 bs) :: A) h' → Q p' l c' h') : F_slices_Clone_int_int p l c Q h :=
  Clone_ints_spec p l c _ Q h rd (by have := rd.1; simp at this; omega) fun p' c' h' bs' x o n => k _ _ _ (hs.own x o n)
theorem Clone_bools_sp {p : Option Addr} {l c : Nat} {bs : List Bool} {Q : Option Addr → Nat → Nat → H → Prop} (hs : Sat h0 A h) (rd : hsv h p 1 l (bools bs)) (hb : bs.length ≤ 2 ^ 47)
    (k : ∀ p' c' h', Sat h0 (sE (p', l, c') 1 (bools bs) :: A) h' → Q p' l c' h') : F_slices_Clone_bool_bool p l c Q h :=
  Clone_bools_spec p l c _ Q h rd (by have := rd.1; simp at this; omega) fun p' c' h' bs' x o n => k _ _ _ (hs.own x o n)
theorem copied_sp {a b c : Sl} {s : St} {Q : Option Addr → Nat → Nat → Option Addr → Nat → Nat → Option Addr → Nat → Nat → H → Prop} (hs : Sat h0 A h) (rd : ∀ h', Sat h0 A h' → RdS h' a b c s) (sm : s.small)
    (k : ∀ (a' b' c' : Sl) h', Sat h0 (stL a' b' c' s ++ A) h' → Q a'.1 a'.2.1 a'.2.2 b'.1 b'.2.1 b'.2.2 c'.1 c'.2.1 c'.2.2 h') :
    F_chip_copied a.1 a.2.1 a.2.2 b.1 b.2.1 b.2.2 c.1 c.2.1 c.2.2 Q h := by
  unfold F_chip_copied G_chip_copied
  simp only [add_mk, Nat.zero_add]
  intro n1 _ hn; replace hs := Sat.new hs hn; clear hn
  intro n2 _ hn; replace hs := Sat.new hs hn; clear hn
  intro J hJ
  have fin : ∀ q b2 b3 c2 c3 h', Sat h0 (blk q [.slice none 0 0, .slice b2 b.2.1 b3, .slice c2 c.2.1 c3] :: sE (b2, b.2.1, b3) 1 (ints .i64 s.erases) :: sE (c2, c.2.1, c3) 1 (bools s.blown) ::
      blk n1 [a.v, b.v, c.v] :: blk n2 [.slice none 0 0, .slice none 0 0, .slice none 0 0] :: A) h' → J [SV.dv (DV.addr ⟨q, 0, none⟩)] h' := by
    intro q b2 b3 c2 c3 h' hs
    apply hJ
    (repeat first | refine ⟨_, Sat.ld hs (by (repeat (first | exact At.z | apply At.s))) (by rfl), ?_⟩ | refine ⟨_, _, _, Sat.ld hs (by (repeat (first | exact At.z | apply At.s))) (by rfl), ?_⟩ | (intro _ _ hn; replace hs := Sat.new hs hn; clear hn) | refine ⟨Sat.cs hs (by (repeat (first | exact At.z | apply At.s))) (by rfl), ?_⟩ | (refine ⟨Sat.can hs (by (repeat (first | exact At.z | apply At.s))) (by simp), ?_⟩; intro _ e; replace hs := Sat.wr hs (by (repeat (first | exact At.z | apply At.s))) e; clear e; simp only [put, splice, List.set] at hs))
    intro J2 hJ2
    have hlen := (rd _ hs.drop.drop.drop.drop.drop).pg.len
    replace hs := hs.mat_nil 32 none
    refine loop_up a.2.1 (fun i h => ∃ hd : Sl, hd.2.1 = i ∧ Sat h0 (matE 32 hd (s.pages.take i) :: blk q [hd.v, .slice b2 b.2.1 b3, .slice c2 c.2.1 c3] :: sE (b2, b.2.1, b3) 1 (ints .i64 s.erases) :: sE (c2, c.2.1, c3) 1 (bools s.blown) ::
      blk n1 [a.v, b.v, c.v] :: blk n2 [.slice none 0 0, .slice none 0 0, .slice none 0 0] :: A) h) ?_ ?_ 0 _ (by omega) ⟨_, rfl, hs⟩
    · rintro i h1 hi ⟨⟨hp, hl, hc⟩, e, hs⟩ hk
      simp only at e; subst e
      apply hJ2
      rw [ltI_eq, if_pos (by simp; omega)]
      have hlt : hl < s.pages.length := by omega
      obtain ⟨q', x, e1, e2, e3⟩ := (rd _ hs.drop.drop.drop.drop.drop.drop).pg.at hlt
      rw [e1]
      refine ⟨_, rfl, by omega, by omega, ?_⟩
      refine ⟨_, _, _, e2, ?_⟩
      refine ⟨_, _, _, Sat.ld hs (by (repeat (first | exact At.z | apply At.s))) (by rfl), ?_⟩
      refine Clone_cells_sp hs e3 (Nat.le_trans (Nat.le_add_right _ _) (sm.rows _ (List.getElem_mem hlt))) ?_
      intro p' c' h2 hs
      refine ⟨Sat.cs hs (by (repeat (first | exact At.z | apply At.s))) (by rfl), ?_⟩
      (intro _ _ hn; replace hs := Sat.new hs hn; clear hn)
      refine ⟨Sat.cs hs (by (repeat (first | exact At.z | apply At.s))) (by rfl), ?_⟩
      refine ⟨_, Sat.bv hs (.z) (by simp) (by simp), ?_⟩
      replace hs := Sat.front hs (.s .z)
      have hpl := sm.pages
      refine Sat.app_row hs (i := 1) (.s .z) (by dsimp only; omega) ?_
      intro p2 c2' h4 hs
      simp only [put, del] at hs
      (refine ⟨Sat.can hs (by (repeat (first | exact At.z | apply At.s))) (by simp), ?_⟩; intro _ e; replace hs := Sat.wr hs (by (repeat (first | exact At.z | apply At.s))) e; clear e; simp only [put, splice, List.set] at hs)
      rw [wrap_succ (by omega)]
      refine hk _ ⟨(p2, hl + 1, c2'), rfl, ?_⟩
      rw [List.take_succ_eq_append_getElem hlt]
      exact hs.sub (by (repeat (first | exact List.Sublist.refl _ | apply List.Sublist.cons_cons | apply List.Sublist.cons)))
    · rintro h1 ⟨⟨hp, hl, hc⟩, e, hs⟩
      simp only at e; subst e
      apply hJ2
      rw [ltI_eq, if_neg (by simp)]
      (repeat first | refine ⟨_, Sat.ld hs (by (repeat (first | exact At.z | apply At.s))) (by rfl), ?_⟩ | refine ⟨_, _, _, Sat.ld hs (by (repeat (first | exact At.z | apply At.s))) (by rfl), ?_⟩ | (intro _ _ hn; replace hs := Sat.new hs hn; clear hn) | refine ⟨Sat.cs hs (by (repeat (first | exact At.z | apply At.s))) (by rfl), ?_⟩ | (refine ⟨Sat.can hs (by (repeat (first | exact At.z | apply At.s))) (by simp), ?_⟩; intro _ e; replace hs := Sat.wr hs (by (repeat (first | exact At.z | apply At.s))) e; clear e; simp only [put, splice, List.set] at hs))
      refine k (hp, _, hc) (b2, _, b3) (c2, _, c3) _ ?_
      rw [← hlen, List.take_length] at hs
      replace hs := Sat.front hs (e := blk n2 _) (by (repeat (first | exact At.z | apply At.s)))
      replace hs := Sat.front hs (e := blk n1 _) (by (repeat (first | exact At.z | apply At.s)))
      replace hs := Sat.front hs (e := blk q _) (by (repeat (first | exact At.z | apply At.s)))
      simp only [del] at hs
      have := hs.drop.drop.drop
      rw [hlen] at this
      exact this
  repeat' (first | refine ⟨_, Sat.ld hs (by (repeat (first | exact At.z | apply At.s))) (by rfl), ?_⟩ | refine ⟨_, _, _, Sat.ld hs (by (repeat (first | exact At.z | apply At.s))) (by rfl), ?_⟩ | (intro _ _ hn; replace hs := Sat.new hs hn; clear hn) | refine ⟨Sat.cs hs (by (repeat (first | exact At.z | apply At.s))) (by rfl), ?_⟩ | (refine ⟨Sat.can hs (by (repeat (first | exact At.z | apply At.s))) (by simp), ?_⟩; intro _ e; replace hs := Sat.wr hs (by (repeat (first | exact At.z | apply At.s))) e; clear e; simp only [put, splice, List.set] at hs) | (refine Clone_ints_sp hs (rd _ (hs.sub (by (repeat (first | exact List.Sublist.refl _ | apply List.Sublist.cons_cons | apply List.Sublist.cons))))).er (Nat.le_trans (Nat.le_add_right _ _) sm.erases) ?_; intro _ _ _ hs) | (refine Clone_bools_sp hs (rd _ (hs.sub (by (repeat (first | exact List.Sublist.refl _ | apply List.Sublist.cons_cons | apply List.Sublist.cons))))).bl (Nat.le_trans (Nat.le_add_right _ _) sm.blown) ?_; intro _ _ _ hs) | refine And.intro ?_ ?_)
  all_goals
    replace hs := Sat.front hs (e := blk n2 _) (by (repeat (first | exact At.z | apply At.s)))
    replace hs := Sat.front hs (e := blk n1 _) (by (repeat (first | exact At.z | apply At.s)))
    replace hs := Sat.front hs (e := slE _ _ _ 1 (bools _)) (by (repeat (first | exact At.z | apply At.s)))
    replace hs := Sat.front hs (e := slE _ _ _ 1 (ints .i64 _)) (by (repeat (first | exact At.z | apply At.s)))
    replace hs := Sat.front hs (e := blk _ [.slice none 0 0, .slice _ b.2.1 _, .slice _ c.2.1 _]) (by (repeat (first | exact At.z | apply At.s)))
    exact fin _ _ _ _ _ _ hs

theorem chip_make {a b c m : Sl} (ok : C.ok) (hs : Sat h0 (blk p (C.cells a b c m) :: matE 32 a C.s.pages :: sE b 1 (ints .i64 C.s.erases) :: sE c 1 (bools C.s.blown) :: sE m 1 (ints .u8 C.mask) :: A) h) : Sat h0 (chipE p C :: A) h :=
  Sat.close ⟨a, b, c, m⟩ ok hs
theorem State_sp {Q : Option Addr → Nat → Nat → Option Addr → Nat → Nat → Option Addr → Nat → Nat → H → Prop} (hs : Sat h0 A h) (ci : At A i (chipE p C))
    (k : ∀ (a' b' c' : Sl) h', Sat h0 (stL a' b' c' C.s ++ A) h' → Q a'.1 a'.2.1 a'.2.2 b'.1 b'.2.1 b'.2.2 c'.1 c'.2.1 c'.2.2 h') : F_chip_Chip_State ⟨p, 0, none⟩ Q h := by
  unfold F_chip_Chip_State G_chip_Chip_State
  simp only [add_mk, Nat.zero_add]
  obtain ⟨w, ok, hs⟩ := (hs.front ci).open_; dsimp only [chipL, List.cons_append, List.nil_append, Cm.cells] at hs
  intro nl _ hn; replace hs := Sat.new hs hn; clear hn
  refine ⟨_, _, _, Sat.ld hs (by (repeat (first | exact At.z | apply At.s))) (by rfl), ?_⟩
  refine ⟨_, _, _, Sat.ld hs (by (repeat (first | exact At.z | apply At.s))) (by rfl), ?_⟩
  refine ⟨_, _, _, Sat.ld hs (by (repeat (first | exact At.z | apply At.s))) (by rfl), ?_⟩
  refine copied_sp (a := w.a) (b := w.b) (c := w.c) (s := C.s) hs (fun h' hs' => sat_rdS hs' (i := 2) (j := 3) (k := 4) (.s (.s .z)) (.s (.s (.s .z))) (.s (.s (.s (.s .z))))) ok.small ?_
  intro a' b' c' h' hs
  replace hs : Sat h0 (matE 32 a' C.s.pages :: sE b' 1 (ints .i64 C.s.erases) :: sE c' 1 (bools C.s.blown) :: blk nl [.slice none 0 0, .slice none 0 0, .slice none 0 0] :: chipL p C w ++ del A i) h' := hs
  dsimp only [chipL, List.cons_append, List.nil_append, Cm.cells] at hs
  (repeat first | refine ⟨_, Sat.ld hs (by (repeat (first | exact At.z | apply At.s))) (by rfl), ?_⟩ | refine ⟨_, _, _, Sat.ld hs (by (repeat (first | exact At.z | apply At.s))) (by rfl), ?_⟩ | (intro _ _ hn; replace hs := Sat.new hs hn; clear hn) | refine ⟨Sat.cs hs (by (repeat (first | exact At.z | apply At.s))) (by rfl), ?_⟩ | (refine ⟨Sat.can hs (by (repeat (first | exact At.z | apply At.s))) (by simp), ?_⟩; intro _ e; replace hs := Sat.wr hs (by (repeat (first | exact At.z | apply At.s))) e; clear e; simp only [put, splice, List.set] at hs))
  refine k a' b' c' _ ?_
  replace hs := Sat.front hs (e := slE w.m.1 _ _ 1 (ints .u8 C.mask)) (by (repeat (first | exact At.z | apply At.s)))
  replace hs := Sat.front hs (e := slE w.c.1 w.c.2.1 w.c.2.2 1 (bools C.s.blown)) (by (repeat (first | exact At.z | apply At.s)))
  replace hs := Sat.front hs (e := slE w.b.1 w.b.2.1 w.b.2.2 1 (ints .i64 C.s.erases)) (by (repeat (first | exact At.z | apply At.s)))
  replace hs := Sat.front hs (e := matE 32 w.a C.s.pages) (by (repeat (first | exact At.z | apply At.s)))
  replace hs := Sat.front hs (e := blk p _) (by (repeat (first | exact At.z | apply At.s)))
  simp only [del] at hs
  have hC := chip_close (a := w.a) (b := w.b) (c := w.c) (m := w.m) ok ci.s.s.s.s hs
  simp only [put_succ, ci.put_self] at hC
  exact hC.sub (by (repeat (first | exact List.Sublist.refl _ | apply List.Sublist.cons_cons | apply List.Sublist.cons)))
end
end Go.Proofs.Yteabcbpimjjdpaa
end

/- What arguments of the statements are: states of chips. Own work. -/
section
set_option maxRecDepth 100000
set_option linter.unusedVariables false
namespace Go.Proofs.Yteabcbpimjjdpaa
open Go Go.Vc Go.ChangeShapes Go.WideShapes Go.ChangeAt Go.RowKit

theorem xChip : xsh PP 8 49 = some [.slc 52, .slc 3, .slc 4] := by kernel_rfl
theorem xCells : xsh PP 8 52 = some [.slc 97] := by kernel_rfl
theorem xCell : xsh PP 8 97 = some [.row .u8 32] := by kernel_rfl
theorem xInt : xsh PP 8 3 = some [.int .i64] := by kernel_rfl
theorem xBool : xsh PP 8 4 = some [.bool] := by kernel_rfl
section
variable {D : Type} {enc : TypeId × Value → D} {W : World}
theorem ints_of {p : Option Addr} {l c : Nat} (h : Sli enc PP W 3 p l c) : ∃ ns : List Int, hsv W.heap p 1 l (ints .i64 ns) ∧ (∀ n, n ∈ ns → -(2 ^ 63) ≤ n ∧ n < 2 ^ 63) ∧ ns.length * 8 + 4096 ≤ 2 ^ 47 := by
  have hb : Try.prog.bytesOf 3 = 8 := by kernel_rfl
  have hc : Try.prog.cellsOf 3 = 1 := by kernel_rfl
  obtain ⟨ess, h1, h2, h3, _⟩ := h.els xInt
  have hlc := h.1
  have hr := h.2.1
  rw [hb] at hr
  rw [hc] at h3
  have key : ∀ ess : List (List Value), (∀ es, es ∈ ess → es.length = Try.prog.cellsOf 3 ∧ XM enc PP W [XSh.int .i64] es) → ∃ ns : List Int, ess.flatten = ints .i64 ns ∧ ∀ n, n ∈ ns → -(2 ^ 63) ≤ n ∧ n < 2 ^ 63 := by
    intro ess
    induction ess with
    | nil => intro _; exact ⟨[], rfl, by intro n hn; simp at hn⟩
    | cons x r ih =>
      intro h
      obtain ⟨ns, e, hn⟩ := ih fun es hes => h es (by simp [hes])
      obtain ⟨n, rest, rfl, hh, hr⟩ := (h x (by simp)).2
      simp only [XM] at hr
      subst hr
      refine ⟨n :: ns, by simp [e], ?_⟩
      intro m hm
      rcases List.mem_cons.1 hm with rfl | hm
      · exact has_i64 hh
      · exact hn m hm
  obtain ⟨ns, e, hn⟩ := key ess h2
  rw [e] at h3
  have : ns.length = l := by have := h3.1; simpa using this
  refine ⟨ns, h3, hn, ?_⟩
  unfold reachBytes at hr
  omega
theorem bools_of {p : Option Addr} {l c : Nat} (h : Sli enc PP W 4 p l c) : ∃ ns : List Bool, hsv W.heap p 1 l (bools ns) ∧ ns.length + 4096 ≤ 2 ^ 47 := by
  have hb : Try.prog.bytesOf 4 = 1 := by kernel_rfl
  have hc : Try.prog.cellsOf 4 = 1 := by kernel_rfl
  obtain ⟨ess, h1, h2, h3, _⟩ := h.els xBool
  have hlc := h.1
  have hr := h.2.1
  rw [hb] at hr
  rw [hc] at h3
  have key : ∀ ess : List (List Value), (∀ es, es ∈ ess → es.length = Try.prog.cellsOf 4 ∧ XM enc PP W [XSh.bool] es) → ∃ ns : List Bool, ess.flatten = bools ns := by
    intro ess
    induction ess with
    | nil => intro _; exact ⟨[], rfl⟩
    | cons x r ih =>
      intro h
      obtain ⟨ns, e⟩ := ih fun es hes => h es (by simp [hes])
      obtain ⟨n, rest, rfl, hr⟩ := (h x (by simp)).2
      simp only [XM] at hr
      subst hr
      exact ⟨n :: ns, by simp [e, bools]⟩
  obtain ⟨ns, e⟩ := key ess h2
  rw [e] at h3
  have : ns.length = l := by have := h3.1; simpa using this
  refine ⟨ns, h3, ?_⟩
  unfold reachBytes at hr
  omega
theorem rows_of {p : Option Addr} {l c : Nat} (h : Sli enc PP W 97 p l c) : ∃ ns : List Int, hsv W.heap p 32 l (ints .u8 ns) ∧ bytesOk ns ∧ ns.length + 4096 ≤ 2 ^ 47 := by
  have hb : Try.prog.bytesOf 97 = 32 := by kernel_rfl
  have hc : Try.prog.cellsOf 97 = 32 := by kernel_rfl
  obtain ⟨ess, h1, h2, h3, _⟩ := h.els xCell
  have hlc := h.1
  have hr := h.2.1
  rw [hb] at hr
  rw [hc] at h3
  have key : ∀ ess : List (List Value), (∀ es, es ∈ ess → es.length = Try.prog.cellsOf 97 ∧ XM enc PP W [XSh.row .u8 32] es) → ∃ ns : List Int, ess.flatten = ints .u8 ns ∧ bytesOk ns := by
    intro ess
    induction ess with
    | nil => intro _; exact ⟨[], rfl, by intro n hn; simp at hn⟩
    | cons x r ih =>
      intro h
      obtain ⟨ns, e, hn⟩ := ih fun es hes => h es (by simp [hes])
      obtain ⟨xs, rest, rfl, _, hh, hr⟩ := (h x (by simp)).2
      simp only [XM] at hr
      subst hr
      refine ⟨xs ++ ns, by simp [e], ?_⟩
      intro m hm
      rcases List.mem_append.1 hm with hm | hm
      · exact has_u8 (hh m hm)
      · exact hn m hm
  obtain ⟨ns, e, hn⟩ := key ess h2
  rw [e] at h3
  have : ns.length = l * 32 := by have := h3.1; simpa using this
  refine ⟨ns, h3, hn, ?_⟩
  unfold reachBytes at hr
  omega
theorem mat_of {p : Option Addr} {l c : Nat} (h : Sli enc PP W 52 p l c) : ∃ rows : List (List Int), RdM W.heap 32 (p, l, c) rows ∧ (∀ r, r ∈ rows → bytesOk r ∧ r.length + 4096 ≤ 2 ^ 47) ∧ rows.length * 24 + 4096 ≤ 2 ^ 47 := by
  have hb : Try.prog.bytesOf 52 = 24 := by kernel_rfl
  have hc : Try.prog.cellsOf 52 = 1 := by kernel_rfl
  obtain ⟨ess, h1, h2, h3, _⟩ := h.els xCells
  have hlc := h.1
  have hr := h.2.1
  rw [hb] at hr
  rw [hc] at h3
  have key : ∀ ess : List (List Value), (∀ es, es ∈ ess → es.length = Try.prog.cellsOf 52 ∧ XM enc PP W [XSh.slc 97] es) → ∃ pgs : List Pg, ess.flatten = pgSl pgs ∧ (∀ x, x ∈ pgs → x.rd W.heap 32) ∧ ∀ x, x ∈ pgs → bytesOk x.bytes ∧ x.bytes.length + 4096 ≤ 2 ^ 47 := by
    intro ess
    induction ess with
    | nil => intro _; exact ⟨[], rfl, by simp, by simp⟩
    | cons x r ih =>
      intro h
      obtain ⟨pgs, e, hn, hn2⟩ := ih fun es hes => h es (by simp [hes])
      obtain ⟨xp, xl, xc, rest, rfl, hh, hr⟩ := (h x (by simp)).2
      simp only [XM] at hr
      subst hr
      obtain ⟨bs, b1, b2, b3⟩ := rows_of hh
      refine ⟨⟨(xp, xl, xc), bs⟩ :: pgs, by simp [e, pgSl], ?_, ?_⟩
      · intro y hy
        rcases List.mem_cons.1 hy with rfl | hy
        · exact b1
        · exact hn y hy
      · intro y hy
        rcases List.mem_cons.1 hy with rfl | hy
        · exact ⟨b2, b3⟩
        · exact hn2 y hy
  obtain ⟨pgs, e, hn, hn2⟩ := key ess h2
  rw [e] at h3
  have : pgs.length = l := by have := h3.1; simpa using this
  refine ⟨pgBytes pgs, ⟨pgs, rfl, h3, hn⟩, ?_, ?_⟩
  · intro r hr
    obtain ⟨x, hx, rfl⟩ := List.mem_map.1 hr
    exact hn2 x hx
  · unfold reachBytes at hr
    simp; omega
theorem chip_of {v : Value} {base : Nat} (h : Rdt enc PP W 49 v.cells.toList) (ho : Value.okWide PP W .any base 49 v) :
    ∃ (a b c : Sl) (s : St), v = .agg #[a.v, b.v, c.v] ∧ RdS W.heap a b c s ∧ s.typed ∧ s.small := by
  have e := okw_agg (by kernel_rfl) ho
  obtain ⟨p1, l1, c1, r1, e1, s1, p2, l2, c2, r2, rfl, s2, p3, l3, c3, r3, rfl, s3, hr⟩ := Rdt.xm 8 _ _ _ xChip h
  simp only [XM] at hr
  subst hr
  obtain ⟨rows, m1, m2, m3⟩ := mat_of s1
  obtain ⟨es, i1, i2, i3⟩ := ints_of s2
  obtain ⟨bs, b1, b2⟩ := bools_of s3
  refine ⟨(p1, l1, c1), (p2, l2, c2), (p3, l3, c3), ⟨rows, es, bs⟩, ?_, ⟨m1, i1, b1⟩, ⟨fun l hl => (m2 l hl).1, i2⟩, ⟨m3, fun l hl => (m2 l hl).2, i3, b2⟩⟩
  rw [e]
  congr 1
  rw [← Array.toArray_toList (xs := v.cells), e1]
theorem slice_of {t e : TypeId} {v : Value} {base : Nat} (u : Try.prog.underlying t = some (.slice e)) (h : Rdt enc PP W t v.cells.toList) (ho : Value.okWide PP W .any base t v) : ∃ p l c, v = .slice p l c ∧ Sli enc PP W e p l c := by
  obtain ⟨p, l, c, e1, hs⟩ := Rdt.slice u h
  exact ⟨p, l, c, okw_one (by rw [u]) ho e1, hs⟩
theorem ok_cfg (c : Cfg) : (DV.agg (c.vals.map .c)).ok := by
  intro y hy; simp only [Cfg.vals, List.map_cons, List.map_nil, List.mem_cons, List.not_mem_nil, or_false] at hy
  rcases hy with rfl | rfl | rfl | rfl | rfl | rfl | rfl <;> rfl
theorem ok_chip (a b c : Sl) : (DV.agg [.c a.v, .c b.v, .c c.v]).ok := by
  intro y hy; simp only [List.mem_cons, List.not_mem_nil, or_false] at hy
  rcases hy with rfl | rfl | rfl <;> rfl
end
end Go.Proofs.Yteabcbpimjjdpaa
end

/- Contract of chip.Lay. Own work. -/
section
set_option linter.unusedVariables false
namespace Go.Proofs.Yteabcbpimjjdpaa
open Go Go.Vc

structure St.lays (c : Cfg) (s : St) : Prop where
  fits : s.fits c
  pos : ∀ n, n ∈ s.erases → 0 ≤ n
def layC (c : Cfg) (s : St) : Cm := ⟨c, s, 0, false, -1, []⟩
theorem layC_ok {c : Cfg} {s : St} (m : c.may) (f : s.lays c) (t : s.typed) : (layC c s).ok :=
  ⟨m, f.fits, t, by simp [layC], by simp [layC], by intro n hn; simp [layC] at hn, by simp [layC], by simp [layC]⟩

section
variable {h0 h : H} {A : List Ent} {i p : Nat} {C : Cm}
theorem contains_neg {p : Option Addr} {l c : Nat} {ns : List Int} {Q : Bool → H → Prop} (hs : Sat h0 A h) (rd : hsv h p 1 l (ints .i64 ns)) (hl : l < 2 ^ 62) (k : Q (ns.any fun n => decide (n < 0)) h) :
    F_slices_ContainsFunc_int_int p l c (.func (.func id_chip_Lay_2) #[] #[]) Q h := by
  unfold F_slices_ContainsFunc_int_int G_slices_ContainsFunc_int_int F_slices_IndexFunc_int_int G_slices_IndexFunc_int_int
  intro J hJ
  have hlen : ns.length = l := by have := rd.1; simpa using this
  refine loop_up l (fun i h' => h' = h ∧ ∀ j (hj : j < ns.length), j < i → 0 ≤ ns[j]) ?_ ?_ 0 _ (by omega) ⟨rfl, fun j _ hj => by omega⟩
  · rintro i h' hi ⟨rfl, hb⟩ hk
    apply hJ
    rw [ltI_eq, if_pos (by simp; omega)]
    have hin : i < ns.length := by omega
    obtain ⟨q, hq, g⟩ := hsv_get rd (i := i) (v := .int .i64 ns[i]) (by rw [ints_get, List.getElem?_eq_getElem hin]; rfl)
    refine ⟨q, hq, by omega, by omega, _, by simpa using g, ?_⟩
    refine callFn_of R_chip_Lay_2 (by simp) (by simp) (by simp [DV.ok]) ?_
    show F_chip_Lay_2 ns[i] _ h'
    unfold F_chip_Lay_2 G_chip_Lay_2
    refine ⟨_, _, rfl, _, rfl, rfl, ?_⟩
    rw [ltI_eq]
    by_cases hn : ns[i] < 0
    · rw [if_pos (by simpa using hn)]
      have : (ns.any fun n => decide (n < 0)) = true := by rw [List.any_eq_true]; exact ⟨_, List.getElem_mem hin, by simpa using hn⟩
      rw [this] at k
      simpa using k
    · rw [if_neg (by simpa using hn), wrap_succ (by omega)]
      refine hk _ ⟨rfl, fun j hj hji => ?_⟩
      by_cases e : j = i
      · subst e; omega
      · exact hb j hj (by omega)
  · rintro h' ⟨rfl, hb⟩
    apply hJ
    rw [ltI_eq, if_neg (by simp)]
    have : (ns.any fun n => decide (n < 0)) = false := by
      rw [List.any_eq_false]
      intro n hn
      obtain ⟨j, hj, rfl⟩ := List.mem_iff_getElem.1 hn
      have := hb j hj (by omega)
      simp; omega
    rw [this] at k
    simpa using k
theorem contains_len {a : Sl} {rows : List (List Int)} {Q : Bool → H → Prop} {b : Nat} {c : Cfg} (hs : Sat h0 A h) (m : At A i (blk b [.int .i64 c.cells, .int .i64 c.slots, .int .i64 c.fuses, .int .i64 c.step, .int .i64 c.keys, .int .i64 c.erases, .int .i64 c.area])) (rd : RdM h 32 a rows) (hl : a.2.1 < 2 ^ 62)
    (k : Q (rows.any fun r => decide ((r.length : Int) ≠ 32 * c.cells)) h) :
    F_slices_ContainsFunc_api_Cell_api_Cell a.1 a.2.1 a.2.2 (.func (.func id_chip_Lay_1) #[] #[.pointer (some ⟨b, 0, none⟩)]) Q h := by
  unfold F_slices_ContainsFunc_api_Cell_api_Cell G_slices_ContainsFunc_api_Cell_api_Cell F_slices_IndexFunc_api_Cell_api_Cell G_slices_IndexFunc_api_Cell_api_Cell
  intro J hJ
  have hlen := rd.len
  refine loop_up a.2.1 (fun i h' => h' = h ∧ ∀ j (hj : j < rows.length), j < i → (rows[j].length : Int) = 32 * c.cells) ?_ ?_ 0 _ (by omega) ⟨rfl, fun j _ hj => by omega⟩
  · rintro i h' hi ⟨rfl, hb⟩ hk
    apply hJ
    rw [ltI_eq, if_pos (by simp; omega)]
    have hin : i < rows.length := by omega
    obtain ⟨q, x, hq, g, e⟩ := rd.at hin
    have hx : rows[i].length = x.2.1 * 32 := by have := e.1; simpa using this
    refine ⟨q, hq, by omega, by omega, _, _, _, by simpa using g, ?_⟩
    refine callFn_of R_chip_Lay_1 (by simp) (by simp) (by simp [DV.ok]) ?_
    show F_chip_Lay_1 x.1 x.2.1 x.2.2 ⟨b, 0, none⟩ _ h'
    unfold F_chip_Lay_1 G_chip_Lay_1
    refine ⟨_, hs.ld m rfl, ?_⟩
    refine ⟨_, _, rfl, _, rfl, rfl, ?_⟩
    by_cases hn : (rows[i].length : Int) = 32 * c.cells
    · rw [if_neg (by simp; omega), wrap_succ (by omega)]
      refine hk _ ⟨rfl, fun j hj hji => ?_⟩
      by_cases e : j = i
      · subst e; omega
      · exact hb j hj (by omega)
    · rw [if_pos (by simp; omega)]
      have : (rows.any fun r => decide ((r.length : Int) ≠ 32 * c.cells)) = true := by rw [List.any_eq_true]; exact ⟨_, List.getElem_mem hin, by simpa using hn⟩
      rw [this] at k
      simpa using k
  · rintro h' ⟨rfl, hb⟩
    apply hJ
    rw [ltI_eq, if_neg (by simp)]
    have : (rows.any fun r => decide ((r.length : Int) ≠ 32 * c.cells)) = false := by
      rw [List.any_eq_false]
      intro n hn
      obtain ⟨j, hj, rfl⟩ := List.mem_iff_getElem.1 hn
      have := hb j hj (by omega)
      simp; omega
    rw [this] at k
    simpa using k
theorem Lay_sp {a b c' : Sl} {s : St} (c : Cfg) {Q : Option Addr → Int → H → Prop} (hs : Sat h0 A h) (rd : ∀ h', Sat h0 A h' → RdS h' a b c' s) (ty : s.typed)
    (k1 : ¬ c.may → ∀ h', Sat h0 A h' → Q none 1 h') (k2 : c.may → ¬ s.lays c → ∀ h', Sat h0 A h' → Q none 5 h')
    (k3 : c.may → s.lays c → ∀ p h', Sat h0 (chipE p (layC c s) :: A) h' → Q (some ⟨p, 0, none⟩) 0 h') :
    F_chip_Lay c.cells c.slots c.fuses c.step c.keys c.erases c.area a.1 a.2.1 a.2.2 b.1 b.2.1 b.2.2 c'.1 c'.2.1 c'.2.2 Q h := by
  unfold F_chip_Lay G_chip_Lay
  simp only [add_mk, Nat.zero_add]
  intro n1 _ hn; replace hs := Sat.new hs hn; clear hn
  intro n2 _ hn; replace hs := Sat.new hs hn; clear hn
  (repeat first | refine ⟨_, Sat.ld hs (by (repeat (first | exact At.z | apply At.s))) (by rfl), ?_⟩ | refine ⟨_, _, _, Sat.ld hs (by (repeat (first | exact At.z | apply At.s))) (by rfl), ?_⟩ | (intro _ _ hn; replace hs := Sat.new hs hn; clear hn) | refine ⟨Sat.cs hs (by (repeat (first | exact At.z | apply At.s))) (by rfl), ?_⟩ | (refine ⟨Sat.can hs (by (repeat (first | exact At.z | apply At.s))) (by simp), ?_⟩; intro _ e; replace hs := Sat.wr hs (by (repeat (first | exact At.z | apply At.s))) e; clear e; simp only [put, splice, List.set] at hs))
  refine May_sp c hs ?_
  intro h1 hs
  unfold Cfg.may?
  by_cases hm : c.may
  case neg =>
    rw [if_neg hm, if_pos (by decide)]
    exact k1 hm _ hs.drop.drop
  rw [if_pos hm, if_neg (by decide)]
  have hnp := hm.np
  have hnf := hm.nf
  intro J hJ
  have rd0 := rd _ hs.drop.drop
  have l1 := rd0.pg.len
  have l2 : s.erases.length = b.2.1 := by have := rd0.er.1; simpa using this
  have l3 : s.blown.length = c'.2.1 := by have := rd0.bl.1; simpa using this
  have bad : ¬ s.lays c → ∀ h', Sat h0 (blk n2 [a.v, b.v, c'.v] :: blk n1 [.int .i64 c.cells, .int .i64 c.slots, .int .i64 c.fuses, .int .i64 c.step, .int .i64 c.keys, .int .i64 c.erases, .int .i64 c.area] :: A) h' → J [SV.dv (DV.one (.bool true))] h' := by
    intro nf h' hs
    apply hJ
    rw [if_pos rfl]
    exact k2 hm nf _ hs.drop.drop
  (repeat first | refine ⟨_, Sat.ld hs (by (repeat (first | exact At.z | apply At.s))) (by rfl), ?_⟩ | refine ⟨_, _, _, Sat.ld hs (by (repeat (first | exact At.z | apply At.s))) (by rfl), ?_⟩ | (intro _ _ hn; replace hs := Sat.new hs hn; clear hn) | refine ⟨Sat.cs hs (by (repeat (first | exact At.z | apply At.s))) (by rfl), ?_⟩ | (refine ⟨Sat.can hs (by (repeat (first | exact At.z | apply At.s))) (by simp), ?_⟩; intro _ e; replace hs := Sat.wr hs (by (repeat (first | exact At.z | apply At.s))) e; clear e; simp only [put, splice, List.set] at hs))
  refine pages_sp c hm hs ?_
  intro h2 hs
  refine ⟨Sat.cs hs (by (repeat (first | exact At.z | apply At.s))) (by rfl), ?_⟩
  by_cases e1 : (s.pages.length : Int) = c.np
  case neg =>
    rw [if_pos (by simp; omega)]
    exact bad (fun f => e1 f.fits.pages) _ hs
  rw [if_neg (by simp; omega)]
  (repeat first | refine ⟨_, Sat.ld hs (by (repeat (first | exact At.z | apply At.s))) (by rfl), ?_⟩ | refine ⟨_, _, _, Sat.ld hs (by (repeat (first | exact At.z | apply At.s))) (by rfl), ?_⟩ | (intro _ _ hn; replace hs := Sat.new hs hn; clear hn) | refine ⟨Sat.cs hs (by (repeat (first | exact At.z | apply At.s))) (by rfl), ?_⟩ | (refine ⟨Sat.can hs (by (repeat (first | exact At.z | apply At.s))) (by simp), ?_⟩; intro _ e; replace hs := Sat.wr hs (by (repeat (first | exact At.z | apply At.s))) e; clear e; simp only [put, splice, List.set] at hs))
  refine pages_sp c hm hs ?_
  intro h3 hs
  refine ⟨Sat.cs hs (by (repeat (first | exact At.z | apply At.s))) (by rfl), ?_⟩
  by_cases e2 : (s.erases.length : Int) = c.np
  case neg =>
    rw [if_pos (by simp; omega)]
    exact bad (fun f => e2 f.fits.erases) _ hs
  rw [if_neg (by simp; omega)]
  (repeat first | refine ⟨_, Sat.ld hs (by (repeat (first | exact At.z | apply At.s))) (by rfl), ?_⟩ | refine ⟨_, _, _, Sat.ld hs (by (repeat (first | exact At.z | apply At.s))) (by rfl), ?_⟩ | (intro _ _ hn; replace hs := Sat.new hs hn; clear hn) | refine ⟨Sat.cs hs (by (repeat (first | exact At.z | apply At.s))) (by rfl), ?_⟩ | (refine ⟨Sat.can hs (by (repeat (first | exact At.z | apply At.s))) (by simp), ?_⟩; intro _ e; replace hs := Sat.wr hs (by (repeat (first | exact At.z | apply At.s))) e; clear e; simp only [put, splice, List.set] at hs))
  refine fuses_sp c hm hs ?_
  intro h4 hs
  refine ⟨Sat.cs hs (by (repeat (first | exact At.z | apply At.s))) (by rfl), ?_⟩
  by_cases e3 : (s.blown.length : Int) = c.nf
  case neg =>
    rw [if_pos (by simp; omega)]
    exact bad (fun f => e3 f.fits.blown) _ hs
  rw [if_neg (by simp; omega)]
  refine ⟨_, _, _, Sat.ld hs (by (repeat (first | exact At.z | apply At.s))) (by rfl), ?_⟩
  refine contains_len (i := 1) (c := c) hs (.s .z) (rd _ hs.drop.drop).pg (by omega) ?_
  by_cases e4 : ∀ l, l ∈ s.pages → (l.length : Int) = 32 * c.cells
  case neg =>
    rw [if_pos (by
      rw [List.any_eq_true]
      have ⟨l, h5⟩ := Classical.not_forall.1 e4
      have ⟨h6, h7⟩ := Classical.not_imp.1 h5
      exact ⟨l, h6, by simpa using h7⟩)]
    exact bad (fun f => e4 f.fits.cells) _ hs
  rw [if_neg (by
    intro h5
    obtain ⟨l, h6, h7⟩ := List.any_eq_true.1 h5
    have := e4 l h6
    simp at h7; omega)]
  refine ⟨_, _, _, Sat.ld hs (by (repeat (first | exact At.z | apply At.s))) (by rfl), ?_⟩
  refine contains_neg hs (rd _ hs.drop.drop).er (by omega) ?_
  by_cases e5 : ∀ n, n ∈ s.erases → 0 ≤ n
  case neg =>
    have : (s.erases.any fun n => decide (n < 0)) = true := by
      rw [List.any_eq_true]
      have ⟨l, h5⟩ := Classical.not_forall.1 e5
      have ⟨h6, h7⟩ := Classical.not_imp.1 h5
      exact ⟨l, h6, by simp; omega⟩
    rw [this]
    exact bad (fun f => e5 f.pos) _ hs
  have : (s.erases.any fun n => decide (n < 0)) = false := by
    rw [List.any_eq_false]
    intro n hn
    have := e5 n hn
    simp; omega
  rw [this]
  have ly : s.lays c := ⟨⟨e1, e4, e2, e3⟩, e5⟩
  have ok := layC_ok hm ly ty
  apply hJ
  rw [if_neg (by simp)]
  (repeat first | refine ⟨_, Sat.ld hs (by (repeat (first | exact At.z | apply At.s))) (by rfl), ?_⟩ | refine ⟨_, _, _, Sat.ld hs (by (repeat (first | exact At.z | apply At.s))) (by rfl), ?_⟩ | (intro _ _ hn; replace hs := Sat.new hs hn; clear hn) | refine ⟨Sat.cs hs (by (repeat (first | exact At.z | apply At.s))) (by rfl), ?_⟩ | (refine ⟨Sat.can hs (by (repeat (first | exact At.z | apply At.s))) (by simp), ?_⟩; intro _ e; replace hs := Sat.wr hs (by (repeat (first | exact At.z | apply At.s))) e; clear e; simp only [put, splice, List.set] at hs))
  refine copied_sp (a := a) (b := b) (c := c') (s := s) hs (fun h' hs' => rd _ hs'.drop.drop) ok.small ?_
  intro a2 b2 c2 h5 hs
  replace hs : Sat h0 (matE 32 a2 s.pages :: sE b2 1 (ints .i64 s.erases) :: sE c2 1 (bools s.blown) :: blk n2 [a.v, b.v, c'.v] :: blk n1 [.int .i64 c.cells, .int .i64 c.slots, .int .i64 c.fuses, .int .i64 c.step, .int .i64 c.keys, .int .i64 c.erases, .int .i64 c.area] :: A) h5 := hs
  (repeat first | refine ⟨_, Sat.ld hs (by (repeat (first | exact At.z | apply At.s))) (by rfl), ?_⟩ | refine ⟨_, _, _, Sat.ld hs (by (repeat (first | exact At.z | apply At.s))) (by rfl), ?_⟩ | (intro _ _ hn; replace hs := Sat.new hs hn; clear hn) | refine ⟨Sat.cs hs (by (repeat (first | exact At.z | apply At.s))) (by rfl), ?_⟩ | (refine ⟨Sat.can hs (by (repeat (first | exact At.z | apply At.s))) (by simp), ?_⟩; intro _ e; replace hs := Sat.wr hs (by (repeat (first | exact At.z | apply At.s))) e; clear e; simp only [put, splice, List.set] at hs))
  refine k3 hm ly _ _ ?_
  replace hs := hs.sl_nil 1 none
  replace hs := Sat.front hs (e := slE _ _ _ 1 (bools _)) (by (repeat (first | exact At.z | apply At.s)))
  replace hs := Sat.front hs (e := slE _ _ _ 1 (ints .i64 _)) (by (repeat (first | exact At.z | apply At.s)))
  replace hs := Sat.front hs (e := matE 32 _ _) (by (repeat (first | exact At.z | apply At.s)))
  replace hs := Sat.front hs (e := blk _ [_, _, _, _, _, _, _, _, _, _, _, _, _, _]) (by (repeat (first | exact At.z | apply At.s)))
  simp only [del] at hs
  exact (chip_make (C := layC c s) (a := a2) (b := b2) (c := c2) (m := (none, 0, 0)) ok hs).sub (by (repeat (first | exact List.Sublist.refl _ | apply List.Sublist.cons_cons | apply List.Sublist.cons)))
end
end Go.Proofs.Yteabcbpimjjdpaa
end
