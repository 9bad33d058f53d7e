/- The chip's model and how it lies in memory (chip.Chip and the document's chip alike). Own work. -/
import Derived.Test.YtamfkofcpoglnaaCh1
import Derived.Test.YtamfkofcpoglnaaMt
set_option autoImplicit false
set_option linter.all false
set_option linter.unusedVariables false
namespace Go.Proofs.Ytamfkofcpoglnaa
open Go Go.Vc

/-- What a chip holds: pages (flat bytes, 32 a cell), erases, fuses. -/
structure St where
  pages : List (List Int)
  erases : List Int
  blown : List Bool
structure Cm where
  cfg : Cfg
  s : St
  acts : Int
  out : Bool
  left : Int
  mask : List Int

instance (c : Cfg) : Decidable c.may :=
  decidable_of_iff ((1 ≤ c.slots ∧ c.slots ≤ 8) ∧ (c.slots + 3 ≤ c.cells ∧ c.cells ≤ 256) ∧ (1 ≤ c.fuses ∧ c.fuses ≤ 64) ∧ (1 ≤ c.step ∧ c.step ≤ 65536) ∧ (1 ≤ c.keys ∧ c.keys ≤ 64) ∧ (0 ≤ c.erases ∧ c.erases ≤ 65536) ∧ (0 ≤ c.area ∧ c.area ≤ 64))
    ⟨fun ⟨a, b, c, d, e, f, g⟩ => ⟨a, b, c, d, e, f, g⟩, fun ⟨a, b, c, d, e, f, g⟩ => ⟨a, b, c, d, e, f, g⟩⟩
def Cfg.may? (c : Cfg) : Int := if c.may then 0 else 1
def Cfg.np (c : Cfg) : Int := 2 + 2 * c.area
def Cfg.nf (c : Cfg) : Int := c.slots * c.fuses + c.keys
def isByte (n : Int) : Prop := 0 ≤ n ∧ n < 256
def bytesOk (ns : List Int) : Prop := ∀ n, n ∈ ns → isByte n

/-- Are the sizes those of the config? -/
structure St.fits (c : Cfg) (s : St) : Prop where
  pages : (s.pages.length : Int) = c.np
  cells : ∀ l, l ∈ s.pages → (l.length : Int) = 32 * c.cells
  erases : (s.erases.length : Int) = c.np
  blown : (s.blown.length : Int) = c.nf
/-- Are the numbers of their kinds? -/
structure St.typed (s : St) : Prop where
  bytes : ∀ l, l ∈ s.pages → bytesOk l
  erases : ∀ n, n ∈ s.erases → -(2 ^ 63) ≤ n ∧ n < 2 ^ 63
structure Cm.ok (C : Cm) : Prop where
  may : C.cfg.may
  fits : C.s.fits C.cfg
  typed : C.s.typed
  left : -1 ≤ C.left
  left2 : C.left < 2 ^ 63
  mask : bytesOk C.mask
  acts : -(2 ^ 63) ≤ C.acts ∧ C.acts < 2 ^ 63
  mlen : C.mask.length ≤ 2 ^ 47

/-- Slices of a state, read only. -/
structure RdS (h : H) (a b c : Sl) (s : St) : Prop where
  pg : RdM h 32 a s.pages
  er : hsv h b.1 1 b.2.1 (ints .i64 s.erases)
  bl : hsv h c.1 1 c.2.1 (bools s.blown)

abbrev stL (a b c : Sl) (s : St) : List Ent := [matE 32 a s.pages, sE b 1 (ints .i64 s.erases), sE c 1 (bools s.blown)]

def Cm.cells (C : Cm) (a b c m : Sl) : List Value :=
  [.int .i64 C.cfg.cells, .int .i64 C.cfg.slots, .int .i64 C.cfg.fuses, .int .i64 C.cfg.step, .int .i64 C.cfg.keys, .int .i64 C.cfg.erases, .int .i64 C.cfg.area, a.v, b.v, c.v,
    .int .i64 C.acts, .bool C.out, .int .i64 C.left, m.v]
/-- The places of a chip's parts. -/
structure Pl where
  a : Sl
  b : Sl
  c : Sl
  m : Sl
abbrev chipL (p : Nat) (C : Cm) (w : Pl) : List Ent := [blk p (C.cells w.a w.b w.c w.m), matE 32 w.a C.s.pages, sE w.b 1 (ints .i64 C.s.erases), sE w.c 1 (bools C.s.blown), sE w.m 1 (ints .u8 C.mask)]
def chipE (p : Nat) (C : Cm) : Ent := exE 2 (fun _ => C.ok) (chipL p C)

theorem RdS.ext {h h' : H} (x : Ext none_ h h') {a b c : Sl} {s : St} (r : RdS h a b c s) : RdS h' a b c s :=
  ⟨r.pg.ext x, hsv_ext x r.er (fun _ _ y => y), hsv_ext x r.bl (fun _ _ y => y)⟩
theorem sat_rdS {h0 h : H} {A : List Ent} (hs : Sat h0 A h) {i j k : Nat} {a b c : Sl} {s : St} (m : At A i (matE 32 a s.pages)) (n : At A j (sE b 1 (ints .i64 s.erases))) (o : At A k (sE c 1 (bools s.blown))) : RdS h a b c s :=
  ⟨hs.rdM m, hs.sv n, hs.sv o⟩
end Go.Proofs.Ytamfkofcpoglnaa
