/- WearBudgets: what is proved and its parts, laid together by a program of ours: Vc Vcs Vcp Vcq Vcm Vcd Vce Vcf -/
import Derived.ChangeKeysEq
import Derived.KernelRfl
import Derived.Laws.AppendOwn
import Derived.Laws.Bits
import Derived.Laws.BytesString
import Derived.Laws.Cells
import Derived.Laws.Entries
import Derived.Laws.StructEq
import Derived.Laws.Tables
import Derived.OrdersHeld
import Derived.Tactics
set_option autoImplicit false
set_option linter.all false
/- A denotation of the model's code as a plain statement over heaps (a weakest precondition), which the kernel can reckon with on a given function's code. Own work; generic over any program. -/
section
namespace Go.Vc

/-! ### Heaps -/
abbrev H := Array Obj

def hc (h : H) (a : Addr) : Option Value :=
  match h[a.block]? with
  | some (.cells c _ _) => if a.spot.isSome then none else c[a.off]?
  | _ => none

def hf (h : H) (a : Addr) : Bool :=
  match h[a.block]? with
  | some (.cells _ _ (lo, hi)) => lo ≤ a.off && a.off < hi
  | _ => false

def hs (h : H) (a : Addr) (v : Value) : H :=
  h.modify a.block fun
    | .cells c elem frozen => .cells (if a.spot.isSome then c else c.setIfInBounds a.off v) elem frozen
    | o => o

theorem cell_hc (w : World) (a : Addr) : w.cell? a = hc w.heap a := rfl
theorem heap_hs (w : World) (a : Addr) (v : Value) : (w.setCell a v).heap = hs w.heap a v := rfl

/-- The cells from an address on hold these values. -/
def hcs (h : H) (a : Addr) (vs : List Value) : Prop := ∀ i v, vs[i]? = some v → hc h (a.add i) = some v
/-- So many cells from an address on are there, and may be written. -/
def hcan (h : H) (a : Addr) (n : Nat) : Prop := ∀ i, i < n → (hc h (a.add i)).isSome = true ∧ hf h (a.add i) = false
/-- They are written, one behind the other. -/
def hwrFrom (h : H) (a : Addr) : Nat → List Value → H
  | _, [] => h
  | i, v :: r => hwrFrom (hs h (a.add i) v) a (i + 1) r
def hwr (h : H) (a : Addr) (vs : List Value) : H := hwrFrom h a 0 vs
/-- A new block, of these cells (none of which is frozen). -/
def hnew (h : H) (b : Nat) (c : List Value) (h' : H) : Prop :=
  b = h.size ∧ ∃ t lo hi, (∀ i, i < c.length → ¬ (lo ≤ i ∧ i < hi)) ∧ h' = h.push (.cells c.toArray t (lo, hi))
/-- What a slice of so many elements of a size holds. -/
def hsv (h : H) (p : Option Addr) (sz l : Nat) (vs : List Value) : Prop :=
  vs.length = l * sz ∧ (∀ v, v ∈ vs → v.oneCell' = true) ∧ (vs = [] ∨ ∃ q, p = some q ∧ hcs h q vs)
def hwrO (h : H) (p : Option Addr) (vs : List Value) : H := match p with | some q => hwr h q vs | none => h
def bytesOf (ns : List Int) : ByteArray := ⟨(ns.map fun n => UInt8.ofNat n.toNat).toArray⟩
/-- Integers as cells. -/
def ints (k : IntKind) (ns : List Int) : List Value := ns.map (Value.int k)
def zeros (n : Nat) : List Int := List.replicate n 0
/-- The cells from an address on are these integers. -/
def hrow (h : H) (a : Addr) (k : IntKind) (ns : List Int) : Prop := hcs h a (ints k ns)

/-! ### Values -/
inductive Ch where
  | c (v : Value)
  | row (k : IntKind) (n : Nat) (ns : List Int)

inductive DV where
  | one (v : Value)
  | addr (p : Addr)
  | fnv (v : Value)
  | agg (cs : List Ch)

inductive SV where
  | un
  | nd
  | dv (x : DV)
  | tup (xs : List DV)

def Ch.flat : Ch → List Value
  | .c v => [v]
  | .row k _ ns => ints k ns
def Ch.size : Ch → Nat
  | .c _ => 1
  | .row _ n _ => n
def flats : List Ch → List Value
  | [] => []
  | c :: r => c.flat ++ flats r
def chsSize : List Ch → Nat
  | [] => 0
  | c :: r => c.size + chsSize r
def Ch.ok : Ch → Prop
  | .c v => v.oneCell' = true
  | .row _ n ns => ns.length = n
def oks (cs : List Ch) : Prop := ∀ c, c ∈ cs → c.ok

def DV.flat : DV → Value
  | .one v => v
  | .addr p => .pointer (some p)
  | .fnv v => v
  | .agg cs => .agg (flats cs).toArray
def DV.ok : DV → Prop
  | .one v => v.oneCell' = true
  | .addr _ => True
  | .fnv v => v.oneCell' = true
  | .agg cs => oks cs
/-- The chunks of a value, as they lie in memory. -/
def DV.chs : DV → List Ch
  | .agg cs => cs
  | .one v => [.c v]
  | .addr p => [.c (.pointer (some p))]
  | .fnv v => [.c v]

def SV.rel : SV → Value → Prop
  | .un, _ => True
  | .nd, v => v = undef
  | .dv x, v => x.ok ∧ v = x.flat
  | .tup xs, v => (∀ x, x ∈ xs → x.ok) ∧ v = .tuple (xs.map DV.flat).toArray

abbrev Fr := List (Nat × SV)
def get : Fr → Nat → SV
  | [], _ => .un
  | (j, v) :: r, i => match Nat.beq i j with | true => v | false => get r i
def putO (d : Option Nat) (v : SV) (fr : Fr) : Fr := match d with | some d => (d, v) :: fr | none => fr
def erase (ds : List Nat) (fr : Fr) : Fr := match ds with | [] => fr | d :: r => (d, .un) :: erase r fr

def FR (fr : Fr) (tmps : Array Value) : Prop := ∀ i, (get fr i).rel (tmps.getD i undef)

/-! ### Shapes of types -/
inductive Sh where
  | int (k : IntKind) | bool | str | ptr | slc | mp | fn | ifc
  | row (k : IntKind) (n : Nat)

def Sh.size : Sh → Nat
  | .row _ n => n
  | _ => 1
def shsSize : List Sh → Nat
  | [] => 0
  | s :: r => s.size + shsSize r

def shScalar : TypeDesc → Option Sh
  | .bool => some .bool | .int k => some (.int k) | .string => some .str | .pointer _ => some .ptr | .slice _ => some .slc
  | .map _ _ => some .mp | .func .. => some .fn | .interface _ => some .ifc
  | _ => none

/-- The shapes of a type's cells, one behind the other (a guess that is checked where it is used). -/
def shList (P : Program) : Nat → TypeId → List Sh
  | 0, _ => []
  | f + 1, t =>
    match P.underlying t with
    | some (.struct fs) => fs.toList.flatMap fun x => shList P f x.type
    | some (.array n e) => match P.underlying e with
      | some (.int k) => [.row k n]
      | _ => (List.replicate n (shList P f e)).flatten
    | some d => match shScalar d with | some s => [s] | none => []
    | none => []

inductive TSh where
  | sc (s : Sh)
  | ag (l : List Sh)

def tsh (P : Program) (t : TypeId) : Option TSh :=
  match P.underlying t with
  | some (.struct _) | some (.array _ _) => match P.info? t with
    | some i => match Nat.beq i.size (shsSize (shList P 8 t)) with | true => some (.ag (shList P 8 t)) | false => none
    | none => none
  | some d => (shScalar d).map .sc
  | none => none

/-- How many cells a type takes. -/
def szOf (P : Program) (t : TypeId) : Option Nat := (P.info? t).map (·.size)

/-- A cell of one shape is read. -/
def ld1 (h : H) (a : Addr) : Sh → (DV → Prop) → Prop
  | .int k, K => ∃ n : Int, hc h a = some (.int k n) ∧ K (.one (.int k n))
  | .bool, K => ∃ b : Bool, hc h a = some (.bool b) ∧ K (.one (.bool b))
  | .str, K => ∃ s : ByteArray, hc h a = some (.string s) ∧ K (.one (.string s))
  | .ptr, K => ∃ p : Option Addr, hc h a = some (.pointer p) ∧ K (.one (.pointer p))
  | .slc, K => ∃ (p : Option Addr) (l c : Nat), hc h a = some (.slice p l c) ∧ K (.one (.slice p l c))
  | .mp, K => ∃ r : Option Nat, hc h a = some (.map r) ∧ K (.one (.map r))
  | .fn, K => ∃ v : Value, hc h a = some v ∧ v.oneCell' = true ∧ K (.fnv v)
  | .ifc, K => ∃ v : Value, hc h a = some v ∧ v.oneCell' = true ∧ K (.fnv v)
  | .row _ _, _ => False

def ldSh (h : H) (a : Addr) : Nat → List Sh → (List Ch → Prop) → Prop
  | _, [], K => K []
  | o, .row k n :: r, K => ∃ ns : List Int, ns.length = n ∧ hrow h (a.add o) k ns ∧ ldSh h a (o + n) r fun cs => K (.row k n ns :: cs)
  | o, s :: r, K => ld1 h (a.add o) s fun x => ldSh h a (o + 1) r fun cs => K (x.chs ++ cs)

/-- A variable of type t is read. -/
def ldT (P : Program) (t : TypeId) (h : H) (a : Addr) (K : DV → Prop) : Prop :=
  match tsh P t with
  | some (.sc s) => ld1 h a s K
  | some (.ag l) => ldSh h a 0 l fun cs => K (.agg cs)
  | none => False

/-! ### Zero values -/
def veq : Value → Value → Bool
  | .int j a, .int k b => match j == k with | true => a == b | false => false
  | .bool a, .bool b => a == b
  | .string a, .string b => match a.data.toList, b.data.toList with | [], [] => true | _, _ => false
  | .pointer none, .pointer none => true
  | .slice none 0 0, .slice none 0 0 => true
  | .map none, .map none => true
  | .nilFunc, .nilFunc => true
  | .nilIface, .nilIface => true
  | _, _ => false
def vseq : List Value → List Value → Bool
  | [], [] => true
  | a :: x, b :: y => match veq a b with | true => vseq x y | false => false
  | _, _ => false

def Sh.zero : Sh → Ch
  | .int k => .c (.int k 0) | .bool => .c (.bool false) | .str => .c (.string ⟨#[]⟩) | .ptr => .c (.pointer none) | .slc => .c (.slice none 0 0)
  | .mp => .c (.map none) | .fn => .c .nilFunc | .ifc => .c .nilIface | .row k n => .row k n (zeros n)

/-- The zero value of a type, in chunks, checked against the program's own table. -/
def zeroChs (P : Program) (t : TypeId) : Option (List Ch) :=
  match (P.info? t).bind (·.zero), tsh P t with
  | some z, some (.ag l) => match vseq (flats (l.map Sh.zero)) z.cells.toList with | true => some (l.map Sh.zero) | false => none
  | some z, some (.sc s) => match vseq s.zero.flat z.cells.toList with | true => some [s.zero] | false => none
  | _, _ => none

/-! ### Parts of aggregates -/
/-- The chunks from an offset on. -/
def dropC : List Ch → Nat → Option (List Ch)
  | [], n => bif Nat.beq n 0 then some [] else none
  | c :: r, n => bif Nat.beq n 0 then some (c :: r) else bif Nat.ble c.size n then dropC r (n - c.size) else none
/-- The first chunks, so many cells. -/
def takeC : List Ch → Nat → Option (List Ch)
  | [], n => bif Nat.beq n 0 then some [] else none
  | c :: r, n => bif Nat.beq n 0 then some [] else bif Nat.ble c.size n then (takeC r (n - c.size)).map (c :: ·) else none
def partC (cs : List Ch) (off size : Nat) : Option (List Ch) := (dropC cs off).bind (takeC · size)
/-- Chunks put in the place of others, from an offset on. -/
def putC (cs : List Ch) (off : Nat) (xs : List Ch) : Option (List Ch) :=
  (takeC cs off).bind fun a => (dropC cs (off + chsSize xs)).map fun b => a ++ xs ++ b
/-- One integer of a row put anew. -/
def putRow (cs : List Ch) (i : Nat) (x : List Ch) : Option (List Ch) :=
  match cs, x with
  | [.row k n ns], [.c (.int k' v)] => match k == k', Nat.blt i n with | true, true => some [.row k n (ns.set i v)] | _, _ => none
  | _, _ => none

/-! ### Operands, guards -/
def constSV : Value → SV
  | .agg _ => .un
  | .tuple _ => .un
  | v => .dv (.one v)
def ev (fr : Fr) : Operand → SV
  | .tmp t => get fr t
  | .const v => constSV v
  | .global g => .dv (.addr ⟨g, 0, none⟩)
  | .func f => .dv (.one (.func (.func f) #[] #[]))

/-! ### Operations that touch no memory -/
/-- A field held against another one. -/
def fieldEq (P : Program) (t : TypeId) (x y : Ch) : Option Bool :=
  match x, y with
  | .c (.int k a), .c (.int k' b) => match k == k', P.underlying t with | true, some (.int _) => some (a == b) | _, _ => none
  | .c (.bool a), .c (.bool b) => match P.underlying t with | some .bool => some (a == b) | _ => none
  | .c (.string a), .c (.string b) => match P.underlying t with | some .string => some (a.toList == b.toList) | _ => none
  | .row k n a, .row k' n' b => match P.underlying t, szOf P t with
    | some (.array m e), some sz => match P.underlying e, szOf P e, k == k', Nat.beq n m && Nat.beq n' m && Nat.beq sz m with
      | some (.int _), some 1, true, true => some (a == b)
      | _, _, _, _ => none
    | _, _ => none
  | _, _ => none
/-- Structs held against each other, field by field, one chunk a field. -/
def structEq (P : Program) : Nat → List Field → List Ch → List Ch → Option Bool
  | _, [], [], [] => some true
  | off, f :: fs, x :: xs, y :: ys => match f.name == "_", Nat.beq f.offset off, fieldEq P f.type x y with
    | false, true, some b => (structEq P (off + x.size) fs xs ys).map (b && ·)
    | _, _, _ => none
  | _, _, _, _ => none
def aggEq (P : Program) (t : TypeId) (xs ys : List Ch) : Option Bool :=
  match P.eqGuardType P.depth t, P.underlying t with
  | false, some (.array _ _) => match xs, ys with
    | [x], [y] => fieldEq P t x y
    | _, _ => none
  | false, some (.struct fs) => match P.stoodInHeld t with
    | false => structEq P 0 fs.toList xs ys
    | true => none
  | _, _ => none

def isIfc : Value → Bool
  | .nilIface => true
  | .iface _ _ => true
  | _ => false
def isNilI : Value → Bool
  | .nilIface => true
  | _ => false

/-- Comparing, in such a form that the kernel stops at a variable, and never reckons with a great number for nothing. -/
def signs (a b : Int) (x : Bool) : Bool := match a with
  | .ofNat _ => (match b with | .ofNat _ => x | .negSucc _ => x)
  | .negSucc _ => (match b with | .ofNat _ => x | .negSucc _ => x)
def ltI (a b : Int) : Bool := signs a b (decide (a < b))
def leI (a b : Int) : Bool := signs a b (decide (a ≤ b))
@[simp] theorem ltI_eq (a b : Int) : ltI a b = decide (a < b) := by cases a <;> cases b <;> rfl
@[simp] theorem leI_eq (a b : Int) : leI a b = decide (a ≤ b) := by cases a <;> cases b <;> rfl
def isConstO : Operand → Bool
  | .const _ => true
  | _ => false
def Dbin (P : Program) (op : BinOp) (t : TypeId) (x y : DV) (yc : Bool) (K : SV → Prop) : Prop :=
  match x, y with
  | .one (.int k a), .one (.int k' b) =>
    match op with
    | .shl => 0 ≤ b ∧ K (.dv (.one (.int k (k.wrap (a * 2 ^ (min b.toNat k.bits))))))
    | .shr => 0 ≤ b ∧ K (.dv (.one (.int k (a.fdiv (2 ^ (min b.toNat k.bits))))))
    | _ => match k == k' with
      | false => False
      | true => match op with
        | .add => K (.dv (.one (.int k (k.wrap (a + b)))))
        | .sub => K (.dv (.one (.int k (k.wrap (a - b)))))
        | .mul => K (.dv (.one (.int k (k.wrap (a * b)))))
        | .quo => b ≠ 0 ∧ K (.dv (.one (.int k (k.wrap (a.tdiv b)))))
        | .rem => b ≠ 0 ∧ K (.dv (.one (.int k (a.tmod b))))
        | .and => K (.dv (.one (.int k (bits .and k a b))))
        | .or => K (.dv (.one (.int k (bits .or k a b))))
        | .xor => K (.dv (.one (.int k (bits .xor k a b))))
        | .andNot => K (.dv (.one (.int k (bits .andNot k a b))))
        | .eql => K (.dv (.one (.bool (a == b))))
        | .neq => K (.dv (.one (.bool (a != b))))
        | .lss => K (.dv (.one (.bool (ltI a b))))
        | .leq => K (.dv (.one (.bool (leI a b))))
        | .gtr => K (.dv (.one (.bool (ltI b a))))
        | .geq => K (.dv (.one (.bool (leI b a))))
        | _ => False
  | .one (.bool a), .one (.bool b) => match P.underlying t, op with
    | some .bool, .eql => K (.dv (.one (.bool (a == b))))
    | some .bool, .neq => K (.dv (.one (.bool (!(a == b)))))
    | _, _ => False
  | .one (.string a), .one (.string b) => match op with
    | .eql => K (.dv (.one (.bool (a.toList == b.toList))))
    | .neq => K (.dv (.one (.bool (!(a.toList == b.toList)))))
    | .add => ((a.size + b.size : Nat) : Int) ≤ IntKind.i64.max ∧ K (.dv (.one (.string (a ++ b))))
    | _ => False
  | .one (.pointer a), .one (.pointer none) => match P.underlying t, op with
    | some (.pointer _), .eql => K (.dv (.one (.bool a.isNone)))
    | some (.pointer _), .neq => K (.dv (.one (.bool (!a.isNone))))
    | _, _ => False
  | .addr _, .one (.pointer none) => match P.underlying t, op with
    | some (.pointer _), .eql => K (.dv (.one (.bool false)))
    | some (.pointer _), .neq => K (.dv (.one (.bool true)))
    | _, _ => False
  | .one (.slice a _ _), .one (.slice none 0 0) => match P.underlying t, op with
    | some (.slice _), .eql => K (.dv (.one (.bool a.isNone)))
    | some (.slice _), .neq => K (.dv (.one (.bool (!a.isNone))))
    | _, _ => False
  | .fnv v, .one .nilIface => match yc, P.underlying t, op with
    | true, some (.interface _), .eql => isIfc v = true ∧ K (.dv (.one (.bool (isNilI v))))
    | true, some (.interface _), .neq => isIfc v = true ∧ K (.dv (.one (.bool (!isNilI v))))
    | _, _, _ => False
  | .agg xs, .agg ys => match op with
    | .eql => match aggEq P t xs ys with | some b => K (.dv (.one (.bool b))) | none => False
    | .neq => match aggEq P t xs ys with | some b => K (.dv (.one (.bool (!b)))) | none => False
    | _ => False
  | _, _ => False

def Dun (op : UnOp) (x : DV) (K : SV → Prop) : Prop :=
  match op, x with
  | .not, .one (.bool b) => K (.dv (.one (.bool (!b))))
  | .neg, .one (.int k n) => K (.dv (.one (.int k (k.wrap (0 - n)))))
  | .xor, .one (.int k n) => K (.dv (.one (.int k (bits .xor k (if k.signed then -1 else k.max) n))))
  | _, _ => False

/-- An index or a bound: an integer within. -/
def asI : SV → Option Int
  | .dv (.one (.int _ i)) => some i
  | _ => none

def opI (fr : Fr) : Option Operand → Option (Option Int)
  | none => some none
  | some x => (asI (ev fr x)).map some

/-- x[lo:hi:max] of something so long, with so much room. -/
def Dbounds (lo hi mx : Option Int) (len cap : Nat) (K : Nat → Nat → Nat → Prop) : Prop :=
  match lo, hi, mx with
  | none, none, none => K 0 len cap
  | some l, none, none => 0 ≤ l ∧ l ≤ (len : Int) ∧ K l.toNat len cap
  | none, some h, none => 0 ≤ h ∧ h ≤ (cap : Int) ∧ K 0 h.toNat cap
  | some l, some h, none => 0 ≤ l ∧ l ≤ h ∧ h ≤ (cap : Int) ∧ K l.toNat h.toNat cap
  | some l, some h, some m => 0 ≤ l ∧ l ≤ h ∧ h ≤ m ∧ m ≤ (cap : Int) ∧ K l.toNat h.toNat m.toNat
  | none, some h, some m => 0 ≤ h ∧ h ≤ m ∧ m ≤ (cap : Int) ∧ K 0 h.toNat m.toNat
  | _, _, _ => False

/-- The address at which a slice of a slice begins. -/
def subAddr (p : Option Addr) (l m size : Nat) : Option Addr := if m = l then p else p.map (·.add (l * size))

def Dslice (P : Program) (t : TypeId) (x : SV) (lo hi mx : Option Int) (K : SV → Prop) : Prop :=
  match P.underlying t, x with
  | some (.slice e), .dv (.one (.slice p l c)) => match szOf P e with
    | some sz => Dbounds lo hi mx l c fun a b m => K (.dv (.one (.slice (subAddr p a m sz) (b - a) (m - a))))
    | none => False
  | some (.array n e), .dv (.addr p) => match szOf P e with
    | some sz => Dbounds lo hi mx n n fun a b m => K (.dv (.one (.slice (subAddr (some p) a m sz) (b - a) (m - a))))
    | none => False
  | some .string, .dv (.one (.string s)) => match mx with
    | none => Dbounds lo hi none s.size s.size fun a b _ => K (.dv (.one (.string (s.extract a b))))
    | some _ => False
  | _, _ => False

def DindexAddr (P : Program) (t : TypeId) (x : SV) (i : Option Int) (K : SV → Prop) : Prop :=
  match P.underlying t, x, i with
  | some (.slice e), .dv (.one (.slice p l _)), some i => match szOf P e with
    | some sz => ∃ q, p = some q ∧ 0 ≤ i ∧ i < (l : Int) ∧ K (.dv (.addr (q.add (i.toNat * sz))))
    | none => False
  | some (.array n e), .dv (.addr q), some i => match szOf P e with
    | some sz => 0 ≤ i ∧ i < (n : Int) ∧ K (.dv (.addr (q.add (i.toNat * sz))))
    | none => False
  | _, _, _ => False

/-- A slice's first elements, as an array's place. -/
def Darr (P : Program) (t : TypeId) (x : SV) (K : SV → Prop) : Prop :=
  match P.underlying t, x with
  | some (.array n _), .dv (.one (.slice p l _)) => ∃ q, p = some q ∧ n ≤ l ∧ K (.dv (.addr q))
  | _, _ => False

def Dindex (P : Program) (t : TypeId) (x : SV) (i : Option Int) (K : SV → Prop) : Prop :=
  match P.underlying t, x, i with
  | some (.array n e), .dv (.agg [.row k m ns]), some i => match P.underlying e, szOf P e, Nat.beq n m with
    | some (.int _), some 1, true => 0 ≤ i ∧ i < (n : Int) ∧ K (.dv (.one (.int k (ns.getD i.toNat 0))))
    | _, _, _ => False
  | some .string, .dv (.one (.string s)), some i => 0 ≤ i ∧ i < (s.size : Int) ∧ K (.dv (.one (.int .u8 ((s.data.toList.getD i.toNat 0).toNat : Int))))
  | _, _, _ => False

/-- A value made of chunks, of a type. -/
def ofChs (P : Program) (t : TypeId) (cs : List Ch) : Option DV :=
  match tsh P t, cs with
  | some (.ag _), cs => some (.agg cs)
  | some (.sc .fn), [.c v] => some (.fnv v)
  | some (.sc .ifc), [.c v] => some (.fnv v)
  | some (.sc (.row _ _)), _ => none
  | some (.sc _), [.c v] => some (.one v)
  | _, _ => none

def Dfield (P : Program) (t : TypeId) (x : SV) (f : Nat) (K : SV → Prop) : Prop :=
  match P.underlying t, x with
  | some (.struct fs), .dv (.agg cs) => match fs[f]? with
    | some fd => match szOf P fd.type with
      | some n => match (partC cs fd.offset n).bind (ofChs P fd.type) with
        | some d => K (.dv d)
        | none => False
      | none => False
    | none => False
  | _, _ => False

def DfieldAddr (P : Program) (t : TypeId) (x : SV) (f : Nat) (K : SV → Prop) : Prop :=
  match P.underlying t, x with
  | some (.struct fs), .dv (.addr p) => match fs[f]? with
    | some fd => match szOf P fd.type with
      | some (_ + 1) => K (.dv (.addr (p.add fd.offset)))
      | _ => False
    | none => False
  | _, _ => False

/-- A composite literal's parts laid into chunks. -/
def fillC (place : Nat → Option (Nat × Nat)) (isRow : Bool) : List (Nat × SV) → List Ch → Option (List Ch)
  | [], cs => some cs
  | (i, .dv x) :: r, cs => match place i with
    | some (off, sz) => match Nat.beq (chsSize x.chs) sz, isRow with
      | true, true => (match Nat.beq sz 1 with | true => (putRow cs off x.chs).bind (fillC place isRow r) | false => none)
      | true, false => (putC cs off x.chs).bind (fillC place isRow r)
      | false, _ => none
    | none => none
  | _, _ => none
/-- Is a type an array of integers of one cell each? -/
def isRowT (P : Program) (t : TypeId) : Bool :=
  match P.underlying t with
  | some (.array _ e) => match P.underlying e, szOf P e with | some (.int _), some 1 => true | _, _ => false
  | _ => false
def Dbuild (P : Program) (t : TypeId) (parts : List (Nat × SV)) (K : SV → Prop) : Prop :=
  match P.underlying t, zeroChs P t with
  | some (.struct fs), some z => match fs.toList.mapM (fun f => (P.info? f.type).map fun i => (f.offset, i.size)) with
    | some pl => match fillC (fun i => pl[i]?) false parts z with | some cs => K (.dv (.agg cs)) | none => False
    | none => False
  | some (.array _ e), some z => match P.info? e with
    | some ie => match fillC (fun i => some (i * ie.size, ie.size)) (isRowT P t) parts z with | some cs => K (.dv (.agg cs)) | none => False
    | none => False
  | _, _ => False

def dvs : List SV → Option (List DV)
  | [] => some []
  | .dv x :: r => (dvs r).map (x :: ·)
  | _ => none

def Dbi (P : Program) (b : Builtin) (argTypes : List TypeId) (args : List SV) (K : SV → Prop) : Prop :=
  match b, argTypes, args with
  | .len, [t], [.dv (.one (.slice _ l _))] => match P.underlying t with | some (.slice _) => K (.dv (.one (.int .i64 l))) | _ => False
  | .len, [t], [.dv (.one (.string s))] => match P.underlying t with | some .string => K (.dv (.one (.int .i64 s.size))) | _ => False
  | .len, [t], [_] => match P.underlying t with | some (.array n _) => K (.dv (.one (.int .i64 n))) | _ => False
  | .cap, [t], [.dv (.one (.slice _ _ c))] => match P.underlying t with | some (.slice _) => K (.dv (.one (.int .i64 c))) | _ => False
  | .max, _, [.dv (.one (.int k x)), .dv (.one (.int _ y))] => K (.dv (.one (.int k (if y > x then y else x))))
  | .min, _, [.dv (.one (.int k x)), .dv (.one (.int _ y))] => K (.dv (.one (.int k (if y < x then y else x))))
  | _, _, _ => False

def Dconv (P : Program) (src dst : TypeId) (x : SV) (K : SV → Prop) : Prop :=
  match P.underlying src, P.underlying dst, x with
  | some _, some (.int k), .dv (.one (.int _ n)) => K (.dv (.one (.int k (k.wrap n))))
  | some _, some .string, .dv (.one (.string s)) => K (.dv (.one (.string s)))
  | _, _, _ => False

/-- Is it an operation of this kind? (A conversion may look into memory.) -/
def isPure (P : Program) : Op → Bool
  | .move _ | .assign _ | .pick .. | .nilCheck _ | .binOp .. | .unOp .. | .fieldAddr .. | .field .. | .indexAddr .. | .index .. | .extract .. | .slice .. | .build ..
  | .makeFunc .. | .makeInterface .. | .sliceToArrayPointer .. => true
  | .convert s d _ => match P.underlying s, P.underlying d with
    | some (.int _), some (.int _) => true
    | some .string, some .string => true
    | _, _ => false
  | .call { callee := .builtin .len, argTypes, .. } => match argTypes.toList with
    | [t] => match P.underlying t with | some (.map _ _) => false | some (.chan _ _) => false | _ => true
    | _ => false
  | .call { callee := .builtin .cap, .. } | .call { callee := .builtin .max, .. } | .call { callee := .builtin .min, .. } => true
  | _ => false

/-- A great constant is a variable that equals it: the kernel must not count up to it. -/
def evB (fr : Fr) (o : Operand) (K : SV → Prop) : Prop :=
  match o with
  | .const (.int k n) => match Nat.ble n.natAbs 16777216 with
    | true => K (.dv (.one (.int k n)))
    | false => ∀ c : Int, c = n → K (.dv (.one (.int k c)))
  | o => K (ev fr o)
theorem evB_ev {fr : Fr} {o : Operand} {K : SV → Prop} (h : evB fr o K) : K (ev fr o) := by
  unfold evB at h
  split at h
  · split at h
    · exact h
    · exact h _ rfl
  · exact h
def Dbin2 (P : Program) (op : BinOp) (t : TypeId) (x y : SV) (yc : Bool) (K : SV → Prop) : Prop :=
  match x, y with | .dv a, .dv b => Dbin P op t a b yc K | _, _ => False
def Dpure (P : Program) (o : Op) (fr : Fr) (K : SV → Prop) : Prop :=
  match o with
  | .move x => K (ev fr x)
  | .assign x => K (ev fr x)
  | .pick c a b => match ev fr c with | .dv (.one (.bool t)) => if t = true then K (ev fr a) else K (ev fr b) | _ => False
  | .nilCheck x => match ev fr x with
    | .dv (.addr p) => K (.dv (.addr p))
    | .dv (.one (.pointer a)) => ∃ p, a = some p ∧ K (.dv (.addr p))
    | .dv (.one (.func (.func f) a c)) => K (.dv (.one (.func (.func f) a c)))
    | _ => False
  | .binOp op t x y _ => evB fr x fun x' => evB fr y fun y' => Dbin2 P op t x' y' (isConstO y) K
  | .unOp op _ x => match ev fr x with | .dv a => Dun op a K | _ => False
  | .convert s d x => Dconv P s d (ev fr x) K
  | .fieldAddr t x f => DfieldAddr P t (ev fr x) f K
  | .field t x f => Dfield P t (ev fr x) f K
  | .indexAddr t x i => DindexAddr P t (ev fr x) (asI (ev fr i)) K
  | .index t x i => Dindex P t (ev fr x) (asI (ev fr i)) K
  | .extract x i => match ev fr x with | .tup xs => (match xs[i]? with | some d => K (.dv d) | none => False) | _ => False
  | .slice t x lo hi mx => match opI fr lo, opI fr hi, opI fr mx with
    | some lo, some hi, some mx => Dslice P t (ev fr x) lo hi mx K
    | _, _, _ => False
  | .build t parts => Dbuild P t (parts.toList.map fun (i, x) => (i, ev fr x)) K
  | .makeFunc fn first cap => match dvs (first.toList.map (ev fr)), dvs (cap.toList.map (ev fr)) with
    | some a, some c => K (.dv (.one (.func fn (a.map DV.flat).toArray (c.map DV.flat).toArray)))
    | _, _ => False
  | .sliceToArrayPointer t x => Darr P t (ev fr x) K
  | .makeInterface t x => match P.underlying t, ev fr x with
    | some (.interface _), _ => False
    | some _, .dv d => K (.dv (.fnv (.iface t d.flat)))
    | _, _ => False
  | .call { callee := .builtin b, args, argTypes } => Dbi P b argTypes.toList (args.toList.map (ev fr)) K
  | _ => False

/-! ### What the outside world keeps -/
def Rest (w w' : World) : Prop := w'.tape = w.tape ∧ w'.os = w.os ∧ w'.output = w.output

/-! ### Calls -/
def callable (P : Program) (f : FuncId) : Bool :=
  match P.funcs[f]? with
  | some fn => !(fn.name == "runtime.NumGoroutine") && fn.body.isSome
  | none => false
def resVal : List DV → Value
  | [x] => x.flat
  | xs => .tuple (xs.map DV.flat).toArray
def toSV : List DV → SV
  | [x] => .dv x
  | xs => .tup xs
/-- Called in whatever world of this heap the function answers so. -/
def callsV (P : Program) (f : FuncId) (args : List Value) (Q : List DV → H → Prop) (h : H) : Prop :=
  callable P f = true ∧ ∀ w : World, w.heap = h → Calls P f args.toArray w fun e w' => ∃ xs, (∀ x, x ∈ xs → x.ok) ∧ e = .returned (resVal xs) ∧ Rest w w' ∧ Q xs w'.heap
abbrev Run := List DV → (List DV → H → Prop) → H → Prop
abbrev Tbl := List (Nat × Run)
def RunOk (P : Program) (f : FuncId) (run : Run) : Prop := ∀ args Q h, (∀ x, x ∈ args → x.ok) → run args Q h → callsV P f (args.map DV.flat) Q h
def TblOk (P : Program) (T : Tbl) : Prop := ∀ f run, (f, run) ∈ T → RunOk P f run
def lookupT : Tbl → Nat → Option Run
  | [], _ => none
  | (g, r) :: T, f => match Nat.beq f g with | true => some r | false => lookupT T f
/-- A function value is called. -/
def callFn (P : Program) (v : Value) (args : List DV) (Q : List DV → H → Prop) (h : H) : Prop :=
  ∃ f a c, v = .func (.func f) a c ∧ callsV P f (a.toList ++ args.map DV.flat ++ c.toList) Q h
def toDV : Value → DV
  | .pointer (some p) => .addr p
  | v => .one v

/-- One result, or a kept value, is of a shape. -/
def isSh : Sh → DV → (DV → Prop) → Prop
  | .int k, x, K => ∃ n : Int, x = .one (.int k n) ∧ K (.one (.int k n))
  | .bool, x, K => ∃ b : Bool, x = .one (.bool b) ∧ K (.one (.bool b))
  | .str, x, K => ∃ s : ByteArray, x = .one (.string s) ∧ K (.one (.string s))
  | .ptr, x, K => ∃ p : Option Addr, x = .one (.pointer p) ∧ K (.one (.pointer p))
  | .slc, x, K => ∃ (p : Option Addr) (l c : Nat), x = .one (.slice p l c) ∧ K (.one (.slice p l c))
  | .mp, x, K => ∃ r : Option Nat, x = .one (.map r) ∧ K (.one (.map r))
  | .fn, x, K => ∃ v : Value, x = .fnv v ∧ K (.fnv v)
  | .ifc, x, K => ∃ v : Value, x = .fnv v ∧ K (.fnv v)
  | .row _ _, _, _ => False
def tyRes : List TSh → List DV → (List DV → Prop) → Prop
  | [], rs, K => rs = [] ∧ K []
  | .sc s :: r, rs, K => ∃ x rest, rs = x :: rest ∧ isSh s x fun x => tyRes r rest fun l => K (x :: l)
  | .ag _ :: _, _, _ => False
def resShs (P : Program) (t : TypeId) : Option (List TSh) :=
  match P.underlying t with
  | some (.tuple ts) => ts.toList.mapM (tsh P)
  | _ => (tsh P t).map ([·])

/-! ### Maps whose keys are integers, strings or bools -/
def entsOf (a : Array MapEntry) (es : List (Value × DV)) : Prop := a.toList.map (fun e => (e.key, e.val)) = es.map (fun e => (e.1, e.2.flat)) ∧ ∀ e, e ∈ es → e.2.ok
/-- What a map holds. -/
def hmap (h : H) (r : Nat) (es : List (Value × DV)) : Prop := ∃ a cl, h[r]? = some (Obj.map a cl) ∧ entsOf a es
def hmapO (h : H) (r : Option Nat) (es : List (Value × DV)) : Prop := match r with | some r => hmap h r es | none => es = []
def hmnew (h : H) (b : Nat) (h' : H) : Prop := b = h.size ∧ h' = h.push (.map #[] 0)
def hmset (h : H) (r : Nat) (es : List (Value × DV)) (h' : H) : Prop := ∃ a cl, h' = h.setIfInBounds r (.map a cl) ∧ entsOf a es
def keyEq : Value → Value → Option Bool
  | .int k a, .int k' b => match k == k' with | true => some (a == b) | false => none
  | .string a, .string b => some (a == b)
  | .bool a, .bool b => some (a == b)
  | _, _ => none
def keyT (P : Program) (t : TypeId) (v : Value) : Bool :=
  match P.underlying t, v with
  | some (.int _), .int _ _ => true
  | some .string, .string _ => true
  | some .bool, .bool _ => true
  | _, _ => false
/-- What a map has at a key; and whether it is there. (None: the keys do not fit.) -/
def mlook (key : Value) (z : DV) : List (Value × DV) → Option (DV × Bool)
  | [] => some (z, false)
  | e :: r => match keyEq key e.1 with | some true => some (e.2, true) | some false => mlook key z r | none => none
def mins (key : Value) (d : DV) : List (Value × DV) → Option (List (Value × DV))
  | [] => some [(key, d)]
  | e :: r => match keyEq key e.1 with | some true => some ((key, d) :: r) | some false => (mins key d r).map (e :: ·) | none => none
/-- A value is of a type's shape. -/
def isT (P : Program) (t : TypeId) (d : DV) (K : DV → Prop) : Prop :=
  match tsh P t with
  | some (.sc s) => isSh s d K
  | _ => False
def zeroD (P : Program) (t : TypeId) : Option DV :=
  match (P.info? t).bind (·.zero) with
  | some .nilFunc => some (.fnv .nilFunc)
  | some .nilIface => some (.fnv .nilIface)
  | some (.int k n) => some (.one (.int k n))
  | some (.bool b) => some (.one (.bool b))
  | some (.string s) => some (.one (.string s))
  | some (.pointer none) => some (.one (.pointer none))
  | some (.map none) => some (.one (.map none))
  | some (.slice none 0 0) => some (.one (.slice none 0 0))
  | _ => none

/-! ### Operations on memory -/
def pApp (h : H) (sz : Nat) (zero : List Value) (bytes : Nat) (p : Option Addr) (l c n : Nat) (vs : List Value) (K : Option Addr → Nat → Nat → H → Prop) : Prop :=
  if l + n ≤ c then
    (vs = [] ∨ ∃ a, p = some a ∧ hcan h (a.add (l * sz)) (n * sz)) ∧ ∀ h', h' = hwrO h (p.map (·.add (l * sz))) vs → K p (l + n) c h'
  else (l + n) * bytes ≤ 2 ^ 47 ∧ ∃ old, hsv h p sz l old ∧
    ∀ c' b h', l + n ≤ c' → hnew h b (old ++ vs ++ (List.replicate (c' - (l + n)) zero).flatten) h' → K (some ⟨b, 0, none⟩) (l + n) c' h'

/-- What append or copy takes from: a slice's cells, or a string's bytes. -/
def srcOf (h : H) (sz : Nat) (x : SV) (K : Nat → List Value → Prop) : Prop :=
  match x with
  | .dv (.one (.slice q n _)) => ∃ vs, hsv h q sz n vs ∧ K n vs
  | .dv (.one (.string s)) => match Nat.beq sz 1 with | true => K s.size (s.data.toList.map fun b => .int .u8 b.toNat) | false => False
  | _ => False

def isSrcT (P : Program) (t : TypeId) : Bool :=
  match P.underlying t with | some (.slice _) => true | some .string => true | _ => false

def Dappend (P : Program) (argTypes : List TypeId) (args : List SV) (K : SV → H → Prop) (h : H) : Prop :=
  match argTypes, args with
  | [st, xt], [.dv (.one (.slice p l c)), x] => match P.underlying st, isSrcT P xt with
    | some (.slice e), true => match szOf P e, (P.info? e).map TypeInfo.bytes, zeroChs P e with
      | some sz, some (bytes + 1), some z => srcOf h sz x fun n vs => pApp h sz (flats z) (bytes + 1) p l c n vs fun p' l' c' h' => K (.dv (.one (.slice p' l' c'))) h'
      | _, _, _ => False
    | _, _ => False
  | _, _ => False

def Dcopy (P : Program) (argTypes : List TypeId) (args : List SV) (K : SV → H → Prop) (h : H) : Prop :=
  match argTypes, args with
  | st :: _, [.dv (.one (.slice p l _)), .dv (.one (.slice q n _))] => match P.underlying st with
    | some (.slice e) => match szOf P e with
      | some sz => ∃ vs, hsv h q sz (Nat.min n l) vs ∧ (vs = [] ∨ ∃ a, p = some a ∧ hcan h a (Nat.min n l * sz)) ∧
          ∀ h', h' = hwrO h p vs → K (.dv (.one (.int .i64 (Nat.min n l : Nat)))) h'
      | none => False
    | _ => False
  | _, _ => False

def setParts (sz : Nat) : List (Nat × SV) → List (List Ch) → Option (List (List Ch))
  | [], l => some l
  | (i, .dv x) :: r, l => match Nat.beq (chsSize x.chs) sz, Nat.blt i l.length with
    | true, true => setParts sz r (l.set i x.chs)
    | _, _ => none
  | _, _ => none

def Dcall (P : Program) (T : Tbl) (ty : TypeId) (f : SV) (args : Option (List DV)) (K : SV → H → Prop) (h : H) : Prop :=
  match f, args with
  | .dv (.one (.func (.func g) a c)), some xs => match lookupT T g, (a.toList ++ c.toList).all (fun v => v.oneCell') with
    | some run, true => run (a.toList.map toDV ++ xs ++ c.toList.map toDV) (fun rs h' => K (toSV rs) h') h
    | _, _ => False
  | .dv (.fnv v), some xs => match resShs P ty with
    | some shs => callFn P v xs (fun rs h' => tyRes shs rs fun rs => K (toSV rs) h') h
    | none => False
  | _, _ => False

def DmapSet (P : Program) (t : TypeId) (m k v : SV) (K : H → Prop) (h : H) : Prop :=
  match P.underlying t, m, k, v with
  | some (.map kt _), .dv (.one (.map r)), .dv (.one key), .dv d => match keyT P kt key with
    | true => ∃ q es es', r = some q ∧ hmap h q es ∧ mins key d es = some es' ∧ ∀ h', hmset h q es' h' → K h'
    | false => False
  | _, _, _, _ => False

def Dmem (P : Program) (T : Tbl) (o : Oper) (fr : Fr) (K : SV → H → Prop) (h : H) : Prop :=
  match o.op with
  | .alloc t => match zeroChs P t with
    | some cs => ∀ b h', hnew h b (flats cs) h' → K (.dv (.addr ⟨b, 0, none⟩)) h'
    | none => False
  | .box _ x => match ev fr x with
    | .dv d => ∀ b h', hnew h b (flats d.chs) h' → K (.dv (.addr ⟨b, 0, none⟩)) h'
    | _ => False
  | .buildSlice t n parts => match P.underlying t with
    | some (.slice e) => match szOf P e, zeroChs P e with
      | some sz, some z => match Nat.ble (n * sz) 16777216 && Nat.beq (chsSize z) sz, setParts sz (parts.toList.map fun (i, x) => (i, ev fr x)) (List.replicate n z) with
        | true, some l => ∀ b h', hnew h b (flats l.flatten) h' → K (.dv (.one (.slice (some ⟨b, 0, none⟩) n n))) h'
        | _, _ => False
      | _, _ => False
    | _ => False
  | .makeSlice t l c => match P.underlying t, asI (ev fr l), asI (ev fr c) with
    | some (.slice e), some l, some c => match (szOf P e).bind (fun sz => (zeroChs P e).map fun z => Nat.beq (chsSize z) sz), (P.info? e).map TypeInfo.bytes, zeroChs P e with
      | some true, some bytes, some z => 0 ≤ l ∧ l ≤ c ∧ (bytes : Int) * c ≤ 2 ^ 48 ∧ c ≤ 2 ^ 48 ∧
          ∀ b h', hnew h b (List.replicate c.toNat (flats z)).flatten h' → K (.dv (.one (.slice (some ⟨b, 0, none⟩) l.toNat c.toNat))) h'
      | _, _, _ => False
    | _, _, _ => False
  | .load t a => match ev fr a with
    | .dv (.addr p) => ldT P t h p fun d => K (.dv d) h
    | _ => False
  | .store t a x => match ev fr a, ev fr x with
    | .dv (.addr p), .dv d => match szOf P t with
      | some sz => match Nat.beq (chsSize d.chs) sz with
        | true => hcan h p sz ∧ ∀ h', h' = hwr h p (flats d.chs) → K .nd h'
        | false => False
      | none => False
    | _, _ => False
  | .convert s d x => match P.underlying s, P.underlying d, ev fr x with
    | some (.slice e), some .string, .dv (.one (.slice p l _)) => match P.underlying e with
      | some (.int .u8) => ∃ ns : List Int, hsv h p 1 l (ints .u8 ns) ∧ K (.dv (.one (.string (bytesOf ns)))) h
      | _ => False
    | some .string, some (.slice e), .dv (.one (.string s)) => match P.underlying e with
      | some (.int .u8) => ∀ c b h', s.size ≤ c → hnew h b ((s.data.toList.map fun b => .int .u8 b.toNat) ++ ints .u8 (zeros (c - s.size))) h' → K (.dv (.one (.slice (some ⟨b, 0, none⟩) s.size c))) h'
      | _ => False
    | _, _, _ => False
  | .makeMap t none => match P.underlying t with
    | some (.map _ _) => ∀ b h', hmnew h b h' → K (.dv (.one (.map (some b)))) h'
    | _ => False
  | .insert t m k v => DmapSet P t (ev fr m) (ev fr k) (ev fr v) (K .nd) h
  | .mapUpdate t m k v => DmapSet P t (ev fr m) (ev fr k) (ev fr v) (K .nd) h
  | .lookup t m k ok => match P.underlying t, ev fr m, ev fr k with
    | some (.map kt et), .dv (.one (.map r)), .dv (.one key) => match keyT P kt key, zeroD P et with
      | true, some z => ∃ (es : List (Value × DV)) (d : DV) (b : Bool), hmapO h r es ∧ mlook key z es = some (d, b) ∧ isT P et d fun d => K (match ok with | true => .tup [d, .one (.bool b)] | false => .dv d) h
      | _, _ => False
    | _, _, _ => False
  | .call c => match c.callee with
    | .value f => Dcall P T o.type (ev fr f) (dvs (c.args.toList.map (ev fr))) K h
    | .builtin .append => Dappend P c.argTypes.toList (c.args.toList.map (ev fr)) K h
    | .builtin .copy => Dcopy P c.argTypes.toList (c.args.toList.map (ev fr)) K h
    | .builtin .len => match c.argTypes.toList, c.args.toList.map (ev fr) with
      | [t], [.dv (.one (.map r))] => match P.underlying t with
        | some (.map _ _) => ∃ es : List (Value × DV), hmapO h r es ∧ K (.dv (.one (.int .i64 es.length))) h
        | _ => False
      | _, _ => False
    | _ => False
  | _ => False

def Dop (P : Program) (T : Tbl) (o : Oper) (fr : Fr) (K : SV → H → Prop) (h : H) : Prop :=
  match isPure P o.op with
  | true => Dpure P o.op fr fun x => K x h
  | false => Dmem P T o fr K h

/-! ### Guards; a region that keeps its order -/
def dstOf (ops : List Oper) (j : Nat) : Option Nat :=
  match ops, j with
  | [], _ => none
  | o :: _, 0 => o.dst
  | _ :: r, j + 1 => dstOf r j
def guardD (ops : List Oper) (g : Option (Nat × Bool)) (fr : Fr) (yes no : Fr → Prop) : Prop :=
  match g with
  | none => yes fr
  | some (j, want) => match dstOf ops j with
    | none => False
    | some d => match get fr d with
      | .nd => no fr
      | .dv (.one (.bool b)) =>
        if b = true then (match want with | true => yes ((d, .dv (.one (.bool true))) :: fr) | false => no ((d, .dv (.one (.bool true))) :: fr))
        else (match want with | true => no ((d, .dv (.one (.bool false))) :: fr) | false => yes ((d, .dv (.one (.bool false))) :: fr))
      | _ => False

def Dops (P : Program) (T : Tbl) (all : List Oper) : List Oper → (Fr → H → Prop) → Fr → H → Prop
  | [], K, fr, h => K fr h
  | o :: r, K, fr, h => guardD all o.guard fr
      (fun fr => Dop P T o fr (fun x h' => Dops P T all r K (putO o.dst x fr) h') h)
      (fun fr => Dops P T all r K (putO o.dst .nd fr) h)

/-! ### A region that draws its order -/
/-- The fact under which a load yields what it yields. -/
abbrev Fact := H → Prop
def Dload (P : Program) (o : Op) (fr : Fr) (h : H) (K : SV → Fact → Prop) : Prop :=
  match o with
  | .load t a => match ev fr a with
    | .dv (.addr p) => ldT P t h p fun d => K (.dv d) fun h' => hcs h' p (flats d.chs)
    | _ => False
  | _ => False
def isLoad : Op → Bool
  | .load _ _ => true
  | _ => false
def isFloat (P : Program) (o : Op) : Bool := match isPure P o with | true => true | false => isLoad o
def floatAt (P : Program) (ops : List Oper) (i : Nat) : Bool := match ops[i]? with | some o => isFloat P o.op | none => false

/-- Which operations wait for which, in one step or more (bits). -/
def ancB (clo : Array Nat) (i j : Nat) : Bool := (clo.getD j 0).testBit i
def cloOk (ops : Array Oper) (clo : Array Nat) : Bool :=
  (List.range ops.size).all fun j => (List.range ops.size).all fun i => match ancB clo i j with
    | false => true
    | true => match ops[j]? with
      | some o => o.after.any fun e => Region.binds .any e && Nat.blt e.on j && (Nat.beq e.on i || ancB clo i e.on)
      | none => false

def pickF (P : Program) (ops : Array Oper) (listed : Array Bool) : List Nat → Option Nat
  | [] => none
  | i :: r => match floatAt P ops.toList i with
    | true => match Region.free .any ops listed i with | true => some i | false => pickF P ops listed r
    | false => pickF P ops listed r

def heldAll : List (Nat × Fact) → H → Prop → Prop
  | [], _, p => p
  | (_, φ) :: r, h, p => φ h ∧ heldAll r h p
/-- The facts that outlive operation i: those of loads which needn't have come up ahead of it. -/
def heldPast (P : Program) (ops : Array Oper) (clo : Array Nat) (i : Nat) (held : List (Nat × Fact)) : List (Nat × Fact) :=
  match floatAt P ops.toList i with
  | true => held
  | false => held.filter fun x => !ancB clo x.1 i

def allL {α : Type} (p : α → Prop) : List α → Prop
  | [] => True
  | [a] => p a
  | a :: r => p a ∧ allL p r

def DH (P : Program) (T : Tbl) (ops : Array Oper) (clo : Array Nat) (K : Fr → H → Prop) : Nat → Array Bool → List (Nat × Fact) → Fr → H → Prop
  | 0, listed, _, fr, h => match Region.ready .any ops listed with
    | [] => K fr h
    | _ => False
  | f + 1, listed, held, fr, h =>
    match Region.ready .any ops listed with
    | [] => K fr h
    | i :: rs => match pickF P ops listed (i :: rs) with
      | some i => match ops[i]? with
        | some o => guardD ops.toList o.guard fr
            (fun fr => match isPure P o.op with
              | true => Dpure P o.op fr fun x => DH P T ops clo K f (listed.setIfInBounds i true) held (putO o.dst x fr) h
              | false => Dload P o.op fr h fun x φ => DH P T ops clo K f (listed.setIfInBounds i true) ((i, φ) :: held) (putO o.dst x fr) h)
            (fun fr => DH P T ops clo K f (listed.setIfInBounds i true) held (putO o.dst .nd fr) h)
        | none => False
      | none => allL (fun i => match ops[i]? with
        | some o => guardD ops.toList o.guard fr
            (fun fr => Dop P T o fr (fun x h' => heldAll (heldPast P ops clo i held) h' (DH P T ops clo K f (listed.setIfInBounds i true) (heldPast P ops clo i held) (putO o.dst x fr) h')) h)
            (fun fr => DH P T ops clo K f (listed.setIfInBounds i true) (heldPast P ops clo i held) (putO o.dst .nd fr) h)
        | none => False) (i :: rs)

def Ddraw (P : Program) (T : Tbl) (ops : Array Oper) (K : Fr → H → Prop) (fr : Fr) (h : H) : Prop :=
  match P.follows .mixedOrders, Region.noSelect ops, cloOk ops (Region.before ops) with
  | true, true, true => DH P T ops (Region.before ops) K ops.size (Array.replicate ops.size false) [] fr h
  | _, _, _ => False

/-! ### Code -/
def asgR : List Oper → List Nat
  | [] => []
  | o :: r => match o.dst with | some d => d :: asgR r | none => asgR r
def asg : Code → List Nat
  | .region _ ops _ => asgR ops.toList
  | .seq a b => asg a ++ asg b
  | .cond _ a b => asg a ++ asg b
  | .block _ b => asg b
  | .loop b => asg b
  | .scope b => asg b
  | _ => []

inductive KS where
  | sc (s : Sh) | addr | ag (l : List Sh) | un
/-- For all values of these shapes. -/
def all1 : Sh → (DV → Prop) → Prop
  | .int k, K => ∀ n : Int, K (.one (.int k n))
  | .bool, K => ∀ b : Bool, K (.one (.bool b))
  | .str, K => ∀ s : ByteArray, K (.one (.string s))
  | .ptr, K => ∀ p : Option Addr, K (.one (.pointer p))
  | .slc, K => ∀ (p : Option Addr) (l c : Nat), K (.one (.slice p l c))
  | .mp, K => ∀ r : Option Nat, K (.one (.map r))
  | .fn, K => ∀ v : Value, v.oneCell' = true → K (.fnv v)
  | .ifc, K => ∀ v : Value, v.oneCell' = true → K (.fnv v)
  | .row _ _, K => ∀ x, K x
def allSh : List Sh → (List Ch → Prop) → Prop
  | [], K => K []
  | .row k n :: r, K => ∀ ns : List Int, ns.length = n → allSh r fun cs => K (.row k n ns :: cs)
  | s :: r, K => all1 s fun x => allSh r fun cs => K (x.chs ++ cs)
def allKS : List KS → (List SV → Prop) → Prop
  | [], K => K []
  | .sc s :: r, K => all1 s fun x => allKS r fun l => K (.dv x :: l)
  | .addr :: r, K => ∀ p : Addr, allKS r fun l => K (.dv (.addr p) :: l)
  | .ag s :: r, K => allSh s fun cs => allKS r fun l => K (.dv (.agg cs) :: l)
  | .un :: r, K => allKS r fun l => K (.un :: l)
abbrev Keep := List (Nat × KS)
abbrev Ann := List (Nat × Keep)
def annAt : Ann → Nat → Option Keep
  | [], _ => none
  | (q, k) :: r, p => match Nat.beq p q with | true => some k | false => annAt r p
/-- A kept value in the one form of its shape. -/
def normSV : KS → SV → SV
  | .sc .ptr, .dv (.addr p) => .dv (.one (.pointer (some p)))
  | .sc .fn, .dv (.one v) => .dv (.fnv v)
  | .sc .ifc, .dv (.one v) => .dv (.fnv v)
  | .un, _ => .un
  | _, v => v
def keepVals (keep : Keep) (fr : Fr) : List SV := match keep with | [] => [] | (i, k) :: r => normSV k (get fr i) :: keepVals r fr
def putKeep : Keep → List SV → Fr → Fr
  | (i, _) :: r, v :: vs, fr => (i, v) :: putKeep r vs fr
  | _, _, fr => fr
/-- Where ways meet: what follows is said once. -/
def jn (ann : Ann) (p : Nat) (as : List Nat) (fr : Fr) (K : Fr → H → Prop) (body : (Fr → H → Prop) → Prop) : Prop :=
  match annAt ann p with
  | none => body K
  | some keep => ∀ J : List SV → H → Prop,
      (allKS (keep.map (·.2)) fun vs => ∀ h', K (putKeep keep vs (erase as fr)) h' → J vs h') → body fun fr' h' => J (keepVals keep fr') h'

abbrev Cont := Exit → Fr → H → Prop
def thenQ (K : Fr → H → Prop) (Q : Cont) : Cont
  | .normal => K
  | e => Q e
def blockQ (id : Nat) (K : Fr → H → Prop) (Q : Cont) : Cont
  | .normal => K
  | .exit j => match Nat.beq j id with | true => K | false => Q (.exit j)
  | e => Q e

def D (P : Program) (T : Tbl) (ann : Ann) : Code → Nat → Cont → Fr → H → Prop
  | .skip, _, Q, fr, h => Q .normal fr h
  | .label _, _, Q, fr, h => Q .normal fr h
  | .ret, _, Q, fr, h => Q .ret fr h
  | .exit id, _, Q, fr, h => Q (.exit id) fr h
  | .seq a b, p, Q, fr, h => jn ann p (asg a) fr (D P T ann b (2 * p + 1) Q) fun K => D P T ann a (2 * p) (thenQ K Q) fr h
  | .cond c a b, p, Q, fr, h => match ev fr c with
    | .dv (.one (.bool t)) => if t = true then D P T ann a (2 * p) Q fr h else D P T ann b (2 * p + 1) Q fr h
    | _ => False
  | .block id b, p, Q, fr, h => jn ann p (asg b) fr (Q .normal) fun K => D P T ann b (2 * p) (blockQ id K Q) fr h
  | .loop b, p, Q, fr, h => match annAt ann p with
    | none => False
    | some keep => ∀ I : List SV → H → Prop,
        (allKS (keep.map (·.2)) fun vs => ∀ h', D P T ann b (2 * p) (thenQ (fun fr'' h'' => I (keepVals keep fr'') h'') Q) (putKeep keep vs (erase (asg b) fr)) h' → I vs h') →
        I (keepVals keep fr) h
  | .region _ ops false, _, Q, fr, h => Dops P T ops.toList ops.toList (Q .normal) fr h
  | .region _ ops true, _, Q, fr, h => Ddraw P T ops (Q .normal) fr h
  | _, _, _, _, _ => False

/-! ### Functions -/
def Dres (P : Program) : List ResultVar → Fr → H → (List DV → Prop) → Prop
  | [], _, _, K => K []
  | .tmp t :: r, fr, h, K => match get fr t with
    | .dv x => Dres P r fr h fun xs => K (x :: xs)
    | _ => False
  | .cell a t :: r, fr, h, K => match get fr a with
    | .dv (.addr p) => ldT P t h p fun x => Dres P r fr h fun xs => K (x :: xs)
    | _ => False
def initFr : Nat → List DV → Fr
  | _, [] => []
  | i, x :: r => (i, .dv x) :: initFr (i + 1) r
def Dbody (P : Program) (T : Tbl) (ann : Ann) (fn : Func) (args : List DV) (Q : List DV → H → Prop) (h : H) : Prop :=
  match fn.body, Nat.ble args.length fn.ntmps, fn.body.map fun c => (asg c).all fun d => Nat.blt d fn.ntmps with
  | some c, true, some true => D P T ann c 1 (fun e fr h' => match e with
    | .normal => Dres P fn.results.toList fr h' fun xs => Q xs h'
    | .ret => Dres P fn.results.toList fr h' fun xs => Q xs h'
    | _ => False) (initFr 0 args) h
  | _, _, _ => False
end Go.Vc
end

/- The denotation of the model's code is sound: first the operations that touch no memory, loads and stores. Own work; generic over any program. -/
section
namespace Go.Vc
variable {P : Program}

theorem Rest.refl (w : World) : Rest w w := ⟨rfl, rfl, rfl⟩
theorem Rest.trans {a b c : World} (h : Rest a b) (k : Rest b c) : Rest a c := ⟨k.1.trans h.1, k.2.1.trans h.2.1, k.2.2.trans h.2.2⟩

theorem add_add (a : Addr) (n m : Nat) : (a.add n).add m = a.add (n + m) := by
  unfold Addr.add
  by_cases hm : m = 0
  · subst hm; simp
  · by_cases hn : n = 0
    · subst hn; simp [hm]
    · simp [hm, hn, Nat.add_assoc]
theorem add_zero (a : Addr) : a.add 0 = a := by simp [Addr.add]

/-! ### Chunks -/
theorem flat_length {c : Ch} (h : c.ok) : c.flat.length = c.size := by
  cases c with
  | c v => rfl
  | row k n ns => simp only [Ch.ok] at h; simp [Ch.flat, ints, Ch.size, h]
theorem oks_cons {c : Ch} {r : List Ch} (h : oks (c :: r)) : c.ok ∧ oks r := ⟨h c (by simp), fun x hx => h x (by simp [hx])⟩
theorem oks_mk {c : Ch} {r : List Ch} (h : c.ok) (hr : oks r) : oks (c :: r) := fun x hx => by
  rcases List.mem_cons.1 hx with rfl | hx
  · exact h
  · exact hr x hx
theorem oks_nil : oks [] := fun _ h => by cases h
theorem flats_length {cs : List Ch} (h : oks cs) : (flats cs).length = chsSize cs := by
  induction cs with
  | nil => rfl
  | cons c r ih => obtain ⟨h1, h2⟩ := oks_cons h; simp [flats, chsSize, flat_length h1, ih h2]
theorem flats_append (a b : List Ch) : flats (a ++ b) = flats a ++ flats b := by
  induction a with
  | nil => rfl
  | cons c r ih => simp [flats, ih]
theorem chsSize_append (a b : List Ch) : chsSize (a ++ b) = chsSize a + chsSize b := by
  induction a with
  | nil => simp [chsSize]
  | cons c r ih => simp [chsSize, ih, Nat.add_assoc]
theorem oks_append {a b : List Ch} (ha : oks a) (hb : oks b) : oks (a ++ b) := fun x hx => by
  rcases List.mem_append.1 hx with h | h
  · exact ha x h
  · exact hb x h
theorem flat_one {c : Ch} (h : c.ok) : ∀ v, v ∈ c.flat → v.oneCell' = true := by
  cases c with
  | c v => intro u hu; simp [Ch.flat] at hu; subst hu; exact h
  | row k n ns => intro u hu; simp [Ch.flat, ints] at hu; obtain ⟨x, _, rfl⟩ := hu; rfl
theorem flats_one {cs : List Ch} (h : oks cs) : ∀ v, v ∈ flats cs → v.oneCell' = true := by
  induction cs with
  | nil => intro v hv; cases hv
  | cons c r ih =>
    obtain ⟨h1, h2⟩ := oks_cons h
    intro v hv
    rcases List.mem_append.1 hv with hv | hv
    · exact flat_one h1 v hv
    · exact ih h2 v hv

theorem DV.chs_oks {d : DV} (h : d.ok) : oks d.chs := by
  cases d with
  | one v => exact oks_mk h oks_nil
  | addr p => exact oks_mk (by simp [Ch.ok, Value.oneCell']) oks_nil
  | fnv v => exact oks_mk h oks_nil
  | agg cs => exact h
theorem DV.cells_flat {d : DV} (h : d.ok) : d.flat.cells = (flats d.chs).toArray := by
  cases d with
  | one v => simp only [DV.ok] at h; cases v <;> first | rfl | (simp [Value.oneCell'] at h)
  | addr p => rfl
  | fnv v => simp only [DV.ok] at h; cases v <;> first | rfl | (simp [Value.oneCell'] at h)
  | agg cs => rfl

/-! ### Frames -/
theorem get_putO (fr : Fr) (d : Option Nat) (v : SV) (i : Nat) : get (putO d v fr) i = if d = some i then v else get fr i := by
  cases d with
  | none => simp [putO]
  | some d =>
    simp only [putO, get, Option.some.injEq]
    cases h : Nat.beq i d with
    | true => have := Nat.eq_of_beq_eq_true h; simp [this]
    | false => have := Nat.ne_of_beq_eq_false h; simp [Ne.symm this]

theorem FR.put {fr : Fr} {a : Act} (h : FR fr a.tmps) (d : Option Nat) (hd : ∀ i, d = some i → i < a.tmps.size) {x : SV} {v : Value} (hx : x.rel v) : FR (putO d x fr) (a.put d v).tmps := by
  intro i
  rw [get_putO]
  cases d with
  | none => simpa [Act.put] using h i
  | some d =>
    have hs := hd d rfl
    by_cases hd : d = i
    · subst hd
      simpa [Act.put, hs] using hx
    · have : ¬ some d = some i := by simpa using hd
      rw [if_neg this]
      have h2 := h i
      simp only [Act.put]
      simpa [Array.getElem?_setIfInBounds, hd] using h2
theorem size_put (a : Act) (d : Option Nat) (v : Value) : (a.put d v).tmps.size = a.tmps.size := by cases d <;> simp [Act.put]
theorem defers_put (a : Act) (d : Option Nat) (v : Value) : (a.put d v).defers = a.defers := by cases d <;> rfl

theorem constSV_rel (v : Value) : (constSV v).rel v := by
  cases v <;> simp [constSV, SV.rel, DV.ok, DV.flat, Value.oneCell']
theorem ev_rel {fr : Fr} {a : Act} (h : FR fr a.tmps) (x : Operand) : (ev fr x).rel (a.eval x) := by
  cases x with
  | tmp t => exact h t
  | const v => exact constSV_rel v
  | global g => simp [ev, SV.rel, DV.ok, DV.flat, Act.eval]
  | func f => simp [ev, SV.rel, DV.ok, DV.flat, Act.eval, Value.oneCell']
theorem ev_dv {fr : Fr} {a : Act} (h : FR fr a.tmps) {x : Operand} {d : DV} (he : ev fr x = .dv d) : d.ok ∧ a.eval x = d.flat := by
  have := ev_rel h x
  rw [he] at this
  exact this

/-! ### Types -/
theorem tsh_sc {t : TypeId} {s : Sh} (h : tsh P t = some (.sc s)) : ∃ d, P.underlying t = some d ∧ (∀ fs, d ≠ .struct fs) ∧ (∀ n e, d ≠ .array n e) ∧ shScalar d = some s := by
  unfold tsh at h
  split at h
  · split at h
    · split at h <;> simp at h
    · simp at h
  · split at h
    · split at h <;> simp at h
    · simp at h
  · rename_i d h1 h2 hd
    refine ⟨d, hd, fun fs e => h1 fs e, fun n e e' => h2 n e e', ?_⟩
    · cases hs : shScalar d with
      | none => simp [hs] at h
      | some s' => simp [hs] at h; rw [h]
  · simp at h
theorem tsh_ag {t : TypeId} {l : List Sh} (h : tsh P t = some (.ag l)) : (∃ d, P.underlying t = some d ∧ ((∃ fs, d = .struct fs) ∨ ∃ n e, d = .array n e)) ∧ ∃ i, P.info? t = some i ∧ i.size = shsSize l := by
  unfold tsh at h
  split at h
  · rename_i fs hd
    refine ⟨⟨_, hd, .inl ⟨fs, rfl⟩⟩, ?_⟩
    split at h
    · rename_i i hi
      split at h
      · rename_i hb
        simp at h
        exact ⟨i, hi, by rw [← h]; exact Nat.eq_of_beq_eq_true hb⟩
      · simp at h
    · simp at h
  · rename_i n e hd
    refine ⟨⟨_, hd, .inr ⟨n, e, rfl⟩⟩, ?_⟩
    split at h
    · rename_i i hi
      split at h
      · rename_i hb
        simp at h
        exact ⟨i, hi, by rw [← h]; exact Nat.eq_of_beq_eq_true hb⟩
      · simp at h
    · simp at h
  · rename_i d _ _ _
    cases hs : shScalar d <;> simp [hs] at h
  · simp at h

theorem run_isAgg_sc {t : TypeId} {s : Sh} (h : tsh P t = some (.sc s)) (w : World) : (isAgg t).run P w = .ok false w := by
  obtain ⟨d, hd, h1, h2, _⟩ := tsh_sc h
  unfold isAgg
  simp only [Sem.run_bind, run_underlying hd, Result.andThen_ok]
  cases d <;> first | rfl | exact absurd rfl (h1 _) | exact absurd rfl (h2 _ _)
theorem run_isAgg_ag {t : TypeId} {l : List Sh} (h : tsh P t = some (.ag l)) (w : World) : (isAgg t).run P w = .ok true w := by
  obtain ⟨⟨d, hd, h1⟩, _⟩ := tsh_ag h
  unfold isAgg
  simp only [Sem.run_bind, run_underlying hd, Result.andThen_ok]
  rcases h1 with ⟨fs, rfl⟩ | ⟨n, e, rfl⟩ <;> rfl
theorem run_typeInfo {t : TypeId} {i : TypeInfo} (h : P.info? t = some i) (w : World) : (typeInfo t).run P w = .ok i w := by
  unfold typeInfo
  simp [h]
theorem run_sizeOf {t : TypeId} {n : Nat} (h : szOf P t = some n) (w : World) : (sizeOf t).run P w = .ok n w := by
  unfold szOf at h
  cases hi : P.info? t with
  | none => simp [hi] at h
  | some i => simp [hi] at h; unfold sizeOf; simp [run_typeInfo hi, h]

/-! ### Loads -/
theorem ld1_sound {h : H} {a : Addr} {s : Sh} {K : DV → Prop} (hh : ld1 h a s K) : ∃ x, x.ok ∧ hc h a = some x.flat ∧ x.chs = [.c x.flat] ∧ K x := by
  cases s with
  | int k => obtain ⟨n, h1, h2⟩ := hh; exact ⟨(.one (.int k n)), rfl, h1, rfl, h2⟩
  | bool => obtain ⟨n, h1, h2⟩ := hh; exact ⟨(.one (.bool n)), rfl, h1, rfl, h2⟩
  | str => obtain ⟨n, h1, h2⟩ := hh; exact ⟨(.one (.string n)), rfl, h1, rfl, h2⟩
  | ptr => obtain ⟨n, h1, h2⟩ := hh; exact ⟨(.one (.pointer n)), rfl, h1, rfl, h2⟩
  | slc => obtain ⟨p, l, c, h1, h2⟩ := hh; exact ⟨.one (.slice p l c), rfl, h1, rfl, h2⟩
  | mp => obtain ⟨n, h1, h2⟩ := hh; exact ⟨(.one (.map n)), rfl, h1, rfl, h2⟩
  | fn => obtain ⟨v, h1, h3, h2⟩ := hh; exact ⟨.fnv v, h3, h1, rfl, h2⟩
  | ifc => obtain ⟨v, h1, h3, h2⟩ := hh; exact ⟨.fnv v, h3, h1, rfl, h2⟩
  | row k n => exact hh.elim

theorem hcs_nil (h : H) (a : Addr) : hcs h a [] := fun i v hv => by simp at hv
theorem hcs_append {h : H} {a : Addr} {x y : List Value} (hx : hcs h a x) (hy : hcs h (a.add x.length) y) : hcs h a (x ++ y) := by
  intro i v hv
  by_cases hi : i < x.length
  · rw [List.getElem?_append_left hi] at hv; exact hx i v hv
  · rw [List.getElem?_append_right (by omega)] at hv
    have := hy _ v hv
    rw [add_add] at this
    rwa [show x.length + (i - x.length) = i by omega] at this
theorem hcs_one {h : H} {a : Addr} {v : Value} (hv : hc h a = some v) : hcs h a [v] := by
  intro i u hu
  match i, hu with
  | 0, hu => simp at hu; subst hu; rw [add_zero]; exact hv

theorem ldSh_sound {h : H} {a : Addr} : ∀ (l : List Sh) (o : Nat) (K : List Ch → Prop), ldSh h a o l K →
    ∃ cs, oks cs ∧ chsSize cs = shsSize l ∧ hcs h (a.add o) (flats cs) ∧ K cs := by
  intro l
  induction l with
  | nil => intro o K hh; exact ⟨[], oks_nil, rfl, hcs_nil _ _, hh⟩
  | cons s r ih =>
    intro o K hh
    by_cases hs : ∃ k n, s = .row k n
    · obtain ⟨k, n, rfl⟩ := hs
      obtain ⟨ns, hn, hr, h2⟩ := hh
      obtain ⟨cs, h3, h4, h5, h6⟩ := ih _ _ h2
      refine ⟨.row k n ns :: cs, oks_mk hn h3, by simp [chsSize, shsSize, Ch.size, Sh.size, h4], ?_, h6⟩
      refine hcs_append hr ?_
      rw [add_add]; simpa [Ch.flat, ints, hn] using h5
    · have hh' : ld1 h (a.add o) s fun x => ldSh h a (o + 1) r fun cs => K (x.chs ++ cs) := by
        cases s <;> first | exact hh | exact absurd ⟨_, _, rfl⟩ hs
      obtain ⟨x, hx, hc1, hxc, h2⟩ := ld1_sound hh'
      obtain ⟨cs, h3, h4, h5, h6⟩ := ih _ _ h2
      have hok : oks (x.chs ++ cs) := oks_append (DV.chs_oks hx) h3
      refine ⟨x.chs ++ cs, hok, ?_, ?_, h6⟩
      · rw [chsSize_append, hxc]
        have : s.size = 1 := by cases s <;> first | rfl | exact absurd ⟨_, _, rfl⟩ hs
        simp [chsSize, shsSize, Ch.size, h4, this]
      · rw [hxc]
        exact hcs_append (hcs_one hc1) (by rw [add_add]; simpa [Ch.flat] using h5)

theorem run_load_hc {w : World} {a : Addr} {v : Value} (h : hc w.heap a = some v) : (load a).run P w = .ok v w := by
  have : w.cell? a = some v := h
  simp [this]

theorem run_loadCells {w : World} {a : Addr} : ∀ (vs : List Value) (i : Nat) (acc : Array Value), hcs w.heap (a.add i) vs →
    (loadCellsFrom a i vs.length acc).run P w = .ok (acc ++ vs.toArray) w := by
  intro vs
  induction vs with
  | nil => intro i acc _; simp [loadCellsFrom]
  | cons v r ih =>
    intro i acc h
    have h0 := h 0 v rfl
    rw [add_zero] at h0
    have hr : hcs w.heap (a.add (i + 1)) r := fun j u hu => by
      have := h (j + 1) u (by simpa using hu)
      rw [add_add] at this ⊢
      rwa [show i + 1 + j = i + (j + 1) by omega]
    simp only [List.length_cons, loadCellsFrom, Sem.run_bind, run_load_hc h0, Result.andThen_ok]
    rw [ih (i + 1) _ hr]
    simp

theorem ldT_sound {t : TypeId} {h : H} {a : Addr} {K : DV → Prop} (hh : ldT P t h a K) : ∃ x, x.ok ∧ hcs h a (flats x.chs) ∧ K x ∧
    ∀ w : World, hcs w.heap a (flats x.chs) → (loadVar t a).run P w = .ok x.flat w := by
  unfold ldT at hh
  split at hh
  · rename_i s hs
    obtain ⟨x, hx, hc1, hxc, hK⟩ := ld1_sound hh
    refine ⟨x, hx, by rw [hxc]; exact hcs_one hc1, hK, fun w hw => ?_⟩
    rw [hxc] at hw
    have := hw 0 x.flat rfl
    rw [add_zero] at this
    unfold loadVar
    simp only [Sem.run_bind, run_isAgg_sc hs, Result.andThen_ok]
    exact run_load_hc this
  · rename_i l hl
    obtain ⟨cs, hok, hsz, hcell, hK⟩ := ldSh_sound _ _ _ hh
    rw [add_zero] at hcell
    refine ⟨.agg cs, hok, hcell, hK, fun w hw => ?_⟩
    obtain ⟨_, i, hi, his⟩ := tsh_ag hl
    have hlen : (flats cs).length = i.size := by rw [flats_length hok, hsz, his]
    unfold loadVar
    simp only [Sem.run_bind, run_isAgg_ag hl, Result.andThen_ok, if_true]
    have hz : (sizeOf t).run P w = .ok i.size w := run_sizeOf (by simp [szOf, hi]) w
    rw [hz]
    simp only [Result.andThen_ok, loadCells]
    have := run_loadCells (P := P) (w := w) (a := a) (flats cs) 0 #[] (by rw [add_zero]; exact hw)
    rw [hlen] at this
    rw [this]
    simp [DV.flat]
  · exact hh.elim

/-! ### Stores -/
theorem hc_hs_isSome (h : H) (a b : Addr) (v : Value) : (hc (hs h a v) b).isSome = (hc h b).isSome := by
  unfold hc hs
  by_cases hb : a.block = b.block
  · rw [← hb]
    simp only [Array.getElem?_modify]
    cases h1 : h[a.block]? with
    | none => rfl
    | some o =>
      cases o with
      | cells c e fz => by_cases hs : a.spot.isSome = true <;> by_cases hs' : b.spot.isSome = true <;> simp [hs, hs'] <;>
          (by_cases hi : b.off < c.size <;> simp [hi])
      | _ => rfl
  · simp [Array.getElem?_modify, hb]
theorem hf_hs (h : H) (a b : Addr) (v : Value) : hf (hs h a v) b = hf h b := by
  unfold hf hs
  by_cases hb : a.block = b.block
  · rw [← hb]
    simp only [Array.getElem?_modify]
    cases h1 : h[a.block]? with
    | none => rfl
    | some o => cases o <;> rfl
  · simp [Array.getElem?_modify, hb]

theorem run_store_hs {w : World} {a : Addr} {v : Value} (hv : v.oneCell' = true) (h1 : (hc w.heap a).isSome = true) (h2 : hf w.heap a = false) :
    (store a v).run P w = .ok () (w.setCell a v) := by
  obtain ⟨u, hu⟩ := Option.isSome_iff_exists.1 h1
  rw [run_store P w a v .plain hv]
  have e1 : w.cell? a = some u := hu
  have e2 : w.frozen? a = false := h2
  simp [e1, e2]

theorem run_storeCells {a : Addr} : ∀ (vs : List Value) (i : Nat) (w : World), (∀ v, v ∈ vs → v.oneCell' = true) →
    (∀ j, j < vs.length → (hc w.heap (a.add (i + j))).isSome = true ∧ hf w.heap (a.add (i + j)) = false) →
    ∃ w', (storeCells a vs i).run P w = .ok () w' ∧ w'.heap = hwrFrom w.heap a i vs ∧ Rest w w' ∧ w'.drawn = w.drawn := by
  intro vs
  induction vs with
  | nil => intro i w _ _; exact ⟨w, by simp [storeCells], rfl, Rest.refl w, rfl⟩
  | cons v r ih =>
    intro i w hv hcan
    have h0 := hcan 0 (by simp)
    rw [Nat.add_zero] at h0
    obtain ⟨w', h1, h2, h3, h4⟩ := ih (i + 1) (w.setCell (a.add i) v) (fun u hu => hv u (by simp [hu])) (fun j hj => by
      have := hcan (j + 1) (by simpa using hj)
      rw [heap_hs, hc_hs_isSome, hf_hs, show i + 1 + j = i + (j + 1) by omega]
      exact this)
    refine ⟨w', ?_, ?_, Rest.trans ⟨rfl, rfl, rfl⟩ h3, h4⟩
    · simp only [storeCells, Sem.run_bind, run_store_hs (hv v (by simp)) h0.1 h0.2, Result.andThen_ok]
      exact h1
    · rw [h2]; rfl

theorem run_storeCells0 {a : Addr} {vs : List Value} {w : World} (hv : ∀ v, v ∈ vs → v.oneCell' = true) (hcn : hcan w.heap a vs.length) :
    ∃ w', (storeCells a vs).run P w = .ok () w' ∧ w'.heap = hwr w.heap a vs ∧ Rest w w' := by
  obtain ⟨w', h1, h2, h3, _⟩ := run_storeCells (P := P) (a := a) vs 0 w hv (fun j hj => by rw [Nat.zero_add]; exact hcn j hj)
  exact ⟨w', h1, h2, h3⟩

theorem run_storeVar {t : TypeId} {a : Addr} {d : DV} {sz : Nat} (hd : d.ok) (hsz : szOf P t = some sz) (hn : chsSize d.chs = sz) {w : World} (hcn : hcan w.heap a sz) :
    ∃ w', (storeVar t a d.flat).run P w = .ok () w' ∧ w'.heap = hwr w.heap a (flats d.chs) ∧ Rest w w' := by
  have hoks := DV.chs_oks hd
  have hlen : (flats d.chs).length = sz := by rw [flats_length hoks, hn]
  obtain ⟨w', h1, h2, h3⟩ := run_storeCells0 (P := P) (a := a) (vs := flats d.chs) (w := w) (flats_one hoks) (by rw [hlen]; exact hcn)
  refine ⟨w', ?_, h2, h3⟩
  unfold storeVar
  simp only [Sem.run_bind, run_sizeOf hsz, Result.andThen_ok, DV.cells_flat hd]
  simp only [List.size_toArray, hlen, ne_eq, not_true_eq_false, if_false]
  exact h1
end Go.Vc
end

/- The denotation is sound, second part: operations that touch no memory. Own work; generic over any program. -/
section
namespace Go.Vc
variable {P : Program}

/-- A computation that yields a value in whatever world, and that value's denotation is continued with. -/
def PureOk (P : Program) (s : Sem Value) (K : SV → Prop) : Prop := ∃ x v, SV.rel x v ∧ K x ∧ ∀ w, s.run P w = .ok v w

theorem PureOk.one {s : Sem Value} {K : SV → Prop} {v : Value} (h1 : v.oneCell' = true) (hK : K (.dv (.one v))) (hr : ∀ w, s.run P w = .ok v w) : PureOk P s K :=
  ⟨.dv (.one v), v, ⟨h1, rfl⟩, hK, hr⟩
theorem PureOk.addr {s : Sem Value} {K : SV → Prop} {p : Addr} (hK : K (.dv (.addr p))) (hr : ∀ w, s.run P w = .ok (.pointer (some p)) w) : PureOk P s K :=
  ⟨.dv (.addr p), _, ⟨trivial, rfl⟩, hK, hr⟩

/-! ### Equality of aggregates -/
theorem eqItems_ints (w : World) {e : TypeId} {k : IntKind} (he : P.underlying e = some (.int k)) {j j' : IntKind} (hj : j' = j) (a b : List Int) (d : Nat) (n : Nat) (ha : a.length = n) (hb : b.length = n) :
    (Op.eqItems (d + 1) e 1 (a.map (Value.int j)).toArray (b.map (Value.int j')).toArray (List.range n)).run P w = .ok (a == b) w := by
  subst hj
  have hag : ∀ w, (isAgg e).run P w = .ok false w := fun w => by unfold isAgg; simp [run_underlying he]
  have gen : ∀ (m i : Nat), i + m = n → (Op.eqItems (d + 1) e 1 (a.map (Value.int j')).toArray (b.map (Value.int j')).toArray (List.range' i m)).run P w = .ok (a.drop i == b.drop i) w := by
    intro m
    induction m with
    | zero =>
      intro i hi
      rw [List.drop_eq_nil_of_le (by omega), List.drop_eq_nil_of_le (by omega)]
      simp [Op.eqItems]
    | succ m ih =>
      intro i hi
      have h1 : i < a.length := by omega
      have h2 : i < b.length := by omega
      have p1 : ∀ w, (part e (a.map (Value.int j')).toArray (i * 1)).run P w = .ok (.int j' a[i]) w := fun w => by
        unfold part; simp [hag, h1]
      have p2 : ∀ w, (part e (b.map (Value.int j')).toArray (i * 1)).run P w = .ok (.int j' b[i]) w := fun w => by
        unfold part; simp [hag, h2]
      rw [List.range'_succ]
      simp only [Op.eqItems, Sem.run_bind, p1, p2, Result.andThen_ok, run_equalIn_int w d e j' k _ _ he]
      have := ih (i + 1) (by omega)
      rw [List.drop_eq_getElem_cons h1, List.drop_eq_getElem_cons h2, List.cons_beq_cons]
      cases hab : a[i] == b[i]
      · simp only [Bool.not_false, if_true, Sem.run_pure, Bool.false_and]
      · simp only [Bool.not_true, Bool.false_eq_true, if_false, this, Bool.true_and]
  have := gen n 0 (by omega)
  simpa [List.range_eq_range'] using this

theorem szOf_cells {t : TypeId} {n : Nat} (h : szOf P t = some n) : P.cellsOf t = n ∧ ∃ i, P.info? t = some i := by
  unfold szOf at h
  cases hi : P.info? t with
  | none => simp [hi] at h
  | some i => simp [hi] at h; exact ⟨by simp [Program.cellsOf, hi, h], i, rfl⟩

theorem equalIn_row (w : World) {t e : TypeId} {n : Nat} {k j j' : IntKind} (hu : P.underlying t = some (.array n e)) (he : P.underlying e = some (.int k)) (hz : szOf P e = some 1)
    (hj : j' = j) (a b : List Int) (ha : a.length = n) (hb : b.length = n) (d : Nat) :
    (Op.equalIn (d + 2) t (.agg (a.map (Value.int j)).toArray) (.agg (b.map (Value.int j')).toArray)).run P w = .ok (a == b) w := by
  obtain ⟨hc1, i, hi⟩ := szOf_cells hz
  rw [run_equalIn_array (P := P) w (d + 1) _ _ hu hi, hc1]
  exact eqItems_ints w he hj a b d n ha hb

theorem part_mid_row {w : World} {t e : TypeId} {n : Nat} (hu : P.underlying t = some (.array n e)) (hz : szOf P t = some n) {pre xs post : List Value} (hx : xs.length = n) :
    (part t (pre ++ xs ++ post).toArray pre.length).run P w = .ok (.agg xs.toArray) w := by
  unfold part
  have hag : ∀ w, (isAgg t).run P w = .ok true w := fun w => by unfold isAgg; simp [run_underlying hu]
  simp only [Sem.run_bind, hag, Result.andThen_ok, if_true, run_sizeOf hz, Sem.run_pure]
  congr 2
  apply Array.toList_inj.1
  simp [← hx]
theorem part_mid_one {w : World} {t : TypeId} (hag : ∀ w, (isAgg t).run P w = .ok false w) {pre post : List Value} {v : Value} :
    (part t (pre ++ [v] ++ post).toArray pre.length).run P w = .ok v w := by
  unfold part
  simp [hag]

theorem fieldEq_sound {t : TypeId} {x y : Ch} {b : Bool} (h : fieldEq P t x y = some b) (hx : x.ok) (hy : y.ok) : x.size = y.size ∧ ∃ u v,
    (∀ (pre post : List Value) (w : World), (part t (pre ++ x.flat ++ post).toArray pre.length).run P w = .ok u w) ∧
    (∀ (pre post : List Value) (w : World), (part t (pre ++ y.flat ++ post).toArray pre.length).run P w = .ok v w) ∧
    ∀ (d : Nat) (w : World), (Op.equalIn (d + 2) t u v).run P w = .ok b w := by
  unfold fieldEq at h
  split at h
  · rename_i k a k' a'
    split at h
    · rename_i k'' hk hu
      simp only [Option.some.injEq] at h
      have hk' : k = k' := by simpa using hk
      subst hk'
      have hag : ∀ w, (isAgg t).run P w = .ok false w := fun w => by unfold isAgg; simp [run_underlying hu]
      exact ⟨rfl, _, _, fun _ _ _ => part_mid_one hag, fun _ _ _ => part_mid_one hag, fun d w => by rw [← h]; exact run_equalIn_int w (d + 1) t _ _ _ _ hu⟩
    · simp at h
  · split at h
    · rename_i hu
      simp only [Option.some.injEq] at h
      have hag : ∀ w, (isAgg t).run P w = .ok false w := fun w => by unfold isAgg; simp [run_underlying hu]
      exact ⟨rfl, _, _, fun _ _ _ => part_mid_one hag, fun _ _ _ => part_mid_one hag, fun d w => by rw [← h]; exact run_equalIn_bool' w (d + 1) t _ _ hu⟩
    · simp at h
  · split at h
    · rename_i hu
      simp only [Option.some.injEq] at h
      have hag : ∀ w, (isAgg t).run P w = .ok false w := fun w => by unfold isAgg; simp [run_underlying hu]
      exact ⟨rfl, _, _, fun _ _ _ => part_mid_one hag, fun _ _ _ => part_mid_one hag, fun d w => by rw [← h]; exact run_equalIn_string w (d + 1) t _ _ hu⟩
    · simp at h
  · rename_i k n a k' n' a'
    split at h
    · rename_i m e sz hu hsz
      split at h
      · rename_i q he hz hk hn
        simp only [Option.some.injEq] at h
        have hk' : k = k' := by simpa using hk
        subst hk'
        simp only [Bool.and_eq_true] at hn
        have e1 : n = m := Nat.eq_of_beq_eq_true hn.1.1
        have e2 : n' = m := Nat.eq_of_beq_eq_true hn.1.2
        have e3 : sz = m := Nat.eq_of_beq_eq_true hn.2
        simp only [Ch.ok] at hx hy
        refine ⟨by simp [Ch.size, e1, e2], _, _, fun pre post w => part_mid_row hu (by rw [hsz, e3]) (by simp [Ch.flat, ints, hx, e1]),
          fun pre post w => part_mid_row hu (by rw [hsz, e3]) (by simp [Ch.flat, ints, hy, e2]), fun d w => ?_⟩
        rw [← h]
        exact equalIn_row w hu he hz rfl _ _ (by rw [hx, e1]) (by rw [hy, e2]) d
      · simp at h
    · simp at h
  · simp at h

theorem structEq_sound (w : World) (d : Nat) : ∀ (fs : List Field) (xs ys : List Ch) (off : Nat) (preX preY : List Value) (r : Bool), preX.length = off → preY.length = off →
    oks xs → oks ys → structEq P off fs xs ys = some r →
    (Op.eqFields (d + 2) (preX ++ flats xs).toArray (preY ++ flats ys).toArray fs).run P w = .ok r w := by
  intro fs
  induction fs with
  | nil =>
    intro xs ys off preX preY r hX hY hox hoy he
    cases xs <;> cases ys <;> simp [structEq] at he
    subst he; simp [Op.eqFields]
  | cons f fs ih =>
    intro xs ys off preX preY r hX hY hox hoy he
    cases xs with
    | nil => simp [structEq] at he
    | cons x xs =>
    cases ys with
    | nil => simp [structEq] at he
    | cons y ys =>
    obtain ⟨hx1, hx2⟩ := oks_cons hox
    obtain ⟨hy1, hy2⟩ := oks_cons hoy
    simp only [structEq] at he
    split at he
    · rename_i b hn hof hfe
      have hoff : f.offset = off := Nat.eq_of_beq_eq_true hof
      obtain ⟨hsz, u, v, pu, pv, hq⟩ := fieldEq_sound hfe hx1 hy1
      cases hrec : structEq P (off + x.size) fs xs ys with
      | none => simp [hrec] at he
      | some s =>
        simp only [hrec, Option.map_some, Option.some.injEq] at he
        have hn' : f.name ≠ "_" := by simpa using hn
        have h1 := pu preX (flats xs) w
        have h2 := pv preY (flats ys) w
        rw [hX] at h1; rw [hY] at h2
        have h4 := ih xs ys _ (preX ++ x.flat) (preY ++ y.flat) s (by simp [hX, flat_length hx1]) (by simp [hY, flat_length hy1, hsz]) hx2 hy2 hrec
        simp only [flats, ← List.append_assoc] at *
        simp only [Op.eqFields, if_pos hn', Sem.run_bind, hoff, h1, h2, hq, Result.andThen_ok]
        cases b
        · simp [← he]
        · simp only [Bool.not_true, Bool.false_eq_true, if_false, h4, ← he, Bool.true_and]
    · simp at he

theorem aggEq_sound {t : TypeId} {xs ys : List Ch} {b : Bool} (hx : oks xs) (hy : oks ys) (h : aggEq P t xs ys = some b) (op : BinOp) (x y : Operand) (w : World) :
    (eqGuard op t x y (.agg (flats xs).toArray) (.agg (flats ys).toArray)).run P w = .ok () w ∧
    (Op.equalIn 10000 t (.agg (flats xs).toArray) (.agg (flats ys).toArray)).run P w = .ok b w := by
  unfold aggEq at h
  split at h
  · rename_i n e hg hu
    refine ⟨run_eqGuard_agg w op t x y _ _ hg, ?_⟩
    split at h
    · rename_i cx cy
      obtain ⟨hsz, u, v, pu, pv, hq⟩ := fieldEq_sound h (oks_cons hx).1 (oks_cons hy).1
      have h1 := pu [] [] w
      have h2 := pv [] [] w
      have hag : ∀ w, (isAgg t).run P w = .ok true w := fun w => by unfold isAgg; simp [run_underlying hu]
      -- the parts are the whole
      unfold fieldEq at h
      split at h <;> try (first | (simp at h; done) | (split at h <;> simp_all; done))
      rename_i k n1 a k' n' a'
      split at h
      · rename_i m e' sz hu' hsz'
        rw [hu] at hu'
        simp only [Option.some.injEq, TypeDesc.array.injEq] at hu'
        obtain ⟨rfl, rfl⟩ := hu'
        split at h
        · rename_i q he hz hk hn
          simp only [Option.some.injEq] at h
          have hk' : k = k' := by simpa using hk
          subst hk'
          simp only [Bool.and_eq_true] at hn
          have e1 := Nat.eq_of_beq_eq_true hn.1.1
          have e2 := Nat.eq_of_beq_eq_true hn.1.2
          have o1 : a.length = n1 := (oks_cons hx).1
          have o2 : a'.length = n' := (oks_cons hy).1
          simp only [flats, Ch.flat, ints, List.append_nil]
          rw [← h]
          exact equalIn_row w hu he hz rfl _ _ (by omega) (by omega) 9998
        · simp at h
      · simp at h
    · simp at h
  · rename_i fs hg hu
    refine ⟨run_eqGuard_agg w op t x y _ _ hg, ?_⟩
    split at h
    · rename_i hst
      have hf : P.fieldsOf t = fs := by simp [Program.fieldsOf, hu]
      have := run_equalIn_struct (P := P) w 9999 t (flats xs).toArray (flats ys).toArray (by rw [hf]; exact hu) hst
      rw [hf] at this
      rw [show (10000 : Nat) = 9999 + 1 from rfl, this]
      exact structEq_sound w 9997 fs.toList xs ys 0 [] [] b rfl rfl hx hy h
    · simp at h
  · simp at h

/-! ### Binary operations -/
theorem run_eql_of {t : TypeId} {x y : Value} {b : Bool} (hb : binOp .eql t x y = (do pure (.bool (← Op.equal t x y)))) (he : ∀ w, (Op.equalIn (9999 + 1) t x y).run P w = .ok b w) (w : World) : (binOp .eql t x y).run P w = .ok (.bool b) w := by
  rw [hb]
  simp only [Op.equal, Sem.run_bind]
  rw [show Op.maxDepth = 9999 + 1 from rfl, he w]
  rfl
theorem run_neq_of {t : TypeId} {x y : Value} {b : Bool} (hb : binOp .neq t x y = (do pure (.bool (!(← Op.equal t x y))))) (he : ∀ w, (Op.equalIn (9999 + 1) t x y).run P w = .ok b w) (w : World) : (binOp .neq t x y).run P w = .ok (.bool (!b)) w := by
  rw [hb]
  simp only [Op.equal, Sem.run_bind]
  rw [show Op.maxDepth = 9999 + 1 from rfl, he w]
  rfl
theorem eqIn_ptr {t e : TypeId} (hu : P.underlying t = some (.pointer e)) (a : Option Addr) (d : Nat) (w : World) : (Op.equalIn (d + 1) t (.pointer a) (.pointer none)).run P w = .ok a.isNone w := by
  cases a <;> simp only [Op.equalIn, Sem.run_bind, run_underlying hu, Result.andThen_ok] <;> rfl
theorem eqIn_slc {t e : TypeId} (hu : P.underlying t = some (.slice e)) (a : Option Addr) (l c : Nat) (d : Nat) (w : World) : (Op.equalIn (d + 1) t (.slice a l c) (.slice none 0 0)).run P w = .ok a.isNone w := by
  cases a <;> simp only [Op.equalIn, Sem.run_bind, run_underlying hu, Result.andThen_ok] <;> rfl
theorem eqIn_ifc {t : TypeId} {ms : Array (String × TypeId)} (hu : P.underlying t = some (.interface ms)) (v : Value) (hv : isIfc v = true) (d : Nat) (w : World) : (Op.equalIn (d + 1) t v .nilIface).run P w = .ok (isNilI v) w := by
  cases v <;> simp only [isIfc] at hv <;> try (simp at hv; done)
  all_goals simp only [Op.equalIn, Sem.run_bind, run_underlying hu, Result.andThen_ok] <;> rfl
theorem Dbin_sound {op : BinOp} {t : TypeId} {dx dy : DV} {K : SV → Prop} (hx : dx.ok) (hy : dy.ok) (X Y : Operand) (h : Dbin P op t dx dy (isConstO Y) K) :
    PureOk P (do eqGuard op t X Y dx.flat dy.flat; binOp op t dx.flat dy.flat) K := by
  unfold Dbin at h
  split at h
  · rename_i k a k' b
    simp only [DV.flat, eqGuard_at_int]
    by_cases hk : k = k'
    case neg =>
      have hk' : (k == k') = false := by simpa using hk
      cases op <;> simp only [hk'] at h <;> try exact h.elim
      · exact .one rfl h.2 fun w => by simp [binOp, Op.shift, Int.not_lt.2 h.1]
      · exact .one rfl h.2 fun w => by simp [binOp, Op.shift, Int.not_lt.2 h.1]
    subst hk
    cases op <;> simp only [beq_self_eq_true] at h
    case shl => exact .one rfl h.2 fun w => by simp [binOp, Op.shift, Int.not_lt.2 h.1]
    case shr => exact .one rfl h.2 fun w => by simp [binOp, Op.shift, Int.not_lt.2 h.1]
    case quo => exact .one rfl h.2 fun w => by simp [binOp, Op.intDiv, h.1]
    case rem => exact .one rfl h.2 fun w => by simp [binOp, Op.intDiv, h.1]
    case add => exact .one rfl h fun w => by simp [binOp, Op.intArith]
    case sub => exact .one rfl h fun w => by simp [binOp, Op.intArith]
    case mul => exact .one rfl h fun w => by simp [binOp, Op.intArith]
    case and => exact .one rfl h fun w => by simp [binOp, intBits_and]
    case or => exact .one rfl h fun w => by simp [binOp, intBits_or]
    case xor => exact .one rfl h fun w => by simp [binOp, intBits_xor]
    case andNot => exact .one rfl h fun w => by simp [binOp, intBits_andNot]
    case eql => exact .one rfl h fun w => by simp [binOp, Op.intCmp]
    case neq => exact .one rfl h fun w => by simp [binOp, Op.intCmp]
    case lss => exact .one rfl h fun w => by simp [binOp, Op.intCmp, ltI_eq, leI_eq]
    case leq => exact .one rfl h fun w => by simp [binOp, Op.intCmp, ltI_eq, leI_eq]
    case gtr => exact .one rfl h fun w => by simp [binOp, Op.intCmp, ltI_eq, leI_eq]
    case geq => exact .one rfl h fun w => by simp [binOp, Op.intCmp, ltI_eq, leI_eq]
  · rename_i a b
    simp only [DV.flat, eqGuard_at_bool]
    split at h
    · have hu : P.underlying t = some .bool := by assumption
      exact .one rfl h fun w => by simp [binOp, Op.equal, Op.maxDepth, run_equalIn_bool' w 9999 t a b hu]
    · have hu : P.underlying t = some .bool := by assumption
      exact .one rfl h fun w => by simp [binOp, Op.equal, Op.maxDepth, run_equalIn_bool' w 9999 t a b hu]
    · exact h.elim
  · rename_i a b
    simp only [DV.flat, eqGuard_at_string]
    cases op <;> simp only at h <;> try exact h.elim
    case eql => exact .one rfl h fun w => by simp [binOp, Op.stringOp]
    case neq => exact .one rfl h fun w => by simp [binOp, Op.stringOp]
    case add => exact .one rfl h.2 fun w => by
                  have := Int.not_lt.2 h.1
                  simp only [binOp, Op.stringOp, gt_iff_lt, if_neg this, pure_bind, Sem.run_pure]
  · rename_i a
    simp only [DV.flat, eqGuard_at_pointer]
    split at h
    · rename_i hu; exact .one rfl h (run_eql_of rfl (eqIn_ptr hu a 9999))
    · rename_i hu; exact .one rfl h (run_neq_of rfl (eqIn_ptr hu a 9999))
    · exact h.elim
  · rename_i a
    simp only [DV.flat, eqGuard_at_pointer]
    split at h
    · rename_i hu; exact .one rfl h (run_eql_of rfl (eqIn_ptr hu (some a) 9999))
    · rename_i hu; exact .one rfl h (run_neq_of rfl (eqIn_ptr hu (some a) 9999))
    · exact h.elim
  · rename_i a l c
    simp only [DV.flat, eqGuard_at_slice]
    split at h
    · rename_i hu; exact .one rfl h (run_eql_of rfl (eqIn_slc hu a l c 9999))
    · rename_i hu; exact .one rfl h (run_neq_of rfl (eqIn_slc hu a l c 9999))
    · exact h.elim
  · rename_i v
    have hc : isConstO Y = true → ∃ c, Y = .const c := fun h => by cases Y <;> simp [isConstO] at h; exact ⟨_, rfl⟩
    have hg : ∀ op, isIfc v = true → isConstO Y = true → eqGuard op t X Y v .nilIface = pure () := fun op hi hy => by
      obtain ⟨c, rfl⟩ := hc hy
      cases v <;> simp only [isIfc] at hi <;> try (simp at hi; done)
      · exact eqGuard_at_iface ..
      · exact eqGuard_nil_constR ..
    split at h
    · rename_i hy hu
      simp only [DV.flat, hg _ h.1 hy]
      refine .one rfl h.2 (run_eql_of ?_ (eqIn_ifc hu v h.1 9999))
      have := h.1
      cases v <;> simp only [isIfc] at this <;> first | rfl | (simp at this; done)
    · rename_i hy hu
      simp only [DV.flat, hg _ h.1 hy]
      refine .one rfl h.2 (run_neq_of ?_ (eqIn_ifc hu v h.1 9999))
      have := h.1
      cases v <;> simp only [isIfc] at this <;> first | rfl | (simp at this; done)
    · exact h.elim
  · rename_i xs ys
    cases op <;> simp only at h <;> try exact h.elim
    · split at h
      · rename_i b hb
        refine .one rfl h fun w => ?_
        obtain ⟨h1, h2⟩ := aggEq_sound (P := P) hx hy hb .eql X Y w
        simp only [DV.flat, Sem.run_bind, h1, Result.andThen_ok, run_eql_struct, h2]
      · exact h.elim
    · split at h
      · rename_i b hb
        refine .one rfl h fun w => ?_
        obtain ⟨h1, h2⟩ := aggEq_sound (P := P) hx hy hb .neq X Y w
        simp only [DV.flat, Sem.run_bind, h1, Result.andThen_ok, run_neq_struct, h2]
      · exact h.elim
  · exact h.elim

theorem Dun_sound {op : UnOp} {dx : DV} {K : SV → Prop} (h : Dun op dx K) : PureOk P (Op.unary op dx.flat) K := by
  unfold Dun at h
  split at h
  · exact .one rfl h fun w => by simp [DV.flat, Op.unary]
  · exact .one rfl h fun w => by simp [DV.flat, Op.unary, Op.intArith]
  · exact .one rfl h fun w => by simp [DV.flat, Op.unary, intBits_xor]
  · exact h.elim

/-! ### Parts -/
theorem dropC_sound : ∀ (cs : List Ch) (n : Nat) (r : List Ch), dropC cs n = some r → oks cs → oks r ∧ ∃ pre, flats cs = pre ++ flats r ∧ pre.length = n := by
  intro cs
  induction cs with
  | nil =>
    intro n r h _
    simp only [dropC] at h
    cases hb : Nat.beq n 0 with
    | false => simp [hb] at h
    | true => simp [hb] at h; subst h; have := Nat.eq_of_beq_eq_true hb; exact ⟨oks_nil, [], rfl, by simp [this]⟩
  | cons c r ih =>
    intro n q h hok
    simp only [dropC] at h
    cases hb : Nat.beq n 0 with
    | true => simp [hb] at h; subst h; have := Nat.eq_of_beq_eq_true hb; exact ⟨hok, [], rfl, by simp [this]⟩
    | false =>
      simp only [hb, cond_false] at h
      cases hl : Nat.ble c.size n with
      | false => simp [hl] at h
      | true =>
        simp only [hl, cond_true] at h
        have hle := Nat.le_of_ble_eq_true hl
        obtain ⟨h1, pre, h2, h3⟩ := ih _ _ h (oks_cons hok).2
        exact ⟨h1, c.flat ++ pre, by simp [flats, h2], by simp [flat_length (oks_cons hok).1, h3]; omega⟩
theorem takeC_sound : ∀ (cs : List Ch) (n : Nat) (l : List Ch), takeC cs n = some l → oks cs → oks l ∧ chsSize l = n ∧ ∃ post, flats cs = flats l ++ post := by
  intro cs
  induction cs with
  | nil =>
    intro n r h _
    simp only [takeC] at h
    cases hb : Nat.beq n 0 with
    | false => simp [hb] at h
    | true => simp [hb] at h; subst h; have := Nat.eq_of_beq_eq_true hb; exact ⟨oks_nil, by simp [this, chsSize], [], rfl⟩
  | cons c r ih =>
    intro n q h hok
    simp only [takeC] at h
    cases hb : Nat.beq n 0 with
    | true => simp [hb] at h; subst h; have := Nat.eq_of_beq_eq_true hb; exact ⟨oks_nil, by simp [this, chsSize], flats (c :: r), by simp [flats]⟩
    | false =>
      simp only [hb, cond_false] at h
      cases hl : Nat.ble c.size n with
      | false => simp [hl] at h
      | true =>
        simp only [hl, cond_true] at h
        have hle := Nat.le_of_ble_eq_true hl
        cases hr : takeC r (n - c.size) with
        | none => simp [hr] at h
        | some l =>
          simp [hr] at h; subst h
          obtain ⟨h1, h2, post, h3⟩ := ih _ _ hr (oks_cons hok).2
          exact ⟨oks_mk (oks_cons hok).1 h1, by simp [chsSize, h2]; omega, post, by simp [flats, h3]⟩
theorem partC_sound {cs l : List Ch} {off n : Nat} (h : partC cs off n = some l) (hok : oks cs) : oks l ∧ chsSize l = n ∧ ∃ pre post, flats cs = pre ++ flats l ++ post ∧ pre.length = off := by
  unfold partC at h
  cases hd : dropC cs off with
  | none => simp [hd] at h
  | some r =>
    simp [hd] at h
    obtain ⟨h1, pre, h2, h3⟩ := dropC_sound _ _ _ hd hok
    obtain ⟨h4, h5, post, h6⟩ := takeC_sound _ _ _ h h1
    exact ⟨h4, h5, pre, post, by rw [h2, h6]; simp, h3⟩
theorem putC_sound {cs xs l : List Ch} {off : Nat} (h : putC cs off xs = some l) (hok : oks cs) (hx : oks xs) :
    oks l ∧ flats l = (flats cs).take off ++ flats xs ++ (flats cs).drop (off + chsSize xs) ∧ off + chsSize xs ≤ (flats cs).length := by
  unfold putC at h
  cases ha : takeC cs off with
  | none => simp [ha] at h
  | some a =>
    cases hb : dropC cs (off + chsSize xs) with
    | none => simp [ha, hb] at h
    | some b =>
      simp [ha, hb] at h
      obtain ⟨h1, h2, post, h3⟩ := takeC_sound _ _ _ ha hok
      obtain ⟨h4, pre, h5, h6⟩ := dropC_sound _ _ _ hb hok
      have ho : oks (a ++ (xs ++ b)) := oks_append h1 (oks_append hx h4)
      subst h
      refine ⟨ho, ?_, by rw [h5]; simp [h6]⟩
      have e1 : (flats cs).take off = flats a := by rw [h3, List.take_left' (by rw [flats_length h1, h2])]
      have e2 : (flats cs).drop (off + chsSize xs) = flats b := by rw [h5, List.drop_left' h6]
      rw [e1, e2]; simp [flats_append]

/-! ### Composite literals -/
theorem fold_set (off : Nat) : ∀ (l : List Value) (i : Nat) (cells : Array Value), off + i + l.length ≤ cells.size →
    ((l.zipIdx i).foldl (fun cs (x : Value × Nat) => cs.setIfInBounds (off + x.2) x.1) cells).toList =
      cells.toList.take (off + i) ++ l ++ cells.toList.drop (off + i + l.length) := by
  intro l
  induction l with
  | nil => intro i cells _; simp
  | cons c r ih =>
    intro i cells hle
    simp only [List.length_cons] at hle
    simp only [List.zipIdx_cons, List.foldl_cons]
    rw [ih (i + 1) _ (by simp; omega)]
    simp only [Array.toList_setIfInBounds, List.length_cons]
    rw [show off + (i + 1) = off + i + 1 by omega]
    have hlt : off + i < cells.toList.length := by simp; omega
    rw [List.take_succ_eq_append_getElem (by simpa using hlt), List.take_set_of_le (by omega), List.getElem_set_self, List.drop_set_of_lt (by omega)]
    simp [show off + i + 1 + r.length = off + i + (r.length + 1) by omega]

theorem fill_cons {place : Nat → Option (Nat × Nat)} {cells : Array Value} {i off sz : Nat} {v : Value} {rest : List (Nat × Value)} (hp : place i = some (off, sz)) (hv : v.cells.size = sz) (hle : off + sz ≤ cells.size) :
    ∃ cells' : Array Value, cells'.toList = cells.toList.take off ++ v.cells.toList ++ cells.toList.drop (off + sz) ∧ Instr.fill place cells ((i, v) :: rest) = Instr.fill place cells' rest := by
  refine ⟨v.cells.zipIdx.foldl (fun cs (x : Value × Nat) => cs.setIfInBounds (off + x.2) x.1) cells, ?_, ?_⟩
  · rw [← Array.foldl_toList, Array.toList_zipIdx, fold_set off v.cells.toList 0 cells (by simp; omega)]
    simp [hv]
  · simp only [Instr.fill, hp]
    rw [if_neg (by simp; omega)]

theorem fillC_sound {place : Nat → Option (Nat × Nat)} {isRow : Bool} : ∀ (parts : List (Nat × SV)) (vals : List (Nat × Value)) (cs l : List Ch) (cells : Array Value),
    parts.length = vals.length → (∀ (i : Nat) (p : Nat × SV) (q : Nat × Value), parts[i]? = some p → vals[i]? = some q → p.1 = q.1 ∧ p.2.rel q.2) →
    fillC place isRow parts cs = some l → oks cs → cells.toList = flats cs → oks l ∧ ∃ cells' : Array Value, Instr.fill place cells vals = some cells' ∧ cells'.toList = flats l := by
  intro parts
  induction parts with
  | nil =>
    intro vals cs l cells hlen _ h hok hc
    cases vals with
    | nil => simp [fillC] at h; subst h; exact ⟨hok, cells, rfl, hc⟩
    | cons _ _ => simp at hlen
  | cons p parts ih =>
    intro vals cs l cells hlen hrel h hok hc
    cases vals with
    | nil => simp at hlen
    | cons q vals =>
    obtain ⟨i, sv⟩ := p
    obtain ⟨i', v⟩ := q
    obtain ⟨he, hr⟩ := hrel 0 _ _ rfl rfl
    simp only at he hr
    subst he
    cases sv with
    | un => simp [fillC] at h
    | nd => simp [fillC] at h
    | tup _ => simp [fillC] at h
    | dv x =>
      obtain ⟨hx, rfl⟩ := hr
      simp only [fillC] at h
      cases hp : place i with
      | none => simp [hp] at h
      | some os =>
        obtain ⟨off, sz⟩ := os
        simp only [hp] at h
        have hxs := DV.chs_oks hx
        have hcl := DV.cells_flat hx
        have next : ∀ cs', oks cs' → flats cs' = (flats cs).take off ++ flats x.chs ++ (flats cs).drop (off + sz) → chsSize x.chs = sz → off + sz ≤ (flats cs).length → fillC place isRow parts cs' = some l →
            oks l ∧ ∃ cells' : Array Value, Instr.fill place cells ((i, x.flat) :: vals) = some cells' ∧ cells'.toList = flats l := by
          intro cs' hok' hfl hsz hle hf
          have hcs : x.flat.cells.size = sz := by rw [hcl]; simp [flats_length hxs, hsz]
          obtain ⟨cells', h1, h2⟩ := fill_cons (rest := vals) hp hcs (cells := cells) (by rw [← Array.length_toList, hc]; exact hle)
          rw [h2]
          refine ih vals cs' l cells' (by simpa using hlen) (fun j p q h3 h4 => hrel (j + 1) p q (by simpa using h3) (by simpa using h4)) hf hok' ?_
          rw [h1, hfl, hc, hcl]
        split at h
        · rename_i hsz
          have hsz := Nat.eq_of_beq_eq_true hsz
          split at h
          · rename_i h1
            have h1 := Nat.eq_of_beq_eq_true h1
            cases hput : putRow cs off x.chs with
            | none => simp [hput] at h
            | some cs' =>
              simp only [hput, Option.bind_some] at h
              unfold putRow at hput
              split at hput
              · rename_i k n ns k' m hxc
                split at hput
                · rename_i hk hlt
                  simp only [Option.some.injEq] at hput
                  have hk : k = k' := by simpa using hk
                  have hlt : off < n := Nat.le_of_ble_eq_true hlt
                  subst hk
                  have hn : ns.length = n := (oks_cons hok).1
                  subst hput
                  refine next _ (oks_mk (by simp [Ch.ok, hn]) oks_nil) ?_ hsz (by simp [flats, Ch.flat, ints, hn]; omega) h
                  rw [hxc]
                  simp only [flats, Ch.flat, ints, List.append_nil, h1]
                  rw [List.map_set]
                  have hlt' : off < (ns.map (Value.int k)).length := by simp [hn, hlt]
                  rw [List.set_eq_take_append_cons_drop, if_pos hlt']
                  simp
                · simp at hput
              · simp at hput
          · simp at h
        · rename_i hsz
          have hsz := Nat.eq_of_beq_eq_true hsz
          cases hput : putC cs off x.chs with
          | none => simp [hput] at h
          | some cs' =>
            simp only [hput, Option.bind_some] at h
            obtain ⟨h1, h2, h3⟩ := putC_sound hput hok hxs
            rw [hsz] at h2 h3
            exact next cs' h1 h2 hsz h3 h
        · simp at h

/-! ### Zero values -/
theorem veq_sound {a b : Value} (h : veq a b = true) : a = b := by
  unfold veq at h
  split at h <;> try (first | rfl | (simp at h; done))
  · split at h
    · rename_i hk
      simp at h hk
      rw [hk, h]
    · simp at h
  · simp at h; rw [h]
  · rename_i a b
    split at h
    · rename_i ha hb
      congr 1
      cases a; cases b
      simp only at ha hb
      congr 1
      exact Array.toList_inj.1 (by rw [ha, hb])
    · simp at h
theorem vseq_sound : ∀ {a b : List Value}, vseq a b = true → a = b
  | [], [], _ => rfl
  | [], _ :: _, h => by simp [vseq] at h
  | _ :: _, [], h => by simp [vseq] at h
  | x :: a, y :: b, h => by
    simp only [vseq] at h
    split at h
    · rename_i hv; rw [veq_sound hv, vseq_sound h]
    · simp at h
theorem zero_ok (s : Sh) : s.zero.ok := by cases s <;> simp [Sh.zero, Ch.ok, zeros, Value.oneCell']
theorem zeroChs_sound {t : TypeId} {cs : List Ch} (h : zeroChs P t = some cs) : oks cs ∧ ∃ i z, P.info? t = some i ∧ i.zero = some z ∧ z.cells.toList = flats cs := by
  unfold zeroChs at h
  cases hi : P.info? t with
  | none => simp [hi] at h
  | some i =>
    simp only [hi, Option.bind_some] at h
    split at h
    · rename_i z l hz _
      split at h
      · rename_i hv
        simp at h; subst h
        refine ⟨fun c hc => ?_, i, z, rfl, hz, (vseq_sound hv).symm⟩
        obtain ⟨s, _, rfl⟩ := List.mem_map.1 hc
        exact zero_ok s
      · simp at h
    · rename_i z s hz _
      split at h
      · rename_i hv
        simp at h; subst h
        refine ⟨oks_mk (zero_ok s) oks_nil, i, z, rfl, hz, ?_⟩
        rw [← vseq_sound hv]; simp [flats]
      · simp at h
    · simp at h
theorem run_zero {t : TypeId} {i : TypeInfo} {z : Value} (h : P.info? t = some i) (hz : i.zero = some z) (w : World) : (zeroValue t).run P w = .ok z w := by
  unfold zeroValue
  simp [run_typeInfo h, hz]

theorem Dbuild_sound {t : TypeId} {parts : List (Nat × SV)} {vals : Array (Nat × Value)} {K : SV → Prop} (hlen : parts.length = vals.toList.length)
    (hrel : ∀ (i : Nat) (p : Nat × SV) (q : Nat × Value), parts[i]? = some p → vals.toList[i]? = some q → p.1 = q.1 ∧ p.2.rel q.2) (h : Dbuild P t parts K) : PureOk P (Instr.build t vals) K := by
  unfold Dbuild at h
  split at h
  · rename_i fs z hu hz
    obtain ⟨hok, i, zv, hi, hzv, hzc⟩ := zeroChs_sound hz
    split at h
    · rename_i pl hpl
      split at h
      · rename_i cs hf
        obtain ⟨h1, cells', h2, h3⟩ := fillC_sound parts vals.toList z cs zv.cells hlen hrel hf hok hzc
        refine ⟨.dv (.agg cs), .agg cells', ⟨h1, ?_⟩, h, fun w => run_build w t vals cells' ?_⟩
        · simp only [DV.flat]; congr 1; exact Array.toList_inj.1 (by rw [h3])
        · have h2' : Instr.fill (fun x => pl.toArray[x]?) zv.cells vals.toList = some cells' := by simpa using h2
          simp only [Program.built, hi, hu, hzv, hpl, h2']
      · exact h.elim
    · exact h.elim
  · rename_i n e z hu hz
    obtain ⟨hok, i, zv, hi, hzv, hzc⟩ := zeroChs_sound hz
    split at h
    · rename_i ie hie
      split at h
      · rename_i cs hf
        obtain ⟨h1, cells', h2, h3⟩ := fillC_sound parts vals.toList z cs zv.cells hlen hrel hf hok hzc
        refine ⟨.dv (.agg cs), .agg cells', ⟨h1, ?_⟩, h, fun w => run_build w t vals cells' ?_⟩
        · simp only [DV.flat]; congr 1; exact Array.toList_inj.1 (by rw [h3])
        · simp only [Program.built, hi, hu, hzv, hie, h2]
      · exact h.elim
    · exact h.elim
  · exact h.elim

/-! ### Bounds, indexes, fields -/
def IV : Option Int → Option Value → Prop
  | none, none => True
  | some i, some v => ∃ k, v = .int k i
  | _, _ => False
theorem run_bound {k : IntKind} {i : Int} {y : Nat} (code : BoundsCode) (h0 : 0 ≤ i) (h1 : i ≤ y) (w : World) : (Instr.sliceBound (.int k i) y code).run P w = .ok i.toNat w := by
  unfold Instr.sliceBound
  simp [asIntOf, h0, h1]
theorem Dbounds_sound {lo hi mx : Option Int} {lo' hi' mx' : Option Value} {len cap : Nat} {K : Nat → Nat → Nat → Prop} (hl : IV lo lo') (hh : IV hi hi') (hm : IV mx mx') (h : Dbounds lo hi mx len cap K) :
    ∃ a b m, K a b m ∧ ∀ (s : Bool) (w : World), (Instr.sliceBounds s len cap lo' hi' mx').run P w = .ok (a, b, m) w := by
  unfold Dbounds at h
  split at h
  · cases lo' <;> cases hi' <;> cases mx' <;> simp only [IV] at hl hh hm
    exact ⟨_, _, _, h, fun s w => by simp [Instr.sliceBounds]⟩
  · rename_i l
    cases lo' <;> cases hi' <;> cases mx' <;> simp only [IV] at hl hh hm
    obtain ⟨k, rfl⟩ := hl
    exact ⟨_, _, _, h.2.2, fun s w => by simp [Instr.sliceBounds, run_bound _ h.1 h.2.1]⟩
  · rename_i x
    cases lo' <;> cases hi' <;> cases mx' <;> simp only [IV] at hl hh hm
    obtain ⟨k, rfl⟩ := hh
    exact ⟨_, _, _, h.2.2, fun s w => by simp [Instr.sliceBounds, run_bound _ h.1 h.2.1]⟩
  · rename_i l x
    cases lo' <;> cases hi' <;> cases mx' <;> simp only [IV] at hl hh hm
    obtain ⟨k, rfl⟩ := hl
    obtain ⟨k', rfl⟩ := hh
    obtain ⟨h1, h2, h3, h4⟩ := h
    have e : l ≤ (x.toNat : Int) := by omega
    have e0 : 0 ≤ x := by omega
    exact ⟨_, _, _, h4, fun s w => by simp [Instr.sliceBounds, run_bound _ h1 e, run_bound _ e0 h3]⟩
  · rename_i l x m
    cases lo' <;> cases hi' <;> cases mx' <;> simp only [IV] at hl hh hm
    obtain ⟨k, rfl⟩ := hl
    obtain ⟨k', rfl⟩ := hh
    obtain ⟨k'', rfl⟩ := hm
    obtain ⟨h1, h2, h3, h3', h4⟩ := h
    have e : l ≤ (x.toNat : Int) := by omega
    have e0 : 0 ≤ x := by omega
    have e1 : x ≤ (m.toNat : Int) := by omega
    have e2 : 0 ≤ m := by omega
    exact ⟨_, _, _, h4, fun s w => by simp [Instr.sliceBounds, run_bound _ h1 e, run_bound _ e0 e1, run_bound _ e2 h3']⟩
  · rename_i x m
    cases lo' <;> cases hi' <;> cases mx' <;> simp only [IV] at hl hh hm
    obtain ⟨k', rfl⟩ := hh
    obtain ⟨k'', rfl⟩ := hm
    obtain ⟨h2, h3, h3', h4⟩ := h
    have e1 : x ≤ (m.toNat : Int) := by omega
    have e2 : 0 ≤ m := by omega
    exact ⟨_, _, _, h4, fun s w => by simp [Instr.sliceBounds, run_bound _ h2 e1, run_bound _ e2 h3']⟩
  · exact h.elim

theorem Dslice_sound {t : TypeId} {x : SV} {xv : Value} {lo hi mx : Option Int} {lo' hi' mx' : Option Value} {K : SV → Prop} (hx : x.rel xv) (hl : IV lo lo') (hh : IV hi hi') (hm : IV mx mx')
    (h : Dslice P t x lo hi mx K) : PureOk P (Instr.sliceAt t xv lo' hi' mx') K := by
  unfold Dslice at h
  split at h
  · rename_i e p l c hu
    obtain ⟨_, rfl⟩ := hx
    split at h
    · rename_i sz hsz
      obtain ⟨a, b, m, hK, hr⟩ := Dbounds_sound (P := P) hl hh hm h
      exact .one rfl hK fun w => by simp [DV.flat, Instr.sliceAt, Instr.slice, run_underlying hu, hr, run_sizeOf hsz, subAddr]
    · exact h.elim
  · rename_i n e p hu
    obtain ⟨_, rfl⟩ := hx
    split at h
    · rename_i sz hsz
      obtain ⟨a, b, m, hK, hr⟩ := Dbounds_sound (P := P) hl hh hm h
      refine .one rfl hK fun w => ?_
      simp only [DV.flat, Instr.sliceAt, run_underlying hu, Instr.sureAddr, Sem.run_bind, Sem.run_pure, Result.andThen_ok, hr, run_sizeOf hsz, subAddr, Option.map_some]
      split <;> rfl
    · exact h.elim
  · rename_i s hu
    obtain ⟨_, rfl⟩ := hx
    split at h
    · obtain ⟨a, b, m, hK, hr⟩ := Dbounds_sound (P := P) hl hh hm h
      cases mx' with
      | none => exact .one rfl hK fun w => by simp [DV.flat, Instr.sliceAt, Instr.slice, run_underlying hu, hr]
      | some _ => exact hm.elim
    · exact h.elim
  · exact h.elim

theorem DindexAddr_sound {t : TypeId} {x : SV} {xv iv : Value} {i : Option Int} {K : SV → Prop} (hx : x.rel xv) (hi : ∀ j, i = some j → ∃ k, iv = .int k j) (h : DindexAddr P t x i K) :
    PureOk P (Instr.indexAt t xv iv) K := by
  unfold DindexAddr at h
  split at h
  · rename_i e p l c j hu
    obtain ⟨_, rfl⟩ := hx
    obtain ⟨k, rfl⟩ := hi j rfl
    split at h
    · rename_i sz hsz
      obtain ⟨q, rfl, h0, h1, hK⟩ := h
      exact .addr hK fun w => by simp [DV.flat, Instr.indexAt, asIntOf, run_underlying hu, h0, h1, run_sizeOf hsz]
    · exact h.elim
  · rename_i n e q j hu
    obtain ⟨_, rfl⟩ := hx
    obtain ⟨k, rfl⟩ := hi j rfl
    split at h
    · rename_i sz hsz
      obtain ⟨h0, h1, hK⟩ := h
      exact .addr hK fun w => by simp [DV.flat, Instr.indexAt, asIntOf, Instr.sureAddr, run_underlying hu, h0, h1, run_sizeOf hsz]
    · exact h.elim
  · exact h.elim

theorem Darr_sound {t : TypeId} {x : SV} {xv : Value} {K : SV → Prop} (hx : x.rel xv) (h : Darr P t x K) : PureOk P (Instr.arrayAt t xv) K := by
  unfold Darr at h
  split at h
  · rename_i n e p l c hu
    obtain ⟨_, rfl⟩ := hx
    obtain ⟨q, rfl, h0, hK⟩ := h
    exact .addr hK fun w => by simp [DV.flat, Instr.arrayAt, run_underlying hu, show ¬ l < n by omega]
  · exact h.elim

theorem Dindex_sound {t : TypeId} {x : SV} {xv iv : Value} {i : Option Int} {K : SV → Prop} (hx : x.rel xv) (hi : ∀ j, i = some j → ∃ k, iv = .int k j) (h : Dindex P t x i K) :
    PureOk P (Instr.index t xv iv) K := by
  unfold Dindex at h
  split at h
  · rename_i n e k m ns j hu
    obtain ⟨hok, rfl⟩ := hx
    obtain ⟨k', rfl⟩ := hi j rfl
    split at h
    · rename_i q he hsz hn
      have hn := Nat.eq_of_beq_eq_true hn
      obtain ⟨h0, h1, hK⟩ := h
      have hlen : ns.length = m := (oks_cons hok).1
      have hlt : j.toNat < ns.length := by omega
      have hag : ∀ w, (isAgg e).run P w = .ok false w := fun w => by unfold isAgg; simp [run_underlying he]
      refine .one rfl hK fun w => ?_
      simp [DV.flat, Instr.index, asIntOf, run_underlying hu, h0, h1, run_sizeOf hsz, part, hag, flats, Ch.flat, ints, hlt]
    · exact h.elim
  · rename_i s j hu
    obtain ⟨hok, rfl⟩ := hx
    obtain ⟨k', rfl⟩ := hi j rfl
    obtain ⟨h0, h1, hK⟩ := h
    have hlt : j.toNat < s.size := by omega
    have hlt' : j.toNat < s.data.toList.length := by simpa using hlt
    refine .one rfl hK fun w => ?_
    have e : s[j.toNat]? = some (s.data.toList.getD j.toNat 0) := by
      rw [getElem?_pos s j.toNat hlt, List.getD_eq_getElem?_getD, List.getElem?_eq_getElem hlt']
      rfl
    simp only [DV.flat, Instr.index, asIntOf, run_underlying hu, Sem.run_bind, Sem.run_pure, Result.andThen_ok, if_pos h0, e]
  · exact h.elim

theorem ofChs_sound {t : TypeId} {l : List Ch} {d : DV} {n : Nat} (h : ofChs P t l = some d) (hok : oks l) (hn : szOf P t = some n) (hl : chsSize l = n) :
    d.ok ∧ ∀ (pre post : List Value) (w : World), (part t (pre ++ flats l ++ post).toArray pre.length).run P w = .ok d.flat w := by
  have scalar : ∀ (s : Sh) (v : Value), tsh P t = some (.sc s) → ∀ (pre post : List Value) (w : World), (part t (pre ++ flats [.c v] ++ post).toArray pre.length).run P w = .ok v w := by
    intro s v hs pre post w
    exact part_mid_one (run_isAgg_sc hs)
  unfold ofChs at h
  split at h
  · rename_i sl hs
    simp at h; subst h
    refine ⟨hok, fun pre post w => ?_⟩
    unfold part
    simp only [Sem.run_bind, run_isAgg_ag hs, Result.andThen_ok, if_true, run_sizeOf hn, Sem.run_pure, DV.flat]
    congr 2
    apply Array.toList_inj.1
    have := flats_length hok
    rw [hl] at this
    simp [← this]
  · rename_i v hs
    simp at h; subst h
    exact ⟨(oks_cons hok).1, scalar _ _ hs⟩
  · rename_i v hs
    simp at h; subst h
    exact ⟨(oks_cons hok).1, scalar _ _ hs⟩
  · simp at h
  · rename_i s v _ _ _ hs
    simp at h; subst h
    exact ⟨(oks_cons hok).1, scalar _ _ hs⟩
  · simp at h

theorem Dfield_sound {t : TypeId} {x : SV} {xv : Value} {f : Nat} {K : SV → Prop} (hx : x.rel xv) (h : Dfield P t x f K) : PureOk P (Instr.field t xv f) K := by
  unfold Dfield at h
  split at h
  · rename_i fs cs hu
    obtain ⟨hok, rfl⟩ := hx
    split at h
    · rename_i fd hf
      split at h
      · rename_i n hn
        split at h
        · rename_i d hd
          cases hp : partC cs fd.offset n with
          | none => simp [hp] at hd
          | some l =>
            simp [hp] at hd
            obtain ⟨h1, h2, pre, post, h3, h4⟩ := partC_sound hp hok
            obtain ⟨h5, h6⟩ := ofChs_sound hd h1 hn h2
            refine ⟨.dv d, d.flat, ⟨h5, rfl⟩, h, fun w => ?_⟩
            have := h6 pre post w
            rw [h4, ← h3] at this
            simp only [DV.flat, Instr.field, run_underlying hu, Sem.run_bind, Result.andThen_ok, hf, asAgg, Sem.run_pure]
            exact this
        · exact h.elim
      · exact h.elim
    · exact h.elim
  · exact h.elim

theorem DfieldAddr_sound {t : TypeId} {x : SV} {xv : Value} {f : Nat} {K : SV → Prop} (hx : x.rel xv) (h : DfieldAddr P t x f K) : PureOk P (Instr.fieldAt t xv f) K := by
  unfold DfieldAddr at h
  split at h
  · rename_i fs p hu
    obtain ⟨_, rfl⟩ := hx
    split at h
    · rename_i fd hf
      split at h
      · rename_i n hn
        exact .addr h fun w => by simp [DV.flat, Instr.fieldAt, run_underlying hu, hf, Instr.sureAddr, fieldPlace, run_sizeOf hn]
      · exact h.elim
    · exact h.elim
  · exact h.elim
end Go.Vc
end

/- The denotation is sound, third part: any operation that touches no memory, joined. Own work; generic over any program. -/
section
namespace Go.Vc
variable {P : Program}

theorem asI_rel {s : SV} {v : Value} (h : s.rel v) {i : Int} (hi : asI s = some i) : ∃ k, v = .int k i := by
  unfold asI at hi
  split at hi
  · simp at hi; subst hi; exact ⟨_, h.2⟩
  · simp at hi
theorem opI_IV {fr : Fr} {a : Act} (hFR : FR fr a.tmps) {x : Option Operand} {y : Option Int} (h : opI fr x = some y) : IV y (x.map a.eval) := by
  cases x with
  | none => simp [opI] at h; subst h; trivial
  | some x =>
    simp only [opI] at h
    cases hi : asI (ev fr x) with
    | none => simp [hi] at h
    | some i => simp [hi] at h; subst h; exact asI_rel (ev_rel hFR x) hi

theorem dvs_sound {fr : Fr} {a : Act} (hFR : FR fr a.tmps) : ∀ (xs : List Operand) (ds : List DV), dvs (xs.map (ev fr)) = some ds → (∀ d, d ∈ ds → d.ok) ∧ xs.map a.eval = ds.map DV.flat := by
  intro xs
  induction xs with
  | nil => intro ds h; simp [dvs] at h; subst h; exact ⟨fun _ h => (by cases h), rfl⟩
  | cons x xs ih =>
    intro ds h
    simp only [List.map_cons] at h
    cases hx : ev fr x with
    | dv d =>
      simp only [hx, dvs] at h
      obtain ⟨hok, hv⟩ := ev_dv hFR hx
      cases h2 : dvs (xs.map (ev fr)) with
      | none => simp [h2] at h
      | some r =>
        simp [h2] at h
        subst h
        obtain ⟨h3, h4⟩ := ih r h2
        exact ⟨fun y hy => by rcases List.mem_cons.1 hy with rfl | hy; exact hok; exact h3 y hy, by simp [h4, hv]⟩
    | un => simp [hx, dvs] at h
    | nd => simp [hx, dvs] at h
    | tup _ => simp [hx, dvs] at h
theorem Dconv_sound {s d : TypeId} {x : SV} {xv : Value} {K : SV → Prop} (hx : x.rel xv) (h : Dconv P s d x K) : PureOk P (convert s d xv) K := by
  unfold Dconv at h
  split at h
  · rename_i ds k j n hs hd
    obtain ⟨_, rfl⟩ := hx
    exact .one rfl h fun w => by cases ds <;> simp [DV.flat, convert, run_underlying hs, run_underlying hd, Conv.intToInt]
  · rename_i ds st hs hd
    obtain ⟨_, rfl⟩ := hx
    exact .one rfl h fun w => by cases ds <;> simp [DV.flat, convert, run_underlying hs, run_underlying hd]
  · exact h.elim

theorem map1 {α β : Type} {f : α → β} {l : List α} {x : β} (h : l.map f = [x]) : ∃ y, l = [y] ∧ f y = x := by
  cases l with
  | nil => simp at h
  | cons y r =>
    cases r with
    | nil => simp at h; exact ⟨y, rfl, h⟩
    | cons _ _ => simp at h
theorem map2 {α β : Type} {f : α → β} {l : List α} {x y : β} (h : l.map f = [x, y]) : ∃ u v, l = [u, v] ∧ f u = x ∧ f v = y := by
  cases l with
  | nil => simp at h
  | cons u r =>
    cases r with
    | nil => simp at h
    | cons v r =>
      cases r with
      | nil => simp at h; exact ⟨u, v, rfl, h⟩
      | cons _ _ => simp at h

theorem Dbi_sound {b : Builtin} {ats : Array TypeId} {args : List Operand} {fr : Fr} {a : Act} (hFR : FR fr a.tmps) {ty : TypeId} {cs : Array Bool} {K : SV → Prop}
    (h : Dbi P b ats.toList (args.map (ev fr)) K) : ∃ x v, SV.rel x v ∧ K x ∧ ∀ w, (builtin b ats ty cs (args.map a.eval).toArray).run P w = .ok (.value v) w := by
  have lift : ∀ {s : Sem Value}, PureOk P s K → (∀ w v, s.run P w = .ok v w → (builtin b ats ty cs (args.map a.eval).toArray).run P w = .ok (.value v) w) →
      ∃ x v, SV.rel x v ∧ K x ∧ ∀ w, (builtin b ats ty cs (args.map a.eval).toArray).run P w = .ok (.value v) w := by
    rintro s ⟨x, v, h1, h2, h3⟩ h4
    exact ⟨x, v, h1, h2, fun w => h4 w v (h3 w)⟩
  obtain ⟨ats⟩ := ats
  simp only at h
  unfold Dbi at h
  split at h
  · rename_i t p l c hargs
    obtain ⟨x, rfl, hx⟩ : ∃ x, args = [x] ∧ ev fr x = .dv (.one (.slice p l c)) := map1 hargs
    obtain ⟨_, hv⟩ := ev_dv hFR hx
    split at h
    · rename_i e hu
      refine lift (s := Builtin.len_ #[t] ty #[a.eval x]) (.one rfl h fun w => ?_) fun w v hr => ?_
      · simp [hv, DV.flat, Builtin.len_, run_underlying hu, goInt]
      · simp [builtin, hr]
    · exact h.elim
  · rename_i t s hargs
    obtain ⟨x, rfl, hx⟩ : ∃ x, args = [x] ∧ ev fr x = .dv (.one (.string s)) := map1 hargs
    obtain ⟨_, hv⟩ := ev_dv hFR hx
    split at h
    · rename_i hu
      refine lift (s := Builtin.len_ #[t] ty #[a.eval x]) (.one rfl h fun w => ?_) fun w v hr => ?_
      · simp [hv, DV.flat, Builtin.len_, run_underlying hu, goInt]
      · simp [builtin, hr]
    · exact h.elim
  · rename_i t q _ _ hargs
    obtain ⟨x, rfl, _⟩ := map1 hargs
    split at h
    · rename_i n e hu
      refine lift (s := Builtin.len_ #[t] ty #[a.eval x]) (.one rfl h fun w => ?_) fun w v hr => ?_
      · simp [Builtin.len_, run_underlying hu, goInt]
      · simp [builtin, hr]
    · exact h.elim
  · rename_i t p l c hargs
    obtain ⟨x, rfl, hx⟩ : ∃ x, args = [x] ∧ ev fr x = .dv (.one (.slice p l c)) := map1 hargs
    obtain ⟨_, hv⟩ := ev_dv hFR hx
    split at h
    · rename_i e hu
      refine lift (s := Builtin.cap_ #[t] ty #[a.eval x]) (.one rfl h fun w => ?_) fun w v hr => ?_
      · simp [hv, DV.flat, Builtin.cap_, run_underlying hu, goInt]
      · simp [builtin, hr]
    · exact h.elim
  · rename_i k x k' y hargs
    obtain ⟨o1, o2, rfl, h1, h2⟩ : ∃ o1 o2, args = [o1, o2] ∧ ev fr o1 = .dv (.one (.int k x)) ∧ ev fr o2 = .dv (.one (.int k' y)) := map2 hargs
    obtain ⟨_, hv1⟩ := ev_dv hFR h1
    obtain ⟨_, hv2⟩ := ev_dv hFR h2
    refine lift (s := Builtin.max_ #[] ty #[a.eval o1, a.eval o2]) (.one rfl h fun w => ?_) fun w v hr => ?_
    · simp [hv1, hv2, DV.flat, Builtin.max_, Builtin.max2]
    · show (do pure (Next.value (← Builtin.max_ #[] ty #[a.eval o1, a.eval o2])) : Sem Next).run P w = _
      simp [hr]
  · rename_i k x k' y hargs
    obtain ⟨o1, o2, rfl, h1, h2⟩ : ∃ o1 o2, args = [o1, o2] ∧ ev fr o1 = .dv (.one (.int k x)) ∧ ev fr o2 = .dv (.one (.int k' y)) := map2 hargs
    obtain ⟨_, hv1⟩ := ev_dv hFR h1
    obtain ⟨_, hv2⟩ := ev_dv hFR h2
    refine lift (s := Builtin.min_ #[] ty #[a.eval o1, a.eval o2]) (.one rfl h fun w => ?_) fun w v hr => ?_
    · simp [hv1, hv2, DV.flat, Builtin.min_, Builtin.min2]
    · show (do pure (Next.value (← Builtin.min_ #[] ty #[a.eval o1, a.eval o2])) : Sem Next).run P w = _
      simp [hr]
  · exact h.elim

theorem PureOk.next {s : Sem Value} {K : SV → Prop} (h : PureOk P s K) : ∃ x v, SV.rel x v ∧ K x ∧ ∀ w, (do pure (Next.value (← s)) : Sem Next).run P w = .ok (.value v) w := by
  obtain ⟨x, v, h1, h2, h3⟩ := h
  exact ⟨x, v, h1, h2, fun w => by simp [h3]⟩
theorem Dpure_sound {o : Oper} {fr : Fr} {a : Act} {K : SV → Prop} (hFR : FR fr a.tmps) (h : Dpure P o.op fr K) :
    ∃ x v, SV.rel x v ∧ K x ∧ ∀ w, (execOp a.eval o).run P w = .ok (.value v) w := by
  unfold execOp
  cases hop : o.op with
  | move x => rw [hop] at h; exact ⟨_, _, ev_rel hFR x, h, fun w => rfl⟩
  | assign x => rw [hop] at h; exact ⟨_, _, ev_rel hFR x, h, fun w => rfl⟩
  | pick c x y =>
    rw [hop] at h
    simp only [Dpure] at h
    split at h
    · rename_i t hc
      obtain ⟨_, hv⟩ := ev_dv hFR hc
      cases t with
      | true => exact ⟨_, _, ev_rel hFR _, h, fun w => by simp [hv, DV.flat, asBool]⟩
      | false => exact ⟨_, _, ev_rel hFR _, by simpa using h, fun w => by simp [hv, DV.flat, asBool]⟩
    · exact h.elim
  | nilCheck x =>
    rw [hop] at h
    simp only [Dpure] at h
    split at h
    · rename_i p hx
      obtain ⟨_, hv⟩ := ev_dv hFR hx
      exact ⟨.dv (.addr p), _, ⟨trivial, rfl⟩, h, fun w => by simp [hv, DV.flat]⟩
    · rename_i p hx
      obtain ⟨q, rfl, hK⟩ := h
      obtain ⟨_, hv⟩ := ev_dv hFR hx
      exact ⟨.dv (.addr q), _, ⟨trivial, rfl⟩, hK, fun w => by simp [hv, DV.flat]⟩
    · rename_i f fs cs hx
      obtain ⟨_, hv⟩ := ev_dv hFR hx
      exact ⟨.dv (.one (.func (.func f) fs cs)), _, ⟨rfl, rfl⟩, h, fun w => by simp [hv, DV.flat]⟩
    · exact h.elim
  | binOp op t x y yt =>
    rw [hop] at h
    simp only [Dpure] at h
    have h := evB_ev (K := fun y' => Dbin2 P op t (ev fr x) y' (isConstO y) K) (evB_ev (K := fun x' => evB fr y fun y' => Dbin2 P op t x' y' (isConstO y) K) h)
    simp only [Dbin2] at h
    split at h
    · rename_i dx dy hx hy
      obtain ⟨h1, e1⟩ := ev_dv hFR hx
      obtain ⟨h2, e2⟩ := ev_dv hFR hy
      have := Dbin_sound (P := P) h1 h2 x y h
      simp only [e1, e2]
      exact PureOk.next this
    · exact h.elim
  | unOp op t x =>
    rw [hop] at h
    simp only [Dpure] at h
    split at h
    · rename_i dx hx
      obtain ⟨h1, e1⟩ := ev_dv hFR hx
      simp only [e1]
      exact PureOk.next (Dun_sound h)
    · exact h.elim
  | convert s d x => rw [hop] at h; exact PureOk.next (Dconv_sound (ev_rel hFR x) h)
  | fieldAddr t x f => rw [hop] at h; exact PureOk.next (DfieldAddr_sound (ev_rel hFR x) h)
  | field t x f => rw [hop] at h; exact PureOk.next (Dfield_sound (ev_rel hFR x) h)
  | indexAddr t x i => rw [hop] at h; exact PureOk.next (DindexAddr_sound (ev_rel hFR x) (fun j hj => asI_rel (ev_rel hFR i) hj) h)
  | sliceToArrayPointer t x => rw [hop] at h; exact PureOk.next (Darr_sound (ev_rel hFR x) h)
  | index t x i => rw [hop] at h; exact PureOk.next (Dindex_sound (ev_rel hFR x) (fun j hj => asI_rel (ev_rel hFR i) hj) h)
  | extract x i =>
    rw [hop] at h
    simp only [Dpure] at h
    split at h
    · rename_i xs hx
      split at h
      · rename_i d hd
        have hr := ev_rel hFR x
        rw [hx] at hr
        obtain ⟨hok, hv⟩ := hr
        refine PureOk.next ⟨.dv d, d.flat, ⟨hok d (List.mem_of_getElem? hd), rfl⟩, h, fun w => ?_⟩
        rw [hv]
        simp [Instr.extract, hd]
      · exact h.elim
    · exact h.elim
  | slice t x lo hi mx =>
    rw [hop] at h
    simp only [Dpure] at h
    split at h
    · rename_i hlo hhi hmx
      exact PureOk.next (Dslice_sound (ev_rel hFR x) (opI_IV hFR hlo) (opI_IV hFR hhi) (opI_IV hFR hmx) h)
    · exact h.elim
  | build t parts =>
    rw [hop] at h
    have h : Dbuild P t (parts.toList.map fun (i, x) => (i, ev fr x)) K := h
    refine PureOk.next (Dbuild_sound (by simp) ?_ h)
    intro i p q h1 h2
    simp only [List.getElem?_map, Array.toList_map, Option.map_eq_some_iff] at h1 h2
    obtain ⟨x, hx, rfl⟩ := h1
    obtain ⟨y, hy, rfl⟩ := h2
    rw [hx] at hy
    injection hy with hy
    subst hy
    exact ⟨rfl, ev_rel hFR _⟩
  | makeFunc fn first cap =>
    rw [hop] at h
    simp only [Dpure] at h
    split at h
    · rename_i u c h1 h2
      have e1 := (dvs_sound hFR _ _ h1).2
      have e2 := (dvs_sound hFR _ _ h2).2
      refine PureOk.next (.one rfl h fun w => ?_)
      have e1' : first.map a.eval = (u.map DV.flat).toArray := by apply Array.toList_inj.1; simpa using e1
      have e2' : cap.map a.eval = (c.map DV.flat).toArray := by apply Array.toList_inj.1; simpa using e2
      simp [Instr.makeFunc, e1', e2']
    · exact h.elim
  | makeInterface t x =>
    rw [hop] at h
    simp only [Dpure] at h
    split at h
    · exact h.elim
    · rename_i d dv hni hd hx
      obtain ⟨h1, e1⟩ := ev_dv hFR hx
      refine PureOk.next ⟨.dv (.fnv (.iface t dv.flat)), _, ⟨rfl, rfl⟩, h, fun w => ?_⟩
      cases d <;> first | (exfalso; exact hni _ rfl) | simp [e1, Instr.makeInterface, run_underlying hd, DV.flat]
    · exact h.elim
  | call c =>
    obtain ⟨callee, args, ats⟩ := c
    rw [hop] at h
    cases callee with
    | value _ => exact h.elim
    | invoke _ _ => exact h.elim
    | builtin b =>
      have h : Dbi P b ats.toList (args.toList.map (ev fr)) K := h
      obtain ⟨x, v, h1, h2, h3⟩ := Dbi_sound (P := P) hFR (ty := o.type) (cs := args.map fun | .const _ => true | _ => false) h
      refine ⟨x, v, h1, h2, fun w => ?_⟩
      have := h3 w
      simp only [resolve, Sem.run_bind, Sem.run_pure, Result.andThen_ok, invoke]
      have e : args.map a.eval = (args.toList.map a.eval).toArray := by apply Array.toList_inj.1; simp
      rw [e]
      exact this
  | _ => rw [hop] at h; simp only [Dpure] at h
end Go.Vc
end

/- The denotation is sound, fourth part: operations on memory, and calls. Own work; generic over any program. -/
section
namespace Go.Vc
variable {P : Program}

/-- What an operation comes to. -/
def NextOk (P : Program) (K : SV → H → Prop) (w : World) : Result Next → Prop
  | .ok (.value v) w' => Rest w w' ∧ ∃ x, SV.rel x v ∧ K x w'.heap
  | .ok .skip w' => Rest w w' ∧ K .nd w'.heap
  | .ok (.enter f args) w' => w' = w ∧ Calls P f args w fun e w'' => ∃ v x, e = .returned v ∧ Rest w w'' ∧ SV.rel x v ∧ K x w''.heap
  | _ => False

/-- A computation of a value that may turn the heap. -/
def MemOk (P : Program) (s : Sem Value) (K : SV → H → Prop) (w : World) : Prop := ∃ x v w', s.run P w = .ok v w' ∧ Rest w w' ∧ SV.rel x v ∧ K x w'.heap
theorem MemOk.next {s : Sem Value} {K : SV → H → Prop} {w : World} (h : MemOk P s K w) : NextOk P K w ((do pure (Next.value (← s)) : Sem Next).run P w) := by
  obtain ⟨x, v, w', h1, h2, h3, h4⟩ := h
  simp only [Sem.run_bind, h1, Result.andThen_ok, Sem.run_pure]
  exact ⟨h2, x, h3, h4⟩

/-! ### Rows of zeros -/
theorem range_mod (z : Array Value) : ∀ m : Nat, ((List.range (m * z.size)).map fun i => z[i % z.size]!) = (List.replicate m z.toList).flatten := by
  intro m
  induction m with
  | zero => simp
  | succ m ih =>
    rw [Nat.succ_mul, List.range_add, List.map_append, ih, List.replicate_succ', List.flatten_append]
    congr 1
    simp only [List.map_map, List.flatten_cons, List.flatten_nil, List.append_nil]
    apply List.ext_getElem
    · simp
    · intro i h1 h2
      simp at h1
      have : (m * z.size + i) % z.size = i := by rw [Nat.add_comm, Nat.add_mul_mod_self_right, Nat.mod_eq_of_lt h1]
      simp [this, h1]

/-! ### What a slice holds -/
theorem firstCells_hsv {w : World} {p : Option Addr} {sz l : Nat} {vs : List Value} (h : hsv w.heap p sz l vs) (x y : Nat) : (Builtin.firstCells sz l (.slice p x y)).run P w = .ok vs.toArray w := by
  obtain ⟨hl, _, h⟩ := h
  cases p with
  | none =>
    rcases h with rfl | ⟨q, hq, _⟩
    · rfl
    · cases hq
  | some a =>
    have hcs' : hcs w.heap a vs := by
      rcases h with rfl | ⟨q, hq, h⟩
      · exact hcs_nil _ _
      · cases hq; exact h
    have := run_loadCells (P := P) (w := w) (a := a) vs 0 #[] (by rw [add_zero]; exact hcs')
    rw [hl] at this
    simpa [Builtin.firstCells, loadCells] using this
theorem firstCells_string {w : World} (s : ByteArray) : (Builtin.firstCells 1 s.size (.string s)).run P w = .ok (s.data.toList.map fun b => Value.int .u8 b.toNat).toArray w := by
  simp only [Builtin.firstCells, Sem.run_pure]
  congr 1
  apply Array.toList_inj.1
  have : s.extract 0 s.size = s := by
    obtain ⟨⟨l⟩⟩ := s
    apply ByteArray.ext
    simp [ByteArray.size]
  rw [this]
  simp


theorem hnew_push {w : World} {c : List Value} {t : TypeId} : hnew w.heap w.heap.size c (w.heap.push (.cells c.toArray t)) :=
  ⟨rfl, t, 0, 0, fun i _ => by omega, rfl⟩
theorem run_newRow (t : TypeId) (c : List Value) (w : World) : (newRow t c.toArray).run P w = .ok ⟨w.heap.size, 0, none⟩ { w with heap := w.heap.push (.cells c.toArray t) } := by
  simp [newRow]

theorem storeO {w : World} {p : Option Addr} {vs : List Value} (h1 : ∀ v, v ∈ vs → v.oneCell' = true) (h2 : vs = [] ∨ ∃ a, p = some a ∧ hcan w.heap a vs.length) :
    ∃ w', (match p with | some a => storeCells a vs | none => pure () : Sem Unit).run P w = .ok () w' ∧ w'.heap = hwrO w.heap p vs ∧ Rest w w' := by
  cases p with
  | none => exact ⟨w, rfl, rfl, Rest.refl w⟩
  | some a =>
    have hcn : hcan w.heap a vs.length := by
      rcases h2 with rfl | ⟨q, hq, h⟩
      · intro i hi; simp at hi
      · cases hq; exact h
    obtain ⟨w', r1, r2, r3⟩ := run_storeCells0 (P := P) h1 hcn
    exact ⟨w', r1, r2, r3⟩

/-- What is appended: a source that reads as these cells. -/
theorem append_run {st xt e : TypeId} {ty : TypeId} {sz bytes : Nat} {z : List Ch} {p : Option Addr} {l c n : Nat} {xv : Value} {vs : List Value} {w : World} {K : SV → H → Prop}
    (hu : P.underlying st = some (.slice e)) (hxt : isSrcT P xt = true) (hsz : szOf P e = some sz) (hb : (P.info? e).map TypeInfo.bytes = some (bytes + 1)) (hz : zeroChs P e = some z)
    (hlen : ∀ w : World, (Builtin.lenOf xv).run P w = .ok n w) (hcells : ∀ w', w'.heap = w.heap → (Builtin.firstCells sz n xv).run P w' = .ok vs.toArray w') (hvn : vs.length = n * sz) (hv1 : ∀ v, v ∈ vs → v.oneCell' = true)
    (h : pApp w.heap sz (flats z) (bytes + 1) p l c n vs fun p' l' c' h' => K (.dv (.one (.slice p' l' c'))) h') :
    MemOk P (Builtin.append_ #[st, xt] ty #[.slice p l c, xv]) K w := by
  obtain ⟨hzok, i, zv, hi, hzv, hzc⟩ := zeroChs_sound hz
  have hib : i.bytes = bytes + 1 := by simp [hi] at hb; exact hb
  have hdx : (∃ e', P.underlying xt = some (.slice e')) ∨ P.underlying xt = some .string := by
    unfold isSrcT at hxt
    split at hxt
    · rename_i h'; exact .inl ⟨_, h'⟩
    · rename_i h'; exact .inr h'
    · simp at hxt
  unfold pApp at h
  by_cases hroom : l + n ≤ c
  · rw [if_pos hroom] at h
    obtain ⟨hcn, hK⟩ := h
    obtain ⟨w', r1, r2, r3⟩ := storeO (P := P) (w := w) (p := p.map (·.add (l * sz))) hv1 (by
      rcases hcn with rfl | ⟨a, rfl, hcn⟩
      · exact .inl rfl
      · exact .inr ⟨_, rfl, by rw [hvn]; exact hcn⟩)
    refine ⟨.dv (.one (.slice p (l + n) c)), .slice p (l + n) c, w', ?_, r3, ⟨rfl, rfl⟩, hK _ r2⟩
    rcases hdx with ⟨e', hdx⟩ | hdx
    all_goals
      simp only [Builtin.append_, List.getElem?_toArray, List.getElem?_cons_zero, List.getElem?_cons_succ, Sem.run_bind, run_underlying hu, Result.andThen_ok, run_sizeOf hsz, run_underlying hdx, Sem.run_pure,
        Bool.false_eq_true, if_false, hlen, hroom, if_true, Bool.not_false, hcells w rfl]
      cases p with
      | none => simp only [Option.map_none] at r1; simp only [Sem.run_pure]; cases r1; rfl
      | some a => simp only [Option.map_some] at r1; simp only [r1, Result.andThen_ok, Sem.run_bind, Sem.run_pure]
  · rw [if_neg hroom] at h
    obtain ⟨hfit, old, hold, hK⟩ := h
    have hneed : c < l + n := by omega
    have h48 := growslice_fits (bytes := i.bytes) hneed (by rw [hib]; exact hfit)
    let q := Question.appendCap (l + n) c e
    let cap := q.cut (w.tape w.drawn q)
    have hcap : l + n ≤ cap := by show l + n ≤ (l + n) + _; omega
    let w1 : World := { w with drawn := w.drawn + 1 }
    have hrest : Builtin.zeroCells zv.cells (cap - (l + n)) = (List.replicate (cap - (l + n)) (flats z)).flatten.toArray := by
      apply Array.toList_inj.1
      simp only [Builtin.zeroCells, Array.toList_map, Array.toList_range]
      rw [range_mod, hzc]
    refine ⟨.dv (.one (.slice (some ⟨w.heap.size, 0, none⟩) (l + n) cap)), _, { w1 with heap := w1.heap.push (.cells (old ++ vs ++ (List.replicate (cap - (l + n)) (flats z)).flatten).toArray e) },
      ?_, ⟨rfl, rfl, rfl⟩, ⟨rfl, rfl⟩, hK cap _ _ hcap hnew_push⟩
    have hold' : (Builtin.firstCells sz l (.slice p l c)).run P w1 = .ok old.toArray w1 := firstCells_hsv (w := w1) (show hsv w1.heap p sz l old from hold) l c
    have hne : ¬ (i.bytes = 0) := by omega
    have hbig : ¬ (281474976710656 < Builtin.nextslicecap (l + n) c * i.bytes) := by omega
    have hc1 := hcells w1 rfl
    have hrest' : Builtin.zeroCells zv.cells (cap - (l + n)) = _ := hrest
    simp only [cap, q] at hrest'
    simp only [w1] at hold' hc1 ⊢
    have happ : old.toArray ++ vs.toArray ++ (List.replicate (Question.cut (Question.appendCap (l + n) c e) (w.tape w.drawn (Question.appendCap (l + n) c e)) - (l + n)) (flats z)).flatten.toArray =
        (old ++ vs ++ (List.replicate (Question.cut (Question.appendCap (l + n) c e) (w.tape w.drawn (Question.appendCap (l + n) c e)) - (l + n)) (flats z)).flatten).toArray := by simp
    rcases hdx with ⟨e', hdx⟩ | hdx
    all_goals
      simp only [Builtin.append_, List.getElem?_toArray, List.getElem?_cons_zero, List.getElem?_cons_succ, Sem.run_bind, run_underlying hu, Result.andThen_ok, run_sizeOf hsz, run_underlying hdx, Sem.run_pure,
        Bool.false_eq_true, if_false, hlen, hroom, Bool.not_false, run_typeInfo hi, Nat.reducePow, gt_iff_lt, hbig, hne, or_self, and_false, run_choose, Question.forced, run_askRoom]
      rw [hold']
      simp only [Result.andThen_ok, hc1, if_true, run_zero hi hzv]
      rw [hrest', happ, run_newRow]
      rfl

theorem Dappend_sound {ats : Array TypeId} {args : List Operand} {fr : Fr} {a : Act} {ty : TypeId} {w : World} {K : SV → H → Prop} (hFR : FR fr a.tmps)
    (h : Dappend P ats.toList (args.map (ev fr)) K w.heap) : MemOk P (Builtin.append_ ats ty (args.map a.eval).toArray) K w := by
  obtain ⟨ats⟩ := ats
  simp only at h
  unfold Dappend at h
  split at h
  · rename_i st xt p l c x hargs
    obtain ⟨o1, o2, rfl, h1, h2⟩ := map2 hargs
    obtain ⟨_, hv1⟩ := ev_dv hFR h1
    split at h
    · rename_i e hu hxt
      split at h
      · rename_i sz bytes z hsz hb hz
        unfold srcOf at h
        split at h
        · rename_i q n qc
          obtain ⟨_, hv2⟩ := ev_dv hFR h2
          obtain ⟨vs, hvs, h⟩ := h
          simp only [List.map_cons, List.map_nil, hv1, hv2, DV.flat]
          exact append_run hu hxt hsz hb hz (fun w => rfl) (fun w' hw' => firstCells_hsv (by rw [hw']; exact hvs) n qc) hvs.1 hvs.2.1 h
        · rename_i s
          obtain ⟨_, hv2⟩ := ev_dv hFR h2
          split at h
          · rename_i hs1
            have hs1 := Nat.eq_of_beq_eq_true hs1
            subst hs1
            simp only [List.map_cons, List.map_nil, hv1, hv2, DV.flat]
            refine append_run hu hxt hsz hb hz (fun w => rfl) (fun w' _ => firstCells_string s) (by simp) ?_ h
            intro v hv
            simp at hv
            obtain ⟨b, _, rfl⟩ := hv
            rfl
          · exact h.elim
        · exact h.elim
      · exact h.elim
    · exact h.elim
  · exact h.elim

theorem Dcopy_sound {ats : Array TypeId} {args : List Operand} {fr : Fr} {a : Act} {ty : TypeId} {w : World} {K : SV → H → Prop} (hFR : FR fr a.tmps)
    (h : Dcopy P ats.toList (args.map (ev fr)) K w.heap) : MemOk P (Builtin.copy_ ats ty (args.map a.eval).toArray) K w := by
  obtain ⟨ats⟩ := ats
  simp only at h
  unfold Dcopy at h
  split at h
  · rename_i st r p l c q n d hargs
    obtain ⟨o1, o2, rfl, h1, h2⟩ := map2 hargs
    obtain ⟨_, hv1⟩ := ev_dv hFR h1
    obtain ⟨_, hv2⟩ := ev_dv hFR h2
    split at h
    · rename_i e hu
      split at h
      · rename_i sz hsz
        obtain ⟨vs, hvs, hcn, hK⟩ := h
        obtain ⟨w', r1, r2, r3⟩ := storeO (P := P) (w := w) (p := p) hvs.2.1 (by rw [hvs.1]; exact hcn)
        refine ⟨.dv (.one (.int .i64 (Nat.min n l : Nat))), _, w', ?_, r3, ⟨rfl, rfl⟩, hK _ r2⟩
        simp only [List.map_cons, List.map_nil, hv1, hv2, DV.flat, Builtin.copy_, List.getElem?_toArray, List.getElem?_cons_zero, List.getElem?_cons_succ, Sem.run_bind, run_underlying hu, Result.andThen_ok, Builtin.lenOf,
          Sem.run_pure, run_sizeOf hsz, firstCells_hsv hvs]
        cases p with
        | none => simp only at r1; simp only [Sem.run_pure]; cases r1; rfl
        | some a => simp only at r1; simp only [Sem.run_bind, r1, Result.andThen_ok, Sem.run_pure, goInt]
      · exact h.elim
    · exact h.elim
  · exact h.elim

theorem run_alloc_zero {t : TypeId} {cs : List Ch} (hz : zeroChs P t = some cs) (w : World) :
    (Instr.alloc t true (.tuple #[])).run P w = .ok (.pointer (some ⟨w.heap.size, 0, none⟩)) { w with heap := w.heap.push (.cells (flats cs).toArray t) } := by
  obtain ⟨hzok, i, zv, hi, hzv, hzc⟩ := zeroChs_sound hz
  have e : zv.cells = (flats cs).toArray := by apply Array.toList_inj.1; simp [hzc]
  simp [Instr.alloc, run_zero hi hzv, newVar, e, run_newRow]

theorem setParts_sound {sz : Nat} : ∀ (parts : List (Nat × SV)) (vals : List (Nat × Value)) (l l' : List (List Ch)) (cells : Array Value),
    parts.length = vals.length → (∀ (i : Nat) (p : Nat × SV) (q : Nat × Value), parts[i]? = some p → vals[i]? = some q → p.1 = q.1 ∧ p.2.rel q.2) →
    setParts sz parts l = some l' → (∀ x, x ∈ l → oks x ∧ chsSize x = sz) → cells.toList = flats l.flatten →
    (∀ x, x ∈ l' → oks x ∧ chsSize x = sz) ∧ ∃ cells' : Array Value, Instr.fill (fun i => some (i * sz, sz)) cells vals = some cells' ∧ cells'.toList = flats l'.flatten := by
  intro parts
  induction parts with
  | nil =>
    intro vals l l' cells hlen _ h hok hc
    cases vals with
    | nil => simp [setParts] at h; subst h; exact ⟨hok, cells, rfl, hc⟩
    | cons _ _ => simp at hlen
  | cons p parts ih =>
    intro vals l l' cells hlen hrel h hok hc
    cases vals with
    | nil => simp at hlen
    | cons q vals =>
    obtain ⟨i, sv⟩ := p
    obtain ⟨i', v⟩ := q
    obtain ⟨he, hr⟩ := hrel 0 _ _ rfl rfl
    simp only at he hr
    subst he
    cases sv with
    | un => simp [setParts] at h
    | nd => simp [setParts] at h
    | tup _ => simp [setParts] at h
    | dv x =>
      obtain ⟨hx, rfl⟩ := hr
      simp only [setParts] at h
      split at h
      · rename_i hs hlt
        have hs := Nat.eq_of_beq_eq_true hs
        have hlt : i < l.length := Nat.le_of_ble_eq_true hlt
        have hxs := DV.chs_oks hx
        have hcl := DV.cells_flat hx
        have hcs : x.flat.cells.size = sz := by rw [hcl]; simp [flats_length hxs, hs]
        -- how the flattened list parts at the i-th element
        have hfl : ∀ (m : List (List Ch)), (∀ x, x ∈ m → oks x ∧ chsSize x = sz) → (flats m.flatten).length = m.length * sz := by
          intro m
          induction m with
          | nil => intro _; simp [flats]
          | cons y m ihm =>
            intro hm
            simp only [List.flatten_cons, flats_append, List.length_append, List.length_cons]
            rw [ihm (fun x hx => hm x (by simp [hx])), flats_length (hm y (by simp)).1, (hm y (by simp)).2, Nat.succ_mul, Nat.add_comm]
        have hsplit : l = l.take i ++ l[i] :: l.drop (i + 1) := by rw [List.getElem_cons_drop, List.take_append_drop]
        have htk : ∀ x, x ∈ l.take i → oks x ∧ chsSize x = sz := fun x hx => hok x (List.mem_of_mem_take hx)
        have hln : (flats (l.take i).flatten).length = i * sz := by rw [hfl _ htk]; simp [Nat.min_eq_left (Nat.le_of_lt hlt)]
        have hli : (flats l[i]).length = sz := by rw [flats_length (hok _ (List.getElem_mem hlt)).1, (hok _ (List.getElem_mem hlt)).2]
        have hall : flats l.flatten = flats (l.take i).flatten ++ (flats l[i] ++ flats (l.drop (i + 1)).flatten) := by
          calc flats l.flatten = flats (l.take i ++ l[i] :: l.drop (i + 1)).flatten := congrArg (fun m => flats (List.flatten m)) hsplit
            _ = _ := by simp only [List.flatten_append, List.flatten_cons, flats_append]
        obtain ⟨cells', h1, h2⟩ := fill_cons (rest := vals) (place := fun i => some (i * sz, sz)) (i := i) rfl hcs (cells := cells) (by
          rw [← Array.length_toList, hc, hall]; simp only [List.length_append, hln, hli]; omega)
        rw [h2]
        refine ih vals (l.set i x.chs) l' cells' (by simpa using hlen) (fun j p q h3 h4 => hrel (j + 1) p q (by simpa using h3) (by simpa using h4)) h ?_ ?_
        · intro y hy
          rcases List.mem_or_eq_of_mem_set hy with hy | rfl
          · exact hok y hy
          · exact ⟨hxs, hs⟩
        · rw [h1, hc, hcl, List.set_eq_take_append_cons_drop, if_pos hlt]
          have e1 : List.take (i * sz) (flats l.flatten) = flats (l.take i).flatten := by rw [hall, List.take_left' hln]
          have e2 : List.drop (i * sz + sz) (flats l.flatten) = flats (l.drop (i + 1)).flatten := by
            rw [hall, ← List.append_assoc, List.drop_left' (by simp [hln, hli])]
          rw [e1, e2]
          simp [flats_append]
      · simp at h

theorem flats_replicate (n : Nat) (z : List Ch) : flats (List.replicate n z).flatten = (List.replicate n (flats z)).flatten := by
  induction n with
  | zero => rfl
  | succ n ih => simp [List.replicate_succ, flats_append, ih]

theorem lookupT_mem {T : Tbl} {f : Nat} {r : Run} (h : lookupT T f = some r) : (f, r) ∈ T := by
  induction T with
  | nil => simp [lookupT] at h
  | cons x T ih =>
    obtain ⟨g, r'⟩ := x
    simp only [lookupT] at h
    split at h
    · rename_i hg
      have := Nat.eq_of_beq_eq_true hg
      simp at h; subst h; subst this; exact List.mem_cons_self
    · exact List.mem_cons_of_mem _ (ih h)

theorem run_callFunc_of {f : FuncId} (h : callable P f = true) (args : Array Value) (w : World) : (callFunc f args).run P w = .ok (.enter f args) w := by
  unfold callable at h
  cases hf : P.funcs[f]? with
  | none => simp [hf] at h
  | some fn =>
    simp only [hf, Bool.and_eq_true, Bool.not_eq_true'] at h
    have hb : fn.body.isNone = false := by cases hbb : fn.body <;> simp [hbb] at h ⊢
    simp only [callFunc, Sem.run_bind, run_program, Result.andThen_ok, hf, h.1, Bool.false_eq_true, if_false, hb, Sem.run_pure]

theorem toDV_flat (v : Value) : (toDV v).flat = v := by
  unfold toDV
  split <;> rfl
theorem toDV_ok {v : Value} (h : v.oneCell' = true) : (toDV v).ok := by
  unfold toDV
  split
  · trivial
  · exact h
theorem toSV_rel {xs : List DV} (h : ∀ x, x ∈ xs → x.ok) : (toSV xs).rel (resVal xs) := by
  unfold toSV resVal
  split
  · exact ⟨h _ (by simp), rfl⟩
  · exact ⟨h, rfl⟩

theorem isSh_elim {s : Sh} {x : DV} {K : DV → Prop} (h : isSh s x K) : K x := by
  cases s <;> simp only [isSh] at h
  case slc => obtain ⟨p, l, c, rfl, h⟩ := h; exact h
  all_goals obtain ⟨n, rfl, h⟩ := h; exact h
theorem tyRes_elim : ∀ (shs : List TSh) (rs : List DV) (K : List DV → Prop), tyRes shs rs K → K rs := by
  intro shs
  induction shs with
  | nil => intro rs K h; obtain ⟨rfl, h⟩ := h; exact h
  | cons s shs ih =>
    intro rs K h
    cases s with
    | sc s =>
      obtain ⟨x, rest, rfl, h⟩ := h
      exact ih rest (fun l => K (x :: l)) (isSh_elim h)
    | ag _ => exact h.elim

theorem next_callsV {f : FuncId} {args : List Value} {Q : List DV → H → Prop} {K : SV → H → Prop} {w : World} (h : callsV P f args Q w.heap) (hQ : ∀ rs h', Q rs h' → K (toSV rs) h') (args' : Array Value) (ha : args' = args.toArray) :
    NextOk P K w ((callFunc f args').run P w) := by
  subst ha
  rw [run_callFunc_of h.1]
  refine ⟨rfl, (h.2 w rfl).mono fun e w' he => ?_⟩
  obtain ⟨xs, hok, rfl, hr, hq⟩ := he
  exact ⟨_, toSV xs, rfl, hr, toSV_rel hok, hQ _ _ hq⟩

theorem Dcall_sound {T : Tbl} (hT : TblOk P T) {f : Operand} {args : Array Operand} {ats : Array TypeId} {ty : TypeId} {fr : Fr} {a : Act} (hFR : FR fr a.tmps) {K : SV → H → Prop} {w : World}
    (h : Dcall P T ty (ev fr f) (dvs (args.toList.map (ev fr))) K w.heap) :
    NextOk P K w ((do let d ← resolve a.eval { callee := .value f, args, argTypes := ats } ty; invoke d.target d.args : Sem Next).run P w) := by
  unfold Dcall at h
  split at h
  · rename_i g fa fc xs hf hxs
    obtain ⟨_, hv⟩ := ev_dv hFR hf
    obtain ⟨hok, hargs⟩ := dvs_sound hFR _ _ hxs
    split at h
    · rename_i run hrun hone
      have hone' : ∀ v, v ∈ fa.toList ++ fc.toList → v.oneCell' = true := by rw [List.all_eq_true] at hone; exact hone
      have hc := hT g run (lookupT_mem hrun) _ _ _ (by
        intro x hx
        simp only [List.mem_append, List.mem_map] at hx
        rcases hx with (⟨v, hv, rfl⟩ | hx) | ⟨v, hv, rfl⟩
        · exact toDV_ok (hone' v (by simp [hv]))
        · exact hok x hx
        · exact toDV_ok (hone' v (by simp [hv]))) h
      have e : ((do let d ← resolve a.eval { callee := .value f, args, argTypes := ats } ty; invoke d.target d.args : Sem Next).run P w) = (callFunc g (fa ++ args.map a.eval ++ fc)).run P w := by
        simp [resolve, hv, DV.flat, Deferred.ofValue, invoke]
      rw [e]
      refine next_callsV hc (fun rs h' hh => hh) _ ?_
      apply Array.toList_inj.1
      simp only [Array.toList_append, Array.toList_map, List.map_append, List.map_map]
      rw [hargs]
      have : ∀ l : List Value, l.map (DV.flat ∘ toDV) = l := fun l => by
        have : (DV.flat ∘ toDV) = id := funext toDV_flat
        rw [this]; simp
      rw [this, this]
    · exact h.elim
  · rename_i v xs hf hxs
    obtain ⟨_, hv⟩ := ev_dv hFR hf
    obtain ⟨hok, hargs⟩ := dvs_sound hFR _ _ hxs
    split at h
    · rename_i shs hshs
      obtain ⟨g, fa, fc, rfl, hc⟩ := h
      have e : ((do let d ← resolve a.eval { callee := .value f, args, argTypes := ats } ty; invoke d.target d.args : Sem Next).run P w) = (callFunc g (fa ++ args.map a.eval ++ fc)).run P w := by
        simp [resolve, hv, DV.flat, Deferred.ofValue, invoke]
      rw [e]
      refine next_callsV hc (fun rs h' hh => tyRes_elim _ _ _ hh) _ ?_
      apply Array.toList_inj.1
      simp only [Array.toList_append, Array.toList_map]
      rw [hargs]
    · exact h.elim
  · exact h.elim

/-! ### Maps -/
theorem bytes_beq (a b : ByteArray) : (a == b) = true ↔ a = b := by
  cases a; cases b
  show ByteArray.beq _ _ = true ↔ _
  unfold ByteArray.beq
  simp
theorem keyEq_now {kt : TypeId} {key k' : Value} {b : Bool} {desc : TypeDesc} (hu : P.underlying kt = some desc) (hk : keyT P kt key = true) (h : keyEq key k' = some b) : Instr.sameNow desc key k' = some b := by
  unfold keyT at hk
  rw [hu] at hk
  unfold keyEq at h
  split at h
  · split at h
    · rename_i hkk
      have hkk := eq_of_beq hkk
      subst hkk
      cases desc <;> simp [Instr.sameNow] at hk h ⊢
      exact h
    · cases h
  · cases desc <;> simp [Instr.sameNow] at hk h ⊢
    exact h
  · cases desc <;> simp [Instr.sameNow] at hk h ⊢
    exact h
  · cases h
theorem keyEq_true {key k' : Value} (h : keyEq key k' = some true) : key = k' := by
  unfold keyEq at h
  split at h
  · split at h
    · rename_i hkk
      have hkk := eq_of_beq hkk
      subst hkk
      simpa using h
    · cases h
  · injection h with h
    rw [(bytes_beq _ _).1 h]
  · simpa using h
  · cases h
theorem findNow_look {kt : TypeId} {key : Value} {desc : TypeDesc} (hu : P.underlying kt = some desc) (hk : keyT P kt key = true) (z d : DV) : ∀ (es : List (Value × DV)) (l : List MapEntry) (i : Nat), l.map (fun e => (e.key, e.val)) = es.map (fun e => (e.1, e.2.flat)) →
    ∀ x, mlook key z es = some x → (x = (z, false) ∧ Instr.findNow desc key l i = some none ∧ mins key d es = some (es ++ [(key, d)])) ∨
      (∃ j, Instr.findNow desc key l i = some (some (i + j, x.1.flat)) ∧ x.2 = true ∧ j < l.length ∧ (l[j]?).map (·.key) = some key ∧ mins key d es = some (es.set j (key, d)) ∧ (key, x.1) ∈ es) := by
  intro es
  induction es with
  | nil =>
    intro l i hl x hx
    have : l = [] := by simpa using hl
    subst this
    simp [mlook] at hx
    exact Or.inl ⟨hx.symm, rfl, rfl⟩
  | cons e es ih =>
    intro l i hl x hx
    cases l with
    | nil => simp at hl
    | cons m l =>
      simp only [List.map_cons, List.cons.injEq, Prod.mk.injEq] at hl
      obtain ⟨⟨h1, h2⟩, h3⟩ := hl
      unfold mlook at hx
      split at hx
      · rename_i hq
        injection hx with hx
        subst hx
        have hn := keyEq_now hu hk hq
        have he := keyEq_true hq
        refine Or.inr ⟨0, ?_, rfl, by simp, by simp [h1, he], ?_, by rw [he]; simp⟩
        · simp only [Instr.findNow, h1, hn, h2]; rfl
        · simp [mins, hq]
      · rename_i hq
        have hn := keyEq_now hu hk hq
        rcases ih l (i + 1) h3 x hx with ⟨g1, g2, g3⟩ | ⟨j, g1, g2, g3, g4, g5, g6⟩
        · exact Or.inl ⟨g1, by simp only [Instr.findNow, h1, hn, g2], by simp [mins, hq, g3]⟩
        · refine Or.inr ⟨j + 1, ?_, g2, by simp; omega, by simpa using g4, ?_, List.mem_cons_of_mem _ g6⟩
          · simp only [Instr.findNow, h1, hn, g1]; congr 3; omega
          · simp [mins, hq, g5]
      · cases hx
theorem mins_look {key : Value} {d z : DV} : ∀ {es es' : List (Value × DV)}, mins key d es = some es' → ∃ x, mlook key z es = some x := by
  intro es
  induction es with
  | nil => intro es' _; exact ⟨_, rfl⟩
  | cons e es ih =>
    intro es' h
    unfold mins at h
    unfold mlook
    split at h
    · exact ⟨_, rfl⟩
    · cases hi : mins key d es with
      | none => simp [hi] at h
      | some r => exact ih hi
    · cases h
theorem run_checkKey {kt : TypeId} {key : Value} (hk : keyT P kt key = true) (b : Bool) (w : World) : (Instr.checkKey b 10000 kt key).run P w = .ok () w := by
  unfold keyT at hk
  unfold Instr.checkKey
  split at hk <;> first | (rename_i hu; simp only [Sem.run_bind, run_underlying hu, Result.andThen_ok, Sem.run_pure]) | cases hk
theorem sameBits_key {kt : TypeId} {key : Value} (hk : keyT P kt key = true) : Instr.sameBits 10000 key key = true := by
  unfold keyT at hk
  split at hk
  · simp [Instr.sameBits]
  · unfold Instr.sameBits; exact (bytes_beq _ _).2 rfl
  · simp [Instr.sameBits]
  · cases hk
theorem keyT_und {kt : TypeId} {key : Value} (hk : keyT P kt key = true) : ∃ desc, P.underlying kt = some desc := by
  unfold keyT at hk
  cases hu : P.underlying kt with
  | none => simp [hu] at hk
  | some desc => exact ⟨_, rfl⟩
theorem findKey_of {kt : TypeId} {key : Value} {desc : TypeDesc} {l : List MapEntry} {o : Option (Nat × Value)} (hu : P.underlying kt = some desc) (h : Instr.findNow desc key l 0 = some o) (w : World) : (Instr.findKey kt key l).run P w = .ok o w := by
  unfold Instr.findKey
  simp only [Sem.run_bind, run_underlying hu, Result.andThen_ok, h, Sem.run_pure]
theorem run_getMap {w : World} {r : Nat} {a : Array MapEntry} {cl : Nat} (h : w.heap[r]? = some (.map a cl)) : (getObj r).run P w = .ok (.map a cl) w := by simp [getObj, Sem.run, h]
theorem run_setMap {w : World} {r : Nat} {a : Array MapEntry} {cl : Nat} (o : Obj) (h : w.heap[r]? = some (.map a cl)) : (setObj r o).run P w = .ok () { w with heap := w.heap.setIfInBounds r o } := by simp [setObj, Sem.run, h]
theorem DmapSet_sound {t : TypeId} {m k v : SV} {mv kv vv : Value} {K : H → Prop} {w : World} (hm : m.rel mv) (hk : k.rel kv) (hv : v.rel vv) (h : DmapSet P t m k v K w.heap) :
    ∃ w', (Instr.mapUpdate t mv kv vv).run P w = .ok () w' ∧ Rest w w' ∧ K w'.heap := by
  unfold DmapSet at h
  split at h
  · rename_i kt et r key d hu
    split at h
    · rename_i hkt
      obtain ⟨q, es, es', rfl, ⟨a, cl, hq, he, hok⟩, hins, hK⟩ := h
      obtain ⟨_, rfl⟩ := hm
      obtain ⟨_, rfl⟩ := hk
      obtain ⟨hdok, rfl⟩ := hv
      obtain ⟨desc, hud⟩ := keyT_und hkt
      obtain ⟨x, hx⟩ := mins_look (z := d) hins
      show ∃ w', (Instr.mapUpdate t (.map (some q)) kv d.flat).run P w = _ ∧ _
      unfold Instr.mapUpdate
      simp only [Sem.run_bind, run_underlying hu, Result.andThen_ok, run_getMap hq, run_checkKey hkt]
      rcases findNow_look hud hkt d d es a.toList 0 he x hx with ⟨g1, g2, g3⟩ | ⟨j, g1, g2, g3, g4, g5, g6⟩
      · rw [hins] at g3
        injection g3 with g3
        subst g3
        simp only [findKey_of hud g2, Result.andThen_ok, run_setMap _ hq]
        refine ⟨_, rfl, ⟨rfl, rfl, rfl⟩, hK _ ⟨_, _, rfl, ?_, ?_⟩⟩
        · simp [he]
        · intro e hm
          rcases List.mem_append.1 hm with y | y
          · exact hok e y
          · simp at y; subst y; exact hdok
      · rw [hins] at g5
        injection g5 with g5
        subst g5
        simp only [findKey_of hud g1, Result.andThen_ok]
        have ek : ((a[0 + j]?).map (·.key)).getD kv = kv := by
          have : a[0 + j]? = a.toList[j]? := by simp
          rw [this, g4]; rfl
        simp only [Instr.keyThatStays, ek, sameBits_key hkt, if_true, Sem.run_bind, Sem.run_pure, Result.andThen_ok, run_setMap _ hq]
        refine ⟨_, rfl, ⟨rfl, rfl, rfl⟩, hK _ ⟨_, _, rfl, ?_, ?_⟩⟩
        · apply List.ext_getElem?
          intro y
          have hey : ∀ y : Nat, (a.toList[y]?).map (fun e : MapEntry => (e.key, e.val)) = (es[y]?).map (fun e : Value × DV => (e.1, e.2.flat)) := fun y => by
            have := congrArg (·[y]?) he
            simpa using this
          have hje : j < es.length := by
            have := congrArg List.length he
            simp at this g3; omega
          rw [List.getElem?_map, List.getElem?_map, Array.getElem?_toList, Array.getElem?_modify]
          by_cases c : j = y
          · subst c
            rw [List.getElem?_set_self hje]
            simp at g3
            simp [g3]
          · rw [List.getElem?_set_ne c, if_neg (by omega), ← hey y, Array.getElem?_toList]
        · intro e hm
          rcases List.mem_or_eq_of_mem_set hm with y | y
          · exact hok e y
          · subst y; exact hdok
    · exact h.elim
  · exact h.elim
theorem mlook_mem {key : Value} {z : DV} {x : DV × Bool} : ∀ {es : List (Value × DV)}, mlook key z es = some x → x = (z, false) ∨ ∃ e, e ∈ es ∧ e.2 = x.1 := by
  intro es
  induction es with
  | nil => intro h; simp [mlook] at h; exact Or.inl h.symm
  | cons e es ih =>
    intro h
    unfold mlook at h
    split at h
    · injection h with h; subst h; exact Or.inr ⟨e, by simp, rfl⟩
    · rcases ih h with y | ⟨e', y1, y2⟩
      · exact Or.inl y
      · exact Or.inr ⟨e', List.mem_cons_of_mem _ y1, y2⟩
    · cases h
theorem zeroD_sound {t : TypeId} {d : DV} (h : zeroD P t = some d) : d.ok ∧ ∃ i, P.info? t = some i ∧ i.zero = some d.flat := by
  unfold zeroD at h
  cases hi : P.info? t with
  | none => simp [hi] at h
  | some i =>
    simp only [hi, Option.bind_some] at h
    split at h <;> first | (injection h with h; subst h; rename_i hz; exact ⟨by first | rfl | trivial, i, rfl, hz⟩) | cases h
theorem isT_elim {t : TypeId} {d : DV} {K : DV → Prop} (h : isT P t d K) : K d := by
  unfold isT at h
  split at h
  · exact isSh_elim h
  · exact h.elim
theorem run_lookup {t kt et : TypeId} {r : Option Nat} {key : Value} {z : DV} {es : List (Value × DV)} {d : DV} {b ok : Bool} {w : World} (hu : P.underlying t = some (.map kt et)) (hk : keyT P kt key = true) (hz : zeroD P et = some z)
    (hm : hmapO w.heap r es) (hl : mlook key z es = some (d, b)) : d.ok ∧ (Instr.lookup t (.map r) key ok).run P w = .ok (if ok then .tuple #[d.flat, .bool b] else d.flat) w := by
  obtain ⟨desc, hud⟩ := keyT_und hk
  obtain ⟨zok, i, hi, hz⟩ := zeroD_sound hz
  cases r with
  | none =>
    have : es = [] := hm
    subst this
    simp [mlook] at hl
    obtain ⟨rfl, rfl⟩ := hl
    refine ⟨zok, ?_⟩
    have hf : Instr.findNow desc key [] 0 = some none := rfl
    unfold Instr.lookup
    simp only [Sem.run_bind, run_underlying hu, Result.andThen_ok, Sem.run_pure, run_checkKey hk, findKey_of hud hf, run_zero hi hz]
  | some q =>
    obtain ⟨a, cl, hq, he, hok⟩ := hm
    have hd : d.ok := by
      rcases mlook_mem hl with y | ⟨e, y1, y2⟩
      · injection y with y1 y2; rw [y1]; exact zok
      · have y2 : e.2 = d := y2
        rw [← y2]; exact hok e y1
    refine ⟨hd, ?_⟩
    unfold Instr.lookup
    simp only [Sem.run_bind, run_underlying hu, Result.andThen_ok, run_getMap hq, Sem.run_pure, run_checkKey hk]
    rcases findNow_look hud hk z z es a.toList 0 he _ hl with ⟨g1, g2, _⟩ | ⟨j, g1, g2, _⟩
    · injection g1 with g1 g3
      subst g1; subst g3
      simp only [findKey_of hud g2, Result.andThen_ok, run_zero hi hz, Sem.run_bind, Sem.run_pure]
    · dsimp only at g2
      subst g2
      simp only [findKey_of hud g1, Result.andThen_ok, Sem.run_bind, Sem.run_pure]

theorem Dmem_sound {T : Tbl} (hT : TblOk P T) {o : Oper} {fr : Fr} {a : Act} (hFR : FR fr a.tmps) {K : SV → H → Prop} {w : World} (h : Dmem P T o fr K w.heap) :
    NextOk P K w ((execOp a.eval o).run P w) := by
  unfold execOp
  cases hop : o.op with
  | alloc t =>
    simp only [Dmem, hop] at h
    split at h
    · rename_i cs hz
      refine MemOk.next ⟨.dv (.addr ⟨w.heap.size, 0, none⟩), _, _, run_alloc_zero hz w, ⟨rfl, rfl, rfl⟩, ⟨trivial, rfl⟩, h _ _ hnew_push⟩
    · exact h.elim
  | box t x =>
    simp only [Dmem, hop] at h
    split at h
    · rename_i d hx
      obtain ⟨hok, hv⟩ := ev_dv hFR hx
      refine MemOk.next ⟨.dv (.addr ⟨w.heap.size, 0, none⟩), _, { w with heap := w.heap.push (.cells (flats d.chs).toArray t) }, ?_, ⟨rfl, rfl, rfl⟩, ⟨trivial, rfl⟩, h _ _ hnew_push⟩
      simp [Instr.box, newVar, hv, DV.cells_flat hok, run_newRow]
      rfl
    · exact h.elim
  | buildSlice t n parts =>
    simp only [Dmem, hop] at h
    split at h
    · rename_i e hu
      split at h
      · rename_i sz z hsz hz
        split at h
        · rename_i l hle hl
          simp only [Bool.and_eq_true] at hle
          have h24 := Nat.le_of_ble_eq_true hle.1
          have hzs := Nat.eq_of_beq_eq_true hle.2
          obtain ⟨hzok, i, zv, hi, hzv, hzc⟩ := zeroChs_sound hz
          have hzl : zv.cells.size = sz := by rw [← Array.length_toList, hzc, flats_length hzok, hzs]
          obtain ⟨_, cells', h1, h2⟩ := setParts_sound (parts.toList.map fun (i, x) => (i, ev fr x)) (parts.map fun (i, x) => (i, a.eval x)).toList (List.replicate n z) l
            ((Array.range (n * sz)).map (zv.cells[· % zv.cells.size]!)) (by simp) (by
              intro i p q h1 h2
              simp only [List.getElem?_map, Array.toList_map, Option.map_eq_some_iff] at h1 h2
              obtain ⟨x, hx, rfl⟩ := h1
              obtain ⟨y, hy, rfl⟩ := h2
              rw [hx] at hy
              injection hy with hy
              subst hy
              exact ⟨rfl, ev_rel hFR _⟩) hl (by intro x hx; rw [List.eq_of_mem_replicate hx]; exact ⟨hzok, hzs⟩) (by
              simp only [Array.toList_map, Array.toList_range]
              rw [← hzl, range_mod, hzc, flats_replicate])
          refine MemOk.next ⟨.dv (.one (.slice (some ⟨w.heap.size, 0, none⟩) n n)), _, { w with heap := w.heap.push (.cells (flats l.flatten).toArray e) }, ?_, ⟨rfl, rfl, rfl⟩, ⟨rfl, rfl⟩, h _ _ hnew_push⟩
          have hcells : cells' = (flats l.flatten).toArray := by apply Array.toList_inj.1; simp [h2]
          subst hcells
          have hng : ¬ (n * sz > 16777216) := by omega
          by_cases h0 : n * sz = 0
          · have hempty : (Array.range (n * sz)).map (zv.cells[· % zv.cells.size]!) = (Array.range (n * sz)).map ((#[] : Array Value)[· % (#[] : Array Value).size]!) := by simp [h0]
            rw [hempty] at h1
            simp only [Instr.buildSlice, Sem.run_bind, run_underlying hu, Result.andThen_ok, run_sizeOf hsz, Nat.reducePow, gt_iff_lt, if_neg hng, if_pos h0, Sem.run_pure, h1, run_newRow]
            rfl
          · simp only [Instr.buildSlice, Sem.run_bind, run_underlying hu, Result.andThen_ok, run_sizeOf hsz, Nat.reducePow, gt_iff_lt, if_neg hng, if_neg h0, run_zero hi hzv, Sem.run_pure, h1, run_newRow]
            rfl
        · exact h.elim
      · exact h.elim
    · exact h.elim
  | makeSlice t l c =>
    simp only [Dmem, hop] at h
    split at h
    · rename_i e l' c' hu hl hc
      obtain ⟨kl, hvl⟩ := asI_rel (ev_rel hFR l) hl
      obtain ⟨kc, hvc⟩ := asI_rel (ev_rel hFR c) hc
      split at h
      · rename_i bytes z hzs hb hz
        obtain ⟨h0, h1, h2, h3, hK⟩ := h
        obtain ⟨hzok, i, zv, hi, hzv, hzc⟩ := zeroChs_sound hz
        have hib : i.bytes = bytes := by simp [hi] at hb; exact hb
        cases hsz : szOf P e with
        | none => simp [hsz] at hzs
        | some sz =>
        simp [hsz, hz] at hzs
        have hzl : zv.cells.size = sz := by rw [← Array.length_toList, hzc, flats_length hzok, hzs]
        refine MemOk.next ⟨.dv (.one (.slice (some ⟨w.heap.size, 0, none⟩) l'.toNat c'.toNat)), _, { w with heap := w.heap.push (.cells ((List.replicate c'.toNat (flats z)).flatten).toArray e) }, ?_, ⟨rfl, rfl, rfl⟩, ⟨rfl, rfl⟩, hK _ _ hnew_push⟩
        have wl : IntKind.i64.wrap l' = l' := by
          unfold IntKind.wrap; simp [IntKind.bits, IntKind.signed]; omega
        have wc : IntKind.i64.wrap c' = c' := by
          unfold IntKind.wrap; simp [IntKind.bits, IntKind.signed]; omega
        have hcells : (Array.range (c'.toNat * sz)).map (zv.cells[· % zv.cells.size]!) = ((List.replicate c'.toNat (flats z)).flatten).toArray := by
          apply Array.toList_inj.1
          simp only [Array.toList_map, Array.toList_range]
          rw [← hzl, range_mod, hzc]
        have t1 : ¬ ((decide (c' < 0) || decide ((i.bytes : Int) * c' > 281474976710656) || decide (l' < 0) || decide (l' > c')) = true) := by
          rw [hib]; simp; omega
        simp only [Instr.makeSlice, Sem.run_bind, run_underlying hu, Result.andThen_ok, hvl, hvc, asInt, asIntOf, Sem.run_pure, run_typeInfo hi, wl, wc, Int.reducePow]
        rw [if_neg t1]
        simp only [Sem.run_bind, run_askRoom, Result.andThen_ok, run_sizeOf hsz]
        by_cases hn0 : c'.toNat * sz = 0
        · have hr : Array.range (c'.toNat * sz) = #[] := by rw [hn0]; rfl
          have he : (List.replicate c'.toNat (flats z)).flatten = [] := by
            have := congrArg Array.toList hcells
            rw [hr] at this
            simpa using this.symm
          simp only [if_pos hn0, Sem.run_pure, Result.andThen_ok, hr, he, Array.map_empty, Sem.run_bind, newRow, run_newObj]
          rfl
        · simp only [if_neg hn0, Sem.run_bind, run_zero hi hzv, Sem.run_pure, Result.andThen_ok, hcells, run_newRow]
          rfl
      · exact h.elim
    · exact h.elim
  | load t x =>
    simp only [Dmem, hop] at h
    split at h
    · rename_i p hx
      obtain ⟨_, hv⟩ := ev_dv hFR hx
      obtain ⟨d, hok, hcell, hK, hrun⟩ := ldT_sound h
      refine MemOk.next ⟨.dv d, d.flat, w, ?_, Rest.refl w, ⟨hok, rfl⟩, hK⟩
      simp [hv, DV.flat, Instr.loadAt, Instr.sureAddr, hrun w hcell]
    · exact h.elim
  | store t x y =>
    simp only [Dmem, hop] at h
    split at h
    · rename_i p d hx hy
      obtain ⟨_, hv⟩ := ev_dv hFR hx
      obtain ⟨hok, hv2⟩ := ev_dv hFR hy
      split at h
      · rename_i sz hsz
        split at h
        · rename_i hn
          have hn := Nat.eq_of_beq_eq_true hn
          obtain ⟨hcn, hK⟩ := h
          obtain ⟨w', r1, r2, r3⟩ := run_storeVar (P := P) hok hsz hn hcn
          have e : (do Instr.storeAt t (a.eval x) (a.eval y); pure Next.skip : Sem Next).run P w = .ok .skip w' := by
            simp [hv, hv2, Instr.storeAt, Instr.sureAddr, DV.flat]
            have : (storeVar t p d.flat).run P w = .ok () w' := r1
            simp only [DV.flat] at this
            rw [this]
            rfl
          simp only [e]
          exact ⟨r3, hK _ r2⟩
        · exact h.elim
      · exact h.elim
    · exact h.elim
  | convert s d x =>
    simp only [Dmem, hop] at h
    split at h
    · rename_i e p l c hs hd hx
      obtain ⟨_, hv⟩ := ev_dv hFR hx
      split at h
      · rename_i he
        obtain ⟨ns, hns, hK⟩ := h
        refine MemOk.next ⟨.dv (.one (.string (bytesOf ns))), _, w, ?_, Rest.refl w, ⟨rfl, rfl⟩, hK⟩
        rw [hv]
        simp only [DV.flat]
        rw [run_convert_bytes_string w s d e p l c hs he hd]
        have hlen : ns.length = l := by have := hns.1; simpa [ints] using this
        have hb : bytesOf ns = ns.foldl (fun r n => r.push (UInt8.ofNat n.toNat)) ByteArray.empty := by
          have gen : ∀ (ns : List Int) (b : ByteArray), ns.foldl (fun r n => r.push (UInt8.ofNat n.toNat)) b = ⟨b.data ++ (ns.map fun n => UInt8.ofNat n.toNat).toArray⟩ := by
            intro ns
            induction ns with
            | nil => intro b; simp
            | cons n ns ih => intro b; simp only [List.foldl_cons, ih, List.map_cons]; congr 1; apply Array.toList_inj.1; simp [ByteArray.push]
          rw [gen]; simp [bytesOf]
        cases p with
        | none =>
          have : ns = [] := by
            rcases hns.2.2 with h | ⟨q, hq, _⟩
            · simpa [ints] using h
            · cases hq
          subst this
          simp [Conv.bytesToString]; rfl
        | some q =>
          have hl : (loadCells q l).run P w = .ok (ns.map (Value.int .u8)).toArray w := by
            have := firstCells_hsv (P := P) hns l c
            simpa [Builtin.firstCells, ints] using this
          rw [run_bytesToString w q l c ns hl, hb]
      · exact h.elim
    · rename_i e s' hs hd hx
      obtain ⟨_, hv⟩ := ev_dv hFR hx
      split at h
      · rename_i he
        let q := Question.appendCap s'.size 0 e
        let cap := q.cut (w.tape w.drawn q)
        have hcap : s'.size ≤ cap := by show s'.size ≤ s'.size + _; omega
        have hcells : (s'.data.map fun b => Value.int .u8 b.toNat) ++ Array.replicate (cap - s'.size) (Value.int .u8 0) = ((s'.data.toList.map fun b => Value.int .u8 b.toNat) ++ ints .u8 (zeros (cap - s'.size))).toArray := by
          apply Array.toList_inj.1
          simp [ints, zeros]
        obtain ⟨vs, hvs⟩ : ∃ vs, vs = (s'.data.toList.map fun b => Value.int .u8 b.toNat) ++ ints .u8 (zeros (cap - s'.size)) := ⟨_, rfl⟩
        have hK := h cap w.heap.size (w.heap.push (.cells vs.toArray e (vs.length, vs.length + 1))) hcap ⟨rfl, e, vs.length, vs.length + 1, fun i hi => by rw [← hvs] at hi; omega, by rw [hvs]⟩
        refine MemOk.next ⟨.dv (.one (.slice (some ⟨w.heap.size, 0, none⟩) s'.size cap)), _, { w with drawn := w.drawn + 1, heap := w.heap.push (.cells vs.toArray e (vs.length, vs.length + 1)) }, ?_, ⟨rfl, rfl, rfl⟩, ⟨rfl, rfl⟩, hK⟩
        rw [hv]
        simp only [DV.flat, convert, Sem.run_bind, run_underlying hs, run_underlying hd, run_underlying he, Result.andThen_ok, Conv.stringToBytes, run_choose, Question.forced, Bool.false_eq_true, if_false]
        simp only [cap, q] at hcells hvs ⊢
        rw [hcells, ← hvs]
        have hsh : ∀ (ww : World), ww.heap = w.heap.push (.cells vs.toArray e) → (markStringish ⟨w.heap.size, 0, none⟩).run P ww = .ok () { ww with heap := w.heap.push (.cells vs.toArray e (vs.length, vs.length + 1)) } := by
          intro ww hww
          have e1 : ww.shape? w.heap.size = some (e, vs.length) := by simp [World.shape?, hww]
          simp only [markStringish, Sem.run_bind, run_shape, Result.andThen_ok, e1, run_freeze, World.freeze]
          simp only [hww, Nat.one_ne_zero, if_false]
          congr 2
          apply Array.ext_getElem?
          intro y
          simp only [Array.getElem?_modify, Array.getElem?_push]
          by_cases c : y = w.heap.size
          · subst c; simp
          · have c' : ¬ (w.heap.size = y) := fun z => c z.symm
            simp [c, c']
        simp only [run_newRow, Result.andThen_ok]
        rw [hsh _ rfl]
        rfl
      · exact h.elim
    · exact h.elim
  | makeMap t r =>
    cases r with
    | some _ => simp only [Dmem, hop] at h
    | none =>
    simp only [Dmem, hop] at h
    split at h
    · refine MemOk.next ⟨.dv (.one (.map (some w.heap.size))), _, { w with heap := w.heap.push (.map #[] 0) }, ?_, ⟨rfl, rfl, rfl⟩, ⟨rfl, rfl⟩, h _ _ ⟨rfl, rfl⟩⟩
      simp [Instr.makeMap, DV.flat]
    · exact h.elim
  | insert t m k v =>
    simp only [Dmem, hop] at h
    obtain ⟨w', r1, r2, r3⟩ := DmapSet_sound (ev_rel hFR m) (ev_rel hFR k) (ev_rel hFR v) h
    have e : (do Instr.mapUpdate t (a.eval m) (a.eval k) (a.eval v); pure Next.skip : Sem Next).run P w = .ok .skip w' := by
      simp only [Sem.run_bind, r1, Result.andThen_ok, Sem.run_pure]
    simp only [e]
    exact ⟨r2, r3⟩
  | mapUpdate t m k v =>
    simp only [Dmem, hop] at h
    obtain ⟨w', r1, r2, r3⟩ := DmapSet_sound (ev_rel hFR m) (ev_rel hFR k) (ev_rel hFR v) h
    have e : (do Instr.mapUpdate t (a.eval m) (a.eval k) (a.eval v); pure Next.skip : Sem Next).run P w = .ok .skip w' := by
      simp only [Sem.run_bind, r1, Result.andThen_ok, Sem.run_pure]
    simp only [e]
    exact ⟨r2, r3⟩
  | lookup t m k ok =>
    simp only [Dmem, hop] at h
    split at h
    · rename_i kt et r key hu hm hk
      obtain ⟨_, hv1⟩ := ev_dv hFR hm
      obtain ⟨_, hv2⟩ := ev_dv hFR hk
      split at h
      · rename_i z hkt hz
        obtain ⟨es, d, b, h1, h2, h3⟩ := h
        have h3 := isT_elim h3
        obtain ⟨hd, hr⟩ := run_lookup (ok := ok) hu hkt hz h1 h2
        cases ok with
        | true =>
          refine MemOk.next ⟨.tup [d, .one (.bool b)], _, w, ?_, Rest.refl w, ⟨?_, rfl⟩, h3⟩
          · rw [hv1, hv2]
            simp only [DV.flat]
            rw [hr]; rfl
          · intro x hx
            simp at hx
            rcases hx with rfl | rfl
            · exact hd
            · rfl
        | false =>
          refine MemOk.next ⟨.dv d, _, w, ?_, Rest.refl w, ⟨hd, rfl⟩, h3⟩
          rw [hv1, hv2]
          simp only [DV.flat]
          rw [hr]; rfl
      · exact h.elim
    · exact h.elim
  | call c =>
    obtain ⟨callee, args, ats⟩ := c
    simp only [Dmem, hop] at h
    split at h
    · rename_i f
      exact Dcall_sound hT hFR h
    · obtain ⟨x, v, w', h1, h2, h3, h4⟩ := Dappend_sound (P := P) (ty := o.type) hFR h
      have e : args.map a.eval = (args.toList.map a.eval).toArray := by apply Array.toList_inj.1; simp
      simp only [resolve, Sem.run_bind, Sem.run_pure, Result.andThen_ok, invoke, builtin, e, h1]
      exact ⟨h2, x, h3, h4⟩
    · obtain ⟨x, v, w', h1, h2, h3, h4⟩ := Dcopy_sound (P := P) (ty := o.type) hFR h
      have e : args.map a.eval = (args.toList.map a.eval).toArray := by apply Array.toList_inj.1; simp
      simp only [resolve, Sem.run_bind, Sem.run_pure, Result.andThen_ok, invoke, builtin, e, h1]
      exact ⟨h2, x, h3, h4⟩
    · split at h
      · rename_i t r hats hargs
        split at h
        · rename_i kt et hu
          obtain ⟨es, h1, h2⟩ := h
          have e : args.map a.eval = (args.toList.map a.eval).toArray := by apply Array.toList_inj.1; simp
          have e2 : args.toList.map a.eval = [.map r] := by
            cases hl : args.toList with
            | nil => rw [hl] at hargs; simp at hargs
            | cons x l =>
              rw [hl] at hargs
              cases l with
              | nil =>
                simp only [List.map_cons, List.map_nil, List.cons.injEq, and_true] at hargs ⊢
                exact (ev_dv hFR hargs).2
              | cons y l => simp at hargs
          have e3 : ats = #[t] := by apply Array.toList_inj.1; simpa using hats
          subst e3
          have hr : (Builtin.len_ #[t] o.type #[.map r]).run P w = .ok (.int .i64 es.length) w := by
            unfold Builtin.len_
            cases r with
            | none =>
              have : es = [] := h1
              subst this
              simp [run_underlying hu, goInt]
            | some q =>
              obtain ⟨m, cl, hq, he, _⟩ := h1
              have hle := congrArg List.length he
              simp at hle
              simp [run_underlying hu, run_getMap hq, goInt, hle]
          simp only [resolve, Sem.run_bind, Sem.run_pure, Result.andThen_ok, invoke, builtin, e, e2, hr]
          exact ⟨Rest.refl w, .dv (.one (.int .i64 es.length)), ⟨rfl, rfl⟩, h2⟩
        · exact h.elim
      · exact h.elim
    · exact h.elim
  | _ => simp only [Dmem, hop] at h

theorem Dop_sound {T : Tbl} (hT : TblOk P T) {o : Oper} {fr : Fr} {a : Act} (hFR : FR fr a.tmps) {K : SV → H → Prop} {w : World} (h : Dop P T o fr K w.heap) :
    NextOk P K w ((execOp a.eval o).run P w) := by
  unfold Dop at h
  split at h
  · obtain ⟨x, v, h1, h2, h3⟩ := Dpure_sound (P := P) hFR h
    rw [h3 w]
    exact ⟨Rest.refl w, x, h1, h2⟩
  · exact Dmem_sound hT hFR h
end Go.Vc
end

/- The denotation is sound, fifth part: regions, in order and out of it. Own work; generic over any program. -/
section
namespace Go.Vc
variable {P : Program}

def Agree (s : List Nat) (fr fr' : Fr) : Prop := ∀ i, i ∉ s → get fr' i = get fr i
theorem Agree.refl (s : List Nat) (fr : Fr) : Agree s fr fr := fun _ _ => rfl
theorem Agree.trans {s : List Nat} {a b c : Fr} (h : Agree s a b) (k : Agree s b c) : Agree s a c := fun i hi => (k i hi).trans (h i hi)
theorem Agree.mono {s s' : List Nat} {a b : Fr} (h : Agree s a b) (hs : ∀ i, i ∈ s → i ∈ s') : Agree s' a b := fun i hi => h i fun h => hi (hs i h)
theorem Agree.putO {s : List Nat} {a b : Fr} (h : Agree s a b) {d : Option Nat} (hd : ∀ i, d = some i → i ∈ s) (v : SV) : Agree s a (putO d v b) := fun i hi => by
  rw [get_putO, if_neg]
  · exact h i hi
  · intro e; exact hi (hd i e)

theorem mem_asgR {ops : List Oper} {o : Oper} (h : o ∈ ops) {d : Nat} (hd : o.dst = some d) : d ∈ asgR ops := by
  induction ops with
  | nil => cases h
  | cons x r ih =>
    rcases List.mem_cons.1 h with rfl | h
    · simp [asgR, hd]
    · have := ih h
      unfold asgR
      split <;> simp [this]
theorem dstOf_get (ops : List Oper) : ∀ j, dstOf ops j = (ops[j]?).bind (·.dst) := by
  induction ops with
  | nil => intro j; simp [dstOf]
  | cons o r ih => intro j; cases j with
    | zero => simp [dstOf]
    | succ j => simp [dstOf, ih]

theorem wp_of_next {o : Oper} {a : Act} {w : World} {K : SV → H → Prop} {next : Act → World → Prop} {Q : Exit → Act → World → Prop} (h : NextOk P K w ((execOp a.eval o).run P w))
    (hn : ∀ x v w', Rest w w' → SV.rel x v → K x w'.heap → next (a.put o.dst v) w') : o.wp P a w next Q := by
  unfold Oper.wp
  generalize (execOp a.eval o).run P w = r at h
  cases r with
  | halt x w' => exact h.elim
  | ok n w' =>
    cases n <;> try exact h.elim
    · obtain ⟨h1, x, h2, h3⟩ := h; exact hn x _ _ h1 h2 h3
    · obtain ⟨h1, h3⟩ := h; exact hn .nd _ _ h1 rfl h3
    · obtain ⟨rfl, h⟩ := h
      exact h.mono fun e w'' he => by
        obtain ⟨v, x, rfl, h1, h2, h3⟩ := he
        exact hn x _ _ h1 h2 h3

theorem guard_sound {ops : Array Oper} {o : Oper} {fr : Fr} {tmps : Array Value} {yes no : Fr → Prop} {X : Prop} (hFR : FR fr tmps) (h : guardD ops.toList o.guard fr yes no)
    (hy : ∀ fr', FR fr' tmps → Agree (asgR ops.toList) fr fr' → Region.wanted o (yielded ops tmps) = true → yes fr' → X)
    (hn : ∀ fr', FR fr' tmps → Agree (asgR ops.toList) fr fr' → Region.wanted o (yielded ops tmps) = false → no fr' → X) : X := by
  unfold guardD at h
  cases hg : o.guard with
  | none =>
    rw [hg] at h
    exact hy fr hFR (Agree.refl _ _) (by simp [Region.wanted, hg]) h
  | some g =>
    obtain ⟨j, want⟩ := g
    rw [hg] at h
    simp only at h
    split at h
    · exact h.elim
    · rename_i d hd
      rw [dstOf_get] at hd
      have hd' : (ops[j]?).bind (·.dst) = some d := by simpa using hd
      have hmem : d ∈ asgR ops.toList := by
        cases ho : ops.toList[j]? with
        | none => simp [ho] at hd
        | some o' => simp [ho] at hd; exact mem_asgR (List.mem_of_getElem? ho) hd
      have hr := hFR d
      have hyv : ∀ b, tmps.getD d undef = .bool b → yielded ops tmps j = some b := by
        intro b hb
        unfold yielded
        rw [hd']
        simp only [Option.bind_some]
        by_cases hlt : d < tmps.size
        · have : tmps[d]? = some (.bool b) := by rw [← hb]; simp [hlt]
          rw [this]
        · simp only [Array.getD_eq_getD_getElem?, Array.getElem?_eq_none (Nat.le_of_not_lt hlt), Option.getD_none] at hb
          simp [undef] at hb
      have refine' : ∀ b, get fr d = .dv (.one (.bool b)) → FR ((d, .dv (.one (.bool b))) :: fr) tmps ∧ Agree (asgR ops.toList) fr ((d, .dv (.one (.bool b))) :: fr) := by
        intro b hb
        constructor
        · intro i
          have := get_putO fr (some d) (.dv (.one (.bool b))) i
          simp only [putO, Option.some.injEq] at this
          rw [this]
          split
          · rename_i e; subst e; rw [← hb]; exact hFR d
          · exact hFR i
        · have := (Agree.refl (asgR ops.toList) fr).putO (d := some d) (fun i hi => by injection hi with hi; subst hi; exact hmem) (.dv (.one (.bool b)))
          exact this
      split at h
      · rename_i hnd
        rw [hnd] at hr
        refine hn fr hFR (Agree.refl _ _) ?_ h
        have hu : tmps.getD d undef = undef := hr
        have : yielded ops tmps j = none := by
          unfold yielded
          rw [hd']
          simp only [Option.bind_some]
          by_cases hlt : d < tmps.size
          · have : tmps[d]? = some undef := by rw [← hu]; simp [hlt]
            rw [this]; rfl
          · rw [Array.getElem?_eq_none (Nat.le_of_not_lt hlt)]
        simp [Region.wanted, hg, this]
      · rename_i b hb
        rw [hb] at hr
        have hv : tmps.getD d undef = .bool b := hr.2
        have hyb := hyv b hv
        cases b with
        | true =>
          obtain ⟨r1, r2⟩ := refine' true hb
          simp only [if_true] at h
          cases want with
          | true => exact hy _ r1 r2 (by simp [Region.wanted, hg, hyb]) h
          | false => exact hn _ r1 r2 (by simp [Region.wanted, hg, hyb]) h
        | false =>
          obtain ⟨r1, r2⟩ := refine' false hb
          simp only [Bool.false_eq_true, if_false] at h
          cases want with
          | true => exact hn _ r1 r2 (by simp [Region.wanted, hg, hyb]) h
          | false => exact hy _ r1 r2 (by simp [Region.wanted, hg, hyb]) h
      · exact h.elim

/-- What holds of a frame on the way through a region. -/
structure On (s : List Nat) (fr0 : Fr) (n : Nat) (df : List Deferred) (w0 : World) (fr : Fr) (a : Act) (w : World) : Prop where
  hfr : FR fr a.tmps
  ag : Agree s fr0 fr
  sz : a.tmps.size = n
  df : a.defers = df
  rest : Rest w0 w

theorem On.put {s : List Nat} {fr0 : Fr} {n : Nat} {df : List Deferred} {w0 : World} {fr : Fr} {a : Act} {w w' : World} (h : On s fr0 n df w0 fr a w) (hs : ∀ d, d ∈ s → d < n) {d : Option Nat} (hd : ∀ i, d = some i → i ∈ s)
    {x : SV} {v : Value} (hx : x.rel v) (hr : Rest w w') : On s fr0 n df w0 (putO d x fr) (a.put d v) w' :=
  ⟨h.hfr.put d (fun i hi => by rw [h.sz]; exact hs i (hd i hi)) hx, h.ag.putO hd x, by rw [size_put, h.sz], by rw [defers_put, h.df], h.rest.trans hr⟩

theorem Dops_sound {T : Tbl} (hT : TblOk P T) {ops : Array Oper} {Q : Exit → Act → World → Prop} {K : Fr → H → Prop} {fr0 : Fr} {n : Nat} {df : List Deferred} {w0 : World} (hs : ∀ d, d ∈ asgR ops.toList → d < n)
    (hQ : ∀ fr a w, On (asgR ops.toList) fr0 n df w0 fr a w → K fr w.heap → Q .normal a w) :
    ∀ (l : List Oper) (fr : Fr) (a : Act) (w : World), (∀ o, o ∈ l → o ∈ ops.toList) → On (asgR ops.toList) fr0 n df w0 fr a w → Dops P T ops.toList l K fr w.heap → wpList P ops Q l a w := by
  intro l
  induction l with
  | nil => intro fr a w _ hon h; exact hQ fr a w hon h
  | cons o r ih =>
    intro fr a w hmem hon h
    have hd : ∀ i, o.dst = some i → i ∈ asgR ops.toList := fun i hi => mem_asgR (hmem o (by simp)) hi
    have hmem' : ∀ o, o ∈ r → o ∈ ops.toList := fun o ho => hmem o (by simp [ho])
    simp only [Dops] at h
    refine guard_sound hon.hfr h (fun fr' hF hA hw hy => ?_) (fun fr' hF hA hw hn => ?_)
    · have hon' : On (asgR ops.toList) fr0 n df w0 fr' a w := ⟨hF, hon.ag.trans hA, hon.sz, hon.df, hon.rest⟩
      unfold wpList
      rw [if_pos hw]
      refine .inl (wp_of_next (Dop_sound hT hF hy) fun x v w' h1 h2 h3 => ?_)
      exact ih _ _ _ hmem' (hon'.put hs hd h2 h1) h3
    · have hon' : On (asgR ops.toList) fr0 n df w0 fr' a w := ⟨hF, hon.ag.trans hA, hon.sz, hon.df, hon.rest⟩
      unfold wpList
      rw [if_neg (by rw [hw]; simp)]
      exact ih _ _ _ hmem' (hon'.put hs hd (x := .nd) rfl (Rest.refl w)) hn

/-! ### A region that draws its order -/
def wpAnyG (P : Program) (ops : Array Oper) (Q : Exit → Act → World → Prop) (G : Array Bool → Nat → World → Prop) : Nat → Array Bool → Act → World → Prop
  | 0, listed, a, w => Region.ready .any ops listed = [] ∧ Q .normal a w
  | fuel + 1, listed, a, w =>
    (Region.ready .any ops listed = [] → Q .normal a w) ∧
    ∀ i, i ∈ Region.ready .any ops listed → wpOp P ops Q i (fun a' w' => G listed i w' ∧ wpAnyG P ops Q G fuel (listed.setIfInBounds i true) a' w') a w

section
variable {ops : Array Oper} {Q : Exit → Act → World → Prop}
theorem wpAny_of_G {G : Array Bool → Nat → World → Prop} : ∀ (fuel : Nat) (listed : Array Bool) (a : Act) (w : World), wpAnyG P ops Q G fuel listed a w → wpAny P .any ops Q fuel listed a w
  | 0, _, _, _, h => h
  | fuel + 1, _, _, _, h => ⟨h.1, fun i hi => wpOp_mono (fun a' w' h' => wpAny_of_G fuel _ a' w' h'.2) (h.2 i hi)⟩

theorem wpAnyG_mono {G G' : Array Bool → Nat → World → Prop} (L : Array Bool → Prop) (hL : ∀ l i, L l → L (l.setIfInBounds i true)) (hG : ∀ l i w, L l → i ∈ Region.ready .any ops l → G l i w → G' l i w) :
    ∀ (fuel : Nat) (listed : Array Bool) (a : Act) (w : World), L listed → wpAnyG P ops Q G fuel listed a w → wpAnyG P ops Q G' fuel listed a w
  | 0, _, _, _, _, h => h
  | fuel + 1, _, _, _, hl, h => ⟨h.1, fun i hi => wpOp_mono (fun a' w' h' => ⟨hG _ _ _ hl hi h'.1, wpAnyG_mono L hL hG fuel _ a' w' (hL _ _ hl) h'.2⟩) (h.2 i hi)⟩

/-- All that an operation waits for has come up. -/
def Closed (ops : Array Oper) (listed : Array Bool) : Prop :=
  ∀ k o, ops[k]? = some o → listed.getD k false = true → ∀ e, e ∈ o.after → Region.binds .any e = true → listed.getD e.on false = true
theorem Closed.step {listed : Array Bool} (h : Closed ops listed) {i : Nat} (hi : i ∈ Region.ready .any ops listed) : Closed ops (listed.setIfInBounds i true) := by
  intro k o hk hl e he hb
  obtain ⟨hun, oi, hoi, hall⟩ := mem_ready.1 hi
  by_cases hki : i = k
  · subst hki
    rw [hk] at hoi
    injection hoi with hoi
    subst hoi
    exact getD_set_true (hall e he hb)
  · rw [getD_set_ne false hki] at hl
    exact getD_set_true (h k o hk hl e he hb)

theorem anc_listed {clo : Array Nat} (hc : cloOk ops clo = true) {i : Nat} : ∀ (j : Nat), j < ops.size → i < ops.size → ancB clo i j = true →
    ∃ o e, ops[j]? = some o ∧ e ∈ o.after ∧ Region.binds .any e = true ∧ e.on < j ∧ (e.on = i ∨ ancB clo i e.on = true) := by
  intro j hj hi ha
  unfold cloOk at hc
  rw [List.all_eq_true] at hc
  have h1 := hc j (by simpa using hj)
  rw [List.all_eq_true] at h1
  have h2 := h1 i (by simpa using hi)
  rw [ha] at h2
  simp only at h2
  cases ho : ops[j]? with
  | none => simp [ho] at h2
  | some o =>
    simp only [ho] at h2
    obtain ⟨k, hk, he⟩ := Array.any_eq_true.1 h2
    simp only [Bool.and_eq_true, Bool.or_eq_true] at he
    exact ⟨o, _, rfl, Array.getElem_mem hk, he.1.1, Nat.le_of_ble_eq_true he.1.2, he.2.imp (fun h => Nat.eq_of_beq_eq_true h) id⟩

/-- What has come up, and what may come up next, waits for nothing that hasn't come up. -/
theorem no_anc {clo : Array Nat} (hc : cloOk ops clo = true) {i : Nat} (hi : i < ops.size) {listed : Array Bool} (hcl : Closed ops listed) (hil : listed.getD i false = false) :
    ∀ (j : Nat), j < ops.size → (listed.getD j false = true ∨ j ∈ Region.ready .any ops listed) → ancB clo i j = false := by
  intro j
  induction j using Nat.strongRecOn with
  | ind j ih =>
    intro hj hl
    cases ha : ancB clo i j with
    | false => rfl
    | true =>
      obtain ⟨o, e, ho, he, hb, hlt, hor⟩ := anc_listed hc j hj hi ha
      have hel : listed.getD e.on false = true := by
        rcases hl with hl | hl
        · exact hcl j o ho hl e he hb
        · obtain ⟨_, o', ho', hall⟩ := mem_ready.1 hl
          rw [ho] at ho'
          injection ho' with ho'
          subst ho'
          exact hall e he hb
      rcases hor with h | h
      · rw [h, hil] at hel; cases hel
      · rw [ih e.on hlt (by omega) (.inl hel)] at h; cases h
end

section
variable {ops : Array Oper} {Q : Exit → Act → World → Prop}
/-- A load that was taken first may still be to come. -/
def Pend (P : Program) (ops : Array Oper) (clo : Array Nat) (j : Nat) (listed : Array Bool) : Prop :=
  ∀ k, k < ops.size → listed.getD k false = true → floatAt P ops.toList k = false → ancB clo j k = false
def Gh (P : Program) (ops : Array Oper) (clo : Array Nat) (held : List (Nat × Fact)) (listed : Array Bool) (i : Nat) (w : World) : Prop :=
  ∀ x, x ∈ held → Pend P ops clo x.1 listed → (floatAt P ops.toList i = true ∨ ancB clo x.1 i = false) → x.2 w.heap
def Now (P : Program) (ops : Array Oper) (clo : Array Nat) (held : List (Nat × Fact)) (listed : Array Bool) (h : H) : Prop := ∀ x, x ∈ held → Pend P ops clo x.1 listed → x.2 h

theorem Pend.less {clo : Array Nat} {j i : Nat} {listed : Array Bool} (h : Pend P ops clo j (listed.setIfInBounds i true)) : Pend P ops clo j listed :=
  fun k hk hl hf => h k hk (getD_set_true hl) hf
theorem Pend.float {clo : Array Nat} {j i : Nat} {listed : Array Bool} (h : Pend P ops clo j listed) (hi : floatAt P ops.toList i = true) : Pend P ops clo j (listed.setIfInBounds i true) := by
  intro k hk hl hf
  by_cases hki : i = k
  · subst hki; rw [hi] at hf; cases hf
  · rw [getD_set_ne false hki] at hl; exact h k hk hl hf
theorem Pend.at {clo : Array Nat} {j i : Nat} {listed : Array Bool} (h : Pend P ops clo j (listed.setIfInBounds i true)) (hi : i < ops.size) (hs : listed.size = ops.size) : floatAt P ops.toList i = true ∨ ancB clo j i = false := by
  cases hf : floatAt P ops.toList i with
  | true => exact .inl rfl
  | false => exact .inr (h i hi (by simp [hs, hi]) hf)
theorem Now.step {clo : Array Nat} {held : List (Nat × Fact)} {i : Nat} {listed : Array Bool} {w : World} (h : Gh P ops clo held listed i w) (hi : i < ops.size) (hs : listed.size = ops.size) : Now P ops clo held (listed.setIfInBounds i true) w.heap :=
  fun x hx hp => h x hx hp.less (hp.at hi hs)

theorem ready_lt {listed : Array Bool} {i : Nat} (h : i ∈ Region.ready .any ops listed) : i < ops.size := by
  obtain ⟨_, o, ho, _⟩ := mem_ready.1 h
  rcases Nat.lt_or_ge i ops.size with h | h
  · exact h
  · rw [Array.getElem?_eq_none h] at ho; cases ho
theorem ready_not {listed : Array Bool} {i : Nat} (h : i ∈ Region.ready .any ops listed) : listed.getD i false = false := by
  have h1 := (mem_ready.1 h).1
  by_cases hlt : i < listed.size
  · simp [hlt] at h1 ⊢; exact h1
  · simp [Array.getElem?_eq_none (Nat.le_of_not_lt hlt)]

/-- A float may be taken first. -/
theorem wpAnyG_first {clo : Array Nat} (hc : cloOk ops clo = true) {held : List (Nat × Fact)} {i : Nat} {oi : Oper} {v : Value} {φ : Fact} (hi : ops[i]? = some oi)
    (hsel : ∀ (j : Nat) (o : Oper) cs b, ops[j]? = some o → o.op ≠ .select cs b) (hQ : ∀ c a w, Q (.panic c) (a.put oi.dst v) w → Q (.panic c) a w)
    (hfl : floatAt P ops.toList i = true) (hφ : (i, φ) ∈ held ∨ ∀ h, φ h) :
    ∀ (fuel : Nat) (listed : Array Bool) (a : Act) (w : World), listed.size = ops.size →
      (∀ j oj, ops[j]? = some oj → j ≠ i → listed.getD j true = false → (∀ e ∈ oj.after, Region.binds .any e = true → e.on ≠ i) → oi.apart ops oj = true) →
      i ∈ Region.ready .any ops listed → YieldsIf P ops (fun w => φ w.heap) oi v a → Closed ops listed → Now P ops clo held listed w.heap →
      wpAnyG P ops Q (Gh P ops clo held) fuel (listed.setIfInBounds i true) (a.put oi.dst v) w → wpAnyG P ops Q (Gh P ops clo held) (fuel + 1) listed a w := by
  have here : ∀ (listed : Array Bool) (w : World), i ∈ Region.ready .any ops listed → Closed ops listed → Now P ops clo held listed w.heap → φ w.heap := by
    intro listed w hr hcl hnow
    rcases hφ with h | h
    · refine hnow _ h fun k hk hl _ => ?_
      exact no_anc hc (ready_lt hr) hcl (ready_not hr) k hk (.inl hl)
    · exact h _
  intro fuel
  induction fuel with
  | zero =>
    intro listed a w hsz _ hr hy hcl hnow HH
    refine ⟨fun h => (by rw [h] at hr; cases hr), fun j hj => ?_⟩
    by_cases hji : j = i
    · subst hji
      exact hy.wpOp hi (here listed w hr hcl hnow) ⟨fun x hx hp _ => hnow x hx hp, HH⟩
    · have := ready_mono hj hji
      rw [HH.1] at this
      cases this
  | succ fuel ih =>
    intro listed a w hsz hfree hr hy hcl hnow HH
    refine ⟨fun h => (by rw [h] at hr; cases hr), fun j hj => ?_⟩
    by_cases hji : j = i
    · subst hji
      exact hy.wpOp hi (here listed w hr hcl hnow) ⟨fun x hx hp _ => hnow x hx hp, HH⟩
    · have h1 := HH.2 j (ready_mono hj hji)
      obtain ⟨hjun, oj, hoj, hall⟩ := mem_ready.1 hj
      have hnot : ∀ e ∈ oj.after, Region.binds .any e = true → e.on ≠ i := fun e he hb heq => by
        have h1 := hall e he hb
        rw [heq, ready_not hr] at h1
        cases h1
      have h2 := wpOp_putIf hoj (hfree j oj hoj hji hjun hnot) (fun cs b => hsel i oi cs b hi) (fun cs b => hsel j oj cs b hoj) hQ hy h1
      have hfree' : ∀ k ok, ops[k]? = some ok → k ≠ i → (listed.setIfInBounds j true).getD k true = false →
          (∀ e ∈ ok.after, Region.binds .any e = true → e.on ≠ i) → oi.apart ops ok = true := fun k ok hk hki hun hno => by
        refine hfree k ok hk hki ?_ hno
        by_cases hjk : j = k
        · subst hjk; exact hjun
        · rw [getD_set_ne true hjk] at hun; exact hun
      refine wpOp_mono (fun a' w' h3 => ?_) h2
      obtain ⟨hy', hg, hrest⟩ := h3
      have hg' : Gh P ops clo held listed j w' := fun x hx hp ho => hg x hx (hp.float hfl) ho
      refine ⟨hg', ih (listed.setIfInBounds j true) a' w' (by simp [hsz]) hfree' (ready_mono hr (Ne.symm hji)) hy' (hcl.step hj) (Now.step hg' (ready_lt hj) hsz) ?_⟩
      rw [Array.setIfInBounds_comm _ _ hji]
      exact hrest

theorem pickF_spec {listed : Array Bool} : ∀ {l : List Nat} {i : Nat}, pickF P ops listed l = some i → i ∈ l ∧ floatAt P ops.toList i = true ∧ Region.free .any ops listed i = true := by
  intro l
  induction l with
  | nil => intro i h; simp [pickF] at h
  | cons x r ih =>
    intro i h
    simp only [pickF] at h
    split at h
    · rename_i hf
      split at h
      · rename_i hfr
        simp at h; subst h
        exact ⟨List.mem_cons_self, hf, hfr⟩
      · obtain ⟨a, b, c⟩ := ih h; exact ⟨List.mem_cons_of_mem _ a, b, c⟩
    · obtain ⟨a, b, c⟩ := ih h; exact ⟨List.mem_cons_of_mem _ a, b, c⟩

theorem allL_mem {α : Type} {p : α → Prop} : ∀ {l : List α}, allL p l → ∀ x, x ∈ l → p x
  | [], _, x, hx => by cases hx
  | [a], h, x, hx => by simp at hx; subst hx; exact h
  | a :: b :: r, h, x, hx => by
    rcases List.mem_cons.1 hx with rfl | hx
    · exact h.1
    · exact allL_mem h.2 x hx

theorem heldAll_spec : ∀ {l : List (Nat × Fact)} {h : H} {p : Prop}, heldAll l h p → (∀ x, x ∈ l → x.2 h) ∧ p
  | [], _, _, hp => ⟨fun _ h => (by cases h), hp⟩
  | (i, φ) :: r, h, p, hp => by
    obtain ⟨h1, h2⟩ := hp
    obtain ⟨h3, h4⟩ := heldAll_spec h2
    exact ⟨fun x hx => by rcases List.mem_cons.1 hx with rfl | hx; exact h1; exact h3 x hx, h4⟩

theorem DH_sound {T : Tbl} (hT : TblOk P T) {clo : Array Nat} (hc : cloOk ops clo = true) (hsel : Region.noSelect ops = true) {K : Fr → H → Prop} {fr0 : Fr} {n : Nat} {df : List Deferred} {w0 : World}
    (hs : ∀ d, d ∈ asgR ops.toList → d < n) (hQ : ∀ fr a w, On (asgR ops.toList) fr0 n df w0 fr a w → K fr w.heap → Q .normal a w) (hQp : ∀ c a w, ¬ Q (.panic c) a w) :
    ∀ (fuel : Nat) (listed : Array Bool) (held : List (Nat × Fact)) (fr : Fr) (a : Act) (w : World), listed.size = ops.size → On (asgR ops.toList) fr0 n df w0 fr a w → Closed ops listed → Now P ops clo held listed w.heap →
      DH P T ops clo K fuel listed held fr w.heap → wpAnyG P ops Q (Gh P ops clo held) fuel listed a w := by
  intro fuel
  induction fuel with
  | zero =>
    intro listed held fr a w _ hon _ _ h
    simp only [DH] at h
    split at h
    · rename_i hr; exact ⟨hr, hQ fr a w hon h⟩
    · exact h.elim
  | succ fuel ih =>
    intro listed held fr a w hsz hon hcl hnow h
    simp only [DH] at h
    split at h
    · rename_i hr
      exact ⟨fun _ => hQ fr a w hon h, fun i hi => by rw [hr] at hi; cases hi⟩
    · rename_i i0 rs hr
      split at h
      · rename_i i hp
        obtain ⟨hmem, hfl, hfree⟩ := pickF_spec hp
        rw [← hr] at hmem
        split at h
        · rename_i o ho
          have hd : ∀ j, o.dst = some j → j ∈ asgR ops.toList := fun j hj => mem_asgR (by simpa using Array.mem_of_getElem? ho) hj
          have hsz' : (listed.setIfInBounds i true).size = ops.size := by simp [hsz]
          have take : ∀ (held' : List (Nat × Fact)) (φ : Fact) (v : Value) (x : SV) (fr' : Fr), On (asgR ops.toList) fr0 n df w0 fr' a w → SV.rel x v → (∀ y, y ∈ held → y ∈ held') → ((i, φ) ∈ held' ∨ ∀ h, φ h) →
              YieldsIf P ops (fun w => φ w.heap) o v a → Now P ops clo held' listed w.heap → DH P T ops clo K fuel (listed.setIfInBounds i true) held' (putO o.dst x fr') w.heap →
              wpAnyG P ops Q (Gh P ops clo held) (fuel + 1) listed a w := by
            intro held' φ v x fr' hon' hx hsub hφ hy hnow' hD
            have h1 := ih (listed.setIfInBounds i true) held' (putO o.dst x fr') (a.put o.dst v) w hsz' (hon'.put hs hd hx (Rest.refl w)) (hcl.step hmem)
              (fun y hy hp => hnow' y hy hp.less) hD
            have h2 := wpAnyG_first (P := P) hc ho (Region.noSelect_spec hsel) (fun c a w h => absurd h (hQp _ _ _)) hfl hφ fuel listed a w hsz (Region.free_spec ho hfree) hmem hy hcl hnow' h1
            exact wpAnyG_mono (fun _ => True) (fun _ _ _ => trivial) (fun l j w' _ _ hg y hy hp hor => hg y (hsub y hy) hp hor) _ _ _ _ trivial h2
          refine guard_sound hon.hfr h (fun fr' hF hA hw hy => ?_) (fun fr' hF hA hw hn => ?_)
          · have hon' : On (asgR ops.toList) fr0 n df w0 fr' a w := ⟨hF, hon.ag.trans hA, hon.sz, hon.df, hon.rest⟩
            split at hy
            · obtain ⟨x, v, h1, h2, h3⟩ := Dpure_sound (P := P) hF hy
              exact take held (fun _ => True) v x fr' hon' h1 (fun _ h => h) (.inr fun _ => trivial) (.inl ⟨hw, fun w _ => h3 w⟩) hnow h2
            · unfold Dload at hy
              split at hy
              · rename_i t x hop
                split at hy
                · rename_i p hx
                  obtain ⟨_, hv⟩ := ev_dv hF hx
                  obtain ⟨d, hok, hcell, hK, hrun⟩ := ldT_sound hy
                  refine take ((i, fun h' => hcs h' p (flats d.chs)) :: held) _ d.flat (.dv d) fr' hon' ⟨hok, rfl⟩ (fun _ h => List.mem_cons_of_mem _ h) (.inl List.mem_cons_self) (.inl ⟨hw, fun w' hw' => ?_⟩) ?_ hK
                  · have := hrun w' hw'
                    unfold execOp
                    rw [hop]
                    simp [hv, DV.flat, Instr.loadAt, Instr.sureAddr]
                    rw [this]
                    rfl
                  · intro y hy hp
                    rcases List.mem_cons.1 hy with rfl | hy
                    · exact hcell
                    · exact hnow y hy hp
                · exact hy.elim
              · exact hy.elim
          · have hon' : On (asgR ops.toList) fr0 n df w0 fr' a w := ⟨hF, hon.ag.trans hA, hon.sz, hon.df, hon.rest⟩
            exact take held (fun _ => True) undef .nd fr' hon' rfl (fun _ h => h) (.inr fun _ => trivial) (.inr ⟨hw, rfl⟩) hnow hn
        · exact h.elim
      · refine ⟨fun h0 => (by rw [h0] at hr; cases hr), fun i hi => ?_⟩
        have h := allL_mem h i (by rw [← hr]; exact hi)
        split at h
        · rename_i o ho
          have hd : ∀ j, o.dst = some j → j ∈ asgR ops.toList := fun j hj => mem_asgR (by simpa using Array.mem_of_getElem? ho) hj
          have hsz' : (listed.setIfInBounds i true).size = ops.size := by simp [hsz]
          have past : ∀ x, x ∈ held → (floatAt P ops.toList i = true ∨ ancB clo x.1 i = false) → x ∈ heldPast P ops clo i held := by
            intro x hx hor
            unfold heldPast
            split
            · exact hx
            · rename_i hf
              rcases hor with h | h
              · rw [h] at hf; cases hf
              · exact List.mem_filter.2 ⟨hx, by simp [h]⟩
          have pastsub : ∀ x, x ∈ heldPast P ops clo i held → x ∈ held := by
            intro x hx
            unfold heldPast at hx
            split at hx
            · exact hx
            · exact (List.mem_filter.1 hx).1
          have cont : ∀ (a' : Act) (w' : World), wpAnyG P ops Q (Gh P ops clo (heldPast P ops clo i held)) fuel (listed.setIfInBounds i true) a' w' → wpAnyG P ops Q (Gh P ops clo held) fuel (listed.setIfInBounds i true) a' w' := by
            intro a' w' hg
            refine wpAnyG_mono (fun l => l.getD i false = true) (fun l j hl => getD_set_true hl) ?_ _ _ _ _ (by simp [hsz, ready_lt hi]) hg
            intro l j w'' hl _ hg x hx hp hor
            refine hg x (past x hx ?_) hp hor
            cases hf : floatAt P ops.toList i with
            | true => exact .inl rfl
            | false => exact .inr (hp i (ready_lt hi) hl hf)
          refine guard_sound hon.hfr h (fun fr' hF hA hw hy => ?_) (fun fr' hF hA hw hn => ?_)
          · have hon' : On (asgR ops.toList) fr0 n df w0 fr' a w := ⟨hF, hon.ag.trans hA, hon.sz, hon.df, hon.rest⟩
            unfold wpOp
            simp only [ho]
            rw [if_pos hw]
            refine .inl (wp_of_next (Dop_sound hT hF hy) fun x v w' h1 h2 h3 => ?_)
            obtain ⟨h4, h5⟩ := heldAll_spec h3
            have hg : Gh P ops clo held listed i w' := fun y hy _ hor => h4 y (past y hy hor)
            refine ⟨hg, cont _ _ (ih _ _ _ _ _ hsz' (hon'.put hs hd h2 h1) (hcl.step hi) ?_ h5)⟩
            exact fun y hy hp => h4 y hy
          · have hon' : On (asgR ops.toList) fr0 n df w0 fr' a w := ⟨hF, hon.ag.trans hA, hon.sz, hon.df, hon.rest⟩
            unfold wpOp
            simp only [ho]
            rw [if_neg (by rw [hw]; simp)]
            refine ⟨fun y hy hp _ => hnow y hy hp, cont _ _ (ih _ _ _ _ _ hsz' (hon'.put hs hd (x := .nd) rfl (Rest.refl w)) (hcl.step hi) ?_ hn)⟩
            exact fun y hy hp => hnow y (pastsub y hy) hp.less
        · exact h.elim
end
end Go.Vc
end

/- The denotation is sound, last part: code, and functions. Own work; generic over any program. -/
section
namespace Go.Vc
variable {P : Program}

/-- What the end of a piece of code is like. -/
def Post (s : List Nat) (fr0 : Fr) (n : Nat) (df : List Deferred) (w0 : World) (Q : Cont) : Exit → Act → World → Prop
  | .panic _, _, _ => False
  | .outgrown, _, _ => False
  | e, a, w => ∃ fr, On s fr0 n df w0 fr a w ∧ Q e fr w.heap

theorem get_erase (ds : List Nat) (fr : Fr) (i : Nat) : get (erase ds fr) i = if i ∈ ds then .un else get fr i := by
  induction ds with
  | nil => simp [erase]
  | cons d r ih =>
    simp only [erase, get, List.mem_cons]
    cases h : Nat.beq i d with
    | true => have := Nat.eq_of_beq_eq_true h; simp [this]
    | false => have := Nat.ne_of_beq_eq_false h; simp [this, ih]
theorem FR_cons {fr : Fr} {tmps : Array Value} (h : FR fr tmps) {i : Nat} {v : SV} (hv : v.rel (tmps.getD i undef)) : FR ((i, v) :: fr) tmps := fun j => by
  have := get_putO fr (some i) v j
  simp only [putO, Option.some.injEq] at this
  rw [this]
  split
  · rename_i e; subst e; exact hv
  · exact h j
theorem norm_rel {k : KS} {s : SV} {v : Value} (h : s.rel v) : (normSV k s).rel v := by
  unfold normSV
  split
  · exact ⟨rfl, h.2⟩
  · exact ⟨h.1, h.2⟩
  · exact ⟨h.1, h.2⟩
  · trivial
  · exact h
theorem FR_keep {keep : Keep} {fr fr' : Fr} {tmps : Array Value} (h : FR fr tmps) (h' : FR fr' tmps) : FR (putKeep keep (keepVals keep fr) fr') tmps := by
  induction keep with
  | nil => exact h'
  | cons k r ih => exact FR_cons ih (norm_rel (h k.1))
theorem Agree_keep {s : List Nat} {keep : Keep} {vs : List SV} {fr fr' : Fr} (h : Agree s fr fr') (hk : ∀ x, x ∈ keep → x.1 ∈ s) : Agree s fr (putKeep keep vs fr') := by
  induction keep generalizing vs with
  | nil => exact h
  | cons k r ih =>
    obtain ⟨i, sh⟩ := k
    cases vs with
    | nil => exact h
    | cons v vs =>
      have := (ih (vs := vs) (fun x hx => hk x (by simp [hx]))).putO (d := some i) (fun j hj => by injection hj with hj; subst hj; exact hk (i, sh) (by simp)) v
      exact this
theorem FR_erase {s : List Nat} {fr fr' : Fr} {tmps : Array Value} (h : FR fr' tmps) (ha : Agree s fr fr') : FR (erase s fr) tmps := by
  intro i
  rw [get_erase]
  split
  · trivial
  · rename_i hi; rw [← ha i hi]; exact h i
theorem Agree_erase (s : List Nat) (fr : Fr) : Agree s fr (erase s fr) := fun i hi => by rw [get_erase, if_neg hi]

theorem all1_imp {s : Sh} {K : DV → Prop} (h : ∀ x, K x) : all1 s K := by
  cases s <;> simp only [all1] <;> intros <;> exact h _
theorem allSh_imp : ∀ {l : List Sh} {K : List Ch → Prop}, (∀ cs, K cs) → allSh l K := by
  intro l
  induction l with
  | nil => intro K h; exact h _
  | cons s r ih =>
    intro K h
    cases s <;> simp only [allSh]
    case row k n => intro ns _; exact ih fun cs => h _
    all_goals exact all1_imp fun x => ih fun cs => h _
theorem allKS_imp : ∀ {l : List KS} {K : List SV → Prop}, (∀ vs, K vs) → allKS l K := by
  intro l
  induction l with
  | nil => intro K h; exact h _
  | cons s r ih =>
    intro K h
    cases s with
    | sc s => exact all1_imp fun x => ih fun l => h _
    | addr => intro p; exact ih fun l => h _
    | ag l => exact allSh_imp fun cs => ih fun l => h _
    | un => exact ih fun l => h _

/-- All the kept slots of an annotation at a place are written there. -/
def keepOk (keep : Keep) (as : List Nat) : Bool := keep.all fun x => as.contains x.1
def annOk (ann : Ann) (p : Nat) (as : List Nat) : Bool := match annAt ann p with | none => true | some keep => keepOk keep as
/-- An annotation fits the code. -/
def annFits (ann : Ann) : Code → Nat → Bool
  | .seq a b, p => annOk ann p (asg a) && annFits ann a (2 * p) && annFits ann b (2 * p + 1)
  | .cond _ a b, p => annFits ann a (2 * p) && annFits ann b (2 * p + 1)
  | .block _ b, p => annOk ann p (asg b) && annFits ann b (2 * p)
  | .loop b, p => annOk ann p (asg b) && annFits ann b (2 * p)
  | _, _ => true
theorem keepOk_spec {keep : Keep} {as : List Nat} (h : keepOk keep as = true) : ∀ x, x ∈ keep → x.1 ∈ as := fun x hx => by
  unfold keepOk at h
  rw [List.all_eq_true] at h
  simpa using h x hx

theorem jn_sound {ann : Ann} {p : Nat} {as : List Nat} {fr : Fr} {K : Fr → H → Prop} {body : (Fr → H → Prop) → Prop} (hok : annOk ann p as = true) (h : jn ann p as fr K body) :
    ∃ K', body K' ∧ ∀ (fr' : Fr) (h' : H), K' fr' h' → ∃ fr'', K fr'' h' ∧ (∀ tmps, FR fr' tmps → Agree as fr fr' → FR fr'' tmps) ∧ (Agree as fr fr' → Agree as fr fr'') := by
  unfold jn at h
  unfold annOk at hok
  split at h
  · exact ⟨K, h, fun fr' h' hk => ⟨fr', hk, fun _ h _ => h, fun h => h⟩⟩
  · rename_i keep hk
    rw [hk] at hok
    have hmem := keepOk_spec hok
    refine ⟨_, h (fun vs h' => K (putKeep keep vs (erase as fr)) h') (allKS_imp fun vs h' hk => hk), fun fr' h' hk' => ⟨_, hk', fun tmps hF hA => ?_, fun hA => ?_⟩⟩
    · exact FR_keep hF (FR_erase hF hA)
    · exact Agree_keep (Agree_erase as fr) hmem

theorem On.sub {s s' : List Nat} {fr0 fr : Fr} {n : Nat} {df : List Deferred} {w0 w : World} {a : Act} (h : On s fr0 n df w0 fr a w) (hs : ∀ i, i ∈ s → i ∈ s') : On s' fr0 n df w0 fr a w :=
  ⟨h.hfr, h.ag.mono hs, h.sz, h.df, h.rest⟩
theorem On.refl {s : List Nat} {fr : Fr} {a : Act} {w : World} (h : FR fr a.tmps) : On s fr a.tmps.size a.defers w fr a w := ⟨h, Agree.refl _ _, rfl, rfl, Rest.refl w⟩
/-- From one point on, seen from an earlier one. -/
theorem On.trans {s : List Nat} {fr0 fr1 fr2 : Fr} {n : Nat} {df : List Deferred} {w0 w1 w2 : World} {a1 a2 : Act} (h : On s fr0 n df w0 fr1 a1 w1) (k : On s fr1 a1.tmps.size a1.defers w1 fr2 a2 w2) : On s fr0 n df w0 fr2 a2 w2 :=
  ⟨k.hfr, h.ag.trans k.ag, by rw [k.sz, h.sz], by rw [k.df, h.df], h.rest.trans k.rest⟩

/-- From the head of a loop's round on. -/
def LoopWp (P : Program) (c : Code) (Q : Exit → Act → World → Prop) (a : Act) (w : World) : Prop :=
  ∀ (b : Frame) (k : List Item) (cs : List Frame), ∃ e a' w', Q e a' w' ∧ Arrives P (lone (b.at a (.code c :: .inLoop c :: k)) cs w) b k cs e a' w'
theorem LoopWp.loop {c : Code} {Q : Exit → Act → World → Prop} {a : Act} {w : World} (h : LoopWp P c Q a w) : (Code.loop c).wp P Q a w := fun b k cs =>
  let ⟨e, a', w', q, r⟩ := h b k cs; ⟨e, a', w', q, .of_steps (.one step_loop) r⟩
theorem LoopWp.unroll {c : Code} {Q : Exit → Act → World → Prop} {a : Act} {w : World} (h : c.wp P (Exit.then (LoopWp P c Q) Q) a w) : LoopWp P c Q a w := by
  intro b k cs
  obtain ⟨e, a₁, w₁, hq, harr⟩ := h b (.inLoop c :: k) cs
  cases e with
  | normal =>
    obtain ⟨e2, a2, w2, q2, r2⟩ := hq b k cs
    exact ⟨e2, a2, w2, q2, .of_steps (Steps.trans harr (.one step_inLoop)) r2⟩
  | exit id => exact ⟨_, a₁, w₁, hq, .pass (x := .inLoop c) rfl (fun _ _ => .inl (by simp)) harr⟩
  | goto l => exact ⟨_, a₁, w₁, hq, .pass (x := .inLoop c) rfl (fun _ _ => .inl (by simp)) harr⟩
  | ret => exact ⟨_, a₁, w₁, hq, .pass (x := .inLoop c) rfl (fun _ _ => .inl (by simp)) harr⟩
  | panic ch => exact ⟨_, a₁, w₁, hq, .pass (x := .inLoop c) rfl (fun _ _ => .inl (by simp)) harr⟩
  | outgrown => exact ⟨_, a₁, w₁, hq, .pass (x := .inLoop c) rfl (fun _ _ => .inl (by simp)) harr⟩

theorem D_sound {T : Tbl} (hT : TblOk P T) (ann : Ann) : ∀ (c : Code) (p : Nat) (Q : Cont) (fr : Fr) (a : Act) (w : World), annFits ann c p = true → (∀ d, d ∈ asg c → d < a.tmps.size) → FR fr a.tmps → D P T ann c p Q fr w.heap →
    c.wp P (Post (asg c) fr a.tmps.size a.defers w Q) a w := by
  intro c
  induction c with
  | skip => intro p Q fr a w _ _ hF h; exact wp_skip ⟨fr, On.refl hF, h⟩
  | label l => intro p Q fr a w _ _ hF h; exact wp_label ⟨fr, On.refl hF, h⟩
  | ret => intro p Q fr a w _ _ hF h; exact wp_ret ⟨fr, On.refl hF, h⟩
  | exit id => intro p Q fr a w _ _ hF h; exact wp_exit ⟨fr, On.refl hF, h⟩
  | region id ops draw =>
    intro p Q fr a w _ hs hF h
    have hQ : ∀ fr' a' w', On (asgR ops.toList) fr a.tmps.size a.defers w fr' a' w' → Q .normal fr' w'.heap → Post (asg (.region id ops draw)) fr a.tmps.size a.defers w Q .normal a' w' := fun fr' a' w' hon hq => ⟨fr', hon, hq⟩
    cases draw with
    | false =>
      simp only [D] at h
      exact wp_region_list (Dops_sound hT hs hQ ops.toList fr a w (fun _ h => h) (On.refl hF) h)
    | true =>
      simp only [D] at h
      unfold Ddraw at h
      split at h
      · rename_i hm hsel hclo
        refine wp_region_any hm (wpAny_of_G _ _ _ _ (G := Gh P ops (Region.before ops) []) ?_)
        have hd := DH_sound (P := P) (Q := Post (asg (.region id ops true)) fr a.tmps.size a.defers w Q) hT hclo hsel hs hQ (fun c a w h => h) ops.size (Array.replicate ops.size false) [] fr a { w with drawn := w.drawn + 1 } (by simp)
          ⟨hF, Agree.refl _ _, rfl, rfl, ⟨rfl, rfl, rfl⟩⟩ (fun k o _ hl => by
            by_cases hk : k < ops.size <;> simp [hk] at hl) (fun x hx => by cases hx) h
        exact hd
      · exact h.elim
  | seq x y ihx ihy =>
    intro p Q fr a w hann hs hF h
    simp only [annFits, Bool.and_eq_true] at hann
    simp only [D] at h
    obtain ⟨K', hb, hK⟩ := jn_sound hann.1.1 h
    have hsx : ∀ d, d ∈ asg x → d < a.tmps.size := fun d hd => hs d (by simp [asg, hd])
    have hsy : ∀ d, d ∈ asg y → d < a.tmps.size := fun d hd => hs d (by simp [asg, hd])
    refine wp_seq (wp_mono (ihx (2 * p) _ fr a w hann.1.2 hsx hF hb) fun e a1 w1 hp => ?_)
    cases e with
    | normal =>
      obtain ⟨fr1, hon, hq⟩ := hp
      obtain ⟨fr2, hk, h1, h2⟩ := hK fr1 _ hq
      have hF2 := h1 _ hon.hfr hon.ag
      have hA2 := h2 hon.ag
      have hon2 : On (asg x) fr a.tmps.size a.defers w fr2 a1 w1 := ⟨hF2, hA2, hon.sz, hon.df, hon.rest⟩
      refine wp_mono (ihy (2 * p + 1) Q fr2 a1 w1 hann.2 (fun d hd => by rw [hon.sz]; exact hsy d hd) hF2 hk) fun e a2 w2 hp2 => ?_
      have sub1 : ∀ i, i ∈ asg x → i ∈ asg (.seq x y) := fun i hi => by simp [asg, hi]
      have sub2 : ∀ i, i ∈ asg y → i ∈ asg (.seq x y) := fun i hi => by simp [asg, hi]
      cases e <;> first | exact hp2.elim | (obtain ⟨fr3, hon3, hq3⟩ := hp2; exact ⟨fr3, (hon2.sub sub1).trans (hon3.sub sub2), hq3⟩)
    | panic c => exact hp.elim
    | outgrown => exact hp.elim
    | _ => obtain ⟨fr1, hon, hq⟩ := hp; exact ⟨fr1, hon.sub (fun i hi => by simp [asg, hi]), hq⟩
  | cond c x y ihx ihy =>
    intro p Q fr a w hann hs hF h
    simp only [annFits, Bool.and_eq_true] at hann
    simp only [D] at h
    split at h
    · rename_i t hc
      obtain ⟨_, hv⟩ := ev_dv hF hc
      have post : ∀ s, (∀ i, i ∈ s → i ∈ asg (.cond c x y)) → ∀ e a' w', Post s fr a.tmps.size a.defers w Q e a' w' → Post (asg (.cond c x y)) fr a.tmps.size a.defers w Q e a' w' := by
        intro s hsub e a' w' hp
        cases e <;> first | exact hp.elim | (obtain ⟨fr1, hon, hq⟩ := hp; exact ⟨fr1, hon.sub hsub, hq⟩)
      cases t with
      | true =>
        refine wp_cond (t := true) hv ?_
        exact wp_mono (ihx (2 * p) Q fr a w hann.1 (fun d hd => hs d (by simp [asg, hd])) hF h) (post _ (fun i hi => by simp [asg, hi]))
      | false =>
        simp only [Bool.false_eq_true, if_false] at h
        refine wp_cond (t := false) hv ?_
        exact wp_mono (ihy (2 * p + 1) Q fr a w hann.2 (fun d hd => hs d (by simp [asg, hd])) hF h) (post _ (fun i hi => by simp [asg, hi]))
    · exact h.elim
  | block id b ih =>
    intro p Q fr a w hann hs hF h
    simp only [annFits, Bool.and_eq_true] at hann
    simp only [D] at h
    obtain ⟨K', hb, hK⟩ := jn_sound hann.1 h
    refine wp_block (wp_mono (ih (2 * p) _ fr a w hann.2 hs hF hb) fun e a1 w1 hp => ?_)
    have norm : ∀ fr1, On (asg b) fr a.tmps.size a.defers w fr1 a1 w1 → K' fr1 w1.heap → Post (asg (.block id b)) fr a.tmps.size a.defers w Q .normal a1 w1 := by
      intro fr1 hon hq
      obtain ⟨fr2, hk, h1, h2⟩ := hK fr1 _ hq
      exact ⟨fr2, ⟨h1 _ hon.hfr hon.ag, h2 hon.ag, hon.sz, hon.df, hon.rest⟩, hk⟩
    cases e with
    | normal => obtain ⟨fr1, hon, hq⟩ := hp; exact norm fr1 hon hq
    | exit j =>
      obtain ⟨fr1, hon, hq⟩ := hp
      simp only [blockQ] at hq
      show Exit.inBlock id _ (.exit j) a1 w1
      simp only [Exit.inBlock]
      cases hb : Nat.beq j id with
      | true =>
        rw [hb] at hq
        rw [if_pos (Nat.eq_of_beq_eq_true hb)]
        exact norm fr1 hon hq
      | false =>
        rw [hb] at hq
        rw [if_neg (Nat.ne_of_beq_eq_false hb)]
        exact ⟨fr1, hon, hq⟩
    | panic c => exact hp.elim
    | outgrown => exact hp.elim
    | _ => obtain ⟨fr1, hon, hq⟩ := hp; exact ⟨fr1, hon, hq⟩
  | loop b ih =>
    intro p Q fr a w hann hs hF h
    simp only [annFits, Bool.and_eq_true] at hann
    simp only [D] at h
    split at h
    · exact h.elim
    · rename_i keep hk
      have hok := hann.1
      unfold annOk at hok
      rw [hk] at hok
      have hmem := keepOk_spec hok
      have key := h (fun vs h' => ∀ (a1 : Act) (w1 : World), w1.heap = h' → On (asg b) fr a.tmps.size a.defers w (putKeep keep vs (erase (asg b) fr)) a1 w1 →
        LoopWp P b (Post (asg b) fr a.tmps.size a.defers w Q) a1 w1) (allKS_imp fun vs h' hD a1 w1 hh hon => by
          subst hh
          refine LoopWp.unroll (wp_mono (ih (2 * p) _ _ a1 w1 hann.2 (fun d hd => by rw [hon.sz]; exact hs d hd) hon.hfr hD) fun e a2 w2 hp => ?_)
          cases e with
          | normal =>
            obtain ⟨fr2, hon2, hI⟩ := hp
            have hon3 := hon.trans hon2
            exact hI a2 w2 rfl ⟨FR_keep hon3.hfr (FR_erase hon3.hfr hon3.ag), Agree_keep (Agree_erase _ _) hmem, hon3.sz, hon3.df, hon3.rest⟩
          | panic c => exact hp.elim
          | outgrown => exact hp.elim
          | _ => obtain ⟨fr2, hon2, hq⟩ := hp; exact ⟨fr2, hon.trans hon2, hq⟩)
      exact LoopWp.loop (key a w rfl ⟨FR_keep hF (FR_erase hF (Agree.refl _ _)), Agree_keep (Agree_erase _ _) hmem, rfl, rfl, Rest.refl w⟩)
  | _ => intro p Q fr a w _ _ _ h; exact h.elim

/-! ### Functions -/
def resOne (tmps : Array Value) : ResultVar → Sem Value
  | .tmp t => pure (tmps.getD t undef)
  | .cell b t => do loadVar t (← asAddr (tmps.getD b undef))
theorem results_eq (fn : Func) (tmps : Array Value) : results fn tmps = (do
    let vs ← fn.results.mapM (resOne tmps)
    pure (if h : vs.size = 1 then vs[0] else .tuple vs)) := by
  unfold results
  congr 1
theorem Dres_sound : ∀ (rs : List ResultVar) (fr : Fr) (a : Act) (w : World) (K : List DV → Prop), FR fr a.tmps → Dres P rs fr w.heap K →
    ∃ xs, (∀ x, x ∈ xs → x.ok) ∧ K xs ∧ (rs.mapM (resOne a.tmps)).run P w = .ok (xs.map DV.flat) w := by
  intro rs
  induction rs with
  | nil => intro fr a w K _ h; exact ⟨[], fun _ h => (by cases h), h, by simp⟩
  | cons r rs ih =>
    intro fr a w K hF h
    cases r with
    | tmp t =>
      simp only [Dres] at h
      split at h
      · rename_i x hx
        have hr := hF t
        rw [hx] at hr
        obtain ⟨xs, h1, h2, h3⟩ := ih fr a w _ hF h
        refine ⟨x :: xs, fun y hy => ?_, h2, ?_⟩
        · rcases List.mem_cons.1 hy with rfl | hy
          · exact hr.1
          · exact h1 y hy
        · simp only [List.mapM_cons, resOne, Sem.run_bind, Sem.run_pure, Result.andThen_ok, h3, List.map_cons, hr.2]
      · exact h.elim
    | cell b t =>
      simp only [Dres] at h
      split at h
      · rename_i p hx
        have hr := hF b
        rw [hx] at hr
        obtain ⟨x, hok, hc, hK, hrun⟩ := ldT_sound h
        obtain ⟨xs, h1, h2, h3⟩ := ih fr a w _ hF hK
        refine ⟨x :: xs, fun y hy => ?_, h2, ?_⟩
        · rcases List.mem_cons.1 hy with rfl | hy
          · exact hok
          · exact h1 y hy
        · have e : a.tmps.getD b undef = .pointer (some p) := hr.2
          have e2 : ∀ w, (asAddr (a.tmps.getD b undef)).run P w = .ok p w := fun w => by rw [e]; rfl
          simp only [List.mapM_cons, resOne, Sem.run_bind, e2, Sem.run_pure, Result.andThen_ok, hrun w hc, h3, List.map_cons]
      · exact h.elim

theorem results_run {fn : Func} {fr : Fr} {a : Act} {w : World} {K : List DV → Prop} (hF : FR fr a.tmps) (h : Dres P fn.results.toList fr w.heap K) :
    ∃ xs, (∀ x, x ∈ xs → x.ok) ∧ K xs ∧ (results fn a.tmps).run P w = .ok (resVal xs) w := by
  obtain ⟨xs, h1, h2, h3⟩ := Dres_sound (P := P) _ _ _ _ _ hF h
  refine ⟨xs, h1, h2, ?_⟩
  rw [results_eq, Array.mapM_eq_mapM_toList]
  simp only [Sem.run_bind, Sem.run_map]
  rw [h3]
  simp only [Result.andThen_ok, Sem.run_pure]
  congr 1
  unfold resVal
  match xs with
  | [] => simp
  | [x] => simp
  | x :: y :: r => simp

theorem FR_init (args : List DV) (hok : ∀ x, x ∈ args → x.ok) (tail : Array Value) : FR (initFr 0 args) ((args.map DV.flat).toArray ++ tail) := by
  have gen : ∀ (args : List DV) (i : Nat) (j : Nat), (get (initFr i args) j = .un) ∨ (∃ x, args[j - i]? = some x ∧ i ≤ j ∧ get (initFr i args) j = .dv x) := by
    intro args
    induction args with
    | nil => intro i j; left; rfl
    | cons x r ih =>
      intro i j
      simp only [initFr, get]
      cases hb : Nat.beq j i with
      | true => have := Nat.eq_of_beq_eq_true hb; subst this; right; exact ⟨x, by simp, Nat.le_refl _, rfl⟩
      | false =>
        have hne := Nat.ne_of_beq_eq_false hb
        rcases ih (i + 1) j with h | ⟨y, h1, h2, h3⟩
        · exact .inl h
        · right
          refine ⟨y, ?_, by omega, h3⟩
          rw [show j - i = (j - (i + 1)) + 1 by omega]
          simpa using h1
  intro j
  rcases gen args 0 j with h | ⟨x, h1, _, h3⟩
  · rw [h]; trivial
  · rw [h3]
    simp only [Nat.sub_zero] at h1
    obtain ⟨hlt, rfl⟩ := List.getElem?_eq_some_iff.1 h1
    refine ⟨hok _ (List.getElem_mem hlt), ?_⟩
    simp [Array.getElem?_append, hlt]

/-- What the arguments of a call must be like, so that the denotation speaks of it. -/
theorem Dbody_sound {T : Tbl} (hT : TblOk P T) {ann : Ann} {f : FuncId} {fn : Func} {args : List DV} {Q : List DV → H → Prop} {h : H} (hf : P.funcs[f]? = some fn) (hc : callable P f = true)
    (hann : (fn.body.map fun c => annFits ann c 1) = some true) (hok : ∀ x, x ∈ args → x.ok) (hD : Dbody P T ann fn args Q h) : callsV P f (args.map DV.flat) Q h := by
  refine ⟨hc, fun w hw => ?_⟩
  subst hw
  unfold Dbody at hD
  split at hD
  · rename_i c hb hle hasg
    have hle := Nat.le_of_ble_eq_true hle
    rw [hb] at hann hasg
    simp only [Option.map_some, Option.some.injEq] at hann hasg
    rw [List.all_eq_true] at hasg
    have hsize : ((args.map DV.flat).toArray ++ Array.replicate (fn.ntmps - (args.map DV.flat).toArray.size) undef).size = fn.ntmps := by simp; omega
    refine calls_of_wp hf hb (wp_mono (D_sound hT ann c 1 _ (initFr 0 args) { tmps := (args.map DV.flat).toArray ++ Array.replicate (fn.ntmps - (args.map DV.flat).toArray.size) undef, defers := [] } w hann
      (fun d hd => by rw [hsize]; exact Nat.le_of_ble_eq_true (hasg d hd)) (FR_init args hok _) hD) fun e a' w' hp => ?_)
    cases e with
    | normal =>
      obtain ⟨fr, hon, hq⟩ := hp
      obtain ⟨xs, h1, h2, h3⟩ := results_run hon.hfr hq
      exact ⟨hon.df, _, h3, xs, h1, rfl, hon.rest, h2⟩
    | ret =>
      obtain ⟨fr, hon, hq⟩ := hp
      obtain ⟨xs, h1, h2, h3⟩ := results_run hon.hfr hq
      exact ⟨hon.df, _, h3, xs, h1, rfl, hon.rest, h2⟩
    | exit _ => obtain ⟨fr, hon, hq⟩ := hp; exact hq.elim
    | goto _ => obtain ⟨fr, hon, hq⟩ := hp; exact hq.elim
    | panic _ => exact hp.elim
    | outgrown => exact hp.elim
  · exact hD.elim
end Go.Vc
end

/- Functions with their arguments and results as plain Lean values. Own work; generic over any program. -/
section
namespace Go.Vc

inductive Ty where
  | int (k : IntKind) | bool | str | addr | ptr | slc | mp | fn
  | ag (l : List Sh)

abbrev CurS : List Sh → Type → Type
  | [], R => R
  | .int _ :: r, R => Int → CurS r R
  | .bool :: r, R => Bool → CurS r R
  | .str :: r, R => ByteArray → CurS r R
  | .ptr :: r, R => Option Addr → CurS r R
  | .slc :: r, R => Option Addr → Nat → Nat → CurS r R
  | .mp :: r, R => Option Nat → CurS r R
  | .fn :: r, R => Value → CurS r R
  | .ifc :: r, R => Value → CurS r R
  | .row _ _ :: r, R => List Int → CurS r R
abbrev Cur : List Ty → Type → Type
  | [], R => R
  | .int _ :: r, R => Int → Cur r R
  | .bool :: r, R => Bool → Cur r R
  | .str :: r, R => ByteArray → Cur r R
  | .addr :: r, R => Addr → Cur r R
  | .ptr :: r, R => Option Addr → Cur r R
  | .slc :: r, R => Option Addr → Nat → Nat → Cur r R
  | .mp :: r, R => Option Nat → Cur r R
  | .fn :: r, R => Value → Cur r R
  | .ag l :: r, R => CurS l (Cur r R)

/-- A function of typed values is applied to chunks. -/
def apS : (l : List Sh) → {R : Type} → CurS l R → List Ch → (R → Prop) → Prop
  | [], _, F, [], K => K F
  | .int k :: r, _, F, .c (.int k' n) :: cs, K => match k == k' with | true => apS r (F n) cs K | false => False
  | .bool :: r, _, F, .c (.bool b) :: cs, K => apS r (F b) cs K
  | .str :: r, _, F, .c (.string b) :: cs, K => apS r (F b) cs K
  | .ptr :: r, _, F, .c (.pointer b) :: cs, K => apS r (F b) cs K
  | .slc :: r, _, F, .c (.slice p l c) :: cs, K => apS r (F p l c) cs K
  | .mp :: r, _, F, .c (.map b) :: cs, K => apS r (F b) cs K
  | .fn :: r, _, F, .c v :: cs, K => apS r (F v) cs K
  | .ifc :: r, _, F, .c v :: cs, K => apS r (F v) cs K
  | .row k n :: r, _, F, .row k' n' ns :: cs, K => match k == k', Nat.beq n n' with | true, true => apS r (F ns) cs K | _, _ => False
  | _, _, _, _, _ => False
def apP : (l : List Ty) → {R : Type} → Cur l R → List DV → (R → Prop) → Prop
  | [], _, F, [], K => K F
  | .int k :: r, _, F, .one (.int k' n) :: xs, K => match k == k' with | true => apP r (F n) xs K | false => False
  | .bool :: r, _, F, .one (.bool b) :: xs, K => apP r (F b) xs K
  | .str :: r, _, F, .one (.string b) :: xs, K => apP r (F b) xs K
  | .addr :: r, _, F, .addr p :: xs, K => apP r (F p) xs K
  | .addr :: r, _, F, .one (.pointer a) :: xs, K => ∃ p, a = some p ∧ apP r (F p) xs K
  | .ptr :: r, _, F, .addr p :: xs, K => apP r (F (some p)) xs K
  | .ptr :: r, _, F, .one (.pointer a) :: xs, K => apP r (F a) xs K
  | .slc :: r, _, F, .one (.slice p l c) :: xs, K => apP r (F p l c) xs K
  | .mp :: r, _, F, .one (.map b) :: xs, K => apP r (F b) xs K
  | .fn :: r, _, F, .one v :: xs, K => apP r (F v) xs K
  | .fn :: r, _, F, .fnv v :: xs, K => apP r (F v) xs K
  | .ag l :: r, _, F, .agg cs :: xs, K => apS l F cs fun f => apP r f xs K
  | _, _, _, _, _ => False

/-- For all typed values: the value, in chunks, and the function applied to it. -/
def alS : (l : List Sh) → {R : Type} → CurS l R → (List Ch → R → Prop) → Prop
  | [], _, F, K => K [] F
  | .int k :: r, _, F, K => ∀ n : Int, alS r (F n) fun cs => K (.c (.int k n) :: cs)
  | .bool :: r, _, F, K => ∀ b : Bool, alS r (F b) fun cs => K (.c (.bool b) :: cs)
  | .str :: r, _, F, K => ∀ b : ByteArray, alS r (F b) fun cs => K (.c (.string b) :: cs)
  | .ptr :: r, _, F, K => ∀ b : Option Addr, alS r (F b) fun cs => K (.c (.pointer b) :: cs)
  | .slc :: r, _, F, K => ∀ (p : Option Addr) (l c : Nat), alS r (F p l c) fun cs => K (.c (.slice p l c) :: cs)
  | .mp :: r, _, F, K => ∀ b : Option Nat, alS r (F b) fun cs => K (.c (.map b) :: cs)
  | .fn :: r, _, F, K => ∀ v : Value, alS r (F v) fun cs => K (.c v :: cs)
  | .ifc :: r, _, F, K => ∀ v : Value, alS r (F v) fun cs => K (.c v :: cs)
  | .row k n :: r, _, F, K => ∀ ns : List Int, alS r (F ns) fun cs => K (.row k n ns :: cs)
def alP : (l : List Ty) → {R : Type} → Cur l R → (List DV → R → Prop) → Prop
  | [], _, F, K => K [] F
  | .int k :: r, _, F, K => ∀ n : Int, alP r (F n) fun xs => K (.one (.int k n) :: xs)
  | .bool :: r, _, F, K => ∀ b : Bool, alP r (F b) fun xs => K (.one (.bool b) :: xs)
  | .str :: r, _, F, K => ∀ b : ByteArray, alP r (F b) fun xs => K (.one (.string b) :: xs)
  | .addr :: r, _, F, K => ∀ p : Addr, alP r (F p) fun xs => K (.addr p :: xs)
  | .ptr :: r, _, F, K => ∀ b : Option Addr, alP r (F b) fun xs => K (.one (.pointer b) :: xs)
  | .slc :: r, _, F, K => ∀ (p : Option Addr) (l c : Nat), alP r (F p l c) fun xs => K (.one (.slice p l c) :: xs)
  | .mp :: r, _, F, K => ∀ b : Option Nat, alP r (F b) fun xs => K (.one (.map b) :: xs)
  | .fn :: r, _, F, K => ∀ v : Value, alP r (F v) fun xs => K (.fnv v :: xs)
  | .ag l :: r, _, F, K => alS l F fun cs f => alP r f fun xs => K (.agg cs :: xs)

/-- What is to be shown of results, curried. -/
def enS : (l : List Sh) → {R : Type} → (List Ch → R) → CurS l R
  | [], _, Q => Q []
  | .int k :: r, _, Q => fun n => enS r fun cs => Q (.c (.int k n) :: cs)
  | .bool :: r, _, Q => fun n => enS r fun cs => Q (.c (.bool n) :: cs)
  | .str :: r, _, Q => fun n => enS r fun cs => Q (.c (.string n) :: cs)
  | .ptr :: r, _, Q => fun n => enS r fun cs => Q (.c (.pointer n) :: cs)
  | .slc :: r, _, Q => fun p l c => enS r fun cs => Q (.c (.slice p l c) :: cs)
  | .mp :: r, _, Q => fun n => enS r fun cs => Q (.c (.map n) :: cs)
  | .fn :: r, _, Q => fun n => enS r fun cs => Q (.c n :: cs)
  | .ifc :: r, _, Q => fun n => enS r fun cs => Q (.c n :: cs)
  | .row k m :: r, _, Q => fun ns => enS r fun cs => Q (.row k m ns :: cs)
def enR : (l : List Ty) → {R : Type} → (List DV → R) → Cur l R
  | [], _, Q => Q []
  | .int k :: r, _, Q => fun n => enR r fun xs => Q (.one (.int k n) :: xs)
  | .bool :: r, _, Q => fun n => enR r fun xs => Q (.one (.bool n) :: xs)
  | .str :: r, _, Q => fun n => enR r fun xs => Q (.one (.string n) :: xs)
  | .addr :: r, _, Q => fun n => enR r fun xs => Q (.addr n :: xs)
  | .ptr :: r, _, Q => fun n => enR r fun xs => Q (.one (.pointer n) :: xs)
  | .slc :: r, _, Q => fun p l c => enR r fun xs => Q (.one (.slice p l c) :: xs)
  | .mp :: r, _, Q => fun n => enR r fun xs => Q (.one (.map n) :: xs)
  | .fn :: r, _, Q => fun n => enR r fun xs => Q (.fnv n :: xs)
  | .ag l :: r, _, Q => enS l fun cs => enR r fun xs => Q (.agg cs :: xs)
def decR (l : List Ty) (Q : Cur l (H → Prop)) (xs : List DV) (h : H) : Prop := apP l Q xs fun f => f h

/-- A function's denotation as the table has it. -/
def W (ps rs : List Ty) (F : Cur ps (Cur rs (H → Prop) → H → Prop)) : Run := fun args Q h => apP ps F args fun f => f (enR rs Q) h

theorem apS_sound : ∀ (l : List Sh) {R : Type} (F : CurS l R) (cs : List Ch) (K : R → Prop) (K' : List Ch → R → Prop), apS l F cs K → alS l F K' → oks cs → ∃ f, K f ∧ K' cs f := by
  intro l
  induction l with
  | nil =>
    intro R F cs K K' h h' hok
    cases cs with
    | nil => exact ⟨F, h, h'⟩
    | cons _ _ => simp [apS] at h
  | cons s r ih =>
    intro R F cs K K' h h' hok
    cases cs with
    | nil => cases s <;> simp [apS] at h
    | cons c cs =>
    have hok' := (oks_cons hok).2
    cases s
    case int k =>
      cases c with
      | row _ _ _ => simp [apS] at h
      | c v =>
        cases v <;> simp only [apS] at h
        rename_i k' n
        by_cases hk : k = k'
        · subst hk
          simp only [beq_self_eq_true] at h
          exact ih (F n) cs K _ h (h' n) hok'
        · have : (k == k') = false := by simpa using hk
          simp [this] at h
    case bool => cases c with | row _ _ _ => simp [apS] at h | c v => cases v <;> simp only [apS] at h; rename_i n; exact ih (F n) cs K _ h (h' n) hok'
    case str => cases c with | row _ _ _ => simp [apS] at h | c v => cases v <;> simp only [apS] at h; rename_i n; exact ih (F n) cs K _ h (h' n) hok'
    case ptr => cases c with | row _ _ _ => simp [apS] at h | c v => cases v <;> simp only [apS] at h; rename_i n; exact ih (F n) cs K _ h (h' n) hok'
    case slc => cases c with | row _ _ _ => simp [apS] at h | c v => cases v <;> simp only [apS] at h; rename_i p l c; exact ih (F p l c) cs K _ h (h' p l c) hok'
    case mp => cases c with | row _ _ _ => simp [apS] at h | c v => cases v <;> simp only [apS] at h; rename_i n; exact ih (F n) cs K _ h (h' n) hok'
    case fn => cases c with | row _ _ _ => simp [apS] at h | c v => simp only [apS] at h; exact ih (F v) cs K _ h (h' v) hok'
    case ifc => cases c with | row _ _ _ => simp [apS] at h | c v => simp only [apS] at h; exact ih (F v) cs K _ h (h' v) hok'
    case row k n =>
      cases c with
      | c v => simp [apS] at h
      | row k' n' ns =>
        simp only [apS] at h
        split at h
        · rename_i h1 h2
          have h1 : k = k' := by simpa using h1
          have h2 := Nat.eq_of_beq_eq_true h2
          subst h1; subst h2
          exact ih (F ns) cs K _ h (h' ns) hok'
        · exact h.elim

theorem apP_sound : ∀ (l : List Ty) {R : Type} (F : Cur l R) (xs : List DV) (K : R → Prop) (K' : List DV → R → Prop), apP l F xs K → alP l F K' → (∀ x, x ∈ xs → x.ok) →
    ∃ ys f, K f ∧ K' ys f ∧ (∀ y, y ∈ ys → y.ok) ∧ ys.map DV.flat = xs.map DV.flat := by
  intro l
  induction l with
  | nil =>
    intro R F xs K K' h h' hok
    cases xs with
    | nil => exact ⟨[], F, h, h', hok, rfl⟩
    | cons _ _ => simp [apP] at h
  | cons s r ih =>
    intro R F xs K K' h h' hok
    cases xs with
    | nil => cases s <;> simp [apP] at h
    | cons x xs =>
    have hx := hok x (by simp)
    have hok' : ∀ y, y ∈ xs → y.ok := fun y hy => hok y (by simp [hy])
    have fin : ∀ (y : DV), y.ok → y.flat = x.flat → (∃ ys f, K f ∧ K' (y :: ys) f ∧ (∀ y, y ∈ ys → y.ok) ∧ ys.map DV.flat = xs.map DV.flat) →
        ∃ ys f, K f ∧ K' ys f ∧ (∀ y, y ∈ ys → y.ok) ∧ ys.map DV.flat = (x :: xs).map DV.flat := by
      rintro y hy hf ⟨ys, f, h1, h2, h3, h4⟩
      exact ⟨y :: ys, f, h1, h2, fun z hz => by rcases List.mem_cons.1 hz with rfl | hz; exact hy; exact h3 z hz, by simp [hf, h4]⟩
    cases s
    case int k =>
      cases x <;> try (simp [apP] at h; done)
      rename_i v
      cases v <;> simp only [apP] at h
      rename_i k' n
      by_cases hk : k = k'
      · subst hk
        simp only [beq_self_eq_true] at h
        exact fin _ hx rfl (ih (F n) xs K _ h (h' n) hok')
      · have : (k == k') = false := by simpa using hk
        simp [this] at h
    case bool => cases x <;> try (simp [apP] at h; done)
                 rename_i v; cases v <;> simp only [apP] at h; rename_i n; exact fin _ hx rfl (ih (F n) xs K _ h (h' n) hok')
    case str => cases x <;> try (simp [apP] at h; done)
                rename_i v; cases v <;> simp only [apP] at h; rename_i n; exact fin _ hx rfl (ih (F n) xs K _ h (h' n) hok')
    case addr =>
      cases x <;> try (simp [apP] at h; done)
      · rename_i v; cases v <;> simp only [apP] at h; obtain ⟨p, rfl, h⟩ := h; exact fin (.addr p) trivial rfl (ih (F p) xs K _ h (h' p) hok')
      · rename_i p; simp only [apP] at h; exact fin _ hx rfl (ih (F p) xs K _ h (h' p) hok')
    case ptr =>
      cases x <;> try (simp [apP] at h; done)
      · rename_i v; cases v <;> simp only [apP] at h; rename_i n; exact fin _ hx rfl (ih (F n) xs K _ h (h' n) hok')
      · rename_i p; simp only [apP] at h; exact fin (.one (.pointer (some p))) rfl rfl (ih (F (some p)) xs K _ h (h' (some p)) hok')
    case slc => cases x <;> try (simp [apP] at h; done)
                rename_i v; cases v <;> simp only [apP] at h; rename_i p l c; exact fin _ hx rfl (ih (F p l c) xs K _ h (h' p l c) hok')
    case mp => cases x <;> try (simp [apP] at h; done)
               rename_i v; cases v <;> simp only [apP] at h; rename_i n; exact fin _ hx rfl (ih (F n) xs K _ h (h' n) hok')
    case fn =>
      cases x <;> try (simp [apP] at h; done)
      · rename_i v; simp only [apP] at h; exact fin (.fnv v) hx rfl (ih (F v) xs K _ h (h' v) hok')
      · rename_i v; simp only [apP] at h; exact fin _ hx rfl (ih (F v) xs K _ h (h' v) hok')
    case ag l =>
      cases x <;> try (simp [apP] at h; done)
      rename_i cs
      simp only [apP] at h
      obtain ⟨f, h1, h2⟩ := apS_sound l F cs _ _ h h' hx
      exact fin _ hx rfl (ih f xs K _ h1 h2 hok')

theorem alS_en : ∀ (l : List Sh) {R : Type} (Q : List Ch → R) (K : List Ch → R → Prop), (∀ cs, K cs (Q cs)) → alS l (enS l Q) K := by
  intro l
  induction l with
  | nil => intro R Q K h; exact h []
  | cons s r ih => intro R Q K h; cases s <;> simp only [alS, enS] <;> intros <;> exact ih _ _ fun cs => h _
theorem alP_en : ∀ (l : List Ty) {R : Type} (Q : List DV → R) (K : List DV → R → Prop), (∀ xs, K xs (Q xs)) → alP l (enR l Q) K := by
  intro l
  induction l with
  | nil => intro R Q K h; exact h []
  | cons s r ih =>
    intro R Q K h
    cases s with
    | ag l => simp only [alP, enR]; exact alS_en l _ _ fun cs => ih _ _ fun xs => h _
    | _ => simp only [alP, enR]; intros; exact ih _ _ fun xs => h _

theorem resVal_eq (xs : List DV) : resVal xs = (match xs.map DV.flat with | [v] => v | vs => .tuple vs.toArray) := by
  match xs with
  | [] => rfl
  | [x] => rfl
  | x :: y :: r => rfl
theorem resVal_congr {xs ys : List DV} (h : xs.map DV.flat = ys.map DV.flat) : resVal xs = resVal ys := by
  rw [resVal_eq, resVal_eq, h]

variable {P : Program}
theorem callsV.mono {f : FuncId} {args : List Value} {Q Q' : List DV → H → Prop} {h : H} (hc : callsV P f args Q h)
    (hq : ∀ xs h', (∀ x, x ∈ xs → x.ok) → Q xs h' → ∃ ys, (∀ y, y ∈ ys → y.ok) ∧ ys.map DV.flat = xs.map DV.flat ∧ Q' ys h') : callsV P f args Q' h := by
  refine ⟨hc.1, fun w hw => (hc.2 w hw).mono fun e w' he => ?_⟩
  obtain ⟨xs, h1, rfl, h2, h3⟩ := he
  obtain ⟨ys, h4, h5, h6⟩ := hq xs _ h1 h3
  exact ⟨ys, h4, by rw [resVal_congr h5], h2, h6⟩

/-- A function whose denotation is printed. -/
theorem runOk_of {T : Tbl} (hT : TblOk P T) {f : FuncId} {fn : Func} {ann : Ann} {ps rs : List Ty} {F : Cur ps (Cur rs (H → Prop) → H → Prop)} (hf : P.funcs[f]? = some fn) (hc : callable P f = true)
    (hann : (fn.body.map fun c => annFits ann c 1) = some true) (hE : alP ps F fun xs g => ∀ Q h, g Q h = Dbody P T ann fn xs (decR rs Q) h) : RunOk P f (W ps rs F) := by
  intro args Q h hok hrun
  obtain ⟨ys, g, h1, h2, h3, h4⟩ := apP_sound ps F args _ _ hrun hE hok
  rw [h2] at h1
  have := Dbody_sound hT hf hc hann h3 h1
  rw [h4] at this
  refine this.mono fun xs h' hxs hd => ?_
  obtain ⟨zs, g', h5, h6, h7, h8⟩ := apP_sound rs (enR rs Q) xs (fun f => f h') (fun ys f => f = Q ys) hd (alP_en rs Q _ fun _ => rfl) hxs
  exact ⟨zs, h7, h8, by rw [← h6]; exact h5⟩

theorem TblOk.nil : TblOk P [] := fun _ _ h => by cases h
theorem TblOk.cons {T : Tbl} {f : FuncId} {r : Run} (h : RunOk P f r) (hT : TblOk P T) : TblOk P ((f, r) :: T) := fun g r' hm => by
  rcases List.mem_cons.1 hm with h' | h'
  · injection h' with h1 h2; subst h1; subst h2; exact h
  · exact hT g r' h'

end Go.Vc
end
