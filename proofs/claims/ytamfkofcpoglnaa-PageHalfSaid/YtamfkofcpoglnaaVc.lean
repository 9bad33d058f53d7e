/- A denotation of the model's code as a plain statement over heaps (a weakest precondition), which the kernel can reckon with on a given function's code. Own work; generic over any program. -/
import Derived.Tactics
import Derived.OrdersHeld
import Derived.KernelRfl
import Derived.Laws.Cells
import Derived.Laws.Bits
import Derived.Laws.Entries
set_option autoImplicit false
set_option linter.all false
namespace Go.Vc

/-! ### Heaps -/
abbrev H := Array Obj

def hc (h : H) (a : Addr) : Option Value :=
  match h[a.block]? with
  | some (.cells c _ _) => if a.spot.isSome then none else c[a.off]?
  | _ => none

def hf (h : H) (a : Addr) : Bool :=
  match h[a.block]? with
  | some (.cells _ _ (lo, hi)) => lo ≤ a.off && a.off < hi
  | _ => false

def hs (h : H) (a : Addr) (v : Value) : H :=
  h.modify a.block fun
    | .cells c elem frozen => .cells (if a.spot.isSome then c else c.setIfInBounds a.off v) elem frozen
    | o => o

theorem cell_hc (w : World) (a : Addr) : w.cell? a = hc w.heap a := rfl
theorem frozen_hf (w : World) (a : Addr) : w.frozen? a = hf w.heap a := rfl
theorem heap_hs (w : World) (a : Addr) (v : Value) : (w.setCell a v).heap = hs w.heap a v := rfl

/-- The cells from an address on hold these values. -/
def hcs (h : H) (a : Addr) (vs : List Value) : Prop := ∀ i v, vs[i]? = some v → hc h (a.add i) = some v
/-- So many cells from an address on are there, and may be written. -/
def hcan (h : H) (a : Addr) (n : Nat) : Prop := ∀ i, i < n → (hc h (a.add i)).isSome = true ∧ hf h (a.add i) = false
/-- They are written, one behind the other. -/
def hwrFrom (h : H) (a : Addr) : Nat → List Value → H
  | _, [] => h
  | i, v :: r => hwrFrom (hs h (a.add i) v) a (i + 1) r
def hwr (h : H) (a : Addr) (vs : List Value) : H := hwrFrom h a 0 vs
/-- A new block, of these cells (none of which is frozen). -/
def hnew (h : H) (b : Nat) (c : List Value) (h' : H) : Prop :=
  b = h.size ∧ ∃ t lo hi, (∀ i, i < c.length → ¬ (lo ≤ i ∧ i < hi)) ∧ h' = h.push (.cells c.toArray t (lo, hi))
/-- What a slice of so many elements of a size holds. -/
def hsv (h : H) (p : Option Addr) (sz l : Nat) (vs : List Value) : Prop :=
  vs.length = l * sz ∧ (∀ v, v ∈ vs → v.oneCell' = true) ∧ (vs = [] ∨ ∃ q, p = some q ∧ hcs h q vs)
def hwrO (h : H) (p : Option Addr) (vs : List Value) : H := match p with | some q => hwr h q vs | none => h
def bytesOf (ns : List Int) : ByteArray := ⟨(ns.map fun n => UInt8.ofNat n.toNat).toArray⟩
/-- Integers as cells. -/
def ints (k : IntKind) (ns : List Int) : List Value := ns.map (Value.int k)
def zeros (n : Nat) : List Int := List.replicate n 0
/-- The cells from an address on are these integers. -/
def hrow (h : H) (a : Addr) (k : IntKind) (ns : List Int) : Prop := hcs h a (ints k ns)

/-! ### Values -/
inductive Ch where
  | c (v : Value)
  | row (k : IntKind) (n : Nat) (ns : List Int)

inductive DV where
  | one (v : Value)
  | addr (p : Addr)
  | fnv (v : Value)
  | agg (cs : List Ch)

inductive SV where
  | un
  | nd
  | dv (x : DV)
  | tup (xs : List DV)

def Ch.flat : Ch → List Value
  | .c v => [v]
  | .row k _ ns => ints k ns
def Ch.size : Ch → Nat
  | .c _ => 1
  | .row _ n _ => n
def flats : List Ch → List Value
  | [] => []
  | c :: r => c.flat ++ flats r
def chsSize : List Ch → Nat
  | [] => 0
  | c :: r => c.size + chsSize r
def Ch.ok : Ch → Prop
  | .c v => v.oneCell' = true
  | .row _ n ns => ns.length = n
def oks (cs : List Ch) : Prop := ∀ c, c ∈ cs → c.ok

def DV.flat : DV → Value
  | .one v => v
  | .addr p => .pointer (some p)
  | .fnv v => v
  | .agg cs => .agg (flats cs).toArray
def DV.ok : DV → Prop
  | .one v => v.oneCell' = true
  | .addr _ => True
  | .fnv v => v.oneCell' = true
  | .agg cs => oks cs
/-- The chunks of a value, as they lie in memory. -/
def DV.chs : DV → List Ch
  | .agg cs => cs
  | .one v => [.c v]
  | .addr p => [.c (.pointer (some p))]
  | .fnv v => [.c v]

def SV.rel : SV → Value → Prop
  | .un, _ => True
  | .nd, v => v = undef
  | .dv x, v => x.ok ∧ v = x.flat
  | .tup xs, v => (∀ x, x ∈ xs → x.ok) ∧ v = .tuple (xs.map DV.flat).toArray

abbrev Fr := List (Nat × SV)
def get : Fr → Nat → SV
  | [], _ => .un
  | (j, v) :: r, i => match Nat.beq i j with | true => v | false => get r i
def putO (d : Option Nat) (v : SV) (fr : Fr) : Fr := match d with | some d => (d, v) :: fr | none => fr
def erase (ds : List Nat) (fr : Fr) : Fr := match ds with | [] => fr | d :: r => (d, .un) :: erase r fr

def FR (fr : Fr) (tmps : Array Value) : Prop := ∀ i, (get fr i).rel (tmps.getD i undef)

/-! ### Shapes of types -/
inductive Sh where
  | int (k : IntKind) | bool | str | ptr | slc | mp | fn | ifc
  | row (k : IntKind) (n : Nat)

def Sh.size : Sh → Nat
  | .row _ n => n
  | _ => 1
def shsSize : List Sh → Nat
  | [] => 0
  | s :: r => s.size + shsSize r

def shScalar : TypeDesc → Option Sh
  | .bool => some .bool | .int k => some (.int k) | .string => some .str | .pointer _ => some .ptr | .slice _ => some .slc
  | .map _ _ => some .mp | .func .. => some .fn | .interface _ => some .ifc
  | _ => none

/-- The shapes of a type's cells, one behind the other (a guess that is checked where it is used). -/
def shList (P : Program) : Nat → TypeId → List Sh
  | 0, _ => []
  | f + 1, t =>
    match P.underlying t with
    | some (.struct fs) => fs.toList.flatMap fun x => shList P f x.type
    | some (.array n e) => match P.underlying e with
      | some (.int k) => [.row k n]
      | _ => (List.replicate n (shList P f e)).flatten
    | some d => match shScalar d with | some s => [s] | none => []
    | none => []

inductive TSh where
  | sc (s : Sh)
  | ag (l : List Sh)

def tsh (P : Program) (t : TypeId) : Option TSh :=
  match P.underlying t with
  | some (.struct _) | some (.array _ _) => match P.info? t with
    | some i => match Nat.beq i.size (shsSize (shList P 8 t)) with | true => some (.ag (shList P 8 t)) | false => none
    | none => none
  | some d => (shScalar d).map .sc
  | none => none

/-- How many cells a type takes. -/
def szOf (P : Program) (t : TypeId) : Option Nat := (P.info? t).map (·.size)

/-- A cell of one shape is read. -/
def ld1 (h : H) (a : Addr) : Sh → (DV → Prop) → Prop
  | .int k, K => ∃ n : Int, hc h a = some (.int k n) ∧ K (.one (.int k n))
  | .bool, K => ∃ b : Bool, hc h a = some (.bool b) ∧ K (.one (.bool b))
  | .str, K => ∃ s : ByteArray, hc h a = some (.string s) ∧ K (.one (.string s))
  | .ptr, K => ∃ p : Option Addr, hc h a = some (.pointer p) ∧ K (.one (.pointer p))
  | .slc, K => ∃ (p : Option Addr) (l c : Nat), hc h a = some (.slice p l c) ∧ K (.one (.slice p l c))
  | .mp, K => ∃ r : Option Nat, hc h a = some (.map r) ∧ K (.one (.map r))
  | .fn, K => ∃ v : Value, hc h a = some v ∧ v.oneCell' = true ∧ K (.fnv v)
  | .ifc, K => ∃ v : Value, hc h a = some v ∧ v.oneCell' = true ∧ K (.fnv v)
  | .row _ _, _ => False

def ldSh (h : H) (a : Addr) : Nat → List Sh → (List Ch → Prop) → Prop
  | _, [], K => K []
  | o, .row k n :: r, K => ∃ ns : List Int, ns.length = n ∧ hrow h (a.add o) k ns ∧ ldSh h a (o + n) r fun cs => K (.row k n ns :: cs)
  | o, s :: r, K => ld1 h (a.add o) s fun x => ldSh h a (o + 1) r fun cs => K (x.chs ++ cs)

/-- A variable of type t is read. -/
def ldT (P : Program) (t : TypeId) (h : H) (a : Addr) (K : DV → Prop) : Prop :=
  match tsh P t with
  | some (.sc s) => ld1 h a s K
  | some (.ag l) => ldSh h a 0 l fun cs => K (.agg cs)
  | none => False

/-! ### Zero values -/
def veq : Value → Value → Bool
  | .int j a, .int k b => match j == k with | true => a == b | false => false
  | .bool a, .bool b => a == b
  | .string a, .string b => match a.data.toList, b.data.toList with | [], [] => true | _, _ => false
  | .pointer none, .pointer none => true
  | .slice none 0 0, .slice none 0 0 => true
  | .map none, .map none => true
  | .nilFunc, .nilFunc => true
  | .nilIface, .nilIface => true
  | _, _ => false
def vseq : List Value → List Value → Bool
  | [], [] => true
  | a :: x, b :: y => match veq a b with | true => vseq x y | false => false
  | _, _ => false

def Sh.zero : Sh → Ch
  | .int k => .c (.int k 0) | .bool => .c (.bool false) | .str => .c (.string ⟨#[]⟩) | .ptr => .c (.pointer none) | .slc => .c (.slice none 0 0)
  | .mp => .c (.map none) | .fn => .c .nilFunc | .ifc => .c .nilIface | .row k n => .row k n (zeros n)

/-- The zero value of a type, in chunks, checked against the program's own table. -/
def zeroChs (P : Program) (t : TypeId) : Option (List Ch) :=
  match (P.info? t).bind (·.zero), tsh P t with
  | some z, some (.ag l) => match vseq (flats (l.map Sh.zero)) z.cells.toList with | true => some (l.map Sh.zero) | false => none
  | some z, some (.sc s) => match vseq s.zero.flat z.cells.toList with | true => some [s.zero] | false => none
  | _, _ => none

/-! ### Parts of aggregates -/
/-- The chunks from an offset on. -/
def dropC : List Ch → Nat → Option (List Ch)
  | [], n => bif Nat.beq n 0 then some [] else none
  | c :: r, n => bif Nat.beq n 0 then some (c :: r) else bif Nat.ble c.size n then dropC r (n - c.size) else none
/-- The first chunks, so many cells. -/
def takeC : List Ch → Nat → Option (List Ch)
  | [], n => bif Nat.beq n 0 then some [] else none
  | c :: r, n => bif Nat.beq n 0 then some [] else bif Nat.ble c.size n then (takeC r (n - c.size)).map (c :: ·) else none
def partC (cs : List Ch) (off size : Nat) : Option (List Ch) := (dropC cs off).bind (takeC · size)
/-- Chunks put in the place of others, from an offset on. -/
def putC (cs : List Ch) (off : Nat) (xs : List Ch) : Option (List Ch) :=
  (takeC cs off).bind fun a => (dropC cs (off + chsSize xs)).map fun b => a ++ xs ++ b
/-- One integer of a row put anew. -/
def putRow (cs : List Ch) (i : Nat) (x : List Ch) : Option (List Ch) :=
  match cs, x with
  | [.row k n ns], [.c (.int k' v)] => match k == k', Nat.blt i n with | true, true => some [.row k n (ns.set i v)] | _, _ => none
  | _, _ => none

/-! ### Operands, guards -/
def constSV : Value → SV
  | .agg _ => .un
  | .tuple _ => .un
  | v => .dv (.one v)
def ev (fr : Fr) : Operand → SV
  | .tmp t => get fr t
  | .const v => constSV v
  | .global g => .dv (.addr ⟨g, 0, none⟩)
  | .func f => .dv (.one (.func (.func f) #[] #[]))

/-! ### Operations that touch no memory -/
/-- A field held against another one. -/
def fieldEq (P : Program) (t : TypeId) (x y : Ch) : Option Bool :=
  match x, y with
  | .c (.int k a), .c (.int k' b) => match k == k', P.underlying t with | true, some (.int _) => some (a == b) | _, _ => none
  | .c (.bool a), .c (.bool b) => match P.underlying t with | some .bool => some (a == b) | _ => none
  | .c (.string a), .c (.string b) => match P.underlying t with | some .string => some (a.toList == b.toList) | _ => none
  | .row k n a, .row k' n' b => match P.underlying t, szOf P t with
    | some (.array m e), some sz => match P.underlying e, szOf P e, k == k', Nat.beq n m && Nat.beq n' m && Nat.beq sz m with
      | some (.int _), some 1, true, true => some (a == b)
      | _, _, _, _ => none
    | _, _ => none
  | _, _ => none
/-- Structs held against each other, field by field, one chunk a field. -/
def structEq (P : Program) : Nat → List Field → List Ch → List Ch → Option Bool
  | _, [], [], [] => some true
  | off, f :: fs, x :: xs, y :: ys => match f.name == "_", Nat.beq f.offset off, fieldEq P f.type x y with
    | false, true, some b => (structEq P (off + x.size) fs xs ys).map (b && ·)
    | _, _, _ => none
  | _, _, _, _ => none
def aggEq (P : Program) (t : TypeId) (xs ys : List Ch) : Option Bool :=
  match P.eqGuardType P.depth t, P.underlying t with
  | false, some (.array _ _) => match xs, ys with
    | [x], [y] => fieldEq P t x y
    | _, _ => none
  | false, some (.struct fs) => match P.stoodInHeld t with
    | false => structEq P 0 fs.toList xs ys
    | true => none
  | _, _ => none

def isIfc : Value → Bool
  | .nilIface => true
  | .iface _ _ => true
  | _ => false
def isNilI : Value → Bool
  | .nilIface => true
  | _ => false

/-- Comparing, in such a form that the kernel stops at a variable, and never reckons with a great number for nothing. -/
def signs (a b : Int) (x : Bool) : Bool := match a with
  | .ofNat _ => (match b with | .ofNat _ => x | .negSucc _ => x)
  | .negSucc _ => (match b with | .ofNat _ => x | .negSucc _ => x)
def ltI (a b : Int) : Bool := signs a b (decide (a < b))
def leI (a b : Int) : Bool := signs a b (decide (a ≤ b))
@[simp] theorem ltI_eq (a b : Int) : ltI a b = decide (a < b) := by cases a <;> cases b <;> rfl
@[simp] theorem leI_eq (a b : Int) : leI a b = decide (a ≤ b) := by cases a <;> cases b <;> rfl
def isConstO : Operand → Bool
  | .const _ => true
  | _ => false
def Dbin (P : Program) (op : BinOp) (t : TypeId) (x y : DV) (yc : Bool) (K : SV → Prop) : Prop :=
  match x, y with
  | .one (.int k a), .one (.int k' b) =>
    match op with
    | .shl => 0 ≤ b ∧ K (.dv (.one (.int k (k.wrap (a * 2 ^ (min b.toNat k.bits))))))
    | .shr => 0 ≤ b ∧ K (.dv (.one (.int k (a.fdiv (2 ^ (min b.toNat k.bits))))))
    | _ => match k == k' with
      | false => False
      | true => match op with
        | .add => K (.dv (.one (.int k (k.wrap (a + b)))))
        | .sub => K (.dv (.one (.int k (k.wrap (a - b)))))
        | .mul => K (.dv (.one (.int k (k.wrap (a * b)))))
        | .quo => b ≠ 0 ∧ K (.dv (.one (.int k (k.wrap (a.tdiv b)))))
        | .rem => b ≠ 0 ∧ K (.dv (.one (.int k (a.tmod b))))
        | .and => K (.dv (.one (.int k (bits .and k a b))))
        | .or => K (.dv (.one (.int k (bits .or k a b))))
        | .xor => K (.dv (.one (.int k (bits .xor k a b))))
        | .andNot => K (.dv (.one (.int k (bits .andNot k a b))))
        | .eql => K (.dv (.one (.bool (a == b))))
        | .neq => K (.dv (.one (.bool (a != b))))
        | .lss => K (.dv (.one (.bool (ltI a b))))
        | .leq => K (.dv (.one (.bool (leI a b))))
        | .gtr => K (.dv (.one (.bool (ltI b a))))
        | .geq => K (.dv (.one (.bool (leI b a))))
        | _ => False
  | .one (.bool a), .one (.bool b) => match P.underlying t, op with
    | some .bool, .eql => K (.dv (.one (.bool (a == b))))
    | some .bool, .neq => K (.dv (.one (.bool (!(a == b)))))
    | _, _ => False
  | .one (.string a), .one (.string b) => match op with
    | .eql => K (.dv (.one (.bool (a.toList == b.toList))))
    | .neq => K (.dv (.one (.bool (!(a.toList == b.toList)))))
    | .add => ((a.size + b.size : Nat) : Int) ≤ IntKind.i64.max ∧ K (.dv (.one (.string (a ++ b))))
    | _ => False
  | .one (.pointer a), .one (.pointer none) => match P.underlying t, op with
    | some (.pointer _), .eql => K (.dv (.one (.bool a.isNone)))
    | some (.pointer _), .neq => K (.dv (.one (.bool (!a.isNone))))
    | _, _ => False
  | .addr _, .one (.pointer none) => match P.underlying t, op with
    | some (.pointer _), .eql => K (.dv (.one (.bool false)))
    | some (.pointer _), .neq => K (.dv (.one (.bool true)))
    | _, _ => False
  | .one (.slice a _ _), .one (.slice none 0 0) => match P.underlying t, op with
    | some (.slice _), .eql => K (.dv (.one (.bool a.isNone)))
    | some (.slice _), .neq => K (.dv (.one (.bool (!a.isNone))))
    | _, _ => False
  | .fnv v, .one .nilIface => match yc, P.underlying t, op with
    | true, some (.interface _), .eql => isIfc v = true ∧ K (.dv (.one (.bool (isNilI v))))
    | true, some (.interface _), .neq => isIfc v = true ∧ K (.dv (.one (.bool (!isNilI v))))
    | _, _, _ => False
  | .agg xs, .agg ys => match op with
    | .eql => match aggEq P t xs ys with | some b => K (.dv (.one (.bool b))) | none => False
    | .neq => match aggEq P t xs ys with | some b => K (.dv (.one (.bool (!b)))) | none => False
    | _ => False
  | _, _ => False

def Dun (op : UnOp) (x : DV) (K : SV → Prop) : Prop :=
  match op, x with
  | .not, .one (.bool b) => K (.dv (.one (.bool (!b))))
  | .neg, .one (.int k n) => K (.dv (.one (.int k (k.wrap (0 - n)))))
  | .xor, .one (.int k n) => K (.dv (.one (.int k (bits .xor k (if k.signed then -1 else k.max) n))))
  | _, _ => False

/-- An index or a bound: an integer within. -/
def asI : SV → Option Int
  | .dv (.one (.int _ i)) => some i
  | _ => none

def opI (fr : Fr) : Option Operand → Option (Option Int)
  | none => some none
  | some x => (asI (ev fr x)).map some

/-- x[lo:hi:max] of something so long, with so much room. -/
def Dbounds (lo hi mx : Option Int) (len cap : Nat) (K : Nat → Nat → Nat → Prop) : Prop :=
  match lo, hi, mx with
  | none, none, none => K 0 len cap
  | some l, none, none => 0 ≤ l ∧ l ≤ (len : Int) ∧ K l.toNat len cap
  | none, some h, none => 0 ≤ h ∧ h ≤ (cap : Int) ∧ K 0 h.toNat cap
  | some l, some h, none => 0 ≤ l ∧ l ≤ h ∧ h ≤ (cap : Int) ∧ K l.toNat h.toNat cap
  | some l, some h, some m => 0 ≤ l ∧ l ≤ h ∧ h ≤ m ∧ m ≤ (cap : Int) ∧ K l.toNat h.toNat m.toNat
  | none, some h, some m => 0 ≤ h ∧ h ≤ m ∧ m ≤ (cap : Int) ∧ K 0 h.toNat m.toNat
  | _, _, _ => False

/-- The address at which a slice of a slice begins. -/
def subAddr (p : Option Addr) (l m size : Nat) : Option Addr := if m = l then p else p.map (·.add (l * size))

def Dslice (P : Program) (t : TypeId) (x : SV) (lo hi mx : Option Int) (K : SV → Prop) : Prop :=
  match P.underlying t, x with
  | some (.slice e), .dv (.one (.slice p l c)) => match szOf P e with
    | some sz => Dbounds lo hi mx l c fun a b m => K (.dv (.one (.slice (subAddr p a m sz) (b - a) (m - a))))
    | none => False
  | some (.array n e), .dv (.addr p) => match szOf P e with
    | some sz => Dbounds lo hi mx n n fun a b m => K (.dv (.one (.slice (subAddr (some p) a m sz) (b - a) (m - a))))
    | none => False
  | some .string, .dv (.one (.string s)) => match mx with
    | none => Dbounds lo hi none s.size s.size fun a b _ => K (.dv (.one (.string (s.extract a b))))
    | some _ => False
  | _, _ => False

def DindexAddr (P : Program) (t : TypeId) (x : SV) (i : Option Int) (K : SV → Prop) : Prop :=
  match P.underlying t, x, i with
  | some (.slice e), .dv (.one (.slice p l _)), some i => match szOf P e with
    | some sz => ∃ q, p = some q ∧ 0 ≤ i ∧ i < (l : Int) ∧ K (.dv (.addr (q.add (i.toNat * sz))))
    | none => False
  | some (.array n e), .dv (.addr q), some i => match szOf P e with
    | some sz => 0 ≤ i ∧ i < (n : Int) ∧ K (.dv (.addr (q.add (i.toNat * sz))))
    | none => False
  | _, _, _ => False

def Dindex (P : Program) (t : TypeId) (x : SV) (i : Option Int) (K : SV → Prop) : Prop :=
  match P.underlying t, x, i with
  | some (.array n e), .dv (.agg [.row k m ns]), some i => match P.underlying e, szOf P e, Nat.beq n m with
    | some (.int _), some 1, true => 0 ≤ i ∧ i < (n : Int) ∧ K (.dv (.one (.int k (ns.getD i.toNat 0))))
    | _, _, _ => False
  | some .string, .dv (.one (.string s)), some i => 0 ≤ i ∧ i < (s.size : Int) ∧ K (.dv (.one (.int .u8 ((s.data.toList.getD i.toNat 0).toNat : Int))))
  | _, _, _ => False

/-- A value made of chunks, of a type. -/
def ofChs (P : Program) (t : TypeId) (cs : List Ch) : Option DV :=
  match tsh P t, cs with
  | some (.ag _), cs => some (.agg cs)
  | some (.sc .fn), [.c v] => some (.fnv v)
  | some (.sc .ifc), [.c v] => some (.fnv v)
  | some (.sc (.row _ _)), _ => none
  | some (.sc _), [.c v] => some (.one v)
  | _, _ => none

def Dfield (P : Program) (t : TypeId) (x : SV) (f : Nat) (K : SV → Prop) : Prop :=
  match P.underlying t, x with
  | some (.struct fs), .dv (.agg cs) => match fs[f]? with
    | some fd => match szOf P fd.type with
      | some n => match (partC cs fd.offset n).bind (ofChs P fd.type) with
        | some d => K (.dv d)
        | none => False
      | none => False
    | none => False
  | _, _ => False

def DfieldAddr (P : Program) (t : TypeId) (x : SV) (f : Nat) (K : SV → Prop) : Prop :=
  match P.underlying t, x with
  | some (.struct fs), .dv (.addr p) => match fs[f]? with
    | some fd => match szOf P fd.type with
      | some (_ + 1) => K (.dv (.addr (p.add fd.offset)))
      | _ => False
    | none => False
  | _, _ => False

/-- A composite literal's parts laid into chunks. -/
def fillC (place : Nat → Option (Nat × Nat)) (isRow : Bool) : List (Nat × SV) → List Ch → Option (List Ch)
  | [], cs => some cs
  | (i, .dv x) :: r, cs => match place i with
    | some (off, sz) => match Nat.beq (chsSize x.chs) sz, isRow with
      | true, true => (match Nat.beq sz 1 with | true => (putRow cs off x.chs).bind (fillC place isRow r) | false => none)
      | true, false => (putC cs off x.chs).bind (fillC place isRow r)
      | false, _ => none
    | none => none
  | _, _ => none
/-- Is a type an array of integers of one cell each? -/
def isRowT (P : Program) (t : TypeId) : Bool :=
  match P.underlying t with
  | some (.array _ e) => match P.underlying e, szOf P e with | some (.int _), some 1 => true | _, _ => false
  | _ => false
def Dbuild (P : Program) (t : TypeId) (parts : List (Nat × SV)) (K : SV → Prop) : Prop :=
  match P.underlying t, zeroChs P t with
  | some (.struct fs), some z => match fs.toList.mapM (fun f => (P.info? f.type).map fun i => (f.offset, i.size)) with
    | some pl => match fillC (fun i => pl[i]?) false parts z with | some cs => K (.dv (.agg cs)) | none => False
    | none => False
  | some (.array _ e), some z => match P.info? e with
    | some ie => match fillC (fun i => some (i * ie.size, ie.size)) (isRowT P t) parts z with | some cs => K (.dv (.agg cs)) | none => False
    | none => False
  | _, _ => False

def DV.val1 : DV → Option Value
  | .one v => some v
  | .addr p => some (.pointer (some p))
  | .fnv v => some v
  | .agg _ => none
def vals1 : List SV → Option (List Value)
  | [] => some []
  | .dv x :: r => x.val1.bind fun v => (vals1 r).map (v :: ·)
  | _ => none

def Dbi (P : Program) (b : Builtin) (argTypes : List TypeId) (args : List SV) (K : SV → Prop) : Prop :=
  match b, argTypes, args with
  | .len, [t], [.dv (.one (.slice _ l _))] => match P.underlying t with | some (.slice _) => K (.dv (.one (.int .i64 l))) | _ => False
  | .len, [t], [.dv (.one (.string s))] => match P.underlying t with | some .string => K (.dv (.one (.int .i64 s.size))) | _ => False
  | .len, [t], [_] => match P.underlying t with | some (.array n _) => K (.dv (.one (.int .i64 n))) | _ => False
  | .cap, [t], [.dv (.one (.slice _ _ c))] => match P.underlying t with | some (.slice _) => K (.dv (.one (.int .i64 c))) | _ => False
  | .max, _, [.dv (.one (.int k x)), .dv (.one (.int _ y))] => K (.dv (.one (.int k (if y > x then y else x))))
  | .min, _, [.dv (.one (.int k x)), .dv (.one (.int _ y))] => K (.dv (.one (.int k (if y < x then y else x))))
  | _, _, _ => False

def Dconv (P : Program) (src dst : TypeId) (x : SV) (K : SV → Prop) : Prop :=
  match P.underlying src, P.underlying dst, x with
  | some _, some (.int k), .dv (.one (.int _ n)) => K (.dv (.one (.int k (k.wrap n))))
  | some _, some .string, .dv (.one (.string s)) => K (.dv (.one (.string s)))
  | _, _, _ => False

/-- Is it an operation of this kind? (A conversion may look into memory.) -/
def isPure (P : Program) : Op → Bool
  | .move _ | .assign _ | .pick .. | .nilCheck _ | .binOp .. | .unOp .. | .fieldAddr .. | .field .. | .indexAddr .. | .index .. | .extract .. | .slice .. | .build ..
  | .makeFunc .. | .makeInterface .. => true
  | .convert s d _ => match P.underlying s, P.underlying d with
    | some (.int _), some (.int _) => true
    | some .string, some .string => true
    | _, _ => false
  | .call { callee := .builtin .len, argTypes, .. } => match argTypes.toList with
    | [t] => match P.underlying t with | some (.map _ _) => false | some (.chan _ _) => false | _ => true
    | _ => false
  | .call { callee := .builtin .cap, .. } | .call { callee := .builtin .max, .. } | .call { callee := .builtin .min, .. } => true
  | _ => false

/-- A great constant is a variable that equals it: the kernel must not count up to it. -/
def evB (fr : Fr) (o : Operand) (K : SV → Prop) : Prop :=
  match o with
  | .const (.int k n) => match Nat.ble n.natAbs 16777216 with
    | true => K (.dv (.one (.int k n)))
    | false => ∀ c : Int, c = n → K (.dv (.one (.int k c)))
  | o => K (ev fr o)
theorem evB_ev {fr : Fr} {o : Operand} {K : SV → Prop} (h : evB fr o K) : K (ev fr o) := by
  unfold evB at h
  split at h
  · split at h
    · exact h
    · exact h _ rfl
  · exact h
def Dbin2 (P : Program) (op : BinOp) (t : TypeId) (x y : SV) (yc : Bool) (K : SV → Prop) : Prop :=
  match x, y with | .dv a, .dv b => Dbin P op t a b yc K | _, _ => False
def Dpure (P : Program) (o : Op) (fr : Fr) (K : SV → Prop) : Prop :=
  match o with
  | .move x => K (ev fr x)
  | .assign x => K (ev fr x)
  | .pick c a b => match ev fr c with | .dv (.one (.bool t)) => if t = true then K (ev fr a) else K (ev fr b) | _ => False
  | .nilCheck x => match ev fr x with
    | .dv (.addr p) => K (.dv (.addr p))
    | .dv (.one (.pointer a)) => ∃ p, a = some p ∧ K (.dv (.addr p))
    | .dv (.one (.func (.func f) a c)) => K (.dv (.one (.func (.func f) a c)))
    | _ => False
  | .binOp op t x y _ => evB fr x fun x' => evB fr y fun y' => Dbin2 P op t x' y' (isConstO y) K
  | .unOp op _ x => match ev fr x with | .dv a => Dun op a K | _ => False
  | .convert s d x => Dconv P s d (ev fr x) K
  | .fieldAddr t x f => DfieldAddr P t (ev fr x) f K
  | .field t x f => Dfield P t (ev fr x) f K
  | .indexAddr t x i => DindexAddr P t (ev fr x) (asI (ev fr i)) K
  | .index t x i => Dindex P t (ev fr x) (asI (ev fr i)) K
  | .extract x i => match ev fr x with | .tup xs => (match xs[i]? with | some d => K (.dv d) | none => False) | _ => False
  | .slice t x lo hi mx => match opI fr lo, opI fr hi, opI fr mx with
    | some lo, some hi, some mx => Dslice P t (ev fr x) lo hi mx K
    | _, _, _ => False
  | .build t parts => Dbuild P t (parts.toList.map fun (i, x) => (i, ev fr x)) K
  | .makeFunc fn first cap => match vals1 (first.toList.map (ev fr)), vals1 (cap.toList.map (ev fr)) with
    | some a, some c => K (.dv (.one (.func fn a.toArray c.toArray)))
    | _, _ => False
  | .makeInterface t x => match P.underlying t, ev fr x with
    | some (.interface _), _ => False
    | some _, .dv d => K (.dv (.fnv (.iface t d.flat)))
    | _, _ => False
  | .call { callee := .builtin b, args, argTypes } => Dbi P b argTypes.toList (args.toList.map (ev fr)) K
  | _ => False

/-! ### What the outside world keeps -/
def Rest (w w' : World) : Prop := w'.tape = w.tape ∧ w'.os = w.os ∧ w'.output = w.output

/-! ### Calls -/
def callable (P : Program) (f : FuncId) : Bool :=
  match P.funcs[f]? with
  | some fn => !(fn.name == "runtime.NumGoroutine") && fn.body.isSome
  | none => false
def resVal : List DV → Value
  | [x] => x.flat
  | xs => .tuple (xs.map DV.flat).toArray
def toSV : List DV → SV
  | [x] => .dv x
  | xs => .tup xs
/-- Called in whatever world of this heap the function answers so. -/
def callsV (P : Program) (f : FuncId) (args : List Value) (Q : List DV → H → Prop) (h : H) : Prop :=
  callable P f = true ∧ ∀ w : World, w.heap = h → Calls P f args.toArray w fun e w' => ∃ xs, (∀ x, x ∈ xs → x.ok) ∧ e = .returned (resVal xs) ∧ Rest w w' ∧ Q xs w'.heap
abbrev Run := List DV → (List DV → H → Prop) → H → Prop
abbrev Tbl := List (Nat × Run)
def RunOk (P : Program) (f : FuncId) (run : Run) : Prop := ∀ args Q h, (∀ x, x ∈ args → x.ok) → run args Q h → callsV P f (args.map DV.flat) Q h
def TblOk (P : Program) (T : Tbl) : Prop := ∀ f run, (f, run) ∈ T → RunOk P f run
def lookupT : Tbl → Nat → Option Run
  | [], _ => none
  | (g, r) :: T, f => match Nat.beq f g with | true => some r | false => lookupT T f
/-- A function value is called. -/
def callFn (P : Program) (v : Value) (args : List DV) (Q : List DV → H → Prop) (h : H) : Prop :=
  ∃ f a c, v = .func (.func f) a c ∧ callsV P f (a.toList ++ args.map DV.flat ++ c.toList) Q h
def toDV : Value → DV
  | .pointer (some p) => .addr p
  | v => .one v
def dvs : List SV → Option (List DV)
  | [] => some []
  | .dv x :: r => (dvs r).map (x :: ·)
  | _ => none

/-- One result, or a kept value, is of a shape. -/
def isSh : Sh → DV → (DV → Prop) → Prop
  | .int k, x, K => ∃ n : Int, x = .one (.int k n) ∧ K (.one (.int k n))
  | .bool, x, K => ∃ b : Bool, x = .one (.bool b) ∧ K (.one (.bool b))
  | .str, x, K => ∃ s : ByteArray, x = .one (.string s) ∧ K (.one (.string s))
  | .ptr, x, K => ∃ p : Option Addr, x = .one (.pointer p) ∧ K (.one (.pointer p))
  | .slc, x, K => ∃ (p : Option Addr) (l c : Nat), x = .one (.slice p l c) ∧ K (.one (.slice p l c))
  | .mp, x, K => ∃ r : Option Nat, x = .one (.map r) ∧ K (.one (.map r))
  | .fn, x, K => ∃ v : Value, x = .fnv v ∧ K (.fnv v)
  | .ifc, x, K => ∃ v : Value, x = .fnv v ∧ K (.fnv v)
  | .row _ _, _, _ => False
def tyRes : List TSh → List DV → (List DV → Prop) → Prop
  | [], rs, K => rs = [] ∧ K []
  | .sc s :: r, rs, K => ∃ x rest, rs = x :: rest ∧ isSh s x fun x => tyRes r rest fun l => K (x :: l)
  | .ag _ :: _, _, _ => False
def resShs (P : Program) (t : TypeId) : Option (List TSh) :=
  match P.underlying t with
  | some (.tuple ts) => ts.toList.mapM (tsh P)
  | _ => (tsh P t).map ([·])

/-! ### Operations on memory -/
def pApp (h : H) (sz : Nat) (zero : List Value) (bytes : Nat) (p : Option Addr) (l c n : Nat) (vs : List Value) (K : Option Addr → Nat → Nat → H → Prop) : Prop :=
  if l + n ≤ c then
    (vs = [] ∨ ∃ a, p = some a ∧ hcan h (a.add (l * sz)) (n * sz)) ∧ ∀ h', h' = hwrO h (p.map (·.add (l * sz))) vs → K p (l + n) c h'
  else (l + n) * bytes ≤ 2 ^ 47 ∧ ∃ old, hsv h p sz l old ∧
    ∀ c' b h', l + n ≤ c' → hnew h b (old ++ vs ++ (List.replicate (c' - (l + n)) zero).flatten) h' → K (some ⟨b, 0, none⟩) (l + n) c' h'

/-- What append or copy takes from: a slice's cells, or a string's bytes. -/
def srcOf (h : H) (sz : Nat) (x : SV) (K : Nat → List Value → Prop) : Prop :=
  match x with
  | .dv (.one (.slice q n _)) => ∃ vs, hsv h q sz n vs ∧ K n vs
  | .dv (.one (.string s)) => match Nat.beq sz 1 with | true => K s.size (s.data.toList.map fun b => .int .u8 b.toNat) | false => False
  | _ => False

def isSrcT (P : Program) (t : TypeId) : Bool :=
  match P.underlying t with | some (.slice _) => true | some .string => true | _ => false

def Dappend (P : Program) (argTypes : List TypeId) (args : List SV) (K : SV → H → Prop) (h : H) : Prop :=
  match argTypes, args with
  | [st, xt], [.dv (.one (.slice p l c)), x] => match P.underlying st, isSrcT P xt with
    | some (.slice e), true => match szOf P e, (P.info? e).map TypeInfo.bytes, zeroChs P e with
      | some sz, some (bytes + 1), some z => srcOf h sz x fun n vs => pApp h sz (flats z) (bytes + 1) p l c n vs fun p' l' c' h' => K (.dv (.one (.slice p' l' c'))) h'
      | _, _, _ => False
    | _, _ => False
  | _, _ => False

def takeSrc (n sz : Nat) (vs : List Value) : List Value := vs.take (n * sz)
def Dcopy (P : Program) (argTypes : List TypeId) (args : List SV) (K : SV → H → Prop) (h : H) : Prop :=
  match argTypes, args with
  | st :: _, [.dv (.one (.slice p l _)), .dv (.one (.slice q n _))] => match P.underlying st with
    | some (.slice e) => match szOf P e with
      | some sz => ∃ vs, hsv h q sz (Nat.min n l) vs ∧ (vs = [] ∨ ∃ a, p = some a ∧ hcan h a (Nat.min n l * sz)) ∧
          ∀ h', h' = hwrO h p vs → K (.dv (.one (.int .i64 (Nat.min n l : Nat)))) h'
      | none => False
    | _ => False
  | _, _ => False

def setParts (sz : Nat) : List (Nat × SV) → List (List Ch) → Option (List (List Ch))
  | [], l => some l
  | (i, .dv x) :: r, l => match Nat.beq (chsSize x.chs) sz, Nat.blt i l.length with
    | true, true => setParts sz r (l.set i x.chs)
    | _, _ => none
  | _, _ => none

def Dcall (P : Program) (T : Tbl) (ty : TypeId) (f : SV) (args : Option (List DV)) (K : SV → H → Prop) (h : H) : Prop :=
  match f, args with
  | .dv (.one (.func (.func g) a c)), some xs => match lookupT T g, (a.toList ++ c.toList).all (fun v => v.oneCell') with
    | some run, true => run (a.toList.map toDV ++ xs ++ c.toList.map toDV) (fun rs h' => K (toSV rs) h') h
    | _, _ => False
  | .dv (.fnv v), some xs => match resShs P ty with
    | some shs => callFn P v xs (fun rs h' => tyRes shs rs fun rs => K (toSV rs) h') h
    | none => False
  | _, _ => False

def Dmem (P : Program) (T : Tbl) (o : Oper) (fr : Fr) (K : SV → H → Prop) (h : H) : Prop :=
  match o.op with
  | .alloc t => match zeroChs P t with
    | some cs => ∀ b h', hnew h b (flats cs) h' → K (.dv (.addr ⟨b, 0, none⟩)) h'
    | none => False
  | .box _ x => match ev fr x with
    | .dv d => ∀ b h', hnew h b (flats d.chs) h' → K (.dv (.addr ⟨b, 0, none⟩)) h'
    | _ => False
  | .buildSlice t n parts => match P.underlying t with
    | some (.slice e) => match szOf P e, zeroChs P e with
      | some sz, some z => match Nat.ble (n * sz) 16777216 && Nat.beq (chsSize z) sz, setParts sz (parts.toList.map fun (i, x) => (i, ev fr x)) (List.replicate n z) with
        | true, some l => ∀ b h', hnew h b (flats l.flatten) h' → K (.dv (.one (.slice (some ⟨b, 0, none⟩) n n))) h'
        | _, _ => False
      | _, _ => False
    | _ => False
  | .makeSlice t l c => match P.underlying t, asI (ev fr l), asI (ev fr c) with
    | some (.slice e), some l, some c => match (szOf P e).bind (fun sz => (zeroChs P e).map fun z => Nat.beq (chsSize z) sz), (P.info? e).map TypeInfo.bytes, zeroChs P e with
      | some true, some bytes, some z => 0 ≤ l ∧ l ≤ c ∧ (bytes : Int) * c ≤ 2 ^ 48 ∧ c ≤ 2 ^ 48 ∧
          ∀ b h', hnew h b (List.replicate c.toNat (flats z)).flatten h' → K (.dv (.one (.slice (some ⟨b, 0, none⟩) l.toNat c.toNat))) h'
      | _, _, _ => False
    | _, _, _ => False
  | .load t a => match ev fr a with
    | .dv (.addr p) => ldT P t h p fun d => K (.dv d) h
    | _ => False
  | .store t a x => match ev fr a, ev fr x with
    | .dv (.addr p), .dv d => match szOf P t with
      | some sz => match Nat.beq (chsSize d.chs) sz with
        | true => hcan h p sz ∧ ∀ h', h' = hwr h p (flats d.chs) → K .nd h'
        | false => False
      | none => False
    | _, _ => False
  | .convert s d x => match P.underlying s, P.underlying d, ev fr x with
    | some (.slice e), some .string, .dv (.one (.slice p l _)) => match P.underlying e with
      | some (.int .u8) => ∃ ns : List Int, hsv h p 1 l (ints .u8 ns) ∧ K (.dv (.one (.string (bytesOf ns)))) h
      | _ => False
    | _, _, _ => False
  | .call c => match c.callee with
    | .value f => Dcall P T o.type (ev fr f) (dvs (c.args.toList.map (ev fr))) K h
    | .builtin .append => Dappend P c.argTypes.toList (c.args.toList.map (ev fr)) K h
    | .builtin .copy => Dcopy P c.argTypes.toList (c.args.toList.map (ev fr)) K h
    | _ => False
  | _ => False

def Dop (P : Program) (T : Tbl) (o : Oper) (fr : Fr) (K : SV → H → Prop) (h : H) : Prop :=
  match isPure P o.op with
  | true => Dpure P o.op fr fun x => K x h
  | false => Dmem P T o fr K h

/-! ### Guards; a region that keeps its order -/
def dstOf (ops : List Oper) (j : Nat) : Option Nat :=
  match ops, j with
  | [], _ => none
  | o :: _, 0 => o.dst
  | _ :: r, j + 1 => dstOf r j
def guardD (ops : List Oper) (g : Option (Nat × Bool)) (fr : Fr) (yes no : Fr → Prop) : Prop :=
  match g with
  | none => yes fr
  | some (j, want) => match dstOf ops j with
    | none => False
    | some d => match get fr d with
      | .nd => no fr
      | .dv (.one (.bool b)) =>
        if b = true then (match want with | true => yes ((d, .dv (.one (.bool true))) :: fr) | false => no ((d, .dv (.one (.bool true))) :: fr))
        else (match want with | true => no ((d, .dv (.one (.bool false))) :: fr) | false => yes ((d, .dv (.one (.bool false))) :: fr))
      | _ => False

def Dops (P : Program) (T : Tbl) (all : List Oper) : List Oper → (Fr → H → Prop) → Fr → H → Prop
  | [], K, fr, h => K fr h
  | o :: r, K, fr, h => guardD all o.guard fr
      (fun fr => Dop P T o fr (fun x h' => Dops P T all r K (putO o.dst x fr) h') h)
      (fun fr => Dops P T all r K (putO o.dst .nd fr) h)

/-! ### A region that draws its order -/
/-- The fact under which a load yields what it yields. -/
abbrev Fact := H → Prop
def Dload (P : Program) (o : Op) (fr : Fr) (h : H) (K : SV → Fact → Prop) : Prop :=
  match o with
  | .load t a => match ev fr a with
    | .dv (.addr p) => ldT P t h p fun d => K (.dv d) fun h' => hcs h' p (flats d.chs)
    | _ => False
  | _ => False
def isLoad : Op → Bool
  | .load _ _ => true
  | _ => false
def isFloat (P : Program) (o : Op) : Bool := match isPure P o with | true => true | false => isLoad o
def floatAt (P : Program) (ops : List Oper) (i : Nat) : Bool := match ops[i]? with | some o => isFloat P o.op | none => false

/-- Which operations wait for which, in one step or more (bits). -/
def ancB (clo : Array Nat) (i j : Nat) : Bool := (clo.getD j 0).testBit i
def cloOk (ops : Array Oper) (clo : Array Nat) : Bool :=
  (List.range ops.size).all fun j => (List.range ops.size).all fun i => match ancB clo i j with
    | false => true
    | true => match ops[j]? with
      | some o => o.after.any fun e => Region.binds .any e && Nat.blt e.on j && (Nat.beq e.on i || ancB clo i e.on)
      | none => false

def pickF (P : Program) (ops : Array Oper) (listed : Array Bool) : List Nat → Option Nat
  | [] => none
  | i :: r => match floatAt P ops.toList i with
    | true => match Region.free .any ops listed i with | true => some i | false => pickF P ops listed r
    | false => pickF P ops listed r

def heldAll : List (Nat × Fact) → H → Prop → Prop
  | [], _, p => p
  | (_, φ) :: r, h, p => φ h ∧ heldAll r h p
/-- The facts that outlive operation i: those of loads which needn't have come up ahead of it. -/
def heldPast (P : Program) (ops : Array Oper) (clo : Array Nat) (i : Nat) (held : List (Nat × Fact)) : List (Nat × Fact) :=
  match floatAt P ops.toList i with
  | true => held
  | false => held.filter fun x => !ancB clo x.1 i

def allL {α : Type} (p : α → Prop) : List α → Prop
  | [] => True
  | [a] => p a
  | a :: r => p a ∧ allL p r

def DH (P : Program) (T : Tbl) (ops : Array Oper) (clo : Array Nat) (K : Fr → H → Prop) : Nat → Array Bool → List (Nat × Fact) → Fr → H → Prop
  | 0, listed, _, fr, h => match Region.ready .any ops listed with
    | [] => K fr h
    | _ => False
  | f + 1, listed, held, fr, h =>
    match Region.ready .any ops listed with
    | [] => K fr h
    | i :: rs => match pickF P ops listed (i :: rs) with
      | some i => match ops[i]? with
        | some o => guardD ops.toList o.guard fr
            (fun fr => match isPure P o.op with
              | true => Dpure P o.op fr fun x => DH P T ops clo K f (listed.setIfInBounds i true) held (putO o.dst x fr) h
              | false => Dload P o.op fr h fun x φ => DH P T ops clo K f (listed.setIfInBounds i true) ((i, φ) :: held) (putO o.dst x fr) h)
            (fun fr => DH P T ops clo K f (listed.setIfInBounds i true) held (putO o.dst .nd fr) h)
        | none => False
      | none => allL (fun i => match ops[i]? with
        | some o => guardD ops.toList o.guard fr
            (fun fr => Dop P T o fr (fun x h' => heldAll (heldPast P ops clo i held) h' (DH P T ops clo K f (listed.setIfInBounds i true) (heldPast P ops clo i held) (putO o.dst x fr) h')) h)
            (fun fr => DH P T ops clo K f (listed.setIfInBounds i true) (heldPast P ops clo i held) (putO o.dst .nd fr) h)
        | none => False) (i :: rs)

def Ddraw (P : Program) (T : Tbl) (ops : Array Oper) (K : Fr → H → Prop) (fr : Fr) (h : H) : Prop :=
  match P.follows .mixedOrders, Region.noSelect ops, cloOk ops (Region.before ops) with
  | true, true, true => DH P T ops (Region.before ops) K ops.size (Array.replicate ops.size false) [] fr h
  | _, _, _ => False

/-! ### Code -/
def asgR : List Oper → List Nat
  | [] => []
  | o :: r => match o.dst with | some d => d :: asgR r | none => asgR r
def asg : Code → List Nat
  | .region _ ops _ => asgR ops.toList
  | .seq a b => asg a ++ asg b
  | .cond _ a b => asg a ++ asg b
  | .block _ b => asg b
  | .loop b => asg b
  | .scope b => asg b
  | _ => []

inductive KS where
  | sc (s : Sh) | addr | ag (l : List Sh) | un
/-- For all values of these shapes. -/
def all1 : Sh → (DV → Prop) → Prop
  | .int k, K => ∀ n : Int, K (.one (.int k n))
  | .bool, K => ∀ b : Bool, K (.one (.bool b))
  | .str, K => ∀ s : ByteArray, K (.one (.string s))
  | .ptr, K => ∀ p : Option Addr, K (.one (.pointer p))
  | .slc, K => ∀ (p : Option Addr) (l c : Nat), K (.one (.slice p l c))
  | .mp, K => ∀ r : Option Nat, K (.one (.map r))
  | .fn, K => ∀ v : Value, v.oneCell' = true → K (.fnv v)
  | .ifc, K => ∀ v : Value, v.oneCell' = true → K (.fnv v)
  | .row _ _, K => ∀ x, K x
def allSh : List Sh → (List Ch → Prop) → Prop
  | [], K => K []
  | .row k n :: r, K => ∀ ns : List Int, ns.length = n → allSh r fun cs => K (.row k n ns :: cs)
  | s :: r, K => all1 s fun x => allSh r fun cs => K (x.chs ++ cs)
def allKS : List KS → (List SV → Prop) → Prop
  | [], K => K []
  | .sc s :: r, K => all1 s fun x => allKS r fun l => K (.dv x :: l)
  | .addr :: r, K => ∀ p : Addr, allKS r fun l => K (.dv (.addr p) :: l)
  | .ag s :: r, K => allSh s fun cs => allKS r fun l => K (.dv (.agg cs) :: l)
  | .un :: r, K => allKS r fun l => K (.un :: l)
abbrev Keep := List (Nat × KS)
abbrev Ann := List (Nat × Keep)
def annAt : Ann → Nat → Option Keep
  | [], _ => none
  | (q, k) :: r, p => match Nat.beq p q with | true => some k | false => annAt r p
/-- A kept value in the one form of its shape. -/
def normSV : KS → SV → SV
  | .sc .ptr, .dv (.addr p) => .dv (.one (.pointer (some p)))
  | .sc .fn, .dv (.one v) => .dv (.fnv v)
  | .sc .ifc, .dv (.one v) => .dv (.fnv v)
  | .un, _ => .un
  | _, v => v
def keepVals (keep : Keep) (fr : Fr) : List SV := match keep with | [] => [] | (i, k) :: r => normSV k (get fr i) :: keepVals r fr
def putKeep : Keep → List SV → Fr → Fr
  | (i, _) :: r, v :: vs, fr => (i, v) :: putKeep r vs fr
  | _, _, fr => fr
/-- Where ways meet: what follows is said once. -/
def jn (ann : Ann) (p : Nat) (as : List Nat) (fr : Fr) (K : Fr → H → Prop) (body : (Fr → H → Prop) → Prop) : Prop :=
  match annAt ann p with
  | none => body K
  | some keep => ∀ J : List SV → H → Prop,
      (allKS (keep.map (·.2)) fun vs => ∀ h', K (putKeep keep vs (erase as fr)) h' → J vs h') → body fun fr' h' => J (keepVals keep fr') h'

abbrev Cont := Exit → Fr → H → Prop
def thenQ (K : Fr → H → Prop) (Q : Cont) : Cont
  | .normal => K
  | e => Q e
def blockQ (id : Nat) (K : Fr → H → Prop) (Q : Cont) : Cont
  | .normal => K
  | .exit j => match Nat.beq j id with | true => K | false => Q (.exit j)
  | e => Q e

def D (P : Program) (T : Tbl) (ann : Ann) : Code → Nat → Cont → Fr → H → Prop
  | .skip, _, Q, fr, h => Q .normal fr h
  | .label _, _, Q, fr, h => Q .normal fr h
  | .ret, _, Q, fr, h => Q .ret fr h
  | .exit id, _, Q, fr, h => Q (.exit id) fr h
  | .seq a b, p, Q, fr, h => jn ann p (asg a) fr (D P T ann b (2 * p + 1) Q) fun K => D P T ann a (2 * p) (thenQ K Q) fr h
  | .cond c a b, p, Q, fr, h => match ev fr c with
    | .dv (.one (.bool t)) => if t = true then D P T ann a (2 * p) Q fr h else D P T ann b (2 * p + 1) Q fr h
    | _ => False
  | .block id b, p, Q, fr, h => jn ann p (asg b) fr (Q .normal) fun K => D P T ann b (2 * p) (blockQ id K Q) fr h
  | .loop b, p, Q, fr, h => match annAt ann p with
    | none => False
    | some keep => ∀ I : List SV → H → Prop,
        (allKS (keep.map (·.2)) fun vs => ∀ h', D P T ann b (2 * p) (thenQ (fun fr'' h'' => I (keepVals keep fr'') h'') Q) (putKeep keep vs (erase (asg b) fr)) h' → I vs h') →
        I (keepVals keep fr) h
  | .region _ ops false, _, Q, fr, h => Dops P T ops.toList ops.toList (Q .normal) fr h
  | .region _ ops true, _, Q, fr, h => Ddraw P T ops (Q .normal) fr h
  | _, _, _, _, _ => False

/-! ### Functions -/
def Dres (P : Program) : List ResultVar → Fr → H → (List DV → Prop) → Prop
  | [], _, _, K => K []
  | .tmp t :: r, fr, h, K => match get fr t with
    | .dv x => Dres P r fr h fun xs => K (x :: xs)
    | _ => False
  | .cell a t :: r, fr, h, K => match get fr a with
    | .dv (.addr p) => ldT P t h p fun x => Dres P r fr h fun xs => K (x :: xs)
    | _ => False
def initFr : Nat → List DV → Fr
  | _, [] => []
  | i, x :: r => (i, .dv x) :: initFr (i + 1) r
def Dbody (P : Program) (T : Tbl) (ann : Ann) (fn : Func) (args : List DV) (Q : List DV → H → Prop) (h : H) : Prop :=
  match fn.body, Nat.ble args.length fn.ntmps, fn.body.map fun c => (asg c).all fun d => Nat.blt d fn.ntmps with
  | some c, true, some true => D P T ann c 1 (fun e fr h' => match e with
    | .normal => Dres P fn.results.toList fr h' fun xs => Q xs h'
    | .ret => Dres P fn.results.toList fr h' fun xs => Q xs h'
    | _ => False) (initFr 0 args) h
  | _, _, _ => False
end Go.Vc
