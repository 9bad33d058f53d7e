/- The denotations of some functions of the program, printed by a program of ours (wip/tools/vcgen.py), and that they are the model's. -/
import Derived.Test.YtamfkofcpoglnaaFa0
import Derived.Test.YtamfkofcpoglnaaFa1
import Derived.Test.YtamfkofcpoglnaaFa2
import Derived.Test.YtamfkofcpoglnaaFa3
import Derived.Test.YtamfkofcpoglnaaFa4
import Derived.Test.YtamfkofcpoglnaaFa7
set_option autoImplicit false
set_option linter.all false
set_option linter.unusedVariables false
set_option maxRecDepth 100000
namespace Go.Proofs.Ytamfkofcpoglnaa
open Go Go.Vc
def G_crc_eight (a0 : Int) (Q : Int → H → Prop) (h : H) : Prop :=
 ∀ (J3 : List SV → H → Prop),
 (∀ (i4 i5 : Int) (h6 : H),
 (if ltI i5 8 = true then
 (0 : Int) ≤ 1 ∧
 if (bits BinOp.and IntKind.u32 i4 1 == 1) = true then
 ∀ (i7 : Int), i7 = 3988292384 → J3 [SV.dv (DV.one (Value.int IntKind.u32 (bits BinOp.xor IntKind.u32 (i4.fdiv (2 ^ 1)) i7))), SV.dv (DV.one (Value.int IntKind.i64 (IntKind.i64.wrap (i5 + 1))))] h6
 else J3 [SV.dv (DV.one (Value.int IntKind.u32 (i4.fdiv (2 ^ 1)))), SV.dv (DV.one (Value.int IntKind.i64 (IntKind.i64.wrap (i5 + 1))))] h6
 else Q i4 h6) →
 J3 [SV.dv (DV.one (Value.int IntKind.u32 i4)), SV.dv (DV.one (Value.int IntKind.i64 i5))] h6) →
 J3 [SV.dv (DV.one (Value.int IntKind.u32 (IntKind.u32.wrap a0))), SV.dv (DV.one (Value.int IntKind.i64 0))] h
theorem E_crc_eight  : ∀ (a0 : Int) (Q : Int → H → Prop) (h : H), G_crc_eight a0 Q h = Dbody PP [] [(58, [(3, .sc (.int .u32)), (7, .sc (.int .i64))])] Try.f180 [.one (.int .u8 a0)] (decR [.int .u32] Q) h := by
  intros; kernel_rfl
def F_crc_eight := G_crc_eight
theorem R_crc_eight : RunOk PP 180 (W [.int .u8] [.int .u32] F_crc_eight) :=
  runOk_of (T := []) (ann := [(58, [(3, .sc (.int .u32)), (7, .sc (.int .i64))])]) (TblOk.nil) Try.func180 (by kernel_rfl) (by kernel_rfl) (E_crc_eight)
attribute [irreducible] F_crc_eight
def G_crc_Sum_Write (c_crc_eight : Int → (Int → H → Prop) → H → Prop) (a0 : Addr) (a1p : Option Addr) (a1l : Nat) (a1c : Nat) (Q : H → Prop) (h : H) : Prop :=
 ∃ (i7 : Int),
 hc h a0 = some (Value.int IntKind.u32 i7) ∧
 ∀ (J8 : List SV → H → Prop),
 (∀ (i9 i10 : Int) (h11 : H),
 (if ltI i10 (↑a1l : Int) = true then
 ∃ (p12 : Addr),
 a1p = some p12 ∧
 0 ≤ i10 ∧
 i10 < (↑a1l : Int) ∧
 ∃ (i13 : Int),
 hc h11 (p12.add (i10.toNat * 1)) = some (Value.int IntKind.u8 i13) ∧
 c_crc_eight (bits BinOp.xor IntKind.u8 (IntKind.u8.wrap i9) i13)
 (fun (i14 : Int) (h15 : H) =>
 (0 : Int) ≤ 8 ∧ J8 [SV.dv (DV.one (Value.int IntKind.u32 (bits BinOp.xor IntKind.u32 i14 (i9.fdiv (2 ^ 8))))), SV.dv (DV.one (Value.int IntKind.i64 (IntKind.i64.wrap (i10 + 1))))] h15)
 h11
 else hcan h11 a0 1 ∧ ∀ (h16 : H), h16 = hwr h11 a0 [Value.int IntKind.u32 (bits BinOp.xor IntKind.u32 (if IntKind.u32.signed = true then -1 else IntKind.u32.max) i9)] → Q h16) →
 J8 [SV.dv (DV.one (Value.int IntKind.u32 i9)), SV.dv (DV.one (Value.int IntKind.i64 i10))] h11) →
 J8 [SV.dv (DV.one (Value.int IntKind.u32 (bits BinOp.xor IntKind.u32 (if IntKind.u32.signed = true then -1 else IntKind.u32.max) i7))), SV.dv (DV.one (Value.int IntKind.i64 0))] h
theorem E_crc_Sum_Write (c_crc_eight : Int → (Int → H → Prop) → H → Prop) : ∀ (a0 : Addr) (a1p : Option Addr) (a1l : Nat) (a1c : Nat) (Q : H → Prop) (h : H), G_crc_Sum_Write c_crc_eight a0 a1p a1l a1c Q h = Dbody PP [(180, W [.int .u8] [.int .u32] c_crc_eight)] [(26, [(4, .sc (.int .u32)), (14, .sc (.int .i64))])] Try.f171 [.addr a0, .one (.slice a1p a1l a1c)] (decR [] Q) h := by
  intros; kernel_rfl
def F_crc_Sum_Write := G_crc_Sum_Write F_crc_eight
theorem R_crc_Sum_Write : RunOk PP 171 (W [.addr, .slc] [] F_crc_Sum_Write) :=
  runOk_of (T := [(180, W [.int .u8] [.int .u32] F_crc_eight)]) (ann := [(26, [(4, .sc (.int .u32)), (14, .sc (.int .i64))])]) (TblOk.cons R_crc_eight (TblOk.nil)) Try.func171 (by kernel_rfl) (by kernel_rfl) (E_crc_Sum_Write F_crc_eight)
attribute [irreducible] F_crc_Sum_Write
def G_crc_Sum_Sum (a0 : Addr) (Q : Int → H → Prop) (h : H) : Prop :=
 ∃ (i3 : Int), hc h a0 = some (Value.int IntKind.u32 i3) ∧ Q i3 h
theorem E_crc_Sum_Sum  : ∀ (a0 : Addr) (Q : Int → H → Prop) (h : H), G_crc_Sum_Sum a0 Q h = Dbody PP [] [] Try.f172 [.addr a0] (decR [.int .u32] Q) h := by
  intros; kernel_rfl
def F_crc_Sum_Sum := G_crc_Sum_Sum
theorem R_crc_Sum_Sum : RunOk PP 172 (W [.addr] [.int .u32] F_crc_Sum_Sum) :=
  runOk_of (T := []) (ann := []) (TblOk.nil) Try.func172 (by kernel_rfl) (by kernel_rfl) (E_crc_Sum_Sum)
attribute [irreducible] F_crc_Sum_Sum
def G_crc_Of (c_crc_New : (Option Addr → H → Prop) → H → Prop) (c_crc_Sum_Write : Addr → Option Addr → Nat → Nat → (H → Prop) → H → Prop) (c_crc_Sum_Sum : Addr → (Int → H → Prop) → H → Prop) (a0p : Option Addr) (a0l : Nat) (a0c : Nat) (Q : Int → H → Prop) (h : H) : Prop :=
 c_crc_New
 (fun (o8 : Option Addr) (h9 : H) => ∃ (p10 : Addr), o8 = some p10 ∧ c_crc_Sum_Write p10 a0p a0l a0c (fun (h11 : H) => ∃ (p12 : Addr), o8 = some p12 ∧ c_crc_Sum_Sum p12 (fun (i13 : Int) (h14 : H) => Q i13 h14) h11) h9)
 h
theorem E_crc_Of (c_crc_New : ((Option Addr) → H → Prop) → H → Prop) (c_crc_Sum_Write : Addr → (Option Addr) → Nat → Nat → (H → Prop) → H → Prop) (c_crc_Sum_Sum : Addr → (Int → H → Prop) → H → Prop) : ∀ (a0p : Option Addr) (a0l : Nat) (a0c : Nat) (Q : Int → H → Prop) (h : H), G_crc_Of c_crc_New c_crc_Sum_Write c_crc_Sum_Sum a0p a0l a0c Q h = Dbody PP [(170, W [] [.ptr] c_crc_New), (171, W [.addr, .slc] [] c_crc_Sum_Write), (172, W [.addr] [.int .u32] c_crc_Sum_Sum)] [] Try.f148 [.one (.slice a0p a0l a0c)] (decR [.int .u32] Q) h := by
  intros; kernel_rfl
def F_crc_Of := G_crc_Of F_crc_New F_crc_Sum_Write F_crc_Sum_Sum
theorem R_crc_Of : RunOk PP 148 (W [.slc] [.int .u32] F_crc_Of) :=
  runOk_of (T := [(170, W [] [.ptr] F_crc_New), (171, W [.addr, .slc] [] F_crc_Sum_Write), (172, W [.addr] [.int .u32] F_crc_Sum_Sum)]) (ann := []) (TblOk.cons R_crc_New (TblOk.cons R_crc_Sum_Write (TblOk.cons R_crc_Sum_Sum (TblOk.nil)))) Try.func148 (by kernel_rfl) (by kernel_rfl) (E_crc_Of F_crc_New F_crc_Sum_Write F_crc_Sum_Sum)
attribute [irreducible] F_crc_Of
def G_rail_halves (a0p : Option Addr) (a0l : Nat) (a0c : Nat) (Q : Option Addr → Nat → Nat → Option Addr → Nat → Nat → H → Prop) (h : H) : Prop :=
 (2 : Int) ≠ 0 ∧
 0 ≤ IntKind.i64.wrap ((↑a0l : Int).tdiv 2) ∧
 IntKind.i64.wrap ((↑a0l : Int).tdiv 2) ≤ IntKind.i64.wrap ((↑a0l : Int).tdiv 2) ∧
 IntKind.i64.wrap ((↑a0l : Int).tdiv 2) ≤ (↑a0c : Int) ∧
 0 ≤ IntKind.i64.wrap ((↑a0l : Int).tdiv 2) ∧
 IntKind.i64.wrap ((↑a0l : Int).tdiv 2) ≤ IntKind.i64.wrap (2 * IntKind.i64.wrap ((↑a0l : Int).tdiv 2)) ∧
 IntKind.i64.wrap (2 * IntKind.i64.wrap ((↑a0l : Int).tdiv 2)) ≤ IntKind.i64.wrap (2 * IntKind.i64.wrap ((↑a0l : Int).tdiv 2)) ∧
 IntKind.i64.wrap (2 * IntKind.i64.wrap ((↑a0l : Int).tdiv 2)) ≤ (↑a0c : Int) ∧
 Q (subAddr a0p 0 (IntKind.i64.wrap ((↑a0l : Int).tdiv 2)).toNat 1) ((IntKind.i64.wrap ((↑a0l : Int).tdiv 2)).toNat - 0) ((IntKind.i64.wrap ((↑a0l : Int).tdiv 2)).toNat - 0)
 (subAddr a0p (IntKind.i64.wrap ((↑a0l : Int).tdiv 2)).toNat (IntKind.i64.wrap (2 * IntKind.i64.wrap ((↑a0l : Int).tdiv 2))).toNat 1)
 ((IntKind.i64.wrap (2 * IntKind.i64.wrap ((↑a0l : Int).tdiv 2))).toNat - (IntKind.i64.wrap ((↑a0l : Int).tdiv 2)).toNat)
 ((IntKind.i64.wrap (2 * IntKind.i64.wrap ((↑a0l : Int).tdiv 2))).toNat - (IntKind.i64.wrap ((↑a0l : Int).tdiv 2)).toNat) h
theorem E_rail_halves  : ∀ (a0p : Option Addr) (a0l : Nat) (a0c : Nat) (Q : (Option Addr) → Nat → Nat → (Option Addr) → Nat → Nat → H → Prop) (h : H), G_rail_halves a0p a0l a0c Q h = Dbody PP [] [] Try.f173 [.one (.slice a0p a0l a0c)] (decR [.slc, .slc] Q) h := by
  intros; kernel_rfl
def F_rail_halves := G_rail_halves
theorem R_rail_halves : RunOk PP 173 (W [.slc] [.slc, .slc] F_rail_halves) :=
  runOk_of (T := []) (ann := []) (TblOk.nil) Try.func173 (by kernel_rfl) (by kernel_rfl) (E_rail_halves)
attribute [irreducible] F_rail_halves
def G_rail_Put (c_rail_halves : Option Addr → Nat → Nat → (Option Addr → Nat → Nat → Option Addr → Nat → Nat → H → Prop) → H → Prop) (a0p : Option Addr) (a0l : Nat) (a0c : Nat) (Q : Option Addr → Nat → Nat → H → Prop) (h : H) : Prop :=
 0 ≤ IntKind.i64.wrap (2 * (↑a0l : Int)) ∧
 IntKind.i64.wrap (2 * (↑a0l : Int)) ≤ IntKind.i64.wrap (2 * (↑a0l : Int)) ∧
 (↑1 : Int) * IntKind.i64.wrap (2 * (↑a0l : Int)) ≤ 2 ^ 48 ∧
 IntKind.i64.wrap (2 * (↑a0l : Int)) ≤ 2 ^ 48 ∧
 ∀ (n6 : Nat) (h7 : H),
 hnew h n6 (List.replicate (IntKind.i64.wrap (2 * (↑a0l : Int))).toNat [Value.int IntKind.u8 0]).flatten h7 →
 c_rail_halves (some (Addr.mk n6 0 none)) (IntKind.i64.wrap (2 * (↑a0l : Int))).toNat (IntKind.i64.wrap (2 * (↑a0l : Int))).toNat
 (fun (o9 : Option Addr) (n10 n11 : Nat) (o12 : Option Addr) (n13 n14 : Nat) (h15 : H) =>
 ∀ (J16 : List SV → H → Prop),
 (∀ (i17 : Int) (h18 : H),
 (if ltI i17 (↑a0l : Int) = true then
 ∃ (p19 : Addr),
 a0p = some p19 ∧
 0 ≤ i17 ∧
 i17 < (↑a0l : Int) ∧
 ∃ (i20 : Int),
 hc h18 (p19.add (i17.toNat * 1)) = some (Value.int IntKind.u8 i20) ∧
 ∃ (p21 : Addr),
 a0p = some p21 ∧
 0 ≤ i17 ∧
 i17 < (↑a0l : Int) ∧
 ∃ (i22 : Int),
 hc h18 (p21.add (i17.toNat * 1)) = some (Value.int IntKind.u8 i22) ∧
 ∃ (p23 : Addr),
 o9 = some p23 ∧
 0 ≤ i17 ∧
 i17 < (↑n10 : Int) ∧
 hcan h18 (p23.add (i17.toNat * 1)) 1 ∧
 ∀ (h24 : H),
 h24 = hwr h18 (p23.add (i17.toNat * 1)) [Value.int IntKind.u8 i20] →
 ∃ (p26 : Addr),
 o12 = some p26 ∧
 0 ≤ i17 ∧
 i17 < (↑n13 : Int) ∧
 hcan h24 (p26.add (i17.toNat * 1)) 1 ∧
 ∀ (h27 : H),
 h27 =
 hwr h24 (p26.add (i17.toNat * 1))
 [Value.int IntKind.u8 (bits BinOp.xor IntKind.u8 (if IntKind.u8.signed = true then -1 else IntKind.u8.max) i22)] →
 J16 [SV.dv (DV.one (Value.int IntKind.i64 (IntKind.i64.wrap (i17 + 1))))] h27
 else Q (some (Addr.mk n6 0 none)) (IntKind.i64.wrap (2 * (↑a0l : Int))).toNat (IntKind.i64.wrap (2 * (↑a0l : Int))).toNat h18) →
 J16 [SV.dv (DV.one (Value.int IntKind.i64 i17))] h18) →
 J16 [SV.dv (DV.one (Value.int IntKind.i64 0))] h15)
 h7
theorem E_rail_Put (c_rail_halves : (Option Addr) → Nat → Nat → ((Option Addr) → Nat → Nat → (Option Addr) → Nat → Nat → H → Prop) → H → Prop) : ∀ (a0p : Option Addr) (a0l : Nat) (a0c : Nat) (Q : (Option Addr) → Nat → Nat → H → Prop) (h : H), G_rail_Put c_rail_halves a0p a0l a0c Q h = Dbody PP [(173, W [.slc] [.slc, .slc] c_rail_halves)] [(122, [(18, .sc (.int .i64))])] Try.f149 [.one (.slice a0p a0l a0c)] (decR [.slc] Q) h := by
  intros; kernel_rfl
def F_rail_Put := G_rail_Put F_rail_halves
theorem R_rail_Put : RunOk PP 149 (W [.slc] [.slc] F_rail_Put) :=
  runOk_of (T := [(173, W [.slc] [.slc, .slc] F_rail_halves)]) (ann := [(122, [(18, .sc (.int .i64))])]) (TblOk.cons R_rail_halves (TblOk.nil)) Try.func149 (by kernel_rfl) (by kernel_rfl) (E_rail_Put F_rail_halves)
attribute [irreducible] F_rail_Put
def G_cell_laid (c_cell_put : Option Addr → Nat → Nat → Int → (H → Prop) → H → Prop) (c_crc_Of : Option Addr → Nat → Nat → (Int → H → Prop) → H → Prop) (c_rail_Put : Option Addr → Nat → Nat → (Option Addr → Nat → Nat → H → Prop) → H → Prop) (a0 : Int) (a1 : Int) (a2 : Int) (Q : List Int → H → Prop) (h : H) : Prop :=
 ∀ (n8 : Nat) (h9 : H),
 hnew h n8 (ints IntKind.u8 (zeros 32)) h9 →
 ∀ (n11 : Nat) (h12 : H),
 hnew h9 n11 (ints IntKind.u8 (zeros 16)) h12 →
 hcan h12 (Addr.mk n11 0 none) 16 ∧
 ∀ (h14 : H),
 h14 = hwr h12 (Addr.mk n11 0 none) (ints IntKind.u8 [a0, IntKind.u8.wrap a1, 0, 0, 0, 0, 0, 0, 0, 0, 0, 0, 0, 0, 0, 0] ++ []) →
 (0 : Int) ≤ 4 ∧
 (4 : Int) ≤ 12 ∧
 (12 : Int) ≤ (↑16 : Int) ∧
 c_cell_put (subAddr (some (Addr.mk n11 0 none)) 4 16 1) 8 12 (IntKind.u64.wrap a2)
 (fun (h16 : H) =>
 (0 : Int) ≤ 12 ∧
 (12 : Int) ≤ (↑16 : Int) ∧
 (0 : Int) ≤ 12 ∧
 (12 : Int) ≤ (↑16 : Int) ∧
 c_crc_Of (some (Addr.mk n11 0 none)) 12 16
 (fun (i17 : Int) (h18 : H) =>
 c_cell_put (some ((Addr.mk n11 0 none).add 12)) 4 4 (IntKind.u64.wrap i17)
 (fun (h19 : H) =>
 ∀ (n20 : Nat) (h21 : H),
 hnew h19 n20 (ints IntKind.u8 (zeros 32)) h21 →
 c_rail_Put (some (Addr.mk n11 0 none)) 16 16
 (fun (o23 : Option Addr) (n24 n25 : Nat) (h26 : H) =>
 ∃ (l27 : List Value),
 hsv h26 o23 1 (n24.min 32) l27 ∧
 (l27 = [] ∨ ∃ (p28 : Addr), some (Addr.mk n20 0 none) = some p28 ∧ hcan h26 p28 (n24.min 32 * 1)) ∧
 ∀ (h29 : H),
 h29 = hwrO h26 (some (Addr.mk n20 0 none)) l27 →
 ∃ (l31 : List Int),
 l31.length = 32 ∧
 hrow h29 (Addr.mk n20 0 none) IntKind.u8 l31 ∧
 hcan h29 (Addr.mk n8 0 none) 32 ∧
 ∀ (h32 : H),
 h32 = hwr h29 (Addr.mk n8 0 none) (ints IntKind.u8 l31 ++ []) →
 ∃ (l34 : List Int), l34.length = 32 ∧ hrow h32 (Addr.mk n8 0 none) IntKind.u8 l34 ∧ Q l34 h32)
 h21)
 h18)
 h16)
 h14
theorem E_cell_laid (c_cell_put : (Option Addr) → Nat → Nat → Int → (H → Prop) → H → Prop) (c_crc_Of : (Option Addr) → Nat → Nat → (Int → H → Prop) → H → Prop) (c_rail_Put : (Option Addr) → Nat → Nat → ((Option Addr) → Nat → Nat → H → Prop) → H → Prop) : ∀ (a0 : Int) (a1 : Int) (a2 : Int) (Q : (List Int) → H → Prop) (h : H), G_cell_laid c_cell_put c_crc_Of c_rail_Put a0 a1 a2 Q h = Dbody PP [(147, W [.slc, .int .u64] [] c_cell_put), (148, W [.slc] [.int .u32] c_crc_Of), (149, W [.slc] [.slc] c_rail_Put)] [] Try.f100 [.one (.int .u8 a0), .one (.int .i64 a1), .one (.int .i64 a2)] (decR [.ag [.row .u8 32]] Q) h := by
  intros; kernel_rfl
def F_cell_laid := G_cell_laid F_cell_put F_crc_Of F_rail_Put
theorem R_cell_laid : RunOk PP 100 (W [.int .u8, .int .i64, .int .i64] [.ag [.row .u8 32]] F_cell_laid) :=
  runOk_of (T := [(147, W [.slc, .int .u64] [] F_cell_put), (148, W [.slc] [.int .u32] F_crc_Of), (149, W [.slc] [.slc] F_rail_Put)]) (ann := []) (TblOk.cons R_cell_put (TblOk.cons R_crc_Of (TblOk.cons R_rail_Put (TblOk.nil)))) Try.func100 (by kernel_rfl) (by kernel_rfl) (E_cell_laid F_cell_put F_crc_Of F_rail_Put)
attribute [irreducible] F_cell_laid
def G_cell_got (a0p : Option Addr) (a0l : Nat) (a0c : Nat) (Q : Int → H → Prop) (h : H) : Prop :=
 ∀ (J5 : List SV → H → Prop),
 (∀ (i6 i7 : Int) (h8 : H),
 (if ltI i7 (↑a0l : Int) = true then
 ∃ (p9 : Addr),
 a0p = some p9 ∧
 0 ≤ i7 ∧
 i7 < (↑a0l : Int) ∧
 ∃ (i10 : Int),
 hc h8 (p9.add (i7.toNat * 1)) = some (Value.int IntKind.u8 i10) ∧
 0 ≤ IntKind.i64.wrap (8 * i7) ∧
 J5
 [SV.dv (DV.one (Value.int IntKind.u64 (bits BinOp.or IntKind.u64 i6 (IntKind.u64.wrap (IntKind.u64.wrap i10 * 2 ^ min (IntKind.i64.wrap (8 * i7)).toNat 64))))),
 SV.dv (DV.one (Value.int IntKind.i64 (IntKind.i64.wrap (i7 + 1))))]
 h8
 else Q i6 h8) →
 J5 [SV.dv (DV.one (Value.int IntKind.u64 i6)), SV.dv (DV.one (Value.int IntKind.i64 i7))] h8) →
 J5 [SV.dv (DV.one (Value.int IntKind.u64 0)), SV.dv (DV.one (Value.int IntKind.i64 0))] h
theorem E_cell_got  : ∀ (a0p : Option Addr) (a0l : Nat) (a0c : Nat) (Q : Int → H → Prop) (h : H), G_cell_got a0p a0l a0c Q h = Dbody PP [] [(58, [(3, .sc (.int .u64)), (8, .sc (.int .i64))])] Try.f141 [.one (.slice a0p a0l a0c)] (decR [.int .u64] Q) h := by
  intros; kernel_rfl
def F_cell_got := G_cell_got
theorem R_cell_got : RunOk PP 141 (W [.slc] [.int .u64] F_cell_got) :=
  runOk_of (T := []) (ann := [(58, [(3, .sc (.int .u64)), (8, .sc (.int .i64))])]) (TblOk.nil) Try.func141 (by kernel_rfl) (by kernel_rfl) (E_cell_got)
attribute [irreducible] F_cell_got
def G_cell_Blank (Q : List Int → H → Prop) (h : H) : Prop :=
 ∀ (n2 : Nat) (h3 : H),
 hnew h n2 (ints IntKind.u8 (zeros 32)) h3 →
 ∀ (n5 : Nat) (h6 : H),
 hnew h3 n5 (ints IntKind.u8 (zeros 32)) h6 →
 ∀ (J8 : List SV → H → Prop),
 (∀ (i9 : Int) (h10 : H),
 (if ltI i9 32 = true then
 0 ≤ i9 ∧
 i9 < (↑32 : Int) ∧
 hcan h10 ((Addr.mk n5 0 none).add (i9.toNat * 1)) 1 ∧
 ∀ (h11 : H), h11 = hwr h10 ((Addr.mk n5 0 none).add (i9.toNat * 1)) [Value.int IntKind.u8 255] → J8 [SV.dv (DV.one (Value.int IntKind.i64 (IntKind.i64.wrap (i9 + 1))))] h11
 else
 ∃ (l13 : List Int),
 l13.length = 32 ∧
 hrow h10 (Addr.mk n5 0 none) IntKind.u8 l13 ∧
 hcan h10 (Addr.mk n2 0 none) 32 ∧
 ∀ (h14 : H), h14 = hwr h10 (Addr.mk n2 0 none) (ints IntKind.u8 l13 ++ []) → ∃ (l16 : List Int), l16.length = 32 ∧ hrow h14 (Addr.mk n2 0 none) IntKind.u8 l16 ∧ Q l16 h14) →
 J8 [SV.dv (DV.one (Value.int IntKind.i64 i9))] h10) →
 J8 [SV.dv (DV.one (Value.int IntKind.i64 0))] h6
theorem E_cell_Blank  : ∀ (Q : (List Int) → H → Prop) (h : H), G_cell_Blank Q h = Dbody PP [] [(58, [(3, .sc (.int .i64))])] Try.f142 [] (decR [.ag [.row .u8 32]] Q) h := by
  intros; kernel_rfl
def F_cell_Blank := G_cell_Blank
theorem R_cell_Blank : RunOk PP 142 (W [] [.ag [.row .u8 32]] F_cell_Blank) :=
  runOk_of (T := []) (ann := [(58, [(3, .sc (.int .i64))])]) (TblOk.nil) Try.func142 (by kernel_rfl) (by kernel_rfl) (E_cell_Blank)
attribute [irreducible] F_cell_Blank
def G_cell_Read (c_cell_laid : Int → Int → Int → (List Int → H → Prop) → H → Prop) (c_cell_got : Option Addr → Nat → Nat → (Int → H → Prop) → H → Prop) (c_cell_Blank : (List Int → H → Prop) → H → Prop) (a0_0 : List Int) (Q : Int → Int → Int → H → Prop) (h : H) : Prop :=
 ∀ (n6 : Nat) (h7 : H),
 hnew h n6 (ints IntKind.u8 a0_0 ++ []) h7 →
 ∀ (n9 : Nat) (h10 : H),
 hnew h7 n9 [Value.int IntKind.i64 0, Value.int IntKind.i64 0, Value.int IntKind.i64 0] h10 →
 (0 : Int) ≤ 4 ∧
 (4 : Int) ≤ 12 ∧
 (12 : Int) ≤ (↑32 : Int) ∧
 c_cell_got (subAddr (some (Addr.mk n6 0 none)) 4 32 1) 8 28
 (fun (i12 : Int) (h13 : H) =>
 (0 : Int) ≤ 1 ∧
 (1 : Int) < (↑32 : Int) ∧
 ∃ (i14 : Int),
 hc h13 ((Addr.mk n6 0 none).add 1) = some (Value.int IntKind.u8 i14) ∧
 ∃ (l15 : List Int),
 l15.length = 32 ∧
 hrow h13 (Addr.mk n6 0 none) IntKind.u8 l15 ∧
 c_cell_Blank
 (fun (l16 : List Int) (h17 : H) =>
 hcs h17 (Addr.mk n6 0 none) (ints IntKind.u8 l15 ++ []) ∧
 if (l15 == l16) = true then
 hcan h17 (Addr.mk n9 0 none) 3 ∧
 ∀ (h18 : H),
 h18 = hwr h17 (Addr.mk n9 0 none) [Value.int IntKind.i64 0, Value.int IntKind.i64 0, Value.int IntKind.i64 0] →
 ∃ (i20 : Int),
 hc h18 (Addr.mk n9 0 none) = some (Value.int IntKind.i64 i20) ∧
 ∃ (i21 : Int),
 hc h18 ((Addr.mk n9 0 none).add 1) = some (Value.int IntKind.i64 i21) ∧
 ∃ (i22 : Int), hc h18 ((Addr.mk n9 0 none).add 2) = some (Value.int IntKind.i64 i22) ∧ Q i20 i21 i22 h18
 else
 ∀ (J23 : List SV → H → Prop),
 (∀ (b24 : Bool) (h25 : H),
 (if b24 = true then
 hcan h25 (Addr.mk n9 0 none) 3 ∧
 ∀ (h26 : H),
 h26 = hwr h25 (Addr.mk n9 0 none) [Value.int IntKind.i64 3, Value.int IntKind.i64 0, Value.int IntKind.i64 0] →
 ∃ (i28 : Int),
 hc h26 (Addr.mk n9 0 none) = some (Value.int IntKind.i64 i28) ∧
 ∃ (i29 : Int),
 hc h26 ((Addr.mk n9 0 none).add 1) = some (Value.int IntKind.i64 i29) ∧
 ∃ (i30 : Int), hc h26 ((Addr.mk n9 0 none).add 2) = some (Value.int IntKind.i64 i30) ∧ Q i28 i29 i30 h26
 else
 ∀ (J31 : List SV → H → Prop),
 (∀ (b32 : Bool) (h33 : H),
 (if b32 = true then
 hcan h33 (Addr.mk n9 0 none) 3 ∧
 ∀ (h34 : H),
 h34 = hwr h33 (Addr.mk n9 0 none) [Value.int IntKind.i64 1, Value.int IntKind.i64 0, Value.int IntKind.i64 (IntKind.i64.wrap i12)] →
 ∃ (i36 : Int),
 hc h34 (Addr.mk n9 0 none) = some (Value.int IntKind.i64 i36) ∧
 ∃ (i37 : Int),
 hc h34 ((Addr.mk n9 0 none).add 1) = some (Value.int IntKind.i64 i37) ∧
 ∃ (i38 : Int), hc h34 ((Addr.mk n9 0 none).add 2) = some (Value.int IntKind.i64 i38) ∧ Q i36 i37 i38 h34
 else
 (0 : Int) ≤ 0 ∧
 (0 : Int) < (↑32 : Int) ∧
 ∃ (i39 : Int),
 hc h33 (Addr.mk n6 0 none) = some (Value.int IntKind.u8 i39) ∧
 if (i39 == 2) = true then
 if leI (IntKind.i64.wrap i14) 8 = true then
 ∃ (l40 : List Int),
 l40.length = 32 ∧
 hrow h33 (Addr.mk n6 0 none) IntKind.u8 l40 ∧
 c_cell_laid 2 (IntKind.i64.wrap i14) (IntKind.i64.wrap i12)
 (fun (l41 : List Int) (h42 : H) =>
 hcs h42 (Addr.mk n6 0 none) (ints IntKind.u8 l40 ++ []) ∧
 if (l40 == l41) = true then
 hcan h42 (Addr.mk n9 0 none) 3 ∧
 ∀ (h43 : H),
 h43 =
 hwr h42 (Addr.mk n9 0 none)
 [Value.int IntKind.i64 2, Value.int IntKind.i64 (IntKind.i64.wrap i14), Value.int IntKind.i64 (IntKind.i64.wrap i12)] →
 ∃ (i45 : Int),
 hc h43 (Addr.mk n9 0 none) = some (Value.int IntKind.i64 i45) ∧
 ∃ (i46 : Int),
 hc h43 ((Addr.mk n9 0 none).add 1) = some (Value.int IntKind.i64 i46) ∧
 ∃ (i47 : Int), hc h43 ((Addr.mk n9 0 none).add 2) = some (Value.int IntKind.i64 i47) ∧ Q i45 i46 i47 h43
 else
 hcan h42 (Addr.mk n9 0 none) 3 ∧
 ∀ (h48 : H),
 h48 = hwr h42 (Addr.mk n9 0 none) [Value.int IntKind.i64 3, Value.int IntKind.i64 0, Value.int IntKind.i64 0] →
 ∃ (i50 : Int),
 hc h48 (Addr.mk n9 0 none) = some (Value.int IntKind.i64 i50) ∧
 ∃ (i51 : Int),
 hc h48 ((Addr.mk n9 0 none).add 1) = some (Value.int IntKind.i64 i51) ∧
 ∃ (i52 : Int), hc h48 ((Addr.mk n9 0 none).add 2) = some (Value.int IntKind.i64 i52) ∧ Q i50 i51 i52 h48)
 h33
 else
 hcan h33 (Addr.mk n9 0 none) 3 ∧
 ∀ (h53 : H),
 h53 = hwr h33 (Addr.mk n9 0 none) [Value.int IntKind.i64 3, Value.int IntKind.i64 0, Value.int IntKind.i64 0] →
 ∃ (i55 : Int),
 hc h53 (Addr.mk n9 0 none) = some (Value.int IntKind.i64 i55) ∧
 ∃ (i56 : Int),
 hc h53 ((Addr.mk n9 0 none).add 1) = some (Value.int IntKind.i64 i56) ∧
 ∃ (i57 : Int), hc h53 ((Addr.mk n9 0 none).add 2) = some (Value.int IntKind.i64 i57) ∧ Q i55 i56 i57 h53
 else
 hcan h33 (Addr.mk n9 0 none) 3 ∧
 ∀ (h58 : H),
 h58 = hwr h33 (Addr.mk n9 0 none) [Value.int IntKind.i64 3, Value.int IntKind.i64 0, Value.int IntKind.i64 0] →
 ∃ (i60 : Int),
 hc h58 (Addr.mk n9 0 none) = some (Value.int IntKind.i64 i60) ∧
 ∃ (i61 : Int),
 hc h58 ((Addr.mk n9 0 none).add 1) = some (Value.int IntKind.i64 i61) ∧
 ∃ (i62 : Int), hc h58 ((Addr.mk n9 0 none).add 2) = some (Value.int IntKind.i64 i62) ∧ Q i60 i61 i62 h58) →
 J31 [SV.dv (DV.one (Value.bool b32))] h33) →
 (0 : Int) ≤ 0 ∧
 (0 : Int) < (↑32 : Int) ∧
 ∃ (i65 : Int),
 hc h25 (Addr.mk n6 0 none) = some (Value.int IntKind.u8 i65) ∧
 if (i65 == 1) = true then
 ∃ (l66 : List Int),
 l66.length = 32 ∧
 hrow h25 (Addr.mk n6 0 none) IntKind.u8 l66 ∧
 c_cell_laid 1 0 (IntKind.i64.wrap i12)
 (fun (l67 : List Int) (h68 : H) => hcs h68 (Addr.mk n6 0 none) (ints IntKind.u8 l66 ++ []) ∧ J31 [SV.dv (DV.one (Value.bool (l66 == l67)))] h68) h25
 else J31 [SV.dv (DV.one (Value.bool false))] h25) →
 J23 [SV.dv (DV.one (Value.bool b24))] h25) →
 if ltI (IntKind.i64.wrap i12) 1 = true then J23 [SV.dv (DV.one (Value.bool true))] h17
 else ∀ (i71 : Int), i71 = 4611686018427387904 → J23 [SV.dv (DV.one (Value.bool (ltI i71 (IntKind.i64.wrap i12))))] h17)
 h13)
 h10
theorem E_cell_Read (c_cell_laid : Int → Int → Int → ((List Int) → H → Prop) → H → Prop) (c_cell_got : (Option Addr) → Nat → Nat → (Int → H → Prop) → H → Prop) (c_cell_Blank : ((List Int) → H → Prop) → H → Prop) : ∀ (a0_0 : List Int) (Q : Int → Int → Int → H → Prop) (h : H), G_cell_Read c_cell_laid c_cell_got c_cell_Blank a0_0 Q h = Dbody PP [(100, W [.int .u8, .int .i64, .int .i64] [.ag [.row .u8 32]] c_cell_laid), (141, W [.slc] [.int .u64] c_cell_got), (142, W [] [.ag [.row .u8 32]] c_cell_Blank)] [(243, [(16, .sc (.bool))]), (975, [(23, .sc (.bool))])] Try.f95 [.agg [.row .u8 32 a0_0]] (decR [.ag [.int .i64, .int .i64, .int .i64]] Q) h := by
  intros; kernel_rfl
def F_cell_Read := G_cell_Read F_cell_laid F_cell_got F_cell_Blank
theorem R_cell_Read : RunOk PP 95 (W [.ag [.row .u8 32]] [.ag [.int .i64, .int .i64, .int .i64]] F_cell_Read) :=
  runOk_of (T := [(100, W [.int .u8, .int .i64, .int .i64] [.ag [.row .u8 32]] F_cell_laid), (141, W [.slc] [.int .u64] F_cell_got), (142, W [] [.ag [.row .u8 32]] F_cell_Blank)]) (ann := [(243, [(16, .sc (.bool))]), (975, [(23, .sc (.bool))])]) (TblOk.cons R_cell_laid (TblOk.cons R_cell_got (TblOk.cons R_cell_Blank (TblOk.nil)))) Try.func95 (by kernel_rfl) (by kernel_rfl) (E_cell_Read F_cell_laid F_cell_got F_cell_Blank)
attribute [irreducible] F_cell_Read
def G_page_Look (c_chip_Chip_Read : Addr → Int → Int → (List Int → Int → H → Prop) → H → Prop) (c_chip_Chip_Config : Addr → (Int → Int → Int → Int → Int → Int → Int → H → Prop) → H → Prop) (c_chip_Chip_Erases : Addr → Int → (Int → Int → H → Prop) → H → Prop) (c_page_Info_lay : Addr → Int → Int → Int → Int → (H → Prop) → H → Prop) (c_cell_Read : List Int → (Int → Int → Int → H → Prop) → H → Prop) (a0 : Addr) (a1 : Int) (Q : Int → List Int → Int → Bool → Int → Int → H → Prop) (h : H) : Prop :=
 ∀ (n9 : Nat) (h10 : H),
 hnew h n9 (Value.int IntKind.i64 0 :: (ints IntKind.i64 (zeros 9) ++ [Value.int IntKind.i64 0, Value.bool false, Value.int IntKind.i64 0])) h10 →
 ∀ (n12 : Nat) (h13 : H),
 hnew h10 n12 (Value.int IntKind.i64 0 :: (ints IntKind.i64 (zeros 9) ++ [Value.int IntKind.i64 0, Value.bool false, Value.int IntKind.i64 0])) h13 →
 c_chip_Chip_Erases a0 a1
 (fun (i15 i16 : Int) (h17 : H) =>
 if (i16 != 0) = true then
 ∃ (i18 : Int),
 hc h17 (Addr.mk n12 0 none) = some (Value.int IntKind.i64 i18) ∧
 ∃ (l19 : List Int),
 l19.length = 9 ∧
 hrow h17 ((Addr.mk n12 0 none).add 1) IntKind.i64 l19 ∧
 ∃ (i20 : Int),
 hc h17 ((Addr.mk n12 0 none).add 10) = some (Value.int IntKind.i64 i20) ∧
 ∃ (b21 : Bool),
 hc h17 ((Addr.mk n12 0 none).add 11) = some (Value.bool b21) ∧
 ∃ (i22 : Int),
 hc h17 ((Addr.mk n12 0 none).add 12) = some (Value.int IntKind.i64 i22) ∧
 hcan h17 (Addr.mk n9 0 none) 13 ∧
 ∀ (h23 : H),
 h23 = hwr h17 (Addr.mk n9 0 none) (Value.int IntKind.i64 i18 :: (ints IntKind.i64 l19 ++ [Value.int IntKind.i64 i20, Value.bool b21, Value.int IntKind.i64 i22])) →
 ∃ (i25 : Int),
 hc h23 (Addr.mk n9 0 none) = some (Value.int IntKind.i64 i25) ∧
 ∃ (l26 : List Int),
 l26.length = 9 ∧
 hrow h23 ((Addr.mk n9 0 none).add 1) IntKind.i64 l26 ∧
 ∃ (i27 : Int),
 hc h23 ((Addr.mk n9 0 none).add 10) = some (Value.int IntKind.i64 i27) ∧
 ∃ (b28 : Bool),
 hc h23 ((Addr.mk n9 0 none).add 11) = some (Value.bool b28) ∧
 ∃ (i29 : Int), hc h23 ((Addr.mk n9 0 none).add 12) = some (Value.int IntKind.i64 i29) ∧ Q i25 l26 i27 b28 i29 i16 h23
 else
 c_chip_Chip_Config a0
 (fun (i30 i31 i32 i33 i34 i35 i36 : Int) (h37 : H) =>
 ∀ (J38 : List SV → H → Prop),
 (∀ (i39 : Int) (h40 : H),
 (if ltI i39 i30 = true then
 c_chip_Chip_Read a0 a1 i39
 (fun (l41 : List Int) (i42 : Int) (h43 : H) =>
 ∀ (n44 : Nat) (h45 : H),
 hnew h43 n44 (ints IntKind.u8 (zeros 32)) h45 →
 hcan h45 (Addr.mk n44 0 none) 32 ∧
 ∀ (h47 : H),
 h47 = hwr h45 (Addr.mk n44 0 none) (ints IntKind.u8 l41 ++ []) →
 if (i42 != 0) = true then
 hcan h47 (Addr.mk n9 0 none) 13 ∧
 ∀ (h49 : H),
 h49 = hwr h47 (Addr.mk n9 0 none) (Value.int IntKind.i64 0 :: (ints IntKind.i64 (zeros 9) ++ [Value.int IntKind.i64 0, Value.bool false, Value.int IntKind.i64 0])) →
 ∃ (i51 : Int),
 hc h49 (Addr.mk n9 0 none) = some (Value.int IntKind.i64 i51) ∧
 ∃ (l52 : List Int),
 l52.length = 9 ∧
 hrow h49 ((Addr.mk n9 0 none).add 1) IntKind.i64 l52 ∧
 ∃ (i53 : Int),
 hc h49 ((Addr.mk n9 0 none).add 10) = some (Value.int IntKind.i64 i53) ∧
 ∃ (b54 : Bool),
 hc h49 ((Addr.mk n9 0 none).add 11) = some (Value.bool b54) ∧
 ∃ (i55 : Int), hc h49 ((Addr.mk n9 0 none).add 12) = some (Value.int IntKind.i64 i55) ∧ Q i51 l52 i53 b54 i55 i42 h49
 else
 ∃ (l56 : List Int),
 l56.length = 32 ∧
 hrow h47 (Addr.mk n44 0 none) IntKind.u8 l56 ∧
 c_cell_Read l56
 (fun (i57 i58 i59 : Int) (h60 : H) =>
 c_page_Info_lay (Addr.mk n12 0 none) i39 i57 i58 i59 (fun (h61 : H) => J38 [SV.dv (DV.one (Value.int IntKind.i64 (IntKind.i64.wrap (i39 + 1))))] h61) h60)
 h47)
 h40
 else
 ∃ (i62 : Int),
 hc h40 (Addr.mk n12 0 none) = some (Value.int IntKind.i64 i62) ∧
 ∃ (l63 : List Int),
 l63.length = 9 ∧
 hrow h40 ((Addr.mk n12 0 none).add 1) IntKind.i64 l63 ∧
 ∃ (i64 : Int),
 hc h40 ((Addr.mk n12 0 none).add 10) = some (Value.int IntKind.i64 i64) ∧
 ∃ (b65 : Bool),
 hc h40 ((Addr.mk n12 0 none).add 11) = some (Value.bool b65) ∧
 ∃ (i66 : Int),
 hc h40 ((Addr.mk n12 0 none).add 12) = some (Value.int IntKind.i64 i66) ∧
 hcan h40 ((Addr.mk n12 0 none).add 11) 1 ∧
 ∀ (h67 : H),
 h67 = hwr h40 ((Addr.mk n12 0 none).add 11) [Value.bool (i62 == 0 && (l63 == zeros 9 && (i64 == 0 && (b65 == false && (i66 == 0 && true)))))] →
 ∃ (i69 : Int),
 hc h67 (Addr.mk n12 0 none) = some (Value.int IntKind.i64 i69) ∧
 ∃ (l70 : List Int),
 l70.length = 9 ∧
 hrow h67 ((Addr.mk n12 0 none).add 1) IntKind.i64 l70 ∧
 ∃ (i71 : Int),
 hc h67 ((Addr.mk n12 0 none).add 10) = some (Value.int IntKind.i64 i71) ∧
 ∃ (b72 : Bool),
 hc h67 ((Addr.mk n12 0 none).add 11) = some (Value.bool b72) ∧
 ∃ (i73 : Int),
 hc h67 ((Addr.mk n12 0 none).add 12) = some (Value.int IntKind.i64 i73) ∧
 hcan h67 (Addr.mk n9 0 none) 13 ∧
 ∀ (h74 : H),
 h74 =
 hwr h67 (Addr.mk n9 0 none)
 (Value.int IntKind.i64 i69 :: (ints IntKind.i64 l70 ++ [Value.int IntKind.i64 i71, Value.bool b72, Value.int IntKind.i64 i73])) →
 ∃ (i76 : Int),
 hc h74 (Addr.mk n9 0 none) = some (Value.int IntKind.i64 i76) ∧
 ∃ (l77 : List Int),
 l77.length = 9 ∧
 hrow h74 ((Addr.mk n9 0 none).add 1) IntKind.i64 l77 ∧
 ∃ (i78 : Int),
 hc h74 ((Addr.mk n9 0 none).add 10) = some (Value.int IntKind.i64 i78) ∧
 ∃ (b79 : Bool),
 hc h74 ((Addr.mk n9 0 none).add 11) = some (Value.bool b79) ∧
 ∃ (i80 : Int), hc h74 ((Addr.mk n9 0 none).add 12) = some (Value.int IntKind.i64 i80) ∧ Q i76 l77 i78 b79 i80 0 h74) →
 J38 [SV.dv (DV.one (Value.int IntKind.i64 i39))] h40) →
 J38 [SV.dv (DV.one (Value.int IntKind.i64 0))] h37)
 h17)
 h13
theorem E_page_Look (c_chip_Chip_Read : Addr → Int → Int → ((List Int) → Int → H → Prop) → H → Prop) (c_chip_Chip_Config : Addr → (Int → Int → Int → Int → Int → Int → Int → H → Prop) → H → Prop) (c_chip_Chip_Erases : Addr → Int → (Int → Int → H → Prop) → H → Prop) (c_page_Info_lay : Addr → Int → Int → Int → Int → (H → Prop) → H → Prop) (c_cell_Read : (List Int) → (Int → Int → Int → H → Prop) → H → Prop) : ∀ (a0 : Addr) (a1 : Int) (Q : Int → (List Int) → Int → Bool → Int → Int → H → Prop) (h : H), G_page_Look c_chip_Chip_Read c_chip_Chip_Config c_chip_Chip_Erases c_page_Info_lay c_cell_Read a0 a1 Q h = Dbody PP [(62, W [.addr, .int .i64, .int .i64] [.ag [.row .u8 32], .int .i64] c_chip_Chip_Read), (91, W [.addr] [.ag [.int .i64, .int .i64, .int .i64, .int .i64, .int .i64, .int .i64, .int .i64]] c_chip_Chip_Config), (93, W [.addr, .int .i64] [.int .i64, .int .i64] c_chip_Chip_Erases), (94, W [.addr, .int .i64, .ag [.int .i64, .int .i64, .int .i64]] [] c_page_Info_lay), (95, W [.ag [.row .u8 32]] [.ag [.int .i64, .int .i64, .int .i64]] c_cell_Read)] [(122, [(25, .sc (.int .i64))])] Try.f38 [.addr a0, .one (.int .i64 a1)] (decR [.ag [.int .i64, .row .i64 9, .int .i64, .bool, .int .i64], .int .i64] Q) h := by
  intros; kernel_rfl
def F_page_Look := G_page_Look F_chip_Chip_Read F_chip_Chip_Config F_chip_Chip_Erases F_page_Info_lay F_cell_Read
theorem R_page_Look : RunOk PP 38 (W [.addr, .int .i64] [.ag [.int .i64, .row .i64 9, .int .i64, .bool, .int .i64], .int .i64] F_page_Look) :=
  runOk_of (T := [(62, W [.addr, .int .i64, .int .i64] [.ag [.row .u8 32], .int .i64] F_chip_Chip_Read), (91, W [.addr] [.ag [.int .i64, .int .i64, .int .i64, .int .i64, .int .i64, .int .i64, .int .i64]] F_chip_Chip_Config), (93, W [.addr, .int .i64] [.int .i64, .int .i64] F_chip_Chip_Erases), (94, W [.addr, .int .i64, .ag [.int .i64, .int .i64, .int .i64]] [] F_page_Info_lay), (95, W [.ag [.row .u8 32]] [.ag [.int .i64, .int .i64, .int .i64]] F_cell_Read)]) (ann := [(122, [(25, .sc (.int .i64))])]) (TblOk.cons R_chip_Chip_Read (TblOk.cons R_chip_Chip_Config (TblOk.cons R_chip_Chip_Erases (TblOk.cons R_page_Info_lay (TblOk.cons R_cell_Read (TblOk.nil)))))) Try.func38 (by kernel_rfl) (by kernel_rfl) (E_page_Look F_chip_Chip_Read F_chip_Chip_Config F_chip_Chip_Erases F_page_Info_lay F_cell_Read)
attribute [irreducible] F_page_Look
def G_cell_Value (c_cell_laid : Int → Int → Int → (List Int → H → Prop) → H → Prop) (a0 : Int) (a1 : Int) (Q : List Int → Int → H → Prop) (h : H) : Prop :=
 ∀ (n5 : Nat) (h6 : H),
 hnew h n5 (ints IntKind.u8 (zeros 32)) h6 →
 if ltI a0 0 = true then
 hcan h6 (Addr.mk n5 0 none) 32 ∧ ∀ (h8 : H), h8 = hwr h6 (Addr.mk n5 0 none) (ints IntKind.u8 (zeros 32)) → ∃ (l10 : List Int), l10.length = 32 ∧ hrow h8 (Addr.mk n5 0 none) IntKind.u8 l10 ∧ Q l10 2 h8
 else
 if ltI 8 a0 = true then
 hcan h6 (Addr.mk n5 0 none) 32 ∧ ∀ (h11 : H), h11 = hwr h6 (Addr.mk n5 0 none) (ints IntKind.u8 (zeros 32)) → ∃ (l13 : List Int), l13.length = 32 ∧ hrow h11 (Addr.mk n5 0 none) IntKind.u8 l13 ∧ Q l13 2 h11
 else
 if ltI a1 1 = true then
 hcan h6 (Addr.mk n5 0 none) 32 ∧ ∀ (h14 : H), h14 = hwr h6 (Addr.mk n5 0 none) (ints IntKind.u8 (zeros 32)) → ∃ (l16 : List Int), l16.length = 32 ∧ hrow h14 (Addr.mk n5 0 none) IntKind.u8 l16 ∧ Q l16 2 h14
 else
 ∀ (i17 : Int),
 i17 = 4611686018427387904 →
 if ltI i17 a1 = true then
 hcan h6 (Addr.mk n5 0 none) 32 ∧
 ∀ (h19 : H), h19 = hwr h6 (Addr.mk n5 0 none) (ints IntKind.u8 (zeros 32)) → ∃ (l21 : List Int), l21.length = 32 ∧ hrow h19 (Addr.mk n5 0 none) IntKind.u8 l21 ∧ Q l21 2 h19
 else
 c_cell_laid 2 a0 a1
 (fun (l22 : List Int) (h23 : H) =>
 hcan h23 (Addr.mk n5 0 none) 32 ∧
 ∀ (h24 : H), h24 = hwr h23 (Addr.mk n5 0 none) (ints IntKind.u8 l22 ++ []) → ∃ (l26 : List Int), l26.length = 32 ∧ hrow h24 (Addr.mk n5 0 none) IntKind.u8 l26 ∧ Q l26 0 h24)
 h6
theorem E_cell_Value (c_cell_laid : Int → Int → Int → ((List Int) → H → Prop) → H → Prop) : ∀ (a0 : Int) (a1 : Int) (Q : (List Int) → Int → H → Prop) (h : H), G_cell_Value c_cell_laid a0 a1 Q h = Dbody PP [(100, W [.int .u8, .int .i64, .int .i64] [.ag [.row .u8 32]] c_cell_laid)] [] Try.f42 [.one (.int .i64 a0), .one (.int .i64 a1)] (decR [.ag [.row .u8 32], .int .i64] Q) h := by
  intros; kernel_rfl
def F_cell_Value := G_cell_Value F_cell_laid
theorem R_cell_Value : RunOk PP 42 (W [.int .i64, .int .i64] [.ag [.row .u8 32], .int .i64] F_cell_Value) :=
  runOk_of (T := [(100, W [.int .u8, .int .i64, .int .i64] [.ag [.row .u8 32]] F_cell_laid)]) (ann := []) (TblOk.cons R_cell_laid (TblOk.nil)) Try.func42 (by kernel_rfl) (by kernel_rfl) (E_cell_Value F_cell_laid)
attribute [irreducible] F_cell_Value
def G_cell_Head (c_cell_laid : Int → Int → Int → (List Int → H → Prop) → H → Prop) (a0 : Int) (Q : List Int → Int → H → Prop) (h : H) : Prop :=
 ∀ (n4 : Nat) (h5 : H),
 hnew h n4 (ints IntKind.u8 (zeros 32)) h5 →
 if ltI a0 1 = true then
 hcan h5 (Addr.mk n4 0 none) 32 ∧ ∀ (h7 : H), h7 = hwr h5 (Addr.mk n4 0 none) (ints IntKind.u8 (zeros 32)) → ∃ (l9 : List Int), l9.length = 32 ∧ hrow h7 (Addr.mk n4 0 none) IntKind.u8 l9 ∧ Q l9 2 h7
 else
 ∀ (i10 : Int),
 i10 = 4611686018427387904 →
 if ltI i10 a0 = true then
 hcan h5 (Addr.mk n4 0 none) 32 ∧ ∀ (h12 : H), h12 = hwr h5 (Addr.mk n4 0 none) (ints IntKind.u8 (zeros 32)) → ∃ (l14 : List Int), l14.length = 32 ∧ hrow h12 (Addr.mk n4 0 none) IntKind.u8 l14 ∧ Q l14 2 h12
 else
 c_cell_laid 1 0 a0
 (fun (l15 : List Int) (h16 : H) =>
 hcan h16 (Addr.mk n4 0 none) 32 ∧
 ∀ (h17 : H), h17 = hwr h16 (Addr.mk n4 0 none) (ints IntKind.u8 l15 ++ []) → ∃ (l19 : List Int), l19.length = 32 ∧ hrow h17 (Addr.mk n4 0 none) IntKind.u8 l19 ∧ Q l19 0 h17)
 h5
theorem E_cell_Head (c_cell_laid : Int → Int → Int → ((List Int) → H → Prop) → H → Prop) : ∀ (a0 : Int) (Q : (List Int) → Int → H → Prop) (h : H), G_cell_Head c_cell_laid a0 Q h = Dbody PP [(100, W [.int .u8, .int .i64, .int .i64] [.ag [.row .u8 32]] c_cell_laid)] [] Try.f43 [.one (.int .i64 a0)] (decR [.ag [.row .u8 32], .int .i64] Q) h := by
  intros; kernel_rfl
def F_cell_Head := G_cell_Head F_cell_laid
theorem R_cell_Head : RunOk PP 43 (W [.int .i64] [.ag [.row .u8 32], .int .i64] F_cell_Head) :=
  runOk_of (T := [(100, W [.int .u8, .int .i64, .int .i64] [.ag [.row .u8 32]] F_cell_laid)]) (ann := []) (TblOk.cons R_cell_laid (TblOk.nil)) Try.func43 (by kernel_rfl) (by kernel_rfl) (E_cell_Head F_cell_laid)
attribute [irreducible] F_cell_Head
def G_portcullislaw08_fixed (c_chip_New : Int → Int → Int → Int → Int → Int → Int → (Option Addr → Int → H → Prop) → H → Prop) (c_page_Look : Addr → Int → (Int → List Int → Int → Bool → Int → Int → H → Prop) → H → Prop) (c_cell_Value : Int → Int → (List Int → Int → H → Prop) → H → Prop) (c_cell_Head : Int → (List Int → Int → H → Prop) → H → Prop) (c_chip_Chip_Program : Addr → Int → Int → List Int → (Int → H → Prop) → H → Prop) (Q : Bool → H → Prop) (h : H) : Prop :=
 c_chip_New 5 1 1 1 1 1 0
 (fun (o7 : Option Addr) (i8 : Int) (h9 : H) =>
 c_cell_Head 3
 (fun (l10 : List Int) (i11 : Int) (h12 : H) =>
 ∀ (n13 : Nat) (h14 : H),
 hnew h12 n13 (ints IntKind.u8 (zeros 32)) h14 →
 hcan h14 (Addr.mk n13 0 none) 32 ∧
 ∀ (h16 : H),
 h16 = hwr h14 (Addr.mk n13 0 none) (ints IntKind.u8 l10 ++ []) →
 c_cell_Value 1 7
 (fun (l18 : List Int) (i19 : Int) (h20 : H) =>
 ∀ (n21 : Nat) (h22 : H),
 hnew h20 n21 (ints IntKind.u8 (zeros 32)) h22 →
 hcan h22 (Addr.mk n21 0 none) 32 ∧
 ∀ (h24 : H),
 h24 = hwr h22 (Addr.mk n21 0 none) (ints IntKind.u8 l18 ++ []) →
 ∀ (J26 : List SV → H → Prop),
 (∀ (h27 : H),
 (∃ (l28 : List Int),
 l28.length = 32 ∧
 hrow h27 (Addr.mk n13 0 none) IntKind.u8 l28 ∧
 ∃ (p29 : Addr),
 o7 = some p29 ∧
 c_chip_Chip_Program p29 1 0 l28
 (fun (i30 : Int) (h31 : H) =>
 ∃ (l32 : List Int),
 l32.length = 32 ∧
 hrow h31 (Addr.mk n21 0 none) IntKind.u8 l32 ∧
 ∃ (p33 : Addr),
 o7 = some p33 ∧
 c_chip_Chip_Program p33 1 2 l32
 (fun (i34 : Int) (h35 : H) =>
 ∃ (p36 : Addr),
 o7 = some p36 ∧
 c_chip_Chip_Program p36 1 3 (zeros 32)
 (fun (i37 : Int) (h38 : H) =>
 ∃ (p39 : Addr),
 o7 = some p39 ∧
 c_page_Look p39 1
 (fun (i40 : Int) (l41 : List Int) (i42 : Int) (b43 : Bool) (i44 i45 : Int) (h46 : H) =>
 ∀ (n47 : Nat) (h48 : H),
 hnew h46 n47
 (Value.int IntKind.i64 0 :: (ints IntKind.i64 (zeros 9) ++ [Value.int IntKind.i64 0, Value.bool false, Value.int IntKind.i64 0]))
 h48 →
 hcan h48 (Addr.mk n47 0 none) 13 ∧
 ∀ (h50 : H),
 h50 =
 hwr h48 (Addr.mk n47 0 none)
 (Value.int IntKind.i64 i40 ::
 (ints IntKind.i64 l41 ++ [Value.int IntKind.i64 i42, Value.bool b43, Value.int IntKind.i64 i44])) →
 if (i45 == 0) = true then
 ∃ (i52 : Int),
 hc h50 (Addr.mk n47 0 none) = some (Value.int IntKind.i64 i52) ∧
 if (i52 == 3) = true then
 (0 : Int) ≤ 1 ∧
 (1 : Int) < (↑9 : Int) ∧
 ∃ (i53 : Int),
 hc h50 ((Addr.mk n47 0 none).add 2) = some (Value.int IntKind.i64 i53) ∧
 if (i53 == 7) = true then
 (0 : Int) ≤ 0 ∧
 (0 : Int) < (↑9 : Int) ∧
 ∃ (i54 : Int),
 hc h50 ((Addr.mk n47 0 none).add 1) = some (Value.int IntKind.i64 i54) ∧
 if (i54 == 0) = true then
 ∃ (i55 : Int),
 hc h50 ((Addr.mk n47 0 none).add 10) = some (Value.int IntKind.i64 i55) ∧
 if (i55 == 4) = true then
 ∃ (i56 : Int),
 hc h50 ((Addr.mk n47 0 none).add 12) = some (Value.int IntKind.i64 i56) ∧
 if (i56 == 1) = true then
 ∃ (b57 : Bool),
 hc h50 ((Addr.mk n47 0 none).add 11) = some (Value.bool b57) ∧ Q (!b57) h50
 else Q false h50
 else Q false h50
 else Q false h50
 else Q false h50
 else Q false h50
 else Q false h50)
 h38)
 h35)
 h31)
 h27) →
 J26 [] h27) →
 if o7.isNone = true then Q false h24 else if (i8 != 0) = true then Q false h24 else if (i11 != 0) = true then Q false h24 else if (i19 != 0) = true then Q false h24 else J26 [] h24)
 h16)
 h9)
 h
theorem E_portcullislaw08_fixed (c_chip_New : Int → Int → Int → Int → Int → Int → Int → ((Option Addr) → Int → H → Prop) → H → Prop) (c_page_Look : Addr → Int → (Int → (List Int) → Int → Bool → Int → Int → H → Prop) → H → Prop) (c_cell_Value : Int → Int → ((List Int) → Int → H → Prop) → H → Prop) (c_cell_Head : Int → ((List Int) → Int → H → Prop) → H → Prop) (c_chip_Chip_Program : Addr → Int → Int → (List Int) → (Int → H → Prop) → H → Prop) : ∀ (Q : Bool → H → Prop) (h : H), G_portcullislaw08_fixed c_chip_New c_page_Look c_cell_Value c_cell_Head c_chip_Chip_Program Q h = Dbody PP [(16, W [.ag [.int .i64, .int .i64, .int .i64, .int .i64, .int .i64, .int .i64, .int .i64]] [.ptr, .int .i64] c_chip_New), (38, W [.addr, .int .i64] [.ag [.int .i64, .row .i64 9, .int .i64, .bool, .int .i64], .int .i64] c_page_Look), (42, W [.int .i64, .int .i64] [.ag [.row .u8 32], .int .i64] c_cell_Value), (43, W [.int .i64] [.ag [.row .u8 32], .int .i64] c_cell_Head), (47, W [.addr, .int .i64, .int .i64, .ag [.row .u8 32]] [.int .i64] c_chip_Chip_Program)] [(31, [])] Try.f37 [] (decR [.bool] Q) h := by
  intros; kernel_rfl
def F_portcullislaw08_fixed := G_portcullislaw08_fixed F_chip_New F_page_Look F_cell_Value F_cell_Head F_chip_Chip_Program
theorem R_portcullislaw08_fixed : RunOk PP 37 (W [] [.bool] F_portcullislaw08_fixed) :=
  runOk_of (T := [(16, W [.ag [.int .i64, .int .i64, .int .i64, .int .i64, .int .i64, .int .i64, .int .i64]] [.ptr, .int .i64] F_chip_New), (38, W [.addr, .int .i64] [.ag [.int .i64, .row .i64 9, .int .i64, .bool, .int .i64], .int .i64] F_page_Look), (42, W [.int .i64, .int .i64] [.ag [.row .u8 32], .int .i64] F_cell_Value), (43, W [.int .i64] [.ag [.row .u8 32], .int .i64] F_cell_Head), (47, W [.addr, .int .i64, .int .i64, .ag [.row .u8 32]] [.int .i64] F_chip_Chip_Program)]) (ann := [(31, [])]) (TblOk.cons R_chip_New (TblOk.cons R_page_Look (TblOk.cons R_cell_Value (TblOk.cons R_cell_Head (TblOk.cons R_chip_Chip_Program (TblOk.nil)))))) Try.func37 (by kernel_rfl) (by kernel_rfl) (E_portcullislaw08_fixed F_chip_New F_page_Look F_cell_Value F_cell_Head F_chip_Chip_Program)
attribute [irreducible] F_portcullislaw08_fixed
def G_portcullisref06_Blank (Q : List Int → H → Prop) (h : H) : Prop :=
 ∀ (n2 : Nat) (h3 : H),
 hnew h n2 (ints IntKind.u8 (zeros 32)) h3 →
 ∀ (n5 : Nat) (h6 : H),
 hnew h3 n5 (ints IntKind.u8 (zeros 32)) h6 →
 hcan h6 (Addr.mk n5 0 none) 32 ∧
 ∀ (h8 : H),
 h8 = hwr h6 (Addr.mk n5 0 none) (ints IntKind.u8 (zeros 32)) →
 ∀ (J10 : List SV → H → Prop),
 (∀ (i11 : Int) (h12 : H),
 (if ltI i11 32 = true then
 0 ≤ i11 ∧
 i11 < (↑32 : Int) ∧
 hcan h12 ((Addr.mk n5 0 none).add (i11.toNat * 1)) 1 ∧
 ∀ (h13 : H), h13 = hwr h12 ((Addr.mk n5 0 none).add (i11.toNat * 1)) [Value.int IntKind.u8 255] → J10 [SV.dv (DV.one (Value.int IntKind.i64 (IntKind.i64.wrap (i11 + 1))))] h13
 else
 ∃ (l15 : List Int),
 l15.length = 32 ∧
 hrow h12 (Addr.mk n5 0 none) IntKind.u8 l15 ∧
 hcan h12 (Addr.mk n2 0 none) 32 ∧
 ∀ (h16 : H), h16 = hwr h12 (Addr.mk n2 0 none) (ints IntKind.u8 l15 ++ []) → ∃ (l18 : List Int), l18.length = 32 ∧ hrow h16 (Addr.mk n2 0 none) IntKind.u8 l18 ∧ Q l18 h16) →
 J10 [SV.dv (DV.one (Value.int IntKind.i64 i11))] h12) →
 J10 [SV.dv (DV.one (Value.int IntKind.i64 0))] h8
theorem E_portcullisref06_Blank  : ∀ (Q : (List Int) → H → Prop) (h : H), G_portcullisref06_Blank Q h = Dbody PP [] [(58, [(2, .sc (.int .i64))])] Try.f167 [] (decR [.ag [.row .u8 32]] Q) h := by
  intros; kernel_rfl
def F_portcullisref06_Blank := G_portcullisref06_Blank
theorem R_portcullisref06_Blank : RunOk PP 167 (W [] [.ag [.row .u8 32]] F_portcullisref06_Blank) :=
  runOk_of (T := []) (ann := [(58, [(2, .sc (.int .i64))])]) (TblOk.nil) Try.func167 (by kernel_rfl) (by kernel_rfl) (E_portcullisref06_Blank)
attribute [irreducible] F_portcullisref06_Blank
def G_portcullisref01_step (a0 : Int) (Q : Int → H → Prop) (h : H) : Prop :=
 if (bits BinOp.and IntKind.u32 a0 1 == 1) = true then (0 : Int) ≤ 1 ∧ ∀ (i3 : Int), i3 = 3988292384 → Q (bits BinOp.xor IntKind.u32 (a0.fdiv (2 ^ 1)) i3) h else (0 : Int) ≤ 1 ∧ Q (a0.fdiv (2 ^ 1)) h
theorem E_portcullisref01_step  : ∀ (a0 : Int) (Q : Int → H → Prop) (h : H), G_portcullisref01_step a0 Q h = Dbody PP [] [] Try.f185 [.one (.int .u32 a0)] (decR [.int .u32] Q) h := by
  intros; kernel_rfl
def F_portcullisref01_step := G_portcullisref01_step
theorem R_portcullisref01_step : RunOk PP 185 (W [.int .u32] [.int .u32] F_portcullisref01_step) :=
  runOk_of (T := []) (ann := []) (TblOk.nil) Try.func185 (by kernel_rfl) (by kernel_rfl) (E_portcullisref01_step)
attribute [irreducible] F_portcullisref01_step
def G_portcullisref01_eight (c_portcullisref01_step : Int → (Int → H → Prop) → H → Prop) (a0 : Int) (Q : Int → H → Prop) (h : H) : Prop :=
 ∀ (J4 : List SV → H → Prop),
 (∀ (i5 i6 : Int) (h7 : H),
 (if ltI i6 8 = true then c_portcullisref01_step i5 (fun (i8 : Int) (h9 : H) => J4 [SV.dv (DV.one (Value.int IntKind.u32 i8)), SV.dv (DV.one (Value.int IntKind.i64 (IntKind.i64.wrap (i6 + 1))))] h9) h7
 else Q i5 h7) →
 J4 [SV.dv (DV.one (Value.int IntKind.u32 i5)), SV.dv (DV.one (Value.int IntKind.i64 i6))] h7) →
 J4 [SV.dv (DV.one (Value.int IntKind.u32 a0)), SV.dv (DV.one (Value.int IntKind.i64 0))] h
theorem E_portcullisref01_eight (c_portcullisref01_step : Int → (Int → H → Prop) → H → Prop) : ∀ (a0 : Int) (Q : Int → H → Prop) (h : H), G_portcullisref01_eight c_portcullisref01_step a0 Q h = Dbody PP [(185, W [.int .u32] [.int .u32] c_portcullisref01_step)] [(26, [(0, .sc (.int .u32)), (3, .sc (.int .i64))])] Try.f184 [.one (.int .u32 a0)] (decR [.int .u32] Q) h := by
  intros; kernel_rfl
def F_portcullisref01_eight := G_portcullisref01_eight F_portcullisref01_step
theorem R_portcullisref01_eight : RunOk PP 184 (W [.int .u32] [.int .u32] F_portcullisref01_eight) :=
  runOk_of (T := [(185, W [.int .u32] [.int .u32] F_portcullisref01_step)]) (ann := [(26, [(0, .sc (.int .u32)), (3, .sc (.int .i64))])]) (TblOk.cons R_portcullisref01_step (TblOk.nil)) Try.func184 (by kernel_rfl) (by kernel_rfl) (E_portcullisref01_eight F_portcullisref01_step)
attribute [irreducible] F_portcullisref01_eight
def G_portcullisref01_Of (c_portcullisref01_eight : Int → (Int → H → Prop) → H → Prop) (a0p : Option Addr) (a0l : Nat) (a0c : Nat) (Q : Int → H → Prop) (h : H) : Prop :=
 ∀ (J6 : List SV → H → Prop),
 (∀ (i7 i8 : Int) (h9 : H),
 (if ltI i8 (↑a0l : Int) = true then
 ∃ (p10 : Addr),
 a0p = some p10 ∧
 0 ≤ i8 ∧
 i8 < (↑a0l : Int) ∧
 ∃ (i11 : Int),
 hc h9 (p10.add (i8.toNat * 1)) = some (Value.int IntKind.u8 i11) ∧
 c_portcullisref01_eight (bits BinOp.xor IntKind.u32 i7 (IntKind.u32.wrap i11))
 (fun (i12 : Int) (h13 : H) => J6 [SV.dv (DV.one (Value.int IntKind.u32 i12)), SV.dv (DV.one (Value.int IntKind.i64 (IntKind.i64.wrap (i8 + 1))))] h13) h9
 else Q (bits BinOp.xor IntKind.u32 (if IntKind.u32.signed = true then -1 else IntKind.u32.max) i7) h9) →
 J6 [SV.dv (DV.one (Value.int IntKind.u32 i7)), SV.dv (DV.one (Value.int IntKind.i64 i8))] h9) →
 J6 [SV.dv (DV.one (Value.int IntKind.u32 4294967295)), SV.dv (DV.one (Value.int IntKind.i64 0))] h
theorem E_portcullisref01_Of (c_portcullisref01_eight : Int → (Int → H → Prop) → H → Prop) : ∀ (a0p : Option Addr) (a0l : Nat) (a0c : Nat) (Q : Int → H → Prop) (h : H), G_portcullisref01_Of c_portcullisref01_eight a0p a0l a0c Q h = Dbody PP [(184, W [.int .u32] [.int .u32] c_portcullisref01_eight)] [(58, [(3, .sc (.int .u32)), (4, .sc (.int .i64))])] Try.f183 [.one (.slice a0p a0l a0c)] (decR [.int .u32] Q) h := by
  intros; kernel_rfl
def F_portcullisref01_Of := G_portcullisref01_Of F_portcullisref01_eight
theorem R_portcullisref01_Of : RunOk PP 183 (W [.slc] [.int .u32] F_portcullisref01_Of) :=
  runOk_of (T := [(184, W [.int .u32] [.int .u32] F_portcullisref01_eight)]) (ann := [(58, [(3, .sc (.int .u32)), (4, .sc (.int .i64))])]) (TblOk.cons R_portcullisref01_eight (TblOk.nil)) Try.func183 (by kernel_rfl) (by kernel_rfl) (E_portcullisref01_Of F_portcullisref01_eight)
attribute [irreducible] F_portcullisref01_Of
def G_portcullisref06_cell (c_portcullisref01_Of : Option Addr → Nat → Nat → (Int → H → Prop) → H → Prop) (a0 : Int) (a1 : Int) (a2 : Int) (Q : List Int → H → Prop) (h : H) : Prop :=
 ∀ (n6 : Nat) (h7 : H),
 hnew h n6 (ints IntKind.u8 (zeros 32)) h7 →
 ∀ (n9 : Nat) (h10 : H),
 hnew h7 n9 [Value.int IntKind.u8 (IntKind.u8.wrap a0), Value.int IntKind.u8 (IntKind.u8.wrap a1), Value.int IntKind.u8 0, Value.int IntKind.u8 0] h10 →
 ∀ (J12 : List SV → H → Prop),
 (∀ (o13 : Option Addr) (n14 n15 : Nat) (i16 : Int) (h17 : H),
 (if ltI i16 8 = true then
 0 ≤ IntKind.i64.wrap (8 * i16) ∧
 ∀ (n18 : Nat) (h19 : H),
 hnew h17 n18 [Value.int IntKind.u8 (IntKind.u8.wrap (a2.fdiv (2 ^ min (IntKind.i64.wrap (8 * i16)).toNat 64)))] h19 →
 ∃ (l21 : List Value),
 hsv h19 (some (Addr.mk n18 0 none)) 1 1 l21 ∧
 pApp h19 1 [Value.int IntKind.u8 0] 1 o13 n14 n15 1 l21 fun (o22 : Option Addr) (n23 n24 : Nat) (h25 : H) =>
 J12 [SV.dv (DV.one (Value.slice o22 n23 n24)), SV.dv (DV.one (Value.int IntKind.i64 (IntKind.i64.wrap (i16 + 1))))] h25
 else
 c_portcullisref01_Of o13 n14 n15
 (fun (i26 : Int) (h27 : H) =>
 ∀ (J28 : List SV → H → Prop),
 (∀ (o29 : Option Addr) (n30 n31 : Nat) (i32 : Int) (h33 : H),
 (if ltI i32 4 = true then
 0 ≤ IntKind.i64.wrap (8 * i32) ∧
 ∀ (n34 : Nat) (h35 : H),
 hnew h33 n34 [Value.int IntKind.u8 (IntKind.u8.wrap (i26.fdiv (2 ^ min (IntKind.i64.wrap (8 * i32)).toNat 32)))] h35 →
 ∃ (l37 : List Value),
 hsv h35 (some (Addr.mk n34 0 none)) 1 1 l37 ∧
 pApp h35 1 [Value.int IntKind.u8 0] 1 o29 n30 n31 1 l37 fun (o38 : Option Addr) (n39 n40 : Nat) (h41 : H) =>
 J28 [SV.dv (DV.one (Value.slice o38 n39 n40)), SV.dv (DV.one (Value.int IntKind.i64 (IntKind.i64.wrap (i32 + 1))))] h41
 else
 ∀ (n42 : Nat) (h43 : H),
 hnew h33 n42 (ints IntKind.u8 (zeros 32)) h43 →
 hcan h43 (Addr.mk n42 0 none) 32 ∧
 ∀ (h45 : H),
 h45 = hwr h43 (Addr.mk n42 0 none) (ints IntKind.u8 (zeros 32)) →
 ∀ (J47 : List SV → H → Prop),
 (∀ (i48 : Int) (h49 : H),
 (if ltI i48 16 = true then
 ∃ (p50 : Addr),
 o29 = some p50 ∧
 0 ≤ i48 ∧
 i48 < (↑n30 : Int) ∧
 ∃ (i51 : Int),
 hc h49 (p50.add (i48.toNat * 1)) = some (Value.int IntKind.u8 i51) ∧
 0 ≤ i48 ∧
 i48 < (↑32 : Int) ∧
 hcan h49 ((Addr.mk n42 0 none).add (i48.toNat * 1)) 1 ∧
 ∀ (h52 : H),
 h52 = hwr h49 ((Addr.mk n42 0 none).add (i48.toNat * 1)) [Value.int IntKind.u8 i51] →
 ∃ (p54 : Addr),
 o29 = some p54 ∧
 0 ≤ i48 ∧
 i48 < (↑n30 : Int) ∧
 ∃ (i55 : Int),
 hc h52 (p54.add (i48.toNat * 1)) = some (Value.int IntKind.u8 i55) ∧
 0 ≤ IntKind.i64.wrap (16 + i48) ∧
 IntKind.i64.wrap (16 + i48) < (↑32 : Int) ∧
 hcan h52 ((Addr.mk n42 0 none).add ((IntKind.i64.wrap (16 + i48)).toNat * 1)) 1 ∧
 ∀ (h56 : H),
 h56 =
 hwr h52 ((Addr.mk n42 0 none).add ((IntKind.i64.wrap (16 + i48)).toNat * 1))
 [Value.int IntKind.u8 (bits BinOp.xor IntKind.u8 (if IntKind.u8.signed = true then -1 else IntKind.u8.max) i55)] →
 J47 [SV.dv (DV.one (Value.int IntKind.i64 (IntKind.i64.wrap (i48 + 1))))] h56
 else
 ∃ (l58 : List Int),
 l58.length = 32 ∧
 hrow h49 (Addr.mk n42 0 none) IntKind.u8 l58 ∧
 hcan h49 (Addr.mk n6 0 none) 32 ∧
 ∀ (h59 : H),
 h59 = hwr h49 (Addr.mk n6 0 none) (ints IntKind.u8 l58 ++ []) →
 ∃ (l61 : List Int), l61.length = 32 ∧ hrow h59 (Addr.mk n6 0 none) IntKind.u8 l61 ∧ Q l61 h59) →
 J47 [SV.dv (DV.one (Value.int IntKind.i64 i48))] h49) →
 J47 [SV.dv (DV.one (Value.int IntKind.i64 0))] h45) →
 J28 [SV.dv (DV.one (Value.slice o29 n30 n31)), SV.dv (DV.one (Value.int IntKind.i64 i32))] h33) →
 J28 [SV.dv (DV.one (Value.slice o13 n14 n15)), SV.dv (DV.one (Value.int IntKind.i64 0))] h27)
 h17) →
 J12 [SV.dv (DV.one (Value.slice o13 n14 n15)), SV.dv (DV.one (Value.int IntKind.i64 i16))] h17) →
 J12 [SV.dv (DV.one (Value.slice (some (Addr.mk n9 0 none)) 4 4)), SV.dv (DV.one (Value.int IntKind.i64 0))] h10
theorem E_portcullisref06_cell (c_portcullisref01_Of : (Option Addr) → Nat → Nat → (Int → H → Prop) → H → Prop) : ∀ (a0 : Int) (a1 : Int) (a2 : Int) (Q : (List Int) → H → Prop) (h : H), G_portcullisref06_cell c_portcullisref01_Of a0 a1 a2 Q h = Dbody PP [(183, W [.slc] [.int .u32] c_portcullisref01_Of)] [(58, [(7, .sc (.slc)), (8, .sc (.int .i64))]), (250, [(7, .sc (.slc)), (10, .sc (.int .i64))]), (1018, [(12, .sc (.int .i64))])] Try.f179 [.one (.int .i64 a0), .one (.int .i64 a1), .one (.int .i64 a2)] (decR [.ag [.row .u8 32]] Q) h := by
  intros; kernel_rfl
def F_portcullisref06_cell := G_portcullisref06_cell F_portcullisref01_Of
theorem R_portcullisref06_cell : RunOk PP 179 (W [.int .i64, .int .i64, .int .i64] [.ag [.row .u8 32]] F_portcullisref06_cell) :=
  runOk_of (T := [(183, W [.slc] [.int .u32] F_portcullisref01_Of)]) (ann := [(58, [(7, .sc (.slc)), (8, .sc (.int .i64))]), (250, [(7, .sc (.slc)), (10, .sc (.int .i64))]), (1018, [(12, .sc (.int .i64))])]) (TblOk.cons R_portcullisref01_Of (TblOk.nil)) Try.func179 (by kernel_rfl) (by kernel_rfl) (E_portcullisref06_cell F_portcullisref01_Of)
attribute [irreducible] F_portcullisref06_cell
def G_portcullisref06_Head (c_portcullisref06_cell : Int → Int → Int → (List Int → H → Prop) → H → Prop) (a0 : Int) (Q : List Int → Int → H → Prop) (h : H) : Prop :=
 ∀ (n4 : Nat) (h5 : H),
 hnew h n4 (ints IntKind.u8 (zeros 32)) h5 →
 if ltI a0 1 = true then
 hcan h5 (Addr.mk n4 0 none) 32 ∧ ∀ (h7 : H), h7 = hwr h5 (Addr.mk n4 0 none) (ints IntKind.u8 (zeros 32)) → ∃ (l9 : List Int), l9.length = 32 ∧ hrow h7 (Addr.mk n4 0 none) IntKind.u8 l9 ∧ Q l9 2 h7
 else
 ∀ (i10 : Int),
 i10 = 4611686018427387904 →
 if ltI i10 a0 = true then
 hcan h5 (Addr.mk n4 0 none) 32 ∧ ∀ (h12 : H), h12 = hwr h5 (Addr.mk n4 0 none) (ints IntKind.u8 (zeros 32)) → ∃ (l14 : List Int), l14.length = 32 ∧ hrow h12 (Addr.mk n4 0 none) IntKind.u8 l14 ∧ Q l14 2 h12
 else
 c_portcullisref06_cell 1 0 a0
 (fun (l15 : List Int) (h16 : H) =>
 hcan h16 (Addr.mk n4 0 none) 32 ∧
 ∀ (h17 : H), h17 = hwr h16 (Addr.mk n4 0 none) (ints IntKind.u8 l15 ++ []) → ∃ (l19 : List Int), l19.length = 32 ∧ hrow h17 (Addr.mk n4 0 none) IntKind.u8 l19 ∧ Q l19 0 h17)
 h5
theorem E_portcullisref06_Head (c_portcullisref06_cell : Int → Int → Int → ((List Int) → H → Prop) → H → Prop) : ∀ (a0 : Int) (Q : (List Int) → Int → H → Prop) (h : H), G_portcullisref06_Head c_portcullisref06_cell a0 Q h = Dbody PP [(179, W [.int .i64, .int .i64, .int .i64] [.ag [.row .u8 32]] c_portcullisref06_cell)] [] Try.f168 [.one (.int .i64 a0)] (decR [.ag [.row .u8 32], .int .i64] Q) h := by
  intros; kernel_rfl
def F_portcullisref06_Head := G_portcullisref06_Head F_portcullisref06_cell
theorem R_portcullisref06_Head : RunOk PP 168 (W [.int .i64] [.ag [.row .u8 32], .int .i64] F_portcullisref06_Head) :=
  runOk_of (T := [(179, W [.int .i64, .int .i64, .int .i64] [.ag [.row .u8 32]] F_portcullisref06_cell)]) (ann := []) (TblOk.cons R_portcullisref06_cell (TblOk.nil)) Try.func168 (by kernel_rfl) (by kernel_rfl) (E_portcullisref06_Head F_portcullisref06_cell)
attribute [irreducible] F_portcullisref06_Head
def G_portcullisref06_Value (c_portcullisref06_cell : Int → Int → Int → (List Int → H → Prop) → H → Prop) (a0 : Int) (a1 : Int) (Q : List Int → Int → H → Prop) (h : H) : Prop :=
 ∀ (n5 : Nat) (h6 : H),
 hnew h n5 (ints IntKind.u8 (zeros 32)) h6 →
 if ltI a0 0 = true then
 hcan h6 (Addr.mk n5 0 none) 32 ∧ ∀ (h8 : H), h8 = hwr h6 (Addr.mk n5 0 none) (ints IntKind.u8 (zeros 32)) → ∃ (l10 : List Int), l10.length = 32 ∧ hrow h8 (Addr.mk n5 0 none) IntKind.u8 l10 ∧ Q l10 2 h8
 else
 if ltI 8 a0 = true then
 hcan h6 (Addr.mk n5 0 none) 32 ∧ ∀ (h11 : H), h11 = hwr h6 (Addr.mk n5 0 none) (ints IntKind.u8 (zeros 32)) → ∃ (l13 : List Int), l13.length = 32 ∧ hrow h11 (Addr.mk n5 0 none) IntKind.u8 l13 ∧ Q l13 2 h11
 else
 if ltI a1 1 = true then
 hcan h6 (Addr.mk n5 0 none) 32 ∧ ∀ (h14 : H), h14 = hwr h6 (Addr.mk n5 0 none) (ints IntKind.u8 (zeros 32)) → ∃ (l16 : List Int), l16.length = 32 ∧ hrow h14 (Addr.mk n5 0 none) IntKind.u8 l16 ∧ Q l16 2 h14
 else
 ∀ (i17 : Int),
 i17 = 4611686018427387904 →
 if ltI i17 a1 = true then
 hcan h6 (Addr.mk n5 0 none) 32 ∧
 ∀ (h19 : H), h19 = hwr h6 (Addr.mk n5 0 none) (ints IntKind.u8 (zeros 32)) → ∃ (l21 : List Int), l21.length = 32 ∧ hrow h19 (Addr.mk n5 0 none) IntKind.u8 l21 ∧ Q l21 2 h19
 else
 c_portcullisref06_cell 2 a0 a1
 (fun (l22 : List Int) (h23 : H) =>
 hcan h23 (Addr.mk n5 0 none) 32 ∧
 ∀ (h24 : H), h24 = hwr h23 (Addr.mk n5 0 none) (ints IntKind.u8 l22 ++ []) → ∃ (l26 : List Int), l26.length = 32 ∧ hrow h24 (Addr.mk n5 0 none) IntKind.u8 l26 ∧ Q l26 0 h24)
 h6
theorem E_portcullisref06_Value (c_portcullisref06_cell : Int → Int → Int → ((List Int) → H → Prop) → H → Prop) : ∀ (a0 : Int) (a1 : Int) (Q : (List Int) → Int → H → Prop) (h : H), G_portcullisref06_Value c_portcullisref06_cell a0 a1 Q h = Dbody PP [(179, W [.int .i64, .int .i64, .int .i64] [.ag [.row .u8 32]] c_portcullisref06_cell)] [] Try.f169 [.one (.int .i64 a0), .one (.int .i64 a1)] (decR [.ag [.row .u8 32], .int .i64] Q) h := by
  intros; kernel_rfl
def F_portcullisref06_Value := G_portcullisref06_Value F_portcullisref06_cell
theorem R_portcullisref06_Value : RunOk PP 169 (W [.int .i64, .int .i64] [.ag [.row .u8 32], .int .i64] F_portcullisref06_Value) :=
  runOk_of (T := [(179, W [.int .i64, .int .i64, .int .i64] [.ag [.row .u8 32]] F_portcullisref06_cell)]) (ann := []) (TblOk.cons R_portcullisref06_cell (TblOk.nil)) Try.func169 (by kernel_rfl) (by kernel_rfl) (E_portcullisref06_Value F_portcullisref06_cell)
attribute [irreducible] F_portcullisref06_Value
end Go.Proofs.Ytamfkofcpoglnaa
