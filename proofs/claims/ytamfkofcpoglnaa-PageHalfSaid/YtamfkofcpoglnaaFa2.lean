/- The denotations of some functions of the program, printed by a program of ours (wip/tools/vcgen.py), and that they are the model's. -/
import Derived.Test.YtamfkofcpoglnaaFa0
import Derived.Test.YtamfkofcpoglnaaFa1
set_option autoImplicit false
set_option linter.all false
set_option linter.unusedVariables false
set_option maxRecDepth 100000
namespace Go.Proofs.Ytamfkofcpoglnaa
open Go Go.Vc
def G_chip_Chip_Read (c_chip_Chip_asksCell : Addr → Int → Int → (Int → H → Prop) → H → Prop) (a0 : Addr) (a1 : Int) (a2 : Int) (Q : List Int → Int → H → Prop) (h : H) : Prop :=
 ∀ (n6 : Nat) (h7 : H),
 hnew h n6 (ints IntKind.u8 (zeros 32)) h7 →
 c_chip_Chip_asksCell a0 a1 a2
 (fun (i9 : Int) (h10 : H) =>
 if (i9 != 0) = true then
 hcan h10 (Addr.mk n6 0 none) 32 ∧ ∀ (h11 : H), h11 = hwr h10 (Addr.mk n6 0 none) (ints IntKind.u8 (zeros 32)) → ∃ (l13 : List Int), l13.length = 32 ∧ hrow h11 (Addr.mk n6 0 none) IntKind.u8 l13 ∧ Q l13 i9 h11
 else
 ∃ (o14 : Option Addr),
 ∃ (n15 : Nat),
 ∃ (n16 : Nat),
 hc h10 (a0.add 7) = some (Value.slice o14 n15 n16) ∧
 ∃ (p17 : Addr),
 o14 = some p17 ∧
 0 ≤ a1 ∧
 a1 < (↑n15 : Int) ∧
 ∃ (o18 : Option Addr),
 ∃ (n19 : Nat),
 ∃ (n20 : Nat),
 hc h10 (p17.add (a1.toNat * 1)) = some (Value.slice o18 n19 n20) ∧
 ∃ (p21 : Addr),
 o18 = some p21 ∧
 0 ≤ a2 ∧
 a2 < (↑n19 : Int) ∧
 ∃ (l22 : List Int),
 l22.length = 32 ∧
 hrow h10 (p21.add (a2.toNat * 32)) IntKind.u8 l22 ∧
 hcan h10 (Addr.mk n6 0 none) 32 ∧
 ∀ (h23 : H),
 h23 = hwr h10 (Addr.mk n6 0 none) (ints IntKind.u8 l22 ++ []) → ∃ (l25 : List Int), l25.length = 32 ∧ hrow h23 (Addr.mk n6 0 none) IntKind.u8 l25 ∧ Q l25 0 h23)
 h7
theorem E_chip_Chip_Read (c_chip_Chip_asksCell : Addr → Int → Int → (Int → H → Prop) → H → Prop) : ∀ (a0 : Addr) (a1 : Int) (a2 : Int) (Q : (List Int) → Int → H → Prop) (h : H), G_chip_Chip_Read c_chip_Chip_asksCell a0 a1 a2 Q h = Dbody PP [(101, W [.addr, .int .i64, .int .i64] [.int .i64] c_chip_Chip_asksCell)] [] Try.f62 [.addr a0, .one (.int .i64 a1), .one (.int .i64 a2)] (decR [.ag [.row .u8 32], .int .i64] Q) h := by
  intros; kernel_rfl
def F_chip_Chip_Read := G_chip_Chip_Read F_chip_Chip_asksCell
theorem R_chip_Chip_Read : RunOk PP 62 (W [.addr, .int .i64, .int .i64] [.ag [.row .u8 32], .int .i64] F_chip_Chip_Read) :=
  runOk_of (T := [(101, W [.addr, .int .i64, .int .i64] [.int .i64] F_chip_Chip_asksCell)]) (ann := []) (TblOk.cons R_chip_Chip_asksCell (TblOk.nil)) Try.func62 (by kernel_rfl) (by kernel_rfl) (E_chip_Chip_Read F_chip_Chip_asksCell)
attribute [irreducible] F_chip_Chip_Read
def G_chip_Chip_Blown (c_chip_Chip_asked : Addr → Int → Int → (Int → H → Prop) → H → Prop) (a0 : Addr) (a1 : Int) (Q : Bool → Int → H → Prop) (h : H) : Prop :=
 ∃ (o5 : Option Addr),
 ∃ (n6 : Nat),
 ∃ (n7 : Nat),
 hc h (a0.add 9) = some (Value.slice o5 n6 n7) ∧
 c_chip_Chip_asked a0 a1 (↑n6 : Int)
 (fun (i8 : Int) (h9 : H) =>
 if (i8 != 0) = true then Q false i8 h9
 else
 ∃ (o10 : Option Addr),
 ∃ (n11 : Nat),
 ∃ (n12 : Nat),
 hc h9 (a0.add 9) = some (Value.slice o10 n11 n12) ∧ ∃ (p13 : Addr), o10 = some p13 ∧ 0 ≤ a1 ∧ a1 < (↑n11 : Int) ∧ ∃ (b14 : Bool), hc h9 (p13.add (a1.toNat * 1)) = some (Value.bool b14) ∧ Q b14 0 h9)
 h
theorem E_chip_Chip_Blown (c_chip_Chip_asked : Addr → Int → Int → (Int → H → Prop) → H → Prop) : ∀ (a0 : Addr) (a1 : Int) (Q : Bool → Int → H → Prop) (h : H), G_chip_Chip_Blown c_chip_Chip_asked a0 a1 Q h = Dbody PP [(98, W [.addr, .int .i64, .int .i64] [.int .i64] c_chip_Chip_asked)] [] Try.f63 [.addr a0, .one (.int .i64 a1)] (decR [.bool, .int .i64] Q) h := by
  intros; kernel_rfl
def F_chip_Chip_Blown := G_chip_Chip_Blown F_chip_Chip_asked
theorem R_chip_Chip_Blown : RunOk PP 63 (W [.addr, .int .i64] [.bool, .int .i64] F_chip_Chip_Blown) :=
  runOk_of (T := [(98, W [.addr, .int .i64, .int .i64] [.int .i64] F_chip_Chip_asked)]) (ann := []) (TblOk.cons R_chip_Chip_asked (TblOk.nil)) Try.func63 (by kernel_rfl) (by kernel_rfl) (E_chip_Chip_Blown F_chip_Chip_asked)
attribute [irreducible] F_chip_Chip_Blown
def G_portcullislaw04_fixed (c_chip_New : Int → Int → Int → Int → Int → Int → Int → (Option Addr → Int → H → Prop) → H → Prop) (c_chip_Chip_Cut : Addr → Int → Option Addr → Nat → Nat → (H → Prop) → H → Prop) (c_chip_Chip_Acts : Addr → (Int → H → Prop) → H → Prop) (c_chip_Chip_Restore : Addr → (H → Prop) → H → Prop) (c_chip_Chip_Blow : Addr → Int → (Int → H → Prop) → H → Prop) (c_chip_Chip_Program : Addr → Int → Int → List Int → (Int → H → Prop) → H → Prop) (c_chip_Chip_Read : Addr → Int → Int → (List Int → Int → H → Prop) → H → Prop) (c_chip_Chip_Blown : Addr → Int → (Bool → Int → H → Prop) → H → Prop) (Q : Bool → H → Prop) (h : H) : Prop :=
 c_chip_New 4 1 2 1 1 1 0
 (fun (o10 : Option Addr) (i11 : Int) (h12 : H) =>
 ∀ (J13 : List SV → H → Prop),
 (∀ (h14 : H),
 (∃ (p15 : Addr),
 o10 = some p15 ∧
 c_chip_Chip_Program p15 0 1 (zeros 32)
 (fun (i16 : Int) (h17 : H) =>
 ∃ (p18 : Addr),
 o10 = some p18 ∧
 c_chip_Chip_Read p18 0 1
 (fun (l19 : List Int) (i20 : Int) (h21 : H) =>
 ∀ (n22 : Nat) (h23 : H),
 hnew h21 n22 (ints IntKind.u8 (zeros 32)) h23 →
 hcan h23 (Addr.mk n22 0 none) 32 ∧
 ∀ (h25 : H),
 h25 = hwr h23 (Addr.mk n22 0 none) (ints IntKind.u8 l19 ++ []) →
 ∀ (n27 : Nat) (h28 : H),
 hnew h25 n27 [Value.int IntKind.u8 1] h28 →
 ∃ (p30 : Addr),
 o10 = some p30 ∧
 c_chip_Chip_Cut p30 0 (some (Addr.mk n27 0 none)) 1 1
 (fun (h31 : H) =>
 ∃ (p32 : Addr),
 o10 = some p32 ∧
 c_chip_Chip_Blow p32 2
 (fun (i33 : Int) (h34 : H) =>
 ∃ (p35 : Addr),
 o10 = some p35 ∧
 c_chip_Chip_Restore p35
 (fun (h36 : H) =>
 ∃ (p37 : Addr),
 o10 = some p37 ∧
 c_chip_Chip_Blown p37 2
 (fun (b38 : Bool) (i39 : Int) (h40 : H) =>
 if (i16 == 0) = true then
 if (i20 == 0) = true then
 ∃ (l41 : List Int),
 l41.length = 32 ∧
 hrow h40 (Addr.mk n22 0 none) IntKind.u8 l41 ∧
 if (l41 == zeros 32) = true then
 if (i33 == 8) = true then
 if b38 = true then
 if (i39 == 0) = true then
 ∃ (p42 : Addr), o10 = some p42 ∧ c_chip_Chip_Acts p42 (fun (i43 : Int) (h44 : H) => Q (i43 == 2) h44) h40
 else Q false h40
 else Q false h40
 else Q false h40
 else Q false h40
 else Q false h40
 else Q false h40)
 h36)
 h34)
 h31)
 h28)
 h17)
 h14) →
 J13 [] h14) →
 if o10.isNone = true then Q false h12 else if (i11 != 0) = true then Q false h12 else J13 [] h12)
 h
theorem E_portcullislaw04_fixed (c_chip_New : Int → Int → Int → Int → Int → Int → Int → ((Option Addr) → Int → H → Prop) → H → Prop) (c_chip_Chip_Cut : Addr → Int → (Option Addr) → Nat → Nat → (H → Prop) → H → Prop) (c_chip_Chip_Acts : Addr → (Int → H → Prop) → H → Prop) (c_chip_Chip_Restore : Addr → (H → Prop) → H → Prop) (c_chip_Chip_Blow : Addr → Int → (Int → H → Prop) → H → Prop) (c_chip_Chip_Program : Addr → Int → Int → (List Int) → (Int → H → Prop) → H → Prop) (c_chip_Chip_Read : Addr → Int → Int → ((List Int) → Int → H → Prop) → H → Prop) (c_chip_Chip_Blown : Addr → Int → (Bool → Int → H → Prop) → H → Prop) : ∀ (Q : Bool → H → Prop) (h : H), G_portcullislaw04_fixed c_chip_New c_chip_Chip_Cut c_chip_Chip_Acts c_chip_Chip_Restore c_chip_Chip_Blow c_chip_Chip_Program c_chip_Chip_Read c_chip_Chip_Blown Q h = Dbody PP [(16, W [.ag [.int .i64, .int .i64, .int .i64, .int .i64, .int .i64, .int .i64, .int .i64]] [.ptr, .int .i64] c_chip_New), (23, W [.addr, .int .i64, .slc] [] c_chip_Chip_Cut), (27, W [.addr] [.int .i64] c_chip_Chip_Acts), (36, W [.addr] [] c_chip_Chip_Restore), (41, W [.addr, .int .i64] [.int .i64] c_chip_Chip_Blow), (47, W [.addr, .int .i64, .int .i64, .ag [.row .u8 32]] [.int .i64] c_chip_Chip_Program), (62, W [.addr, .int .i64, .int .i64] [.ag [.row .u8 32], .int .i64] c_chip_Chip_Read), (63, W [.addr, .int .i64] [.bool, .int .i64] c_chip_Chip_Blown)] [(7, [])] Try.f15 [] (decR [.bool] Q) h := by
  intros; kernel_rfl
def F_portcullislaw04_fixed := G_portcullislaw04_fixed F_chip_New F_chip_Chip_Cut F_chip_Chip_Acts F_chip_Chip_Restore F_chip_Chip_Blow F_chip_Chip_Program F_chip_Chip_Read F_chip_Chip_Blown
theorem R_portcullislaw04_fixed : RunOk PP 15 (W [] [.bool] F_portcullislaw04_fixed) :=
  runOk_of (T := [(16, W [.ag [.int .i64, .int .i64, .int .i64, .int .i64, .int .i64, .int .i64, .int .i64]] [.ptr, .int .i64] F_chip_New), (23, W [.addr, .int .i64, .slc] [] F_chip_Chip_Cut), (27, W [.addr] [.int .i64] F_chip_Chip_Acts), (36, W [.addr] [] F_chip_Chip_Restore), (41, W [.addr, .int .i64] [.int .i64] F_chip_Chip_Blow), (47, W [.addr, .int .i64, .int .i64, .ag [.row .u8 32]] [.int .i64] F_chip_Chip_Program), (62, W [.addr, .int .i64, .int .i64] [.ag [.row .u8 32], .int .i64] F_chip_Chip_Read), (63, W [.addr, .int .i64] [.bool, .int .i64] F_chip_Chip_Blown)]) (ann := [(7, [])]) (TblOk.cons R_chip_New (TblOk.cons R_chip_Chip_Cut (TblOk.cons R_chip_Chip_Acts (TblOk.cons R_chip_Chip_Restore (TblOk.cons R_chip_Chip_Blow (TblOk.cons R_chip_Chip_Program (TblOk.cons R_chip_Chip_Read (TblOk.cons R_chip_Chip_Blown (TblOk.nil))))))))) Try.func15 (by kernel_rfl) (by kernel_rfl) (E_portcullislaw04_fixed F_chip_New F_chip_Chip_Cut F_chip_Chip_Acts F_chip_Chip_Restore F_chip_Chip_Blow F_chip_Chip_Program F_chip_Chip_Read F_chip_Chip_Blown)
attribute [irreducible] F_portcullislaw04_fixed
def G_portcullisref04_within (a0 : Int) (a1 : Int) (a2 : Int) (Q : Bool → H → Prop) (h : H) : Prop :=
 if leI a1 a0 = true then Q (leI a0 a2) h else Q false h
theorem E_portcullisref04_within  : ∀ (a0 : Int) (a1 : Int) (a2 : Int) (Q : Bool → H → Prop) (h : H), G_portcullisref04_within a0 a1 a2 Q h = Dbody PP [] [] Try.f126 [.one (.int .i64 a0), .one (.int .i64 a1), .one (.int .i64 a2)] (decR [.bool] Q) h := by
  intros; kernel_rfl
def F_portcullisref04_within := G_portcullisref04_within
theorem R_portcullisref04_within : RunOk PP 126 (W [.int .i64, .int .i64, .int .i64] [.bool] F_portcullisref04_within) :=
  runOk_of (T := []) (ann := []) (TblOk.nil) Try.func126 (by kernel_rfl) (by kernel_rfl) (E_portcullisref04_within)
attribute [irreducible] F_portcullisref04_within
def G_portcullisref04_May (c_portcullisref04_within : Int → Int → Int → (Bool → H → Prop) → H → Prop) (a0_0 : Int) (a0_1 : Int) (a0_2 : Int) (a0_3 : Int) (a0_4 : Int) (a0_5 : Int) (a0_6 : Int) (Q : Int → H → Prop) (h : H) : Prop :=
 ∀ (n10 : Nat) (h11 : H),
 hnew h n10 [Value.int IntKind.i64 a0_0, Value.int IntKind.i64 a0_1, Value.int IntKind.i64 a0_2, Value.int IntKind.i64 a0_3, Value.int IntKind.i64 a0_4, Value.int IntKind.i64 a0_5, Value.int IntKind.i64 a0_6] h11 →
 ∀ (J13 : List SV → H → Prop),
 (∀ (b14 : Bool) (h15 : H),
 (∃ (i16 : Int),
 hc h15 ((Addr.mk n10 0 none).add 4) = some (Value.int IntKind.i64 i16) ∧
 c_portcullisref04_within i16 1 64
 (fun (b17 : Bool) (h18 : H) =>
 if b17 = true then
 ∃ (i19 : Int),
 hc h18 ((Addr.mk n10 0 none).add 5) = some (Value.int IntKind.i64 i19) ∧
 c_portcullisref04_within i19 0 65536
 (fun (b20 : Bool) (h21 : H) =>
 if b20 = true then
 ∃ (i22 : Int),
 hc h21 ((Addr.mk n10 0 none).add 6) = some (Value.int IntKind.i64 i22) ∧
 c_portcullisref04_within i22 0 64 (fun (b23 : Bool) (h24 : H) => if (!b14) = true then Q 1 h24 else if (!b23) = true then Q 1 h24 else Q 0 h24) h21
 else if (!b14) = true then Q 1 h21 else Q 1 h21)
 h18
 else if (!b14) = true then Q 1 h18 else Q 1 h18)
 h15) →
 J13 [SV.dv (DV.one (Value.bool b14))] h15) →
 ∃ (i27 : Int),
 hc h11 ((Addr.mk n10 0 none).add 1) = some (Value.int IntKind.i64 i27) ∧
 c_portcullisref04_within i27 1 8
 (fun (b28 : Bool) (h29 : H) =>
 if b28 = true then
 ∃ (i30 : Int),
 hc h29 (Addr.mk n10 0 none) = some (Value.int IntKind.i64 i30) ∧
 ∃ (i31 : Int),
 hc h29 ((Addr.mk n10 0 none).add 1) = some (Value.int IntKind.i64 i31) ∧
 c_portcullisref04_within i30 (IntKind.i64.wrap (i31 + 3)) 256
 (fun (b32 : Bool) (h33 : H) =>
 if b32 = true then
 ∃ (i34 : Int),
 hc h33 ((Addr.mk n10 0 none).add 2) = some (Value.int IntKind.i64 i34) ∧
 c_portcullisref04_within i34 1 64
 (fun (b35 : Bool) (h36 : H) =>
 if b35 = true then
 ∃ (i37 : Int),
 hc h36 ((Addr.mk n10 0 none).add 3) = some (Value.int IntKind.i64 i37) ∧
 c_portcullisref04_within i37 1 65536 (fun (b38 : Bool) (h39 : H) => J13 [SV.dv (DV.one (Value.bool b38))] h39) h36
 else J13 [SV.dv (DV.one (Value.bool false))] h36)
 h33
 else J13 [SV.dv (DV.one (Value.bool false))] h33)
 h29
 else J13 [SV.dv (DV.one (Value.bool false))] h29)
 h11
theorem E_portcullisref04_May (c_portcullisref04_within : Int → Int → Int → (Bool → H → Prop) → H → Prop) : ∀ (a0_0 : Int) (a0_1 : Int) (a0_2 : Int) (a0_3 : Int) (a0_4 : Int) (a0_5 : Int) (a0_6 : Int) (Q : Int → H → Prop) (h : H), G_portcullisref04_May c_portcullisref04_within a0_0 a0_1 a0_2 a0_3 a0_4 a0_5 a0_6 Q h = Dbody PP [(126, W [.int .i64, .int .i64, .int .i64] [.bool] c_portcullisref04_within)] [(3, [(3, .sc (.bool))])] Try.f68 [.agg [.c (.int .i64 a0_0), .c (.int .i64 a0_1), .c (.int .i64 a0_2), .c (.int .i64 a0_3), .c (.int .i64 a0_4), .c (.int .i64 a0_5), .c (.int .i64 a0_6)]] (decR [.int .i64] Q) h := by
  intros; kernel_rfl
def F_portcullisref04_May := G_portcullisref04_May F_portcullisref04_within
theorem R_portcullisref04_May : RunOk PP 68 (W [.ag [.int .i64, .int .i64, .int .i64, .int .i64, .int .i64, .int .i64, .int .i64]] [.int .i64] F_portcullisref04_May) :=
  runOk_of (T := [(126, W [.int .i64, .int .i64, .int .i64] [.bool] F_portcullisref04_within)]) (ann := [(3, [(3, .sc (.bool))])]) (TblOk.cons R_portcullisref04_within (TblOk.nil)) Try.func68 (by kernel_rfl) (by kernel_rfl) (E_portcullisref04_May F_portcullisref04_within)
attribute [irreducible] F_portcullisref04_May
def G_portcullisref04_Blank (Q : List Int → H → Prop) (h : H) : Prop :=
 ∀ (n2 : Nat) (h3 : H),
 hnew h n2 (ints IntKind.u8 (zeros 32)) h3 →
 ∀ (n5 : Nat) (h6 : H),
 hnew h3 n5 (ints IntKind.u8 (zeros 32)) h6 →
 hcan h6 (Addr.mk n5 0 none) 32 ∧
 ∀ (h8 : H),
 h8 = hwr h6 (Addr.mk n5 0 none) (ints IntKind.u8 (zeros 32)) →
 ∀ (J10 : List SV → H → Prop),
 (∀ (i11 : Int) (h12 : H),
 (if ltI i11 32 = true then
 0 ≤ i11 ∧
 i11 < (↑32 : Int) ∧
 hcan h12 ((Addr.mk n5 0 none).add (i11.toNat * 1)) 1 ∧
 ∀ (h13 : H), h13 = hwr h12 ((Addr.mk n5 0 none).add (i11.toNat * 1)) [Value.int IntKind.u8 255] → J10 [SV.dv (DV.one (Value.int IntKind.i64 (IntKind.i64.wrap (i11 + 1))))] h13
 else
 ∃ (l15 : List Int),
 l15.length = 32 ∧
 hrow h12 (Addr.mk n5 0 none) IntKind.u8 l15 ∧
 hcan h12 (Addr.mk n2 0 none) 32 ∧
 ∀ (h16 : H), h16 = hwr h12 (Addr.mk n2 0 none) (ints IntKind.u8 l15 ++ []) → ∃ (l18 : List Int), l18.length = 32 ∧ hrow h16 (Addr.mk n2 0 none) IntKind.u8 l18 ∧ Q l18 h16) →
 J10 [SV.dv (DV.one (Value.int IntKind.i64 i11))] h12) →
 J10 [SV.dv (DV.one (Value.int IntKind.i64 0))] h8
theorem E_portcullisref04_Blank  : ∀ (Q : (List Int) → H → Prop) (h : H), G_portcullisref04_Blank Q h = Dbody PP [] [(58, [(2, .sc (.int .i64))])] Try.f45 [] (decR [.ag [.row .u8 32]] Q) h := by
  intros; kernel_rfl
def F_portcullisref04_Blank := G_portcullisref04_Blank
theorem R_portcullisref04_Blank : RunOk PP 45 (W [] [.ag [.row .u8 32]] F_portcullisref04_Blank) :=
  runOk_of (T := []) (ann := [(58, [(2, .sc (.int .i64))])]) (TblOk.nil) Try.func45 (by kernel_rfl) (by kernel_rfl) (E_portcullisref04_Blank)
attribute [irreducible] F_portcullisref04_Blank
def G_portcullisref04_fresh (c_portcullisref04_Blank : (List Int → H → Prop) → H → Prop) (a0_0 : Int) (a0_1 : Int) (a0_2 : Int) (a0_3 : Int) (a0_4 : Int) (a0_5 : Int) (a0_6 : Int) (Q : Option Addr → Nat → Nat → Option Addr → Nat → Nat → Option Addr → Nat → Nat → H → Prop) (h : H) : Prop :=
 ∀ (n10 : Nat) (h11 : H),
 hnew h n10 [Value.int IntKind.i64 a0_0, Value.int IntKind.i64 a0_1, Value.int IntKind.i64 a0_2, Value.int IntKind.i64 a0_3, Value.int IntKind.i64 a0_4, Value.int IntKind.i64 a0_5, Value.int IntKind.i64 a0_6] h11 →
 ∀ (n13 : Nat) (h14 : H),
 hnew h11 n13 [Value.slice none 0 0, Value.slice none 0 0, Value.slice none 0 0] h14 →
 ∀ (J16 : List SV → H → Prop),
 (∀ (p17 : Addr) (h18 : H),
 (∀ (J19 : List SV → H → Prop),
 (∀ (i20 : Int) (h21 : H),
 (∃ (i22 : Int),
 hc h21 ((Addr.mk n10 0 none).add 6) = some (Value.int IntKind.i64 i22) ∧
 if ltI i20 (IntKind.i64.wrap (2 + IntKind.i64.wrap (2 * i22))) = true then
 ∃ (i23 : Int),
 hc h21 (Addr.mk n10 0 none) = some (Value.int IntKind.i64 i23) ∧
 0 ≤ i23 ∧
 i23 ≤ i23 ∧
 (↑32 : Int) * i23 ≤ 2 ^ 48 ∧
 i23 ≤ 2 ^ 48 ∧
 ∀ (n24 : Nat) (h25 : H),
 hnew h21 n24 (List.replicate i23.toNat (ints IntKind.u8 (zeros 32))).flatten h25 →
 ∀ (J27 : List SV → H → Prop),
 (∀ (i28 : Int) (h29 : H),
 (∃ (i30 : Int),
 hc h29 (Addr.mk n10 0 none) = some (Value.int IntKind.i64 i30) ∧
 if ltI i28 i30 = true then
 c_portcullisref04_Blank
 (fun (l31 : List Int) (h32 : H) =>
 ∃ (p33 : Addr),
 some (Addr.mk n24 0 none) = some p33 ∧
 0 ≤ i28 ∧
 i28 < (↑i23.toNat : Int) ∧
 hcan h32 (p33.add (i28.toNat * 32)) 32 ∧
 ∀ (h34 : H),
 h34 = hwr h32 (p33.add (i28.toNat * 32)) (ints IntKind.u8 l31 ++ []) →
 J27 [SV.dv (DV.one (Value.int IntKind.i64 (IntKind.i64.wrap (i28 + 1))))] h34)
 h29
 else
 ∃ (o36 : Option Addr),
 ∃ (n37 : Nat),
 ∃ (n38 : Nat),
 hc h29 p17 = some (Value.slice o36 n37 n38) ∧
 ∀ (n39 : Nat) (h40 : H),
 hnew h29 n39 [Value.slice (some (Addr.mk n24 0 none)) i23.toNat i23.toNat] h40 →
 ∃ (l42 : List Value),
 hsv h40 (some (Addr.mk n39 0 none)) 1 1 l42 ∧
 pApp h40 1 [Value.slice none 0 0] 24 o36 n37 n38 1 l42 fun (o43 : Option Addr) (n44 n45 : Nat) (h46 : H) =>
 hcan h46 p17 1 ∧
 ∀ (h47 : H), h47 = hwr h46 p17 [Value.slice o43 n44 n45] → J19 [SV.dv (DV.one (Value.int IntKind.i64 (IntKind.i64.wrap (i20 + 1))))] h47) →
 J27 [SV.dv (DV.one (Value.int IntKind.i64 i28))] h29) →
 J27 [SV.dv (DV.one (Value.int IntKind.i64 0))] h25
 else
 ∃ (o51 : Option Addr),
 ∃ (n52 : Nat),
 ∃ (n53 : Nat),
 hc h21 p17 = some (Value.slice o51 n52 n53) ∧
 ∃ (o54 : Option Addr),
 ∃ (n55 : Nat),
 ∃ (n56 : Nat),
 hc h21 (p17.add 1) = some (Value.slice o54 n55 n56) ∧
 ∃ (o57 : Option Addr),
 ∃ (n58 : Nat),
 ∃ (n59 : Nat),
 hc h21 (p17.add 2) = some (Value.slice o57 n58 n59) ∧
 hcan h21 (Addr.mk n13 0 none) 3 ∧
 ∀ (h60 : H),
 h60 = hwr h21 (Addr.mk n13 0 none) [Value.slice o51 n52 n53, Value.slice o54 n55 n56, Value.slice o57 n58 n59] →
 ∃ (o62 : Option Addr),
 ∃ (n63 : Nat),
 ∃ (n64 : Nat),
 hc h60 (Addr.mk n13 0 none) = some (Value.slice o62 n63 n64) ∧
 ∃ (o65 : Option Addr),
 ∃ (n66 : Nat),
 ∃ (n67 : Nat),
 hc h60 ((Addr.mk n13 0 none).add 1) = some (Value.slice o65 n66 n67) ∧
 ∃ (o68 : Option Addr),
 ∃ (n69 : Nat),
 ∃ (n70 : Nat), hc h60 ((Addr.mk n13 0 none).add 2) = some (Value.slice o68 n69 n70) ∧ Q o62 n63 n64 o65 n66 n67 o68 n69 n70 h60) →
 J19 [SV.dv (DV.one (Value.int IntKind.i64 i20))] h21) →
 J19 [SV.dv (DV.one (Value.int IntKind.i64 0))] h18) →
 J16 [SV.dv (DV.addr p17)] h18) →
 ∃ (i75 : Int),
 hc h14 ((Addr.mk n10 0 none).add 6) = some (Value.int IntKind.i64 i75) ∧
 ∃ (i76 : Int),
 hc h14 ((Addr.mk n10 0 none).add 1) = some (Value.int IntKind.i64 i76) ∧
 ∃ (i77 : Int),
 hc h14 ((Addr.mk n10 0 none).add 2) = some (Value.int IntKind.i64 i77) ∧
 ∃ (i78 : Int),
 hc h14 ((Addr.mk n10 0 none).add 4) = some (Value.int IntKind.i64 i78) ∧
 (0 ≤ IntKind.i64.wrap (2 + IntKind.i64.wrap (2 * i75)) ∧
 IntKind.i64.wrap (2 + IntKind.i64.wrap (2 * i75)) ≤ IntKind.i64.wrap (2 + IntKind.i64.wrap (2 * i75)) ∧
 (↑8 : Int) * IntKind.i64.wrap (2 + IntKind.i64.wrap (2 * i75)) ≤ 2 ^ 48 ∧
 IntKind.i64.wrap (2 + IntKind.i64.wrap (2 * i75)) ≤ 2 ^ 48 ∧
 ∀ (n79 : Nat) (h80 : H),
 hnew h14 n79 (List.replicate (IntKind.i64.wrap (2 + IntKind.i64.wrap (2 * i75))).toNat [Value.int IntKind.i64 0]).flatten h80 →
 hcs h80 ((Addr.mk n10 0 none).add 4) [Value.int IntKind.i64 i78] ∧
 hcs h80 ((Addr.mk n10 0 none).add 2) [Value.int IntKind.i64 i77] ∧
 hcs h80 ((Addr.mk n10 0 none).add 1) [Value.int IntKind.i64 i76] ∧
 (0 ≤ IntKind.i64.wrap (IntKind.i64.wrap (i76 * i77) + i78) ∧
 IntKind.i64.wrap (IntKind.i64.wrap (i76 * i77) + i78) ≤ IntKind.i64.wrap (IntKind.i64.wrap (i76 * i77) + i78) ∧
 (↑1 : Int) * IntKind.i64.wrap (IntKind.i64.wrap (i76 * i77) + i78) ≤ 2 ^ 48 ∧
 IntKind.i64.wrap (IntKind.i64.wrap (i76 * i77) + i78) ≤ 2 ^ 48 ∧
 ∀ (n82 : Nat) (h83 : H),
 hnew h80 n82 (List.replicate (IntKind.i64.wrap (IntKind.i64.wrap (i76 * i77) + i78)).toNat [Value.bool false]).flatten h83 →
 ∀ (n85 : Nat) (h86 : H),
 hnew h83 n85 [Value.slice none 0 0, Value.slice none 0 0, Value.slice none 0 0] h86 →
 hcan h86 (Addr.mk n85 0 none) 3 ∧
 ∀ (h88 : H),
 h88 =
 hwr h86 (Addr.mk n85 0 none)
 [Value.slice none 0 0,
 Value.slice (some (Addr.mk n79 0 none)) (IntKind.i64.wrap (2 + IntKind.i64.wrap (2 * i75))).toNat
 (IntKind.i64.wrap (2 + IntKind.i64.wrap (2 * i75))).toNat,
 Value.slice (some (Addr.mk n82 0 none)) (IntKind.i64.wrap (IntKind.i64.wrap (i76 * i77) + i78)).toNat
 (IntKind.i64.wrap (IntKind.i64.wrap (i76 * i77) + i78)).toNat] →
 J16 [SV.dv (DV.addr (Addr.mk n85 0 none))] h88) ∧
 ∀ (n90 : Nat) (h91 : H),
 hnew h80 n90 [Value.slice none 0 0, Value.slice none 0 0, Value.slice none 0 0] h91 →
 hcs h91 ((Addr.mk n10 0 none).add 4) [Value.int IntKind.i64 i78] ∧
 hcs h91 ((Addr.mk n10 0 none).add 2) [Value.int IntKind.i64 i77] ∧
 hcs h91 ((Addr.mk n10 0 none).add 1) [Value.int IntKind.i64 i76] ∧
 0 ≤ IntKind.i64.wrap (IntKind.i64.wrap (i76 * i77) + i78) ∧
 IntKind.i64.wrap (IntKind.i64.wrap (i76 * i77) + i78) ≤ IntKind.i64.wrap (IntKind.i64.wrap (i76 * i77) + i78) ∧
 (↑1 : Int) * IntKind.i64.wrap (IntKind.i64.wrap (i76 * i77) + i78) ≤ 2 ^ 48 ∧
 IntKind.i64.wrap (IntKind.i64.wrap (i76 * i77) + i78) ≤ 2 ^ 48 ∧
 ∀ (n93 : Nat) (h94 : H),
 hnew h91 n93 (List.replicate (IntKind.i64.wrap (IntKind.i64.wrap (i76 * i77) + i78)).toNat [Value.bool false]).flatten h94 →
 hcan h94 (Addr.mk n90 0 none) 3 ∧
 ∀ (h96 : H),
 h96 =
 hwr h94 (Addr.mk n90 0 none)
 [Value.slice none 0 0,
 Value.slice (some (Addr.mk n79 0 none)) (IntKind.i64.wrap (2 + IntKind.i64.wrap (2 * i75))).toNat
 (IntKind.i64.wrap (2 + IntKind.i64.wrap (2 * i75))).toNat,
 Value.slice (some (Addr.mk n93 0 none)) (IntKind.i64.wrap (IntKind.i64.wrap (i76 * i77) + i78)).toNat
 (IntKind.i64.wrap (IntKind.i64.wrap (i76 * i77) + i78)).toNat] →
 J16 [SV.dv (DV.addr (Addr.mk n90 0 none))] h96) ∧
 (0 ≤ IntKind.i64.wrap (IntKind.i64.wrap (i76 * i77) + i78) ∧
 IntKind.i64.wrap (IntKind.i64.wrap (i76 * i77) + i78) ≤ IntKind.i64.wrap (IntKind.i64.wrap (i76 * i77) + i78) ∧
 (↑1 : Int) * IntKind.i64.wrap (IntKind.i64.wrap (i76 * i77) + i78) ≤ 2 ^ 48 ∧
 IntKind.i64.wrap (IntKind.i64.wrap (i76 * i77) + i78) ≤ 2 ^ 48 ∧
 ∀ (n98 : Nat) (h99 : H),
 hnew h14 n98 (List.replicate (IntKind.i64.wrap (IntKind.i64.wrap (i76 * i77) + i78)).toNat [Value.bool false]).flatten h99 →
 hcs h99 ((Addr.mk n10 0 none).add 6) [Value.int IntKind.i64 i75] ∧
 (0 ≤ IntKind.i64.wrap (2 + IntKind.i64.wrap (2 * i75)) ∧
 IntKind.i64.wrap (2 + IntKind.i64.wrap (2 * i75)) ≤ IntKind.i64.wrap (2 + IntKind.i64.wrap (2 * i75)) ∧
 (↑8 : Int) * IntKind.i64.wrap (2 + IntKind.i64.wrap (2 * i75)) ≤ 2 ^ 48 ∧
 IntKind.i64.wrap (2 + IntKind.i64.wrap (2 * i75)) ≤ 2 ^ 48 ∧
 ∀ (n101 : Nat) (h102 : H),
 hnew h99 n101 (List.replicate (IntKind.i64.wrap (2 + IntKind.i64.wrap (2 * i75))).toNat [Value.int IntKind.i64 0]).flatten h102 →
 ∀ (n104 : Nat) (h105 : H),
 hnew h102 n104 [Value.slice none 0 0, Value.slice none 0 0, Value.slice none 0 0] h105 →
 hcan h105 (Addr.mk n104 0 none) 3 ∧
 ∀ (h107 : H),
 h107 =
 hwr h105 (Addr.mk n104 0 none)
 [Value.slice none 0 0,
 Value.slice (some (Addr.mk n101 0 none)) (IntKind.i64.wrap (2 + IntKind.i64.wrap (2 * i75))).toNat
 (IntKind.i64.wrap (2 + IntKind.i64.wrap (2 * i75))).toNat,
 Value.slice (some (Addr.mk n98 0 none)) (IntKind.i64.wrap (IntKind.i64.wrap (i76 * i77) + i78)).toNat
 (IntKind.i64.wrap (IntKind.i64.wrap (i76 * i77) + i78)).toNat] →
 J16 [SV.dv (DV.addr (Addr.mk n104 0 none))] h107) ∧
 ∀ (n109 : Nat) (h110 : H),
 hnew h99 n109 [Value.slice none 0 0, Value.slice none 0 0, Value.slice none 0 0] h110 →
 hcs h110 ((Addr.mk n10 0 none).add 6) [Value.int IntKind.i64 i75] ∧
 0 ≤ IntKind.i64.wrap (2 + IntKind.i64.wrap (2 * i75)) ∧
 IntKind.i64.wrap (2 + IntKind.i64.wrap (2 * i75)) ≤ IntKind.i64.wrap (2 + IntKind.i64.wrap (2 * i75)) ∧
 (↑8 : Int) * IntKind.i64.wrap (2 + IntKind.i64.wrap (2 * i75)) ≤ 2 ^ 48 ∧
 IntKind.i64.wrap (2 + IntKind.i64.wrap (2 * i75)) ≤ 2 ^ 48 ∧
 ∀ (n112 : Nat) (h113 : H),
 hnew h110 n112 (List.replicate (IntKind.i64.wrap (2 + IntKind.i64.wrap (2 * i75))).toNat [Value.int IntKind.i64 0]).flatten h113 →
 hcan h113 (Addr.mk n109 0 none) 3 ∧
 ∀ (h115 : H),
 h115 =
 hwr h113 (Addr.mk n109 0 none)
 [Value.slice none 0 0,
 Value.slice (some (Addr.mk n112 0 none)) (IntKind.i64.wrap (2 + IntKind.i64.wrap (2 * i75))).toNat
 (IntKind.i64.wrap (2 + IntKind.i64.wrap (2 * i75))).toNat,
 Value.slice (some (Addr.mk n98 0 none)) (IntKind.i64.wrap (IntKind.i64.wrap (i76 * i77) + i78)).toNat
 (IntKind.i64.wrap (IntKind.i64.wrap (i76 * i77) + i78)).toNat] →
 J16 [SV.dv (DV.addr (Addr.mk n109 0 none))] h115) ∧
 ∀ (n117 : Nat) (h118 : H),
 hnew h14 n117 [Value.slice none 0 0, Value.slice none 0 0, Value.slice none 0 0] h118 →
 hcs h118 ((Addr.mk n10 0 none).add 4) [Value.int IntKind.i64 i78] ∧
 hcs h118 ((Addr.mk n10 0 none).add 2) [Value.int IntKind.i64 i77] ∧
 hcs h118 ((Addr.mk n10 0 none).add 1) [Value.int IntKind.i64 i76] ∧
 hcs h118 ((Addr.mk n10 0 none).add 6) [Value.int IntKind.i64 i75] ∧
 (0 ≤ IntKind.i64.wrap (2 + IntKind.i64.wrap (2 * i75)) ∧
 IntKind.i64.wrap (2 + IntKind.i64.wrap (2 * i75)) ≤ IntKind.i64.wrap (2 + IntKind.i64.wrap (2 * i75)) ∧
 (↑8 : Int) * IntKind.i64.wrap (2 + IntKind.i64.wrap (2 * i75)) ≤ 2 ^ 48 ∧
 IntKind.i64.wrap (2 + IntKind.i64.wrap (2 * i75)) ≤ 2 ^ 48 ∧
 ∀ (n120 : Nat) (h121 : H),
 hnew h118 n120 (List.replicate (IntKind.i64.wrap (2 + IntKind.i64.wrap (2 * i75))).toNat [Value.int IntKind.i64 0]).flatten h121 →
 hcs h121 ((Addr.mk n10 0 none).add 4) [Value.int IntKind.i64 i78] ∧
 hcs h121 ((Addr.mk n10 0 none).add 2) [Value.int IntKind.i64 i77] ∧
 hcs h121 ((Addr.mk n10 0 none).add 1) [Value.int IntKind.i64 i76] ∧
 0 ≤ IntKind.i64.wrap (IntKind.i64.wrap (i76 * i77) + i78) ∧
 IntKind.i64.wrap (IntKind.i64.wrap (i76 * i77) + i78) ≤ IntKind.i64.wrap (IntKind.i64.wrap (i76 * i77) + i78) ∧
 (↑1 : Int) * IntKind.i64.wrap (IntKind.i64.wrap (i76 * i77) + i78) ≤ 2 ^ 48 ∧
 IntKind.i64.wrap (IntKind.i64.wrap (i76 * i77) + i78) ≤ 2 ^ 48 ∧
 ∀ (n123 : Nat) (h124 : H),
 hnew h121 n123 (List.replicate (IntKind.i64.wrap (IntKind.i64.wrap (i76 * i77) + i78)).toNat [Value.bool false]).flatten h124 →
 hcan h124 (Addr.mk n117 0 none) 3 ∧
 ∀ (h126 : H),
 h126 =
 hwr h124 (Addr.mk n117 0 none)
 [Value.slice none 0 0,
 Value.slice (some (Addr.mk n120 0 none)) (IntKind.i64.wrap (2 + IntKind.i64.wrap (2 * i75))).toNat
 (IntKind.i64.wrap (2 + IntKind.i64.wrap (2 * i75))).toNat,
 Value.slice (some (Addr.mk n123 0 none)) (IntKind.i64.wrap (IntKind.i64.wrap (i76 * i77) + i78)).toNat
 (IntKind.i64.wrap (IntKind.i64.wrap (i76 * i77) + i78)).toNat] →
 J16 [SV.dv (DV.addr (Addr.mk n117 0 none))] h126) ∧
 0 ≤ IntKind.i64.wrap (IntKind.i64.wrap (i76 * i77) + i78) ∧
 IntKind.i64.wrap (IntKind.i64.wrap (i76 * i77) + i78) ≤ IntKind.i64.wrap (IntKind.i64.wrap (i76 * i77) + i78) ∧
 (↑1 : Int) * IntKind.i64.wrap (IntKind.i64.wrap (i76 * i77) + i78) ≤ 2 ^ 48 ∧
 IntKind.i64.wrap (IntKind.i64.wrap (i76 * i77) + i78) ≤ 2 ^ 48 ∧
 ∀ (n128 : Nat) (h129 : H),
 hnew h118 n128 (List.replicate (IntKind.i64.wrap (IntKind.i64.wrap (i76 * i77) + i78)).toNat [Value.bool false]).flatten h129 →
 hcs h129 ((Addr.mk n10 0 none).add 6) [Value.int IntKind.i64 i75] ∧
 0 ≤ IntKind.i64.wrap (2 + IntKind.i64.wrap (2 * i75)) ∧
 IntKind.i64.wrap (2 + IntKind.i64.wrap (2 * i75)) ≤ IntKind.i64.wrap (2 + IntKind.i64.wrap (2 * i75)) ∧
 (↑8 : Int) * IntKind.i64.wrap (2 + IntKind.i64.wrap (2 * i75)) ≤ 2 ^ 48 ∧
 IntKind.i64.wrap (2 + IntKind.i64.wrap (2 * i75)) ≤ 2 ^ 48 ∧
 ∀ (n131 : Nat) (h132 : H),
 hnew h129 n131 (List.replicate (IntKind.i64.wrap (2 + IntKind.i64.wrap (2 * i75))).toNat [Value.int IntKind.i64 0]).flatten h132 →
 hcan h132 (Addr.mk n117 0 none) 3 ∧
 ∀ (h134 : H),
 h134 =
 hwr h132 (Addr.mk n117 0 none)
 [Value.slice none 0 0,
 Value.slice (some (Addr.mk n131 0 none)) (IntKind.i64.wrap (2 + IntKind.i64.wrap (2 * i75))).toNat
 (IntKind.i64.wrap (2 + IntKind.i64.wrap (2 * i75))).toNat,
 Value.slice (some (Addr.mk n128 0 none)) (IntKind.i64.wrap (IntKind.i64.wrap (i76 * i77) + i78)).toNat
 (IntKind.i64.wrap (IntKind.i64.wrap (i76 * i77) + i78)).toNat] →
 J16 [SV.dv (DV.addr (Addr.mk n117 0 none))] h134
theorem E_portcullisref04_fresh (c_portcullisref04_Blank : ((List Int) → H → Prop) → H → Prop) : ∀ (a0_0 : Int) (a0_1 : Int) (a0_2 : Int) (a0_3 : Int) (a0_4 : Int) (a0_5 : Int) (a0_6 : Int) (Q : (Option Addr) → Nat → Nat → (Option Addr) → Nat → Nat → (Option Addr) → Nat → Nat → H → Prop) (h : H), G_portcullisref04_fresh c_portcullisref04_Blank a0_0 a0_1 a0_2 a0_3 a0_4 a0_5 a0_6 Q h = Dbody PP [(45, W [] [.ag [.row .u8 32]] c_portcullisref04_Blank)] [(3, [(3, .addr)]), (58, [(4, .sc (.int .i64))]), (14922, [(6, .sc (.int .i64))])] Try.f69 [.agg [.c (.int .i64 a0_0), .c (.int .i64 a0_1), .c (.int .i64 a0_2), .c (.int .i64 a0_3), .c (.int .i64 a0_4), .c (.int .i64 a0_5), .c (.int .i64 a0_6)]] (decR [.ag [.slc, .slc, .slc]] Q) h := by
  intros; kernel_rfl
def F_portcullisref04_fresh := G_portcullisref04_fresh F_portcullisref04_Blank
theorem R_portcullisref04_fresh : RunOk PP 69 (W [.ag [.int .i64, .int .i64, .int .i64, .int .i64, .int .i64, .int .i64, .int .i64]] [.ag [.slc, .slc, .slc]] F_portcullisref04_fresh) :=
  runOk_of (T := [(45, W [] [.ag [.row .u8 32]] F_portcullisref04_Blank)]) (ann := [(3, [(3, .addr)]), (58, [(4, .sc (.int .i64))]), (14922, [(6, .sc (.int .i64))])]) (TblOk.cons R_portcullisref04_Blank (TblOk.nil)) Try.func69 (by kernel_rfl) (by kernel_rfl) (E_portcullisref04_fresh F_portcullisref04_Blank)
attribute [irreducible] F_portcullisref04_fresh
def G_portcullisref04_New (c_portcullisref04_May : Int → Int → Int → Int → Int → Int → Int → (Int → H → Prop) → H → Prop) (c_portcullisref04_fresh : Int →
 Int →
 Int →
 Int →
 Int →
 Int →
 Int → (Option Addr → Nat → Nat → Option Addr → Nat → Nat → Option Addr → Nat → Nat → H → Prop) → H → Prop) (a0_0 : Int) (a0_1 : Int) (a0_2 : Int) (a0_3 : Int) (a0_4 : Int) (a0_5 : Int) (a0_6 : Int) (Q : Option Addr → Int → H → Prop) (h : H) : Prop :=
 ∀ (n11 : Nat) (h12 : H),
 hnew h n11 [Value.int IntKind.i64 a0_0, Value.int IntKind.i64 a0_1, Value.int IntKind.i64 a0_2, Value.int IntKind.i64 a0_3, Value.int IntKind.i64 a0_4, Value.int IntKind.i64 a0_5, Value.int IntKind.i64 a0_6] h12 →
 ∃ (i14 : Int),
 hc h12 (Addr.mk n11 0 none) = some (Value.int IntKind.i64 i14) ∧
 ∃ (i15 : Int),
 hc h12 ((Addr.mk n11 0 none).add 1) = some (Value.int IntKind.i64 i15) ∧
 ∃ (i16 : Int),
 hc h12 ((Addr.mk n11 0 none).add 2) = some (Value.int IntKind.i64 i16) ∧
 ∃ (i17 : Int),
 hc h12 ((Addr.mk n11 0 none).add 3) = some (Value.int IntKind.i64 i17) ∧
 ∃ (i18 : Int),
 hc h12 ((Addr.mk n11 0 none).add 4) = some (Value.int IntKind.i64 i18) ∧
 ∃ (i19 : Int),
 hc h12 ((Addr.mk n11 0 none).add 5) = some (Value.int IntKind.i64 i19) ∧
 ∃ (i20 : Int),
 hc h12 ((Addr.mk n11 0 none).add 6) = some (Value.int IntKind.i64 i20) ∧
 c_portcullisref04_May i14 i15 i16 i17 i18 i19 i20
 (fun (i21 : Int) (h22 : H) =>
 if (i21 != 0) = true then Q none i21 h22
 else
 ∃ (i23 : Int),
 hc h22 (Addr.mk n11 0 none) = some (Value.int IntKind.i64 i23) ∧
 ∃ (i24 : Int),
 hc h22 ((Addr.mk n11 0 none).add 1) = some (Value.int IntKind.i64 i24) ∧
 ∃ (i25 : Int),
 hc h22 ((Addr.mk n11 0 none).add 2) = some (Value.int IntKind.i64 i25) ∧
 ∃ (i26 : Int),
 hc h22 ((Addr.mk n11 0 none).add 3) = some (Value.int IntKind.i64 i26) ∧
 ∃ (i27 : Int),
 hc h22 ((Addr.mk n11 0 none).add 4) = some (Value.int IntKind.i64 i27) ∧
 ∃ (i28 : Int),
 hc h22 ((Addr.mk n11 0 none).add 5) = some (Value.int IntKind.i64 i28) ∧
 ∃ (i29 : Int),
 hc h22 ((Addr.mk n11 0 none).add 6) = some (Value.int IntKind.i64 i29) ∧
 ∃ (i30 : Int),
 hc h22 (Addr.mk n11 0 none) = some (Value.int IntKind.i64 i30) ∧
 ∃ (i31 : Int),
 hc h22 ((Addr.mk n11 0 none).add 1) = some (Value.int IntKind.i64 i31) ∧
 ∃ (i32 : Int),
 hc h22 ((Addr.mk n11 0 none).add 2) = some (Value.int IntKind.i64 i32) ∧
 ∃ (i33 : Int),
 hc h22 ((Addr.mk n11 0 none).add 3) = some (Value.int IntKind.i64 i33) ∧
 ∃ (i34 : Int),
 hc h22 ((Addr.mk n11 0 none).add 4) = some (Value.int IntKind.i64 i34) ∧
 ∃ (i35 : Int),
 hc h22 ((Addr.mk n11 0 none).add 5) = some (Value.int IntKind.i64 i35) ∧
 ∃ (i36 : Int),
 hc h22 ((Addr.mk n11 0 none).add 6) = some (Value.int IntKind.i64 i36) ∧
 c_portcullisref04_fresh i30 i31 i32 i33 i34 i35 i36
 (fun (o37 : Option Addr) (n38 n39 : Nat) (o40 : Option Addr) (n41 n42 : Nat) (o43 : Option Addr) (n44 n45 : Nat)
 (h46 : H) =>
 hcs h46 (Addr.mk n11 0 none)
 [Value.int IntKind.i64 i23, Value.int IntKind.i64 i24, Value.int IntKind.i64 i25, Value.int IntKind.i64 i26,
 Value.int IntKind.i64 i27, Value.int IntKind.i64 i28, Value.int IntKind.i64 i29] ∧
 ∀ (n47 : Nat) (h48 : H),
 hnew h46 n47
 [Value.int IntKind.i64 i23, Value.int IntKind.i64 i24, Value.int IntKind.i64 i25, Value.int IntKind.i64 i26,
 Value.int IntKind.i64 i27, Value.int IntKind.i64 i28, Value.int IntKind.i64 i29, Value.slice o37 n38 n39,
 Value.slice o40 n41 n42, Value.slice o43 n44 n45, Value.int IntKind.i64 0, Value.bool false,
 Value.int IntKind.i64 (-1), Value.slice none 0 0]
 h48 →
 Q (some (Addr.mk n47 0 none)) 0 h48)
 h22)
 h12
theorem E_portcullisref04_New (c_portcullisref04_May : Int → Int → Int → Int → Int → Int → Int → (Int → H → Prop) → H → Prop) (c_portcullisref04_fresh : Int → Int → Int → Int → Int → Int → Int → ((Option Addr) → Nat → Nat → (Option Addr) → Nat → Nat → (Option Addr) → Nat → Nat → H → Prop) → H → Prop) : ∀ (a0_0 : Int) (a0_1 : Int) (a0_2 : Int) (a0_3 : Int) (a0_4 : Int) (a0_5 : Int) (a0_6 : Int) (Q : (Option Addr) → Int → H → Prop) (h : H), G_portcullisref04_New c_portcullisref04_May c_portcullisref04_fresh a0_0 a0_1 a0_2 a0_3 a0_4 a0_5 a0_6 Q h = Dbody PP [(68, W [.ag [.int .i64, .int .i64, .int .i64, .int .i64, .int .i64, .int .i64, .int .i64]] [.int .i64] c_portcullisref04_May), (69, W [.ag [.int .i64, .int .i64, .int .i64, .int .i64, .int .i64, .int .i64, .int .i64]] [.ag [.slc, .slc, .slc]] c_portcullisref04_fresh)] [] Try.f17 [.agg [.c (.int .i64 a0_0), .c (.int .i64 a0_1), .c (.int .i64 a0_2), .c (.int .i64 a0_3), .c (.int .i64 a0_4), .c (.int .i64 a0_5), .c (.int .i64 a0_6)]] (decR [.ptr, .int .i64] Q) h := by
  intros; kernel_rfl
def F_portcullisref04_New := G_portcullisref04_New F_portcullisref04_May F_portcullisref04_fresh
theorem R_portcullisref04_New : RunOk PP 17 (W [.ag [.int .i64, .int .i64, .int .i64, .int .i64, .int .i64, .int .i64, .int .i64]] [.ptr, .int .i64] F_portcullisref04_New) :=
  runOk_of (T := [(68, W [.ag [.int .i64, .int .i64, .int .i64, .int .i64, .int .i64, .int .i64, .int .i64]] [.int .i64] F_portcullisref04_May), (69, W [.ag [.int .i64, .int .i64, .int .i64, .int .i64, .int .i64, .int .i64, .int .i64]] [.ag [.slc, .slc, .slc]] F_portcullisref04_fresh)]) (ann := []) (TblOk.cons R_portcullisref04_May (TblOk.cons R_portcullisref04_fresh (TblOk.nil))) Try.func17 (by kernel_rfl) (by kernel_rfl) (E_portcullisref04_New F_portcullisref04_May F_portcullisref04_fresh)
attribute [irreducible] F_portcullisref04_New
def G_slices_Clone_int_int (a0p : Option Addr) (a0l : Nat) (a0c : Nat) (Q : Option Addr → Nat → Nat → H → Prop) (h : H) : Prop :=
 if a0p.isNone = true then Q none 0 0 h
 else
 ∀ (n5 : Nat) (h6 : H),
 hnew h n5 [] h6 → ∃ (l8 : List Value), hsv h6 a0p 1 a0l l8 ∧ pApp h6 1 [Value.int IntKind.i64 0] 8 (some (Addr.mk n5 0 none)) 0 0 a0l l8 fun (o9 : Option Addr) (n10 n11 : Nat) (h12 : H) => Q o9 n10 n11 h12
theorem E_slices_Clone_int_int  : ∀ (a0p : Option Addr) (a0l : Nat) (a0c : Nat) (Q : (Option Addr) → Nat → Nat → H → Prop) (h : H), G_slices_Clone_int_int a0p a0l a0c Q h = Dbody PP [] [] Try.f133 [.one (.slice a0p a0l a0c)] (decR [.slc] Q) h := by
  intros; kernel_rfl
def F_slices_Clone_int_int := G_slices_Clone_int_int
theorem R_slices_Clone_int_int : RunOk PP 133 (W [.slc] [.slc] F_slices_Clone_int_int) :=
  runOk_of (T := []) (ann := []) (TblOk.nil) Try.func133 (by kernel_rfl) (by kernel_rfl) (E_slices_Clone_int_int)
attribute [irreducible] F_slices_Clone_int_int
def G_slices_Clone_bool_bool (a0p : Option Addr) (a0l : Nat) (a0c : Nat) (Q : Option Addr → Nat → Nat → H → Prop) (h : H) : Prop :=
 if a0p.isNone = true then Q none 0 0 h
 else
 ∀ (n5 : Nat) (h6 : H),
 hnew h n5 [] h6 → ∃ (l8 : List Value), hsv h6 a0p 1 a0l l8 ∧ pApp h6 1 [Value.bool false] 1 (some (Addr.mk n5 0 none)) 0 0 a0l l8 fun (o9 : Option Addr) (n10 n11 : Nat) (h12 : H) => Q o9 n10 n11 h12
theorem E_slices_Clone_bool_bool  : ∀ (a0p : Option Addr) (a0l : Nat) (a0c : Nat) (Q : (Option Addr) → Nat → Nat → H → Prop) (h : H), G_slices_Clone_bool_bool a0p a0l a0c Q h = Dbody PP [] [] Try.f134 [.one (.slice a0p a0l a0c)] (decR [.slc] Q) h := by
  intros; kernel_rfl
def F_slices_Clone_bool_bool := G_slices_Clone_bool_bool
theorem R_slices_Clone_bool_bool : RunOk PP 134 (W [.slc] [.slc] F_slices_Clone_bool_bool) :=
  runOk_of (T := []) (ann := []) (TblOk.nil) Try.func134 (by kernel_rfl) (by kernel_rfl) (E_slices_Clone_bool_bool)
attribute [irreducible] F_slices_Clone_bool_bool
def G_slices_Clone_api_Cell_api_Cell (a0p : Option Addr) (a0l : Nat) (a0c : Nat) (Q : Option Addr → Nat → Nat → H → Prop) (h : H) : Prop :=
 if a0p.isNone = true then Q none 0 0 h
 else
 ∀ (n5 : Nat) (h6 : H),
 hnew h n5 [] h6 → ∃ (l8 : List Value), hsv h6 a0p 32 a0l l8 ∧ pApp h6 32 (ints IntKind.u8 (zeros 32)) 32 (some (Addr.mk n5 0 none)) 0 0 a0l l8 fun (o9 : Option Addr) (n10 n11 : Nat) (h12 : H) => Q o9 n10 n11 h12
theorem E_slices_Clone_api_Cell_api_Cell  : ∀ (a0p : Option Addr) (a0l : Nat) (a0c : Nat) (Q : (Option Addr) → Nat → Nat → H → Prop) (h : H), G_slices_Clone_api_Cell_api_Cell a0p a0l a0c Q h = Dbody PP [] [] Try.f135 [.one (.slice a0p a0l a0c)] (decR [.slc] Q) h := by
  intros; kernel_rfl
def F_slices_Clone_api_Cell_api_Cell := G_slices_Clone_api_Cell_api_Cell
theorem R_slices_Clone_api_Cell_api_Cell : RunOk PP 135 (W [.slc] [.slc] F_slices_Clone_api_Cell_api_Cell) :=
  runOk_of (T := []) (ann := []) (TblOk.nil) Try.func135 (by kernel_rfl) (by kernel_rfl) (E_slices_Clone_api_Cell_api_Cell)
attribute [irreducible] F_slices_Clone_api_Cell_api_Cell
def G_chip_copied (c_slices_Clone_int_int : Option Addr → Nat → Nat → (Option Addr → Nat → Nat → H → Prop) → H → Prop) (c_slices_Clone_bool_bool : Option Addr → Nat → Nat → (Option Addr → Nat → Nat → H → Prop) → H → Prop) (c_slices_Clone_api_Cell_api_Cell : Option Addr → Nat → Nat → (Option Addr → Nat → Nat → H → Prop) → H → Prop) (a0_0p : Option Addr) (a0_0l : Nat) (a0_0c : Nat) (a0_1p : Option Addr) (a0_1l : Nat) (a0_1c : Nat) (a0_2p : Option Addr) (a0_2l : Nat) (a0_2c : Nat) (Q : Option Addr → Nat → Nat → Option Addr → Nat → Nat → Option Addr → Nat → Nat → H → Prop) (h : H) : Prop :=
 ∀ (n14 : Nat) (h15 : H),
 hnew h n14 [Value.slice a0_0p a0_0l a0_0c, Value.slice a0_1p a0_1l a0_1c, Value.slice a0_2p a0_2l a0_2c] h15 →
 ∀ (n17 : Nat) (h18 : H),
 hnew h15 n17 [Value.slice none 0 0, Value.slice none 0 0, Value.slice none 0 0] h18 →
 ∀ (J20 : List SV → H → Prop),
 (∀ (p21 : Addr) (h22 : H),
 (∃ (o23 : Option Addr),
 ∃ (n24 : Nat),
 ∃ (n25 : Nat),
 hc h22 (Addr.mk n14 0 none) = some (Value.slice o23 n24 n25) ∧
 ∀ (J26 : List SV → H → Prop),
 (∀ (i27 : Int) (h28 : H),
 (if ltI i27 (↑n24 : Int) = true then
 ∃ (p29 : Addr),
 o23 = some p29 ∧
 0 ≤ i27 ∧
 i27 < (↑n24 : Int) ∧
 ∃ (o30 : Option Addr),
 ∃ (n31 : Nat),
 ∃ (n32 : Nat),
 hc h28 (p29.add (i27.toNat * 1)) = some (Value.slice o30 n31 n32) ∧
 ∃ (o33 : Option Addr),
 ∃ (n34 : Nat),
 ∃ (n35 : Nat),
 hc h28 p21 = some (Value.slice o33 n34 n35) ∧
 c_slices_Clone_api_Cell_api_Cell o30 n31 n32
 (fun (o36 : Option Addr) (n37 n38 : Nat) (h39 : H) =>
 hcs h39 p21 [Value.slice o33 n34 n35] ∧
 ∀ (n40 : Nat) (h41 : H),
 hnew h39 n40 [Value.slice o36 n37 n38] h41 →
 hcs h41 p21 [Value.slice o33 n34 n35] ∧
 ∃ (l43 : List Value),
 hsv h41 (some (Addr.mk n40 0 none)) 1 1 l43 ∧
 pApp h41 1 [Value.slice none 0 0] 24 o33 n34 n35 1 l43 fun (o44 : Option Addr) (n45 n46 : Nat) (h47 : H) =>
 hcan h47 p21 1 ∧
 ∀ (h48 : H), h48 = hwr h47 p21 [Value.slice o44 n45 n46] → J26 [SV.dv (DV.one (Value.int IntKind.i64 (IntKind.i64.wrap (i27 + 1))))] h48)
 h28
 else
 ∃ (o50 : Option Addr),
 ∃ (n51 : Nat),
 ∃ (n52 : Nat),
 hc h28 p21 = some (Value.slice o50 n51 n52) ∧
 ∃ (o53 : Option Addr),
 ∃ (n54 : Nat),
 ∃ (n55 : Nat),
 hc h28 (p21.add 1) = some (Value.slice o53 n54 n55) ∧
 ∃ (o56 : Option Addr),
 ∃ (n57 : Nat),
 ∃ (n58 : Nat),
 hc h28 (p21.add 2) = some (Value.slice o56 n57 n58) ∧
 hcan h28 (Addr.mk n17 0 none) 3 ∧
 ∀ (h59 : H),
 h59 = hwr h28 (Addr.mk n17 0 none) [Value.slice o50 n51 n52, Value.slice o53 n54 n55, Value.slice o56 n57 n58] →
 ∃ (o61 : Option Addr),
 ∃ (n62 : Nat),
 ∃ (n63 : Nat),
 hc h59 (Addr.mk n17 0 none) = some (Value.slice o61 n62 n63) ∧
 ∃ (o64 : Option Addr),
 ∃ (n65 : Nat),
 ∃ (n66 : Nat),
 hc h59 ((Addr.mk n17 0 none).add 1) = some (Value.slice o64 n65 n66) ∧
 ∃ (o67 : Option Addr),
 ∃ (n68 : Nat),
 ∃ (n69 : Nat), hc h59 ((Addr.mk n17 0 none).add 2) = some (Value.slice o67 n68 n69) ∧ Q o61 n62 n63 o64 n65 n66 o67 n68 n69 h59) →
 J26 [SV.dv (DV.one (Value.int IntKind.i64 i27))] h28) →
 J26 [SV.dv (DV.one (Value.int IntKind.i64 0))] h22) →
 J20 [SV.dv (DV.addr p21)] h22) →
 ∃ (o74 : Option Addr),
 ∃ (n75 : Nat),
 ∃ (n76 : Nat),
 hc h18 ((Addr.mk n14 0 none).add 1) = some (Value.slice o74 n75 n76) ∧
 ∃ (o77 : Option Addr),
 ∃ (n78 : Nat),
 ∃ (n79 : Nat),
 hc h18 ((Addr.mk n14 0 none).add 2) = some (Value.slice o77 n78 n79) ∧
 c_slices_Clone_int_int o74 n75 n76
 (fun (o80 : Option Addr) (n81 n82 : Nat) (h83 : H) =>
 hcs h83 ((Addr.mk n14 0 none).add 2) [Value.slice o77 n78 n79] ∧
 c_slices_Clone_bool_bool o77 n78 n79
 (fun (o84 : Option Addr) (n85 n86 : Nat) (h87 : H) =>
 ∀ (n88 : Nat) (h89 : H),
 hnew h87 n88 [Value.slice none 0 0, Value.slice none 0 0, Value.slice none 0 0] h89 →
 hcan h89 (Addr.mk n88 0 none) 3 ∧
 ∀ (h91 : H), h91 = hwr h89 (Addr.mk n88 0 none) [Value.slice none 0 0, Value.slice o80 n81 n82, Value.slice o84 n85 n86] → J20 [SV.dv (DV.addr (Addr.mk n88 0 none))] h91)
 h83 ∧
 ∀ (n93 : Nat) (h94 : H),
 hnew h83 n93 [Value.slice none 0 0, Value.slice none 0 0, Value.slice none 0 0] h94 →
 hcs h94 ((Addr.mk n14 0 none).add 2) [Value.slice o77 n78 n79] ∧
 c_slices_Clone_bool_bool o77 n78 n79
 (fun (o96 : Option Addr) (n97 n98 : Nat) (h99 : H) =>
 hcan h99 (Addr.mk n93 0 none) 3 ∧
 ∀ (h100 : H),
 h100 = hwr h99 (Addr.mk n93 0 none) [Value.slice none 0 0, Value.slice o80 n81 n82, Value.slice o96 n97 n98] → J20 [SV.dv (DV.addr (Addr.mk n93 0 none))] h100)
 h94)
 h18 ∧
 ∀ (n102 : Nat) (h103 : H),
 hnew h18 n102 [Value.slice none 0 0, Value.slice none 0 0, Value.slice none 0 0] h103 →
 hcs h103 ((Addr.mk n14 0 none).add 2) [Value.slice o77 n78 n79] ∧
 hcs h103 ((Addr.mk n14 0 none).add 1) [Value.slice o74 n75 n76] ∧
 c_slices_Clone_int_int o74 n75 n76
 (fun (o105 : Option Addr) (n106 n107 : Nat) (h108 : H) =>
 hcs h108 ((Addr.mk n14 0 none).add 2) [Value.slice o77 n78 n79] ∧
 c_slices_Clone_bool_bool o77 n78 n79
 (fun (o109 : Option Addr) (n110 n111 : Nat) (h112 : H) =>
 hcan h112 (Addr.mk n102 0 none) 3 ∧
 ∀ (h113 : H),
 h113 = hwr h112 (Addr.mk n102 0 none) [Value.slice none 0 0, Value.slice o105 n106 n107, Value.slice o109 n110 n111] → J20 [SV.dv (DV.addr (Addr.mk n102 0 none))] h113)
 h108)
 h103
theorem E_chip_copied (c_slices_Clone_int_int : (Option Addr) → Nat → Nat → ((Option Addr) → Nat → Nat → H → Prop) → H → Prop) (c_slices_Clone_bool_bool : (Option Addr) → Nat → Nat → ((Option Addr) → Nat → Nat → H → Prop) → H → Prop) (c_slices_Clone_api_Cell_api_Cell : (Option Addr) → Nat → Nat → ((Option Addr) → Nat → Nat → H → Prop) → H → Prop) : ∀ (a0_0p : Option Addr) (a0_0l : Nat) (a0_0c : Nat) (a0_1p : Option Addr) (a0_1l : Nat) (a0_1c : Nat) (a0_2p : Option Addr) (a0_2l : Nat) (a0_2c : Nat) (Q : (Option Addr) → Nat → Nat → (Option Addr) → Nat → Nat → (Option Addr) → Nat → Nat → H → Prop) (h : H), G_chip_copied c_slices_Clone_int_int c_slices_Clone_bool_bool c_slices_Clone_api_Cell_api_Cell a0_0p a0_0l a0_0c a0_1p a0_1l a0_1c a0_2p a0_2l a0_2c Q h = Dbody PP [(133, W [.slc] [.slc] c_slices_Clone_int_int), (134, W [.slc] [.slc] c_slices_Clone_bool_bool), (135, W [.slc] [.slc] c_slices_Clone_api_Cell_api_Cell)] [(3, [(3, .addr)]), (58, [(16, .sc (.int .i64))])] Try.f78 [.agg [.c (.slice a0_0p a0_0l a0_0c), .c (.slice a0_1p a0_1l a0_1c), .c (.slice a0_2p a0_2l a0_2c)]] (decR [.ag [.slc, .slc, .slc]] Q) h := by
  intros; kernel_rfl
def F_chip_copied := G_chip_copied F_slices_Clone_int_int F_slices_Clone_bool_bool F_slices_Clone_api_Cell_api_Cell
theorem R_chip_copied : RunOk PP 78 (W [.ag [.slc, .slc, .slc]] [.ag [.slc, .slc, .slc]] F_chip_copied) :=
  runOk_of (T := [(133, W [.slc] [.slc] F_slices_Clone_int_int), (134, W [.slc] [.slc] F_slices_Clone_bool_bool), (135, W [.slc] [.slc] F_slices_Clone_api_Cell_api_Cell)]) (ann := [(3, [(3, .addr)]), (58, [(16, .sc (.int .i64))])]) (TblOk.cons R_slices_Clone_int_int (TblOk.cons R_slices_Clone_bool_bool (TblOk.cons R_slices_Clone_api_Cell_api_Cell (TblOk.nil)))) Try.func78 (by kernel_rfl) (by kernel_rfl) (E_chip_copied F_slices_Clone_int_int F_slices_Clone_bool_bool F_slices_Clone_api_Cell_api_Cell)
attribute [irreducible] F_chip_copied
def G_chip_Chip_Copy (c_chip_copied : Option Addr →
 Nat →
 Nat →
 Option Addr →
 Nat →
 Nat →
 Option Addr →
 Nat →
 Nat →
 (Option Addr → Nat → Nat → Option Addr → Nat → Nat → Option Addr → Nat → Nat → H → Prop) → H → Prop) (c_slices_Clone_byte_byte : Option Addr → Nat → Nat → (Option Addr → Nat → Nat → H → Prop) → H → Prop) (a0 : Addr) (Q : Option Addr → H → Prop) (h : H) : Prop :=
 ∃ (i5 : Int),
 hc h a0 = some (Value.int IntKind.i64 i5) ∧
 ∃ (i6 : Int),
 hc h (a0.add 1) = some (Value.int IntKind.i64 i6) ∧
 ∃ (i7 : Int),
 hc h (a0.add 2) = some (Value.int IntKind.i64 i7) ∧
 ∃ (i8 : Int),
 hc h (a0.add 3) = some (Value.int IntKind.i64 i8) ∧
 ∃ (i9 : Int),
 hc h (a0.add 4) = some (Value.int IntKind.i64 i9) ∧
 ∃ (i10 : Int),
 hc h (a0.add 5) = some (Value.int IntKind.i64 i10) ∧
 ∃ (i11 : Int),
 hc h (a0.add 6) = some (Value.int IntKind.i64 i11) ∧
 ∃ (o12 : Option Addr),
 ∃ (n13 : Nat),
 ∃ (n14 : Nat),
 hc h (a0.add 7) = some (Value.slice o12 n13 n14) ∧
 ∃ (o15 : Option Addr),
 ∃ (n16 : Nat),
 ∃ (n17 : Nat),
 hc h (a0.add 8) = some (Value.slice o15 n16 n17) ∧
 ∃ (o18 : Option Addr),
 ∃ (n19 : Nat),
 ∃ (n20 : Nat),
 hc h (a0.add 9) = some (Value.slice o18 n19 n20) ∧
 ∃ (i21 : Int),
 hc h (a0.add 10) = some (Value.int IntKind.i64 i21) ∧
 ∃ (b22 : Bool),
 hc h (a0.add 11) = some (Value.bool b22) ∧
 ∃ (i23 : Int),
 hc h (a0.add 12) = some (Value.int IntKind.i64 i23) ∧
 ∃ (o24 : Option Addr),
 ∃ (n25 : Nat),
 ∃ (n26 : Nat),
 hc h (a0.add 13) = some (Value.slice o24 n25 n26) ∧
 ∀ (n27 : Nat) (h28 : H),
 hnew h n27
 [Value.int IntKind.i64 0, Value.int IntKind.i64 0, Value.int IntKind.i64 0, Value.int IntKind.i64 0, Value.int IntKind.i64 0,
 Value.int IntKind.i64 0, Value.int IntKind.i64 0, Value.slice none 0 0, Value.slice none 0 0, Value.slice none 0 0, Value.int IntKind.i64 0,
 Value.bool false, Value.int IntKind.i64 0, Value.slice none 0 0]
 h28 →
 hcan h28 (Addr.mk n27 0 none) 14 ∧
 ∀ (h30 : H),
 h30 =
 hwr h28 (Addr.mk n27 0 none)
 [Value.int IntKind.i64 i5, Value.int IntKind.i64 i6, Value.int IntKind.i64 i7, Value.int IntKind.i64 i8, Value.int IntKind.i64 i9,
 Value.int IntKind.i64 i10, Value.int IntKind.i64 i11, Value.slice o12 n13 n14, Value.slice o15 n16 n17, Value.slice o18 n19 n20,
 Value.int IntKind.i64 i21, Value.bool b22, Value.int IntKind.i64 i23, Value.slice o24 n25 n26] →
 ∃ (o32 : Option Addr),
 ∃ (n33 : Nat),
 ∃ (n34 : Nat),
 hc h30 (a0.add 7) = some (Value.slice o32 n33 n34) ∧
 ∃ (o35 : Option Addr),
 ∃ (n36 : Nat),
 ∃ (n37 : Nat),
 hc h30 (a0.add 8) = some (Value.slice o35 n36 n37) ∧
 ∃ (o38 : Option Addr),
 ∃ (n39 : Nat),
 ∃ (n40 : Nat),
 hc h30 (a0.add 9) = some (Value.slice o38 n39 n40) ∧
 ∃ (o41 : Option Addr),
 ∃ (n42 : Nat),
 ∃ (n43 : Nat),
 hc h30 (a0.add 13) = some (Value.slice o41 n42 n43) ∧
 c_chip_copied o32 n33 n34 o35 n36 n37 o38 n39 n40
 (fun (o44 : Option Addr) (n45 n46 : Nat) (o47 : Option Addr) (n48 n49 : Nat) (o50 : Option Addr)
 (n51 n52 : Nat) (h53 : H) =>
 hcs h53 (a0.add 13) [Value.slice o41 n42 n43] ∧
 c_slices_Clone_byte_byte o41 n42 n43
 (fun (o54 : Option Addr) (n55 n56 : Nat) (h57 : H) =>
 hcan h57 ((Addr.mk n27 0 none).add 7) 3 ∧
 ∀ (h58 : H),
 h58 =
 hwr h57 ((Addr.mk n27 0 none).add 7)
 [Value.slice o44 n45 n46, Value.slice o47 n48 n49, Value.slice o50 n51 n52] →
 hcan h58 ((Addr.mk n27 0 none).add 13) 1 ∧
 ∀ (h60 : H),
 h60 = hwr h58 ((Addr.mk n27 0 none).add 13) [Value.slice o54 n55 n56] →
 Q (some (Addr.mk n27 0 none)) h60)
 h53)
 h30
theorem E_chip_Chip_Copy (c_chip_copied : (Option Addr) → Nat → Nat → (Option Addr) → Nat → Nat → (Option Addr) → Nat → Nat → ((Option Addr) → Nat → Nat → (Option Addr) → Nat → Nat → (Option Addr) → Nat → Nat → H → Prop) → H → Prop) (c_slices_Clone_byte_byte : (Option Addr) → Nat → Nat → ((Option Addr) → Nat → Nat → H → Prop) → H → Prop) : ∀ (a0 : Addr) (Q : (Option Addr) → H → Prop) (h : H), G_chip_Chip_Copy c_chip_copied c_slices_Clone_byte_byte a0 Q h = Dbody PP [(78, W [.ag [.slc, .slc, .slc]] [.ag [.slc, .slc, .slc]] c_chip_copied), (79, W [.slc] [.slc] c_slices_Clone_byte_byte)] [] Try.f21 [.addr a0] (decR [.ptr] Q) h := by
  intros; kernel_rfl
def F_chip_Chip_Copy := G_chip_Chip_Copy F_chip_copied F_slices_Clone_byte_byte
theorem R_chip_Chip_Copy : RunOk PP 21 (W [.addr] [.ptr] F_chip_Chip_Copy) :=
  runOk_of (T := [(78, W [.ag [.slc, .slc, .slc]] [.ag [.slc, .slc, .slc]] F_chip_copied), (79, W [.slc] [.slc] F_slices_Clone_byte_byte)]) (ann := []) (TblOk.cons R_chip_copied (TblOk.cons R_slices_Clone_byte_byte (TblOk.nil))) Try.func21 (by kernel_rfl) (by kernel_rfl) (E_chip_Chip_Copy F_chip_copied F_slices_Clone_byte_byte)
attribute [irreducible] F_chip_Chip_Copy
end Go.Proofs.Ytamfkofcpoglnaa
