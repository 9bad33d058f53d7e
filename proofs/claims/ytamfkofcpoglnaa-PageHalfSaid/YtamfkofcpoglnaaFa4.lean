/- The denotations of some functions of the program, printed by a program of ours (wip/tools/vcgen.py), and that they are the model's. -/
import Derived.Test.YtamfkofcpoglnaaFa0
import Derived.Test.YtamfkofcpoglnaaFa1
import Derived.Test.YtamfkofcpoglnaaFa2
import Derived.Test.YtamfkofcpoglnaaFa3
set_option autoImplicit false
set_option linter.all false
set_option linter.unusedVariables false
set_option maxRecDepth 100000
namespace Go.Proofs.Ytamfkofcpoglnaa
open Go Go.Vc
def G_portcullislaw04_pair_same (c_chip_Chip_State : Addr → (Option Addr → Nat → Nat → Option Addr → Nat → Nat → Option Addr → Nat → Nat → H → Prop) → H → Prop) (c_chip_Chip_Out : Addr → (Bool → H → Prop) → H → Prop) (c_portcullisref04_SameState : Option Addr →
 Nat →
 Nat →
 Option Addr →
 Nat →
 Nat →
 Option Addr →
 Nat →
 Nat →
 Option Addr →
 Nat → Nat → Option Addr → Nat → Nat → Option Addr → Nat → Nat → (Bool → H → Prop) → H → Prop) (c_chip_Chip_Acts : Addr → (Int → H → Prop) → H → Prop) (c_portcullislaw04_wreck : Option Addr → Nat → Nat → Option Addr → Nat → Nat → Option Addr → Nat → Nat → (H → Prop) → H → Prop) (c_chip_Chip_Config : Addr → (Int → Int → Int → Int → Int → Int → Int → H → Prop) → H → Prop) (a0_0 : Option Addr) (a0_1 : Option Addr) (Q : Bool → H → Prop) (h : H) : Prop :=
 ∀ (n10 : Nat) (h11 : H),
 hnew h n10 [Value.pointer a0_0, Value.pointer a0_1] h11 →
 ∃ (o13 : Option Addr),
 hc h11 (Addr.mk n10 0 none) = some (Value.pointer o13) ∧
 ∃ (p14 : Addr),
 o13 = some p14 ∧
 c_chip_Chip_State p14
 (fun (o15 : Option Addr) (n16 n17 : Nat) (o18 : Option Addr) (n19 n20 : Nat) (o21 : Option Addr) (n22 n23 : Nat) (h24 : H) =>
 ∀ (n25 : Nat) (h26 : H),
 hnew h24 n25 [Value.slice none 0 0, Value.slice none 0 0, Value.slice none 0 0] h26 →
 hcan h26 (Addr.mk n25 0 none) 3 ∧
 ∀ (h28 : H),
 h28 = hwr h26 (Addr.mk n25 0 none) [Value.slice o15 n16 n17, Value.slice o18 n19 n20, Value.slice o21 n22 n23] →
 ∃ (o30 : Option Addr),
 hc h28 (Addr.mk n10 0 none) = some (Value.pointer o30) ∧
 ∃ (p31 : Addr),
 o30 = some p31 ∧
 c_chip_Chip_State p31
 (fun (o32 : Option Addr) (n33 n34 : Nat) (o35 : Option Addr) (n36 n37 : Nat) (o38 : Option Addr) (n39 n40 : Nat) (h41 : H) =>
 ∀ (n42 : Nat) (h43 : H),
 hnew h41 n42 [Value.slice none 0 0, Value.slice none 0 0, Value.slice none 0 0] h43 →
 hcan h43 (Addr.mk n42 0 none) 3 ∧
 ∀ (h45 : H),
 h45 = hwr h43 (Addr.mk n42 0 none) [Value.slice o32 n33 n34, Value.slice o35 n36 n37, Value.slice o38 n39 n40] →
 ∃ (o47 : Option Addr),
 ∃ (n48 : Nat),
 ∃ (n49 : Nat),
 hc h45 (Addr.mk n25 0 none) = some (Value.slice o47 n48 n49) ∧
 ∃ (o50 : Option Addr),
 ∃ (n51 : Nat),
 ∃ (n52 : Nat),
 hc h45 ((Addr.mk n25 0 none).add 1) = some (Value.slice o50 n51 n52) ∧
 ∃ (o53 : Option Addr),
 ∃ (n54 : Nat),
 ∃ (n55 : Nat),
 hc h45 ((Addr.mk n25 0 none).add 2) = some (Value.slice o53 n54 n55) ∧
 ∃ (o56 : Option Addr),
 hc h45 ((Addr.mk n10 0 none).add 1) = some (Value.pointer o56) ∧
 ∃ (p57 : Addr),
 o56 = some p57 ∧
 ∃ (o58 : Option Addr),
 ∃ (n59 : Nat),
 ∃ (n60 : Nat),
 hc h45 (p57.add 7) = some (Value.slice o58 n59 n60) ∧
 ∃ (o61 : Option Addr),
 ∃ (n62 : Nat),
 ∃ (n63 : Nat),
 hc h45 (p57.add 8) = some (Value.slice o61 n62 n63) ∧
 ∃ (o64 : Option Addr),
 ∃ (n65 : Nat),
 ∃ (n66 : Nat),
 hc h45 (p57.add 9) = some (Value.slice o64 n65 n66) ∧
 c_portcullisref04_SameState o47 n48 n49 o50 n51 n52 o53 n54 n55 o58 n59 n60 o61 n62 n63 o64 n65 n66
 (fun (b67 : Bool) (h68 : H) =>
 ∃ (o69 : Option Addr),
 ∃ (n70 : Nat),
 ∃ (n71 : Nat),
 hc h68 (Addr.mk n25 0 none) = some (Value.slice o69 n70 n71) ∧
 ∃ (o72 : Option Addr),
 ∃ (n73 : Nat),
 ∃ (n74 : Nat),
 hc h68 ((Addr.mk n25 0 none).add 1) = some (Value.slice o72 n73 n74) ∧
 ∃ (o75 : Option Addr),
 ∃ (n76 : Nat),
 ∃ (n77 : Nat),
 hc h68 ((Addr.mk n25 0 none).add 2) = some (Value.slice o75 n76 n77) ∧
 c_portcullislaw04_wreck o69 n70 n71 o72 n73 n74 o75 n76 n77
 (fun (h78 : H) =>
 ∃ (o79 : Option Addr),
 ∃ (n80 : Nat),
 ∃ (n81 : Nat),
 hc h78 (Addr.mk n42 0 none) = some (Value.slice o79 n80 n81) ∧
 ∃ (o82 : Option Addr),
 ∃ (n83 : Nat),
 ∃ (n84 : Nat),
 hc h78 ((Addr.mk n42 0 none).add 1) = some (Value.slice o82 n83 n84) ∧
 ∃ (o85 : Option Addr),
 ∃ (n86 : Nat),
 ∃ (n87 : Nat),
 hc h78 ((Addr.mk n42 0 none).add 2) =
 some (Value.slice o85 n86 n87) ∧
 ∃ (o88 : Option Addr),
 hc h78 ((Addr.mk n10 0 none).add 1) =
 some (Value.pointer o88) ∧
 ∃ (p89 : Addr),
 o88 = some p89 ∧
 ∃ (o90 : Option Addr),
 ∃ (n91 : Nat),
 ∃ (n92 : Nat),
 hc h78 (p89.add 7) =
 some (Value.slice o90 n91 n92) ∧
 ∃ (o93 : Option Addr),
 ∃ (n94 : Nat),
 ∃ (n95 : Nat),
 hc h78 (p89.add 8) =
 some (Value.slice o93 n94 n95) ∧
 ∃ (o96 : Option Addr),
 ∃ (n97 : Nat),
 ∃ (n98 : Nat),
 hc h78 (p89.add 9) =
 some
 (Value.slice o96 n97
 n98) ∧
 c_portcullisref04_SameState
 o79 n80 n81 o82 n83 n84
 o85 n86 n87 o90 n91 n92
 o93 n94 n95 o96 n97 n98
 (fun (b99 : Bool)
 (h100 : H) =>
 ∃ (o101 : Option Addr),
 ∃ (n102 : Nat),
 ∃ (n103 : Nat),
 hc h100
 (Addr.mk n42
 0 none) =
 some
 (Value.slice
 o101 n102
 n103) ∧
 ∃ (o104 :
 Option Addr),
 ∃ (n105 :
 Nat),
 ∃ (n106 :
 Nat),
 hc h100
 ((Addr.mk
 n42
 0
 none).add
 1) =
 some
 (Value.slice
 o104
 n105
 n106) ∧
 ∃ (o107
 :
 Option
 Addr),
 ∃
 (n108
 :
 Nat),
 ∃
 (n109
 :
 Nat),
 hc
 h100
 ((Addr.mk
 n42
 0
 none).add
 2) =
 some
 (Value.slice
 o107
 n108
 n109) ∧
 c_portcullislaw04_wreck
 o101
 n102
 n103
 o104
 n105
 n106
 o107
 n108
 n109
 (fun
 (h110 :
 H) =>
 ∃
 (o111
 :
 Option
 Addr),
 hc
 h110
 (Addr.mk
 n10
 0
 none) =
 some
 (Value.pointer
 o111) ∧
 ∃
 (o112
 :
 Option
 Addr),
 hc
 h110
 ((Addr.mk
 n10
 0
 none).add
 1) =
 some
 (Value.pointer
 o112) ∧
 ∃
 (p113
 :
 Addr),
 o112 =
 some
 p113 ∧
 ∃
 (i114
 :
 Int),
 hc
 h110
 p113 =
 some
 (Value.int
 IntKind.i64
 i114) ∧
 ∃
 (i115
 :
 Int),
 hc
 h110
 (p113.add
 1) =
 some
 (Value.int
 IntKind.i64
 i115) ∧
 ∃
 (i116
 :
 Int),
 hc
 h110
 (p113.add
 2) =
 some
 (Value.int
 IntKind.i64
 i116) ∧
 ∃
 (i117
 :
 Int),
 hc
 h110
 (p113.add
 3) =
 some
 (Value.int
 IntKind.i64
 i117) ∧
 ∃
 (i118
 :
 Int),
 hc
 h110
 (p113.add
 4) =
 some
 (Value.int
 IntKind.i64
 i118) ∧
 ∃
 (i119
 :
 Int),
 hc
 h110
 (p113.add
 5) =
 some
 (Value.int
 IntKind.i64
 i119) ∧
 ∃
 (i120
 :
 Int),
 hc
 h110
 (p113.add
 6) =
 some
 (Value.int
 IntKind.i64
 i120) ∧
 ∃
 (p121
 :
 Addr),
 o111 =
 some
 p121 ∧
 c_chip_Chip_Config
 p121
 (fun
 (i122
 i123
 i124
 i125
 i126
 i127
 i128 :
 Int)
 (h129 :
 H) =>
 hcs
 h129
 p113
 [Value.int
 IntKind.i64
 i114,
 Value.int
 IntKind.i64
 i115,
 Value.int
 IntKind.i64
 i116,
 Value.int
 IntKind.i64
 i117,
 Value.int
 IntKind.i64
 i118,
 Value.int
 IntKind.i64
 i119,
 Value.int
 IntKind.i64
 i120] ∧
 hcs
 h129
 ((Addr.mk
 n10
 0
 none).add
 1)
 [Value.pointer
 o112] ∧
 if
 b67 =
 true then
 if
 b99 =
 true then
 if
 (i122 ==
 i114 &&
 (i123 ==
 i115 &&
 (i124 ==
 i116 &&
 (i125 ==
 i117 &&
 (i126 ==
 i118 &&
 (i127 ==
 i119 &&
 (i128 ==
 i120 &&
 true))))))) =
 true then
 ∃
 (o130
 :
 Option
 Addr),
 hc
 h129
 (Addr.mk
 n10
 0
 none) =
 some
 (Value.pointer
 o130) ∧
 ∃
 (o131
 :
 Option
 Addr),
 hc
 h129
 ((Addr.mk
 n10
 0
 none).add
 1) =
 some
 (Value.pointer
 o131) ∧
 ∃
 (p132
 :
 Addr),
 o131 =
 some
 p132 ∧
 ∃
 (i133
 :
 Int),
 hc
 h129
 (p132.add
 10) =
 some
 (Value.int
 IntKind.i64
 i133) ∧
 ∃
 (p134
 :
 Addr),
 o130 =
 some
 p134 ∧
 c_chip_Chip_Acts
 p134
 (fun
 (i135 :
 Int)
 (h136 :
 H) =>
 hcs
 h136
 (p132.add
 10)
 [Value.int
 IntKind.i64
 i133] ∧
 hcs
 h136
 ((Addr.mk
 n10
 0
 none).add
 1)
 [Value.pointer
 o131] ∧
 if
 (i135 ==
 i133) =
 true then
 ∃
 (o137
 :
 Option
 Addr),
 hc
 h136
 (Addr.mk
 n10
 0
 none) =
 some
 (Value.pointer
 o137) ∧
 ∃
 (o138
 :
 Option
 Addr),
 hc
 h136
 ((Addr.mk
 n10
 0
 none).add
 1) =
 some
 (Value.pointer
 o138) ∧
 ∃
 (p139
 :
 Addr),
 o138 =
 some
 p139 ∧
 ∃
 (b140
 :
 Bool),
 hc
 h136
 (p139.add
 11) =
 some
 (Value.bool
 b140) ∧
 ∃
 (p141
 :
 Addr),
 o137 =
 some
 p141 ∧
 c_chip_Chip_Out
 p141
 (fun
 (b142 :
 Bool)
 (h143 :
 H) =>
 hcs
 h143
 (p139.add
 11)
 [Value.bool
 b140] ∧
 hcs
 h143
 ((Addr.mk
 n10
 0
 none).add
 1)
 [Value.pointer
 o138] ∧
 Q
 (b142 ==
 b140)
 h143)
 h136
 else
 Q
 false
 h136)
 h129
 else
 Q
 false
 h129
 else
 Q
 false
 h129
 else
 Q
 false
 h129)
 h110)
 h100)
 h78)
 h68)
 h45)
 h28)
 h11
theorem E_portcullislaw04_pair_same (c_chip_Chip_State : Addr → ((Option Addr) → Nat → Nat → (Option Addr) → Nat → Nat → (Option Addr) → Nat → Nat → H → Prop) → H → Prop) (c_chip_Chip_Out : Addr → (Bool → H → Prop) → H → Prop) (c_portcullisref04_SameState : (Option Addr) → Nat → Nat → (Option Addr) → Nat → Nat → (Option Addr) → Nat → Nat → (Option Addr) → Nat → Nat → (Option Addr) → Nat → Nat → (Option Addr) → Nat → Nat → (Bool → H → Prop) → H → Prop) (c_chip_Chip_Acts : Addr → (Int → H → Prop) → H → Prop) (c_portcullislaw04_wreck : (Option Addr) → Nat → Nat → (Option Addr) → Nat → Nat → (Option Addr) → Nat → Nat → (H → Prop) → H → Prop) (c_chip_Chip_Config : Addr → (Int → Int → Int → Int → Int → Int → Int → H → Prop) → H → Prop) : ∀ (a0_0 : Option Addr) (a0_1 : Option Addr) (Q : Bool → H → Prop) (h : H), G_portcullislaw04_pair_same c_chip_Chip_State c_chip_Chip_Out c_portcullisref04_SameState c_chip_Chip_Acts c_portcullislaw04_wreck c_chip_Chip_Config a0_0 a0_1 Q h = Dbody PP [(22, W [.addr] [.ag [.slc, .slc, .slc]] c_chip_Chip_State), (25, W [.addr] [.bool] c_chip_Chip_Out), (26, W [.ag [.slc, .slc, .slc], .ag [.slc, .slc, .slc]] [.bool] c_portcullisref04_SameState), (27, W [.addr] [.int .i64] c_chip_Chip_Acts), (31, W [.ag [.slc, .slc, .slc]] [] c_portcullislaw04_wreck), (91, W [.addr] [.ag [.int .i64, .int .i64, .int .i64, .int .i64, .int .i64, .int .i64, .int .i64]] c_chip_Chip_Config)] [] Try.f73 [.agg [.c (.pointer a0_0), .c (.pointer a0_1)]] (decR [.bool] Q) h := by
  intros; kernel_rfl
def F_portcullislaw04_pair_same := G_portcullislaw04_pair_same F_chip_Chip_State F_chip_Chip_Out F_portcullisref04_SameState F_chip_Chip_Acts F_portcullislaw04_wreck F_chip_Chip_Config
theorem R_portcullislaw04_pair_same : RunOk PP 73 (W [.ag [.ptr, .ptr]] [.bool] F_portcullislaw04_pair_same) :=
  runOk_of (T := [(22, W [.addr] [.ag [.slc, .slc, .slc]] F_chip_Chip_State), (25, W [.addr] [.bool] F_chip_Chip_Out), (26, W [.ag [.slc, .slc, .slc], .ag [.slc, .slc, .slc]] [.bool] F_portcullisref04_SameState), (27, W [.addr] [.int .i64] F_chip_Chip_Acts), (31, W [.ag [.slc, .slc, .slc]] [] F_portcullislaw04_wreck), (91, W [.addr] [.ag [.int .i64, .int .i64, .int .i64, .int .i64, .int .i64, .int .i64, .int .i64]] F_chip_Chip_Config)]) (ann := []) (TblOk.cons R_chip_Chip_State (TblOk.cons R_chip_Chip_Out (TblOk.cons R_portcullisref04_SameState (TblOk.cons R_chip_Chip_Acts (TblOk.cons R_portcullislaw04_wreck (TblOk.cons R_chip_Chip_Config (TblOk.nil))))))) Try.func73 (by kernel_rfl) (by kernel_rfl) (E_portcullislaw04_pair_same F_chip_Chip_State F_chip_Chip_Out F_portcullisref04_SameState F_chip_Chip_Acts F_portcullislaw04_wreck F_chip_Chip_Config)
attribute [irreducible] F_portcullislaw04_pair_same
def G_portcullisref04_Chip_Cut (a0 : Addr) (a1 : Int) (a2p : Option Addr) (a2l : Nat) (a2c : Nat) (Q : H → Prop) (h : H) : Prop :=
 hcan h (a0.add 12) 1 ∧
 ∀ (h7 : H),
 h7 = hwr h (a0.add 12) [Value.int IntKind.i64 (if a1 > -1 then a1 else -1)] →
 ∀ (n9 : Nat) (h10 : H),
 hnew h7 n9 [] h10 →
 ∃ (l12 : List Value),
 hsv h10 a2p 1 a2l l12 ∧
 pApp h10 1 [Value.int IntKind.u8 0] 1 (some (Addr.mk n9 0 none)) 0 0 a2l l12 fun (o13 : Option Addr) (n14 n15 : Nat) (h16 : H) =>
 hcan h16 (a0.add 13) 1 ∧ ∀ (h17 : H), h17 = hwr h16 (a0.add 13) [Value.slice o13 n14 n15] → Q h17
theorem E_portcullisref04_Chip_Cut  : ∀ (a0 : Addr) (a1 : Int) (a2p : Option Addr) (a2l : Nat) (a2c : Nat) (Q : H → Prop) (h : H), G_portcullisref04_Chip_Cut a0 a1 a2p a2l a2c Q h = Dbody PP [] [] Try.f87 [.addr a0, .one (.int .i64 a1), .one (.slice a2p a2l a2c)] (decR [] Q) h := by
  intros; kernel_rfl
def F_portcullisref04_Chip_Cut := G_portcullisref04_Chip_Cut
theorem R_portcullisref04_Chip_Cut : RunOk PP 87 (W [.addr, .int .i64, .slc] [] F_portcullisref04_Chip_Cut) :=
  runOk_of (T := []) (ann := []) (TblOk.nil) Try.func87 (by kernel_rfl) (by kernel_rfl) (E_portcullisref04_Chip_Cut)
attribute [irreducible] F_portcullisref04_Chip_Cut
def G_portcullisref04_Chip_fuse (a0 : Addr) (a1 : Int) (Q : Int → H → Prop) (h : H) : Prop :=
 ∃ (b4 : Bool),
 hc h (a0.add 11) = some (Value.bool b4) ∧
 if b4 = true then Q 8 h
 else if ltI a1 0 = true then Q 2 h else ∃ (o5 : Option Addr), ∃ (n6 : Nat), ∃ (n7 : Nat), hc h (a0.add 9) = some (Value.slice o5 n6 n7) ∧ if leI (↑n6 : Int) a1 = true then Q 2 h else Q 0 h
theorem E_portcullisref04_Chip_fuse  : ∀ (a0 : Addr) (a1 : Int) (Q : Int → H → Prop) (h : H), G_portcullisref04_Chip_fuse a0 a1 Q h = Dbody PP [] [] Try.f138 [.addr a0, .one (.int .i64 a1)] (decR [.int .i64] Q) h := by
  intros; kernel_rfl
def F_portcullisref04_Chip_fuse := G_portcullisref04_Chip_fuse
theorem R_portcullisref04_Chip_fuse : RunOk PP 138 (W [.addr, .int .i64] [.int .i64] F_portcullisref04_Chip_fuse) :=
  runOk_of (T := []) (ann := []) (TblOk.nil) Try.func138 (by kernel_rfl) (by kernel_rfl) (E_portcullisref04_Chip_fuse)
attribute [irreducible] F_portcullisref04_Chip_fuse
def G_portcullisref04_Chip_act (a0 : Addr) (Q : Bool → H → Prop) (h : H) : Prop :=
 ∃ (i3 : Int),
 hc h (a0.add 10) = some (Value.int IntKind.i64 i3) ∧
 hcan h (a0.add 10) 1 ∧
 ∀ (h4 : H),
 h4 = hwr h (a0.add 10) [Value.int IntKind.i64 (IntKind.i64.wrap (i3 + 1))] →
 ∃ (i6 : Int),
 hc h4 (a0.add 12) = some (Value.int IntKind.i64 i6) ∧
 if (i6 == 0) = true then hcan h4 (a0.add 11) 1 ∧ ∀ (h7 : H), h7 = hwr h4 (a0.add 11) [Value.bool true] → hcan h7 (a0.add 12) 1 ∧ ∀ (h9 : H), h9 = hwr h7 (a0.add 12) [Value.int IntKind.i64 (-1)] → Q true h9
 else
 ∃ (i11 : Int),
 hc h4 (a0.add 12) = some (Value.int IntKind.i64 i11) ∧
 if ltI 0 i11 = true then
 ∃ (i12 : Int), hc h4 (a0.add 12) = some (Value.int IntKind.i64 i12) ∧ hcan h4 (a0.add 12) 1 ∧ ∀ (h13 : H), h13 = hwr h4 (a0.add 12) [Value.int IntKind.i64 (IntKind.i64.wrap (i12 - 1))] → Q false h13
 else Q false h4
theorem E_portcullisref04_Chip_act  : ∀ (a0 : Addr) (Q : Bool → H → Prop) (h : H), G_portcullisref04_Chip_act a0 Q h = Dbody PP [] [] Try.f139 [.addr a0] (decR [.bool] Q) h := by
  intros; kernel_rfl
def F_portcullisref04_Chip_act := G_portcullisref04_Chip_act
theorem R_portcullisref04_Chip_act : RunOk PP 139 (W [.addr] [.bool] F_portcullisref04_Chip_act) :=
  runOk_of (T := []) (ann := []) (TblOk.nil) Try.func139 (by kernel_rfl) (by kernel_rfl) (E_portcullisref04_Chip_act)
attribute [irreducible] F_portcullisref04_Chip_act
def G_portcullisref04_Chip_bits (a0 : Addr) (a1 : Int) (Q : Int → H → Prop) (h : H) : Prop :=
 ∃ (o4 : Option Addr),
 ∃ (n5 : Nat),
 ∃ (n6 : Nat),
 hc h (a0.add 13) = some (Value.slice o4 n5 n6) ∧
 if ((↑n5 : Int) == 0) = true then Q 0 h
 else
 ∃ (o7 : Option Addr),
 ∃ (n8 : Nat),
 ∃ (n9 : Nat),
 hc h (a0.add 13) = some (Value.slice o7 n8 n9) ∧
 ∃ (o10 : Option Addr),
 ∃ (n11 : Nat),
 ∃ (n12 : Nat),
 hc h (a0.add 13) = some (Value.slice o10 n11 n12) ∧
 (↑n11 : Int) ≠ 0 ∧
 ∃ (p13 : Addr),
 o7 = some p13 ∧ 0 ≤ a1.tmod (↑n11 : Int) ∧ a1.tmod (↑n11 : Int) < (↑n8 : Int) ∧ ∃ (i14 : Int), hc h (p13.add ((a1.tmod (↑n11 : Int)).toNat * 1)) = some (Value.int IntKind.u8 i14) ∧ Q i14 h
theorem E_portcullisref04_Chip_bits  : ∀ (a0 : Addr) (a1 : Int) (Q : Int → H → Prop) (h : H), G_portcullisref04_Chip_bits a0 a1 Q h = Dbody PP [] [] Try.f140 [.addr a0, .one (.int .i64 a1)] (decR [.int .u8] Q) h := by
  intros; kernel_rfl
def F_portcullisref04_Chip_bits := G_portcullisref04_Chip_bits
theorem R_portcullisref04_Chip_bits : RunOk PP 140 (W [.addr, .int .i64] [.int .u8] F_portcullisref04_Chip_bits) :=
  runOk_of (T := []) (ann := []) (TblOk.nil) Try.func140 (by kernel_rfl) (by kernel_rfl) (E_portcullisref04_Chip_bits)
attribute [irreducible] F_portcullisref04_Chip_bits
def G_portcullisref04_Chip_Blow (c_portcullisref04_Chip_fuse : Addr → Int → (Int → H → Prop) → H → Prop) (c_portcullisref04_Chip_act : Addr → (Bool → H → Prop) → H → Prop) (c_portcullisref04_Chip_bits : Addr → Int → (Int → H → Prop) → H → Prop) (a0 : Addr) (a1 : Int) (Q : Int → H → Prop) (h : H) : Prop :=
 c_portcullisref04_Chip_fuse a0 a1
 (fun (i7 : Int) (h8 : H) =>
 if (i7 != 0) = true then Q i7 h8
 else
 c_portcullisref04_Chip_act a0
 (fun (b9 : Bool) (h10 : H) =>
 ∃ (o11 : Option Addr),
 ∃ (n12 : Nat),
 ∃ (n13 : Nat),
 hc h10 (a0.add 9) = some (Value.slice o11 n12 n13) ∧
 ∃ (o14 : Option Addr),
 ∃ (n15 : Nat),
 ∃ (n16 : Nat),
 hc h10 (a0.add 9) = some (Value.slice o14 n15 n16) ∧
 ∃ (p17 : Addr),
 o14 = some p17 ∧
 0 ≤ a1 ∧
 a1 < (↑n15 : Int) ∧
 ∃ (b18 : Bool),
 hc h10 (p17.add (a1.toNat * 1)) = some (Value.bool b18) ∧
 if b18 = true then
 ∃ (p19 : Addr),
 o11 = some p19 ∧
 0 ≤ a1 ∧
 a1 < (↑n12 : Int) ∧ hcan h10 (p19.add (a1.toNat * 1)) 1 ∧ ∀ (h20 : H), h20 = hwr h10 (p19.add (a1.toNat * 1)) [Value.bool true] → if b9 = true then Q 8 h20 else Q 0 h20
 else
 if (!b9) = true then
 ∃ (p22 : Addr),
 o11 = some p22 ∧
 0 ≤ a1 ∧
 a1 < (↑n12 : Int) ∧ hcan h10 (p22.add (a1.toNat * 1)) 1 ∧ ∀ (h23 : H), h23 = hwr h10 (p22.add (a1.toNat * 1)) [Value.bool true] → if b9 = true then Q 8 h23 else Q 0 h23
 else
 c_portcullisref04_Chip_bits a0 0
 (fun (i25 : Int) (h26 : H) =>
 hcs h26 (a0.add 9) [Value.slice o11 n12 n13] ∧
 ∃ (p27 : Addr),
 o11 = some p27 ∧
 0 ≤ a1 ∧
 a1 < (↑n12 : Int) ∧
 hcan h26 (p27.add (a1.toNat * 1)) 1 ∧
 ∀ (h28 : H), h28 = hwr h26 (p27.add (a1.toNat * 1)) [Value.bool (bits BinOp.and IntKind.u8 i25 1 == 1)] → if b9 = true then Q 8 h28 else Q 0 h28)
 h10)
 h8)
 h
theorem E_portcullisref04_Chip_Blow (c_portcullisref04_Chip_fuse : Addr → Int → (Int → H → Prop) → H → Prop) (c_portcullisref04_Chip_act : Addr → (Bool → H → Prop) → H → Prop) (c_portcullisref04_Chip_bits : Addr → Int → (Int → H → Prop) → H → Prop) : ∀ (a0 : Addr) (a1 : Int) (Q : Int → H → Prop) (h : H), G_portcullisref04_Chip_Blow c_portcullisref04_Chip_fuse c_portcullisref04_Chip_act c_portcullisref04_Chip_bits a0 a1 Q h = Dbody PP [(138, W [.addr, .int .i64] [.int .i64] c_portcullisref04_Chip_fuse), (139, W [.addr] [.bool] c_portcullisref04_Chip_act), (140, W [.addr, .int .i64] [.int .u8] c_portcullisref04_Chip_bits)] [] Try.f88 [.addr a0, .one (.int .i64 a1)] (decR [.int .i64] Q) h := by
  intros; kernel_rfl
def F_portcullisref04_Chip_Blow := G_portcullisref04_Chip_Blow F_portcullisref04_Chip_fuse F_portcullisref04_Chip_act F_portcullisref04_Chip_bits
theorem R_portcullisref04_Chip_Blow : RunOk PP 88 (W [.addr, .int .i64] [.int .i64] F_portcullisref04_Chip_Blow) :=
  runOk_of (T := [(138, W [.addr, .int .i64] [.int .i64] F_portcullisref04_Chip_fuse), (139, W [.addr] [.bool] F_portcullisref04_Chip_act), (140, W [.addr, .int .i64] [.int .u8] F_portcullisref04_Chip_bits)]) (ann := []) (TblOk.cons R_portcullisref04_Chip_fuse (TblOk.cons R_portcullisref04_Chip_act (TblOk.cons R_portcullisref04_Chip_bits (TblOk.nil)))) Try.func88 (by kernel_rfl) (by kernel_rfl) (E_portcullisref04_Chip_Blow F_portcullisref04_Chip_fuse F_portcullisref04_Chip_act F_portcullisref04_Chip_bits)
attribute [irreducible] F_portcullisref04_Chip_Blow
def G_portcullisref04_Chip_Restore (a0 : Addr) (Q : H → Prop) (h : H) : Prop :=
 hcan h (a0.add 11) 1 ∧ ∀ (h3 : H), h3 = hwr h (a0.add 11) [Value.bool false] → Q h3
theorem E_portcullisref04_Chip_Restore  : ∀ (a0 : Addr) (Q : H → Prop) (h : H), G_portcullisref04_Chip_Restore a0 Q h = Dbody PP [] [] Try.f89 [.addr a0] (decR [] Q) h := by
  intros; kernel_rfl
def F_portcullisref04_Chip_Restore := G_portcullisref04_Chip_Restore
theorem R_portcullisref04_Chip_Restore : RunOk PP 89 (W [.addr] [] F_portcullisref04_Chip_Restore) :=
  runOk_of (T := []) (ann := []) (TblOk.nil) Try.func89 (by kernel_rfl) (by kernel_rfl) (E_portcullisref04_Chip_Restore)
attribute [irreducible] F_portcullisref04_Chip_Restore
def G_chip_Chip_Erases (c_chip_Chip_asked : Addr → Int → Int → (Int → H → Prop) → H → Prop) (a0 : Addr) (a1 : Int) (Q : Int → Int → H → Prop) (h : H) : Prop :=
 ∃ (o5 : Option Addr),
 ∃ (n6 : Nat),
 ∃ (n7 : Nat),
 hc h (a0.add 7) = some (Value.slice o5 n6 n7) ∧
 c_chip_Chip_asked a0 a1 (↑n6 : Int)
 (fun (i8 : Int) (h9 : H) =>
 if (i8 != 0) = true then Q 0 i8 h9
 else
 ∃ (o10 : Option Addr),
 ∃ (n11 : Nat),
 ∃ (n12 : Nat),
 hc h9 (a0.add 8) = some (Value.slice o10 n11 n12) ∧
 ∃ (p13 : Addr), o10 = some p13 ∧ 0 ≤ a1 ∧ a1 < (↑n11 : Int) ∧ ∃ (i14 : Int), hc h9 (p13.add (a1.toNat * 1)) = some (Value.int IntKind.i64 i14) ∧ Q i14 0 h9)
 h
theorem E_chip_Chip_Erases (c_chip_Chip_asked : Addr → Int → Int → (Int → H → Prop) → H → Prop) : ∀ (a0 : Addr) (a1 : Int) (Q : Int → Int → H → Prop) (h : H), G_chip_Chip_Erases c_chip_Chip_asked a0 a1 Q h = Dbody PP [(98, W [.addr, .int .i64, .int .i64] [.int .i64] c_chip_Chip_asked)] [] Try.f93 [.addr a0, .one (.int .i64 a1)] (decR [.int .i64, .int .i64] Q) h := by
  intros; kernel_rfl
def F_chip_Chip_Erases := G_chip_Chip_Erases F_chip_Chip_asked
theorem R_chip_Chip_Erases : RunOk PP 93 (W [.addr, .int .i64] [.int .i64, .int .i64] F_chip_Chip_Erases) :=
  runOk_of (T := [(98, W [.addr, .int .i64, .int .i64] [.int .i64] F_chip_Chip_asked)]) (ann := []) (TblOk.cons R_chip_Chip_asked (TblOk.nil)) Try.func93 (by kernel_rfl) (by kernel_rfl) (E_chip_Chip_Erases F_chip_Chip_asked)
attribute [irreducible] F_chip_Chip_Erases
def G_portcullisref04_Chip_at (a0 : Addr) (a1 : Int) (a2 : Int) (Q : Int → H → Prop) (h : H) : Prop :=
 ∃ (b5 : Bool),
 hc h (a0.add 11) = some (Value.bool b5) ∧
 if b5 = true then Q 8 h
 else
 if ltI a1 0 = true then Q 2 h
 else
 ∃ (o6 : Option Addr),
 ∃ (n7 : Nat),
 ∃ (n8 : Nat),
 hc h (a0.add 7) = some (Value.slice o6 n7 n8) ∧
 if leI (↑n7 : Int) a1 = true then Q 2 h else if ltI a2 0 = true then Q 2 h else ∃ (i9 : Int), hc h a0 = some (Value.int IntKind.i64 i9) ∧ if leI i9 a2 = true then Q 2 h else Q 0 h
theorem E_portcullisref04_Chip_at  : ∀ (a0 : Addr) (a1 : Int) (a2 : Int) (Q : Int → H → Prop) (h : H), G_portcullisref04_Chip_at a0 a1 a2 Q h = Dbody PP [] [] Try.f143 [.addr a0, .one (.int .i64 a1), .one (.int .i64 a2)] (decR [.int .i64] Q) h := by
  intros; kernel_rfl
def F_portcullisref04_Chip_at := G_portcullisref04_Chip_at
theorem R_portcullisref04_Chip_at : RunOk PP 143 (W [.addr, .int .i64, .int .i64] [.int .i64] F_portcullisref04_Chip_at) :=
  runOk_of (T := []) (ann := []) (TblOk.nil) Try.func143 (by kernel_rfl) (by kernel_rfl) (E_portcullisref04_Chip_at)
attribute [irreducible] F_portcullisref04_Chip_at
def G_portcullisref04_Chip_Read (c_portcullisref04_Chip_at : Addr → Int → Int → (Int → H → Prop) → H → Prop) (a0 : Addr) (a1 : Int) (a2 : Int) (Q : List Int → Int → H → Prop) (h : H) : Prop :=
 ∀ (n6 : Nat) (h7 : H),
 hnew h n6 (ints IntKind.u8 (zeros 32)) h7 →
 c_portcullisref04_Chip_at a0 a1 a2
 (fun (i9 : Int) (h10 : H) =>
 if (i9 != 0) = true then
 hcan h10 (Addr.mk n6 0 none) 32 ∧ ∀ (h11 : H), h11 = hwr h10 (Addr.mk n6 0 none) (ints IntKind.u8 (zeros 32)) → ∃ (l13 : List Int), l13.length = 32 ∧ hrow h11 (Addr.mk n6 0 none) IntKind.u8 l13 ∧ Q l13 i9 h11
 else
 ∃ (o14 : Option Addr),
 ∃ (n15 : Nat),
 ∃ (n16 : Nat),
 hc h10 (a0.add 7) = some (Value.slice o14 n15 n16) ∧
 ∃ (p17 : Addr),
 o14 = some p17 ∧
 0 ≤ a1 ∧
 a1 < (↑n15 : Int) ∧
 ∃ (o18 : Option Addr),
 ∃ (n19 : Nat),
 ∃ (n20 : Nat),
 hc h10 (p17.add (a1.toNat * 1)) = some (Value.slice o18 n19 n20) ∧
 ∃ (p21 : Addr),
 o18 = some p21 ∧
 0 ≤ a2 ∧
 a2 < (↑n19 : Int) ∧
 ∃ (l22 : List Int),
 l22.length = 32 ∧
 hrow h10 (p21.add (a2.toNat * 32)) IntKind.u8 l22 ∧
 hcan h10 (Addr.mk n6 0 none) 32 ∧
 ∀ (h23 : H),
 h23 = hwr h10 (Addr.mk n6 0 none) (ints IntKind.u8 l22 ++ []) → ∃ (l25 : List Int), l25.length = 32 ∧ hrow h23 (Addr.mk n6 0 none) IntKind.u8 l25 ∧ Q l25 0 h23)
 h7
theorem E_portcullisref04_Chip_Read (c_portcullisref04_Chip_at : Addr → Int → Int → (Int → H → Prop) → H → Prop) : ∀ (a0 : Addr) (a1 : Int) (a2 : Int) (Q : (List Int) → Int → H → Prop) (h : H), G_portcullisref04_Chip_Read c_portcullisref04_Chip_at a0 a1 a2 Q h = Dbody PP [(143, W [.addr, .int .i64, .int .i64] [.int .i64] c_portcullisref04_Chip_at)] [] Try.f96 [.addr a0, .one (.int .i64 a1), .one (.int .i64 a2)] (decR [.ag [.row .u8 32], .int .i64] Q) h := by
  intros; kernel_rfl
def F_portcullisref04_Chip_Read := G_portcullisref04_Chip_Read F_portcullisref04_Chip_at
theorem R_portcullisref04_Chip_Read : RunOk PP 96 (W [.addr, .int .i64, .int .i64] [.ag [.row .u8 32], .int .i64] F_portcullisref04_Chip_Read) :=
  runOk_of (T := [(143, W [.addr, .int .i64, .int .i64] [.int .i64] F_portcullisref04_Chip_at)]) (ann := []) (TblOk.cons R_portcullisref04_Chip_at (TblOk.nil)) Try.func96 (by kernel_rfl) (by kernel_rfl) (E_portcullisref04_Chip_Read F_portcullisref04_Chip_at)
attribute [irreducible] F_portcullisref04_Chip_Read
def G_portcullisref04_Chip_Program (c_portcullisref04_Chip_act : Addr → (Bool → H → Prop) → H → Prop) (c_portcullisref04_Chip_bits : Addr → Int → (Int → H → Prop) → H → Prop) (c_portcullisref04_Chip_at : Addr → Int → Int → (Int → H → Prop) → H → Prop) (a0 : Addr) (a1 : Int) (a2 : Int) (a3_0 : List Int) (Q : Int → H → Prop) (h : H) : Prop :=
 ∀ (n9 : Nat) (h10 : H),
 hnew h n9 (ints IntKind.u8 a3_0 ++ []) h10 →
 c_portcullisref04_Chip_at a0 a1 a2
 (fun (i12 : Int) (h13 : H) =>
 if (i12 != 0) = true then Q i12 h13
 else
 c_portcullisref04_Chip_act a0
 (fun (b14 : Bool) (h15 : H) =>
 ∃ (o16 : Option Addr),
 ∃ (n17 : Nat),
 ∃ (n18 : Nat),
 hc h15 (a0.add 7) = some (Value.slice o16 n17 n18) ∧
 ∃ (p19 : Addr),
 o16 = some p19 ∧
 0 ≤ a1 ∧
 a1 < (↑n17 : Int) ∧
 ∃ (o20 : Option Addr),
 ∃ (n21 : Nat),
 ∃ (n22 : Nat),
 hc h15 (p19.add (a1.toNat * 1)) = some (Value.slice o20 n21 n22) ∧
 ∃ (p23 : Addr),
 o20 = some p23 ∧
 0 ≤ a2 ∧
 a2 < (↑n21 : Int) ∧
 ∃ (l24 : List Int),
 l24.length = 32 ∧
 hrow h15 (p23.add (a2.toNat * 32)) IntKind.u8 l24 ∧
 ∀ (n25 : Nat) (h26 : H),
 hnew h15 n25 (ints IntKind.u8 (zeros 32)) h26 →
 hcan h26 (Addr.mk n25 0 none) 32 ∧
 ∀ (h28 : H),
 h28 = hwr h26 (Addr.mk n25 0 none) (ints IntKind.u8 l24 ++ []) →
 ∀ (J30 : List SV → H → Prop),
 (∀ (i31 : Int) (h32 : H),
 (if ltI i31 32 = true then
 0 ≤ i31 ∧
 i31 < (↑32 : Int) ∧
 ∃ (i33 : Int),
 hc h32 ((Addr.mk n25 0 none).add (i31.toNat * 1)) = some (Value.int IntKind.u8 i33) ∧
 0 ≤ i31 ∧
 i31 < (↑32 : Int) ∧
 ∃ (i34 : Int),
 hc h32 ((Addr.mk n9 0 none).add (i31.toNat * 1)) = some (Value.int IntKind.u8 i34) ∧
 if b14 = true then
 0 ≤ i31 ∧
 i31 < (↑32 : Int) ∧
 ∃ (i35 : Int),
 hc h32 ((Addr.mk n25 0 none).add (i31.toNat * 1)) = some (Value.int IntKind.u8 i35) ∧
 c_portcullisref04_Chip_bits a0 i31
 (fun (i36 : Int) (h37 : H) =>
 hcs h37 ((Addr.mk n25 0 none).add (i31.toNat * 1)) [Value.int IntKind.u8 i35] ∧
 c_portcullisref04_Chip_bits a0 i31
 (fun (i38 : Int) (h39 : H) =>
 hcs h39 ((Addr.mk n25 0 none).add (i31.toNat * 1)) [Value.int IntKind.u8 i35] ∧
 ∃ (o40 : Option Addr),
 ∃ (n41 : Nat),
 ∃ (n42 : Nat),
 hc h39 (a0.add 7) = some (Value.slice o40 n41 n42) ∧
 ∃ (p43 : Addr),
 o40 = some p43 ∧
 0 ≤ a1 ∧
 a1 < (↑n41 : Int) ∧
 ∃ (o44 : Option Addr),
 ∃ (n45 : Nat),
 ∃ (n46 : Nat),
 hc h39 (p43.add (a1.toNat * 1)) = some (Value.slice o44 n45 n46) ∧
 ∃ (p47 : Addr),
 o44 = some p47 ∧
 0 ≤ a2 ∧
 a2 < (↑n45 : Int) ∧
 0 ≤ i31 ∧
 i31 < (↑32 : Int) ∧
 hcan h39 ((p47.add (a2.toNat * 32)).add (i31.toNat * 1)) 1 ∧
 ∀ (h48 : H),
 h48 =
 hwr h39 ((p47.add (a2.toNat * 32)).add (i31.toNat * 1))
 [Value.int IntKind.u8
 (bits BinOp.or IntKind.u8
 (bits BinOp.andNot IntKind.u8 i35 i36)
 (bits BinOp.and IntKind.u8
 (bits BinOp.and IntKind.u8 i33 i34) i38))] →
 J30
 [SV.dv
 (DV.one (Value.int IntKind.i64 (IntKind.i64.wrap (i31 + 1))))]
 h48)
 h37)
 h32
 else
 ∃ (o50 : Option Addr),
 ∃ (n51 : Nat),
 ∃ (n52 : Nat),
 hc h32 (a0.add 7) = some (Value.slice o50 n51 n52) ∧
 ∃ (p53 : Addr),
 o50 = some p53 ∧
 0 ≤ a1 ∧
 a1 < (↑n51 : Int) ∧
 ∃ (o54 : Option Addr),
 ∃ (n55 : Nat),
 ∃ (n56 : Nat),
 hc h32 (p53.add (a1.toNat * 1)) = some (Value.slice o54 n55 n56) ∧
 ∃ (p57 : Addr),
 o54 = some p57 ∧
 0 ≤ a2 ∧
 a2 < (↑n55 : Int) ∧
 0 ≤ i31 ∧
 i31 < (↑32 : Int) ∧
 hcan h32 ((p57.add (a2.toNat * 32)).add (i31.toNat * 1)) 1 ∧
 ∀ (h58 : H),
 h58 =
 hwr h32 ((p57.add (a2.toNat * 32)).add (i31.toNat * 1))
 [Value.int IntKind.u8 (bits BinOp.and IntKind.u8 i33 i34)] →
 J30 [SV.dv (DV.one (Value.int IntKind.i64 (IntKind.i64.wrap (i31 + 1))))] h58
 else if b14 = true then Q 8 h32 else Q 0 h32) →
 J30 [SV.dv (DV.one (Value.int IntKind.i64 i31))] h32) →
 J30 [SV.dv (DV.one (Value.int IntKind.i64 0))] h28)
 h13)
 h10
theorem E_portcullisref04_Chip_Program (c_portcullisref04_Chip_act : Addr → (Bool → H → Prop) → H → Prop) (c_portcullisref04_Chip_bits : Addr → Int → (Int → H → Prop) → H → Prop) (c_portcullisref04_Chip_at : Addr → Int → Int → (Int → H → Prop) → H → Prop) : ∀ (a0 : Addr) (a1 : Int) (a2 : Int) (a3_0 : List Int) (Q : Int → H → Prop) (h : H), G_portcullisref04_Chip_Program c_portcullisref04_Chip_act c_portcullisref04_Chip_bits c_portcullisref04_Chip_at a0 a1 a2 a3_0 Q h = Dbody PP [(139, W [.addr] [.bool] c_portcullisref04_Chip_act), (140, W [.addr, .int .i64] [.int .u8] c_portcullisref04_Chip_bits), (143, W [.addr, .int .i64, .int .i64] [.int .i64] c_portcullisref04_Chip_at)] [(506, [(12, .sc (.int .i64))])] Try.f127 [.addr a0, .one (.int .i64 a1), .one (.int .i64 a2), .agg [.row .u8 32 a3_0]] (decR [.int .i64] Q) h := by
  intros; kernel_rfl
def F_portcullisref04_Chip_Program := G_portcullisref04_Chip_Program F_portcullisref04_Chip_act F_portcullisref04_Chip_bits F_portcullisref04_Chip_at
theorem R_portcullisref04_Chip_Program : RunOk PP 127 (W [.addr, .int .i64, .int .i64, .ag [.row .u8 32]] [.int .i64] F_portcullisref04_Chip_Program) :=
  runOk_of (T := [(139, W [.addr] [.bool] F_portcullisref04_Chip_act), (140, W [.addr, .int .i64] [.int .u8] F_portcullisref04_Chip_bits), (143, W [.addr, .int .i64, .int .i64] [.int .i64] F_portcullisref04_Chip_at)]) (ann := [(506, [(12, .sc (.int .i64))])]) (TblOk.cons R_portcullisref04_Chip_act (TblOk.cons R_portcullisref04_Chip_bits (TblOk.cons R_portcullisref04_Chip_at (TblOk.nil)))) Try.func127 (by kernel_rfl) (by kernel_rfl) (E_portcullisref04_Chip_Program F_portcullisref04_Chip_act F_portcullisref04_Chip_bits F_portcullisref04_Chip_at)
attribute [irreducible] F_portcullisref04_Chip_Program
def G_portcullisref04_Chip_Erase (c_portcullisref04_Chip_act : Addr → (Bool → H → Prop) → H → Prop) (c_portcullisref04_Chip_bits : Addr → Int → (Int → H → Prop) → H → Prop) (c_portcullisref04_Chip_at : Addr → Int → Int → (Int → H → Prop) → H → Prop) (a0 : Addr) (a1 : Int) (Q : Int → H → Prop) (h : H) : Prop :=
 c_portcullisref04_Chip_at a0 a1 0
 (fun (i7 : Int) (h8 : H) =>
 if (i7 != 0) = true then Q i7 h8
 else
 ∃ (o9 : Option Addr),
 ∃ (n10 : Nat),
 ∃ (n11 : Nat),
 hc h8 (a0.add 8) = some (Value.slice o9 n10 n11) ∧
 ∃ (p12 : Addr),
 o9 = some p12 ∧
 0 ≤ a1 ∧
 a1 < (↑n10 : Int) ∧
 ∃ (i13 : Int),
 hc h8 (p12.add (a1.toNat * 1)) = some (Value.int IntKind.i64 i13) ∧
 ∃ (i14 : Int),
 hc h8 (a0.add 5) = some (Value.int IntKind.i64 i14) ∧
 if leI i14 i13 = true then Q 9 h8
 else
 c_portcullisref04_Chip_act a0
 (fun (b15 : Bool) (h16 : H) =>
 ∃ (o17 : Option Addr),
 ∃ (n18 : Nat),
 ∃ (n19 : Nat),
 hc h16 (a0.add 8) = some (Value.slice o17 n18 n19) ∧
 ∃ (p20 : Addr),
 o17 = some p20 ∧
 0 ≤ a1 ∧
 a1 < (↑n18 : Int) ∧
 ∃ (i21 : Int),
 hc h16 (p20.add (a1.toNat * 1)) = some (Value.int IntKind.i64 i21) ∧
 ∃ (p22 : Addr),
 o17 = some p22 ∧
 0 ≤ a1 ∧
 a1 < (↑n18 : Int) ∧
 hcan h16 (p22.add (a1.toNat * 1)) 1 ∧
 ∀ (h23 : H),
 h23 = hwr h16 (p22.add (a1.toNat * 1)) [Value.int IntKind.i64 (IntKind.i64.wrap (i21 + 1))] →
 ∀ (J25 : List SV → H → Prop),
 (∀ (i26 : Int) (h27 : H),
 (∃ (i28 : Int),
 hc h27 a0 = some (Value.int IntKind.i64 i28) ∧
 if ltI i26 i28 = true then
 ∀ (J29 : List SV → H → Prop),
 (∀ (i30 : Int) (h31 : H),
 (if ltI i30 32 = true then
 if b15 = true then
 ∃ (o32 : Option Addr),
 ∃ (n33 : Nat),
 ∃ (n34 : Nat),
 hc h31 (a0.add 7) = some (Value.slice o32 n33 n34) ∧
 ∃ (p35 : Addr),
 o32 = some p35 ∧
 0 ≤ a1 ∧
 a1 < (↑n33 : Int) ∧
 ∃ (o36 : Option Addr),
 ∃ (n37 : Nat),
 ∃ (n38 : Nat),
 hc h31 (p35.add (a1.toNat * 1)) = some (Value.slice o36 n37 n38) ∧
 ∃ (p39 : Addr),
 o36 = some p39 ∧
 0 ≤ i26 ∧
 i26 < (↑n37 : Int) ∧
 0 ≤ i30 ∧
 i30 < (↑32 : Int) ∧
 ∃ (i40 : Int),
 hc h31 ((p39.add (i26.toNat * 32)).add (i30.toNat * 1)) =
 some (Value.int IntKind.u8 i40) ∧
 c_portcullisref04_Chip_bits a0
 (IntKind.i64.wrap (IntKind.i64.wrap (32 * i26) + i30))
 (fun (i41 : Int) (h42 : H) =>
 hcs h42 ((p39.add (i26.toNat * 32)).add (i30.toNat * 1))
 [Value.int IntKind.u8 i40] ∧
 hcs h42 (p35.add (a1.toNat * 1)) [Value.slice o36 n37 n38] ∧
 hcs h42 (a0.add 7) [Value.slice o32 n33 n34] ∧
 ∃ (o43 : Option Addr),
 ∃ (n44 : Nat),
 ∃ (n45 : Nat),
 hc h42 (a0.add 7) = some (Value.slice o43 n44 n45) ∧
 ∃ (p46 : Addr),
 o43 = some p46 ∧
 0 ≤ a1 ∧
 a1 < (↑n44 : Int) ∧
 ∃ (o47 : Option Addr),
 ∃ (n48 : Nat),
 ∃ (n49 : Nat),
 hc h42 (p46.add (a1.toNat * 1)) =
 some (Value.slice o47 n48 n49) ∧
 ∃ (p50 : Addr),
 o47 = some p50 ∧
 0 ≤ i26 ∧
 i26 < (↑n48 : Int) ∧
 0 ≤ i30 ∧
 i30 < (↑32 : Int) ∧
 hcan h42
 ((p50.add (i26.toNat * 32)).add
 (i30.toNat * 1))
 1 ∧
 ∀ (h51 : H),
 h51 =
 hwr h42
 ((p50.add
 (i26.toNat * 32)).add
 (i30.toNat * 1))
 [Value.int IntKind.u8
 (bits BinOp.or
 IntKind.u8 i40 i41)] →
 J29
 [SV.dv
 (DV.one
 (Value.int IntKind.i64
 (IntKind.i64.wrap
 (i30 + 1))))]
 h51)
 h31
 else
 ∃ (o53 : Option Addr),
 ∃ (n54 : Nat),
 ∃ (n55 : Nat),
 hc h31 (a0.add 7) = some (Value.slice o53 n54 n55) ∧
 ∃ (p56 : Addr),
 o53 = some p56 ∧
 0 ≤ a1 ∧
 a1 < (↑n54 : Int) ∧
 ∃ (o57 : Option Addr),
 ∃ (n58 : Nat),
 ∃ (n59 : Nat),
 hc h31 (p56.add (a1.toNat * 1)) = some (Value.slice o57 n58 n59) ∧
 ∃ (p60 : Addr),
 o57 = some p60 ∧
 0 ≤ i26 ∧
 i26 < (↑n58 : Int) ∧
 0 ≤ i30 ∧
 i30 < (↑32 : Int) ∧
 hcan h31 ((p60.add (i26.toNat * 32)).add (i30.toNat * 1)) 1 ∧
 ∀ (h61 : H),
 h61 =
 hwr h31 ((p60.add (i26.toNat * 32)).add (i30.toNat * 1))
 [Value.int IntKind.u8 255] →
 J29 [SV.dv (DV.one (Value.int IntKind.i64 (IntKind.i64.wrap (i30 + 1))))] h61
 else J25 [SV.dv (DV.one (Value.int IntKind.i64 (IntKind.i64.wrap (i26 + 1))))] h31) →
 J29 [SV.dv (DV.one (Value.int IntKind.i64 i30))] h31) →
 J29 [SV.dv (DV.one (Value.int IntKind.i64 0))] h27
 else if b15 = true then Q 8 h27 else Q 0 h27) →
 J25 [SV.dv (DV.one (Value.int IntKind.i64 i26))] h27) →
 J25 [SV.dv (DV.one (Value.int IntKind.i64 0))] h23)
 h8)
 h
theorem E_portcullisref04_Chip_Erase (c_portcullisref04_Chip_act : Addr → (Bool → H → Prop) → H → Prop) (c_portcullisref04_Chip_bits : Addr → Int → (Int → H → Prop) → H → Prop) (c_portcullisref04_Chip_at : Addr → Int → Int → (Int → H → Prop) → H → Prop) : ∀ (a0 : Addr) (a1 : Int) (Q : Int → H → Prop) (h : H), G_portcullisref04_Chip_Erase c_portcullisref04_Chip_act c_portcullisref04_Chip_bits c_portcullisref04_Chip_at a0 a1 Q h = Dbody PP [(139, W [.addr] [.bool] c_portcullisref04_Chip_act), (140, W [.addr, .int .i64] [.int .u8] c_portcullisref04_Chip_bits), (143, W [.addr, .int .i64, .int .i64] [.int .i64] c_portcullisref04_Chip_at)] [(1018, [(7, .sc (.int .i64))]), (65170, [(8, .sc (.int .i64))])] Try.f128 [.addr a0, .one (.int .i64 a1)] (decR [.int .i64] Q) h := by
  intros; kernel_rfl
def F_portcullisref04_Chip_Erase := G_portcullisref04_Chip_Erase F_portcullisref04_Chip_act F_portcullisref04_Chip_bits F_portcullisref04_Chip_at
theorem R_portcullisref04_Chip_Erase : RunOk PP 128 (W [.addr, .int .i64] [.int .i64] F_portcullisref04_Chip_Erase) :=
  runOk_of (T := [(139, W [.addr] [.bool] F_portcullisref04_Chip_act), (140, W [.addr, .int .i64] [.int .u8] F_portcullisref04_Chip_bits), (143, W [.addr, .int .i64, .int .i64] [.int .i64] F_portcullisref04_Chip_at)]) (ann := [(1018, [(7, .sc (.int .i64))]), (65170, [(8, .sc (.int .i64))])]) (TblOk.cons R_portcullisref04_Chip_act (TblOk.cons R_portcullisref04_Chip_bits (TblOk.cons R_portcullisref04_Chip_at (TblOk.nil)))) Try.func128 (by kernel_rfl) (by kernel_rfl) (E_portcullisref04_Chip_Erase F_portcullisref04_Chip_act F_portcullisref04_Chip_bits F_portcullisref04_Chip_at)
attribute [irreducible] F_portcullisref04_Chip_Erase
def G_portcullisref04_Chip_Blown (c_portcullisref04_Chip_fuse : Addr → Int → (Int → H → Prop) → H → Prop) (a0 : Addr) (a1 : Int) (Q : Bool → Int → H → Prop) (h : H) : Prop :=
 c_portcullisref04_Chip_fuse a0 a1
 (fun (i5 : Int) (h6 : H) =>
 if (i5 != 0) = true then Q false i5 h6
 else
 ∃ (o7 : Option Addr),
 ∃ (n8 : Nat),
 ∃ (n9 : Nat), hc h6 (a0.add 9) = some (Value.slice o7 n8 n9) ∧ ∃ (p10 : Addr), o7 = some p10 ∧ 0 ≤ a1 ∧ a1 < (↑n8 : Int) ∧ ∃ (b11 : Bool), hc h6 (p10.add (a1.toNat * 1)) = some (Value.bool b11) ∧ Q b11 0 h6)
 h
theorem E_portcullisref04_Chip_Blown (c_portcullisref04_Chip_fuse : Addr → Int → (Int → H → Prop) → H → Prop) : ∀ (a0 : Addr) (a1 : Int) (Q : Bool → Int → H → Prop) (h : H), G_portcullisref04_Chip_Blown c_portcullisref04_Chip_fuse a0 a1 Q h = Dbody PP [(138, W [.addr, .int .i64] [.int .i64] c_portcullisref04_Chip_fuse)] [] Try.f129 [.addr a0, .one (.int .i64 a1)] (decR [.bool, .int .i64] Q) h := by
  intros; kernel_rfl
def F_portcullisref04_Chip_Blown := G_portcullisref04_Chip_Blown F_portcullisref04_Chip_fuse
theorem R_portcullisref04_Chip_Blown : RunOk PP 129 (W [.addr, .int .i64] [.bool, .int .i64] F_portcullisref04_Chip_Blown) :=
  runOk_of (T := [(138, W [.addr, .int .i64] [.int .i64] F_portcullisref04_Chip_fuse)]) (ann := []) (TblOk.cons R_portcullisref04_Chip_fuse (TblOk.nil)) Try.func129 (by kernel_rfl) (by kernel_rfl) (E_portcullisref04_Chip_Blown F_portcullisref04_Chip_fuse)
attribute [irreducible] F_portcullisref04_Chip_Blown
def G_portcullisref04_Chip_Erases (c_portcullisref04_Chip_at : Addr → Int → Int → (Int → H → Prop) → H → Prop) (a0 : Addr) (a1 : Int) (Q : Int → Int → H → Prop) (h : H) : Prop :=
 c_portcullisref04_Chip_at a0 a1 0
 (fun (i5 : Int) (h6 : H) =>
 if (i5 != 0) = true then Q 0 i5 h6
 else
 ∃ (o7 : Option Addr),
 ∃ (n8 : Nat),
 ∃ (n9 : Nat),
 hc h6 (a0.add 8) = some (Value.slice o7 n8 n9) ∧ ∃ (p10 : Addr), o7 = some p10 ∧ 0 ≤ a1 ∧ a1 < (↑n8 : Int) ∧ ∃ (i11 : Int), hc h6 (p10.add (a1.toNat * 1)) = some (Value.int IntKind.i64 i11) ∧ Q i11 0 h6)
 h
theorem E_portcullisref04_Chip_Erases (c_portcullisref04_Chip_at : Addr → Int → Int → (Int → H → Prop) → H → Prop) : ∀ (a0 : Addr) (a1 : Int) (Q : Int → Int → H → Prop) (h : H), G_portcullisref04_Chip_Erases c_portcullisref04_Chip_at a0 a1 Q h = Dbody PP [(143, W [.addr, .int .i64, .int .i64] [.int .i64] c_portcullisref04_Chip_at)] [] Try.f130 [.addr a0, .one (.int .i64 a1)] (decR [.int .i64, .int .i64] Q) h := by
  intros; kernel_rfl
def F_portcullisref04_Chip_Erases := G_portcullisref04_Chip_Erases F_portcullisref04_Chip_at
theorem R_portcullisref04_Chip_Erases : RunOk PP 130 (W [.addr, .int .i64] [.int .i64, .int .i64] F_portcullisref04_Chip_Erases) :=
  runOk_of (T := [(143, W [.addr, .int .i64, .int .i64] [.int .i64] F_portcullisref04_Chip_at)]) (ann := []) (TblOk.cons R_portcullisref04_Chip_at (TblOk.nil)) Try.func130 (by kernel_rfl) (by kernel_rfl) (E_portcullisref04_Chip_Erases F_portcullisref04_Chip_at)
attribute [irreducible] F_portcullisref04_Chip_Erases
def G_portcullislaw04_pair_step (c_chip_Chip_Cut : Addr → Int → Option Addr → Nat → Nat → (H → Prop) → H → Prop) (c_chip_Chip_Restore : Addr → (H → Prop) → H → Prop) (c_chip_Chip_Blow : Addr → Int → (Int → H → Prop) → H → Prop) (c_chip_Chip_Erase : Addr → Int → (Int → H → Prop) → H → Prop) (c_chip_Chip_Program : Addr → Int → Int → List Int → (Int → H → Prop) → H → Prop) (c_chip_Chip_Read : Addr → Int → Int → (List Int → Int → H → Prop) → H → Prop) (c_chip_Chip_Blown : Addr → Int → (Bool → Int → H → Prop) → H → Prop) (c_portcullislaw04_pair_same : Option Addr → Option Addr → (Bool → H → Prop) → H → Prop) (c_portcullisref04_Chip_Cut : Addr → Int → Option Addr → Nat → Nat → (H → Prop) → H → Prop) (c_portcullisref04_Chip_Blow : Addr → Int → (Int → H → Prop) → H → Prop) (c_portcullisref04_Chip_Restore : Addr → (H → Prop) → H → Prop) (c_chip_Chip_Erases : Addr → Int → (Int → Int → H → Prop) → H → Prop) (c_portcullisref04_Chip_Read : Addr → Int → Int → (List Int → Int → H → Prop) → H → Prop) (c_portcullisref04_Chip_Program : Addr → Int → Int → List Int → (Int → H → Prop) → H → Prop) (c_portcullisref04_Chip_Erase : Addr → Int → (Int → H → Prop) → H → Prop) (c_portcullisref04_Chip_Blown : Addr → Int → (Bool → Int → H → Prop) → H → Prop) (c_portcullisref04_Chip_Erases : Addr → Int → (Int → Int → H → Prop) → H → Prop) (a0_0 : Option Addr) (a0_1 : Option Addr) (a1_0 : Int) (a1_1 : Int) (a1_2 : Int) (a1_3 : List Int) (a1_4p : Option Addr) (a1_4l : Nat) (a1_4c : Nat) (Q : Bool → H → Prop) (h : H) : Prop :=
 ∀ (n28 : Nat) (h29 : H),
 hnew h n28 [Value.pointer a0_0, Value.pointer a0_1] h29 →
 ∀ (n31 : Nat) (h32 : H),
 hnew h29 n31 (Value.int IntKind.i64 a1_0 :: Value.int IntKind.i64 a1_1 :: Value.int IntKind.i64 a1_2 :: (ints IntKind.u8 a1_3 ++ [Value.slice a1_4p a1_4l a1_4c])) h32 →
 ∃ (i34 : Int),
 hc h32 (Addr.mk n31 0 none) = some (Value.int IntKind.i64 i34) ∧
 if (i34 == 1) = true then
 ∃ (o35 : Option Addr),
 hc h32 (Addr.mk n28 0 none) = some (Value.pointer o35) ∧
 ∃ (i36 : Int),
 hc h32 ((Addr.mk n31 0 none).add 1) = some (Value.int IntKind.i64 i36) ∧
 ∃ (i37 : Int),
 hc h32 ((Addr.mk n31 0 none).add 2) = some (Value.int IntKind.i64 i37) ∧
 ∃ (p38 : Addr),
 o35 = some p38 ∧
 c_chip_Chip_Read p38 i36 i37
 (fun (l39 : List Int) (i40 : Int) (h41 : H) =>
 ∀ (n42 : Nat) (h43 : H),
 hnew h41 n42 (ints IntKind.u8 (zeros 32)) h43 →
 hcan h43 (Addr.mk n42 0 none) 32 ∧
 ∀ (h45 : H),
 h45 = hwr h43 (Addr.mk n42 0 none) (ints IntKind.u8 l39 ++ []) →
 ∃ (o47 : Option Addr),
 hc h45 ((Addr.mk n28 0 none).add 1) = some (Value.pointer o47) ∧
 ∃ (i48 : Int),
 hc h45 ((Addr.mk n31 0 none).add 1) = some (Value.int IntKind.i64 i48) ∧
 ∃ (i49 : Int),
 hc h45 ((Addr.mk n31 0 none).add 2) = some (Value.int IntKind.i64 i49) ∧
 ∃ (p50 : Addr),
 o47 = some p50 ∧
 c_portcullisref04_Chip_Read p50 i48 i49
 (fun (l51 : List Int) (i52 : Int) (h53 : H) =>
 ∀ (n54 : Nat) (h55 : H),
 hnew h53 n54 (ints IntKind.u8 (zeros 32)) h55 →
 hcan h55 (Addr.mk n54 0 none) 32 ∧
 ∀ (h57 : H),
 h57 = hwr h55 (Addr.mk n54 0 none) (ints IntKind.u8 l51 ++ []) →
 ∃ (l59 : List Int),
 l59.length = 32 ∧
 hrow h57 (Addr.mk n42 0 none) IntKind.u8 l59 ∧
 ∃ (l60 : List Int),
 l60.length = 32 ∧ hrow h57 (Addr.mk n54 0 none) IntKind.u8 l60 ∧ if (l59 == l60) = true then Q (i40 == i52) h57 else Q false h57)
 h45)
 h32
 else
 if (i34 == 2) = true then
 ∃ (o61 : Option Addr),
 hc h32 (Addr.mk n28 0 none) = some (Value.pointer o61) ∧
 ∃ (i62 : Int),
 hc h32 ((Addr.mk n31 0 none).add 1) = some (Value.int IntKind.i64 i62) ∧
 ∃ (i63 : Int),
 hc h32 ((Addr.mk n31 0 none).add 2) = some (Value.int IntKind.i64 i63) ∧
 ∃ (l64 : List Int),
 l64.length = 32 ∧
 hrow h32 ((Addr.mk n31 0 none).add 3) IntKind.u8 l64 ∧
 ∃ (p65 : Addr),
 o61 = some p65 ∧
 c_chip_Chip_Program p65 i62 i63 l64
 (fun (i66 : Int) (h67 : H) =>
 ∃ (o68 : Option Addr),
 hc h67 ((Addr.mk n28 0 none).add 1) = some (Value.pointer o68) ∧
 ∃ (i69 : Int),
 hc h67 ((Addr.mk n31 0 none).add 1) = some (Value.int IntKind.i64 i69) ∧
 ∃ (i70 : Int),
 hc h67 ((Addr.mk n31 0 none).add 2) = some (Value.int IntKind.i64 i70) ∧
 ∃ (l71 : List Int),
 l71.length = 32 ∧
 hrow h67 ((Addr.mk n31 0 none).add 3) IntKind.u8 l71 ∧
 ∃ (p72 : Addr), o68 = some p72 ∧ c_portcullisref04_Chip_Program p72 i69 i70 l71 (fun (i73 : Int) (h74 : H) => Q (i66 == i73) h74) h67)
 h32
 else
 if (i34 == 3) = true then
 ∃ (o75 : Option Addr),
 hc h32 (Addr.mk n28 0 none) = some (Value.pointer o75) ∧
 ∃ (i76 : Int),
 hc h32 ((Addr.mk n31 0 none).add 1) = some (Value.int IntKind.i64 i76) ∧
 ∃ (p77 : Addr),
 o75 = some p77 ∧
 c_chip_Chip_Erase p77 i76
 (fun (i78 : Int) (h79 : H) =>
 ∃ (o80 : Option Addr),
 hc h79 ((Addr.mk n28 0 none).add 1) = some (Value.pointer o80) ∧
 ∃ (i81 : Int),
 hc h79 ((Addr.mk n31 0 none).add 1) = some (Value.int IntKind.i64 i81) ∧
 ∃ (p82 : Addr), o80 = some p82 ∧ c_portcullisref04_Chip_Erase p82 i81 (fun (i83 : Int) (h84 : H) => Q (i78 == i83) h84) h79)
 h32
 else
 if (i34 == 4) = true then
 ∃ (o85 : Option Addr),
 hc h32 (Addr.mk n28 0 none) = some (Value.pointer o85) ∧
 ∃ (i86 : Int),
 hc h32 ((Addr.mk n31 0 none).add 1) = some (Value.int IntKind.i64 i86) ∧
 ∃ (p87 : Addr),
 o85 = some p87 ∧
 c_chip_Chip_Blow p87 i86
 (fun (i88 : Int) (h89 : H) =>
 ∃ (o90 : Option Addr),
 hc h89 ((Addr.mk n28 0 none).add 1) = some (Value.pointer o90) ∧
 ∃ (i91 : Int),
 hc h89 ((Addr.mk n31 0 none).add 1) = some (Value.int IntKind.i64 i91) ∧
 ∃ (p92 : Addr), o90 = some p92 ∧ c_portcullisref04_Chip_Blow p92 i91 (fun (i93 : Int) (h94 : H) => Q (i88 == i93) h94) h89)
 h32
 else
 if (i34 == 5) = true then
 ∃ (o95 : Option Addr),
 hc h32 (Addr.mk n28 0 none) = some (Value.pointer o95) ∧
 ∃ (i96 : Int),
 hc h32 ((Addr.mk n31 0 none).add 1) = some (Value.int IntKind.i64 i96) ∧
 ∃ (p97 : Addr),
 o95 = some p97 ∧
 c_chip_Chip_Blown p97 i96
 (fun (b98 : Bool) (i99 : Int) (h100 : H) =>
 ∃ (o101 : Option Addr),
 hc h100 ((Addr.mk n28 0 none).add 1) = some (Value.pointer o101) ∧
 ∃ (i102 : Int),
 hc h100 ((Addr.mk n31 0 none).add 1) = some (Value.int IntKind.i64 i102) ∧
 ∃ (p103 : Addr),
 o101 = some p103 ∧
 c_portcullisref04_Chip_Blown p103 i102 (fun (b104 : Bool) (i105 : Int) (h106 : H) => if (b98 == b104) = true then Q (i99 == i105) h106 else Q false h106) h100)
 h32
 else
 if (i34 == 6) = true then
 ∃ (o107 : Option Addr),
 hc h32 (Addr.mk n28 0 none) = some (Value.pointer o107) ∧
 ∃ (i108 : Int),
 hc h32 ((Addr.mk n31 0 none).add 1) = some (Value.int IntKind.i64 i108) ∧
 ∃ (p109 : Addr),
 o107 = some p109 ∧
 c_chip_Chip_Erases p109 i108
 (fun (i110 i111 : Int) (h112 : H) =>
 ∃ (o113 : Option Addr),
 hc h112 ((Addr.mk n28 0 none).add 1) = some (Value.pointer o113) ∧
 ∃ (i114 : Int),
 hc h112 ((Addr.mk n31 0 none).add 1) = some (Value.int IntKind.i64 i114) ∧
 ∃ (p115 : Addr),
 o113 = some p115 ∧
 c_portcullisref04_Chip_Erases p115 i114 (fun (i116 i117 : Int) (h118 : H) => if (i110 == i116) = true then Q (i111 == i117) h118 else Q false h118) h112)
 h32
 else
 if (i34 == 7) = true then
 ∀ (n119 : Nat) (h120 : H),
 hnew h32 n119 [] h120 →
 ∃ (o122 : Option Addr),
 ∃ (n123 : Nat),
 ∃ (n124 : Nat),
 hc h120 ((Addr.mk n31 0 none).add 35) = some (Value.slice o122 n123 n124) ∧
 ∃ (l125 : List Value),
 hsv h120 o122 1 n123 l125 ∧
 pApp h120 1 [Value.int IntKind.u8 0] 1 (some (Addr.mk n119 0 none)) 0 0 n123 l125 fun (o126 : Option Addr) (n127 n128 : Nat) (h129 : H) =>
 ∃ (o130 : Option Addr),
 hc h129 (Addr.mk n28 0 none) = some (Value.pointer o130) ∧
 ∃ (i131 : Int),
 hc h129 ((Addr.mk n31 0 none).add 1) = some (Value.int IntKind.i64 i131) ∧
 ∃ (p132 : Addr),
 o130 = some p132 ∧
 c_chip_Chip_Cut p132 i131 o126 n127 n128
 (fun (h133 : H) =>
 ∃ (o134 : Option Addr),
 hc h133 ((Addr.mk n28 0 none).add 1) = some (Value.pointer o134) ∧
 ∃ (i135 : Int),
 hc h133 ((Addr.mk n31 0 none).add 1) = some (Value.int IntKind.i64 i135) ∧
 ∃ (o136 : Option Addr),
 ∃ (n137 : Nat),
 ∃ (n138 : Nat),
 hc h133 ((Addr.mk n31 0 none).add 35) = some (Value.slice o136 n137 n138) ∧
 ∃ (p139 : Addr),
 o134 = some p139 ∧
 c_portcullisref04_Chip_Cut p139 i135 o136 n137 n138
 (fun (h140 : H) =>
 ∃ (l141 : List Int),
 hsv h140 o126 1 n127 (ints IntKind.u8 l141) ∧
 ∃ (o142 : Option Addr),
 ∃ (n143 : Nat),
 ∃ (n144 : Nat),
 hc h140 ((Addr.mk n31 0 none).add 35) = some (Value.slice o142 n143 n144) ∧
 ∃ (l145 : List Int),
 hsv h140 o142 1 n143 (ints IntKind.u8 l145) ∧
 ∀ (J146 : List SV → H → Prop),
 (∀ (i147 : Int) (h148 : H),
 (if ltI i147 (↑n127 : Int) = true then
 ∃ (p149 : Addr),
 o126 = some p149 ∧
 0 ≤ i147 ∧
 i147 < (↑n127 : Int) ∧
 ∃ (i150 : Int),
 hc h148 (p149.add (i147.toNat * 1)) = some (Value.int IntKind.u8 i150) ∧
 ∃ (p151 : Addr),
 o126 = some p151 ∧
 0 ≤ i147 ∧
 i147 < (↑n127 : Int) ∧
 hcan h148 (p151.add (i147.toNat * 1)) 1 ∧
 ∀ (h152 : H),
 h152 =
 hwr h148 (p151.add (i147.toNat * 1))
 [Value.int IntKind.u8 (bits BinOp.xor IntKind.u8 i150 90)] →
 J146 [SV.dv (DV.one (Value.int IntKind.i64 (IntKind.i64.wrap (i147 + 1))))] h152
 else Q ((bytesOf l141).toList == (bytesOf l145).toList) h148) →
 J146 [SV.dv (DV.one (Value.int IntKind.i64 i147))] h148) →
 J146 [SV.dv (DV.one (Value.int IntKind.i64 0))] h140)
 h133)
 h129
 else
 if (i34 == 8) = true then
 ∃ (o156 : Option Addr),
 hc h32 (Addr.mk n28 0 none) = some (Value.pointer o156) ∧
 ∃ (p157 : Addr),
 o156 = some p157 ∧
 c_chip_Chip_Restore p157
 (fun (h158 : H) =>
 ∃ (o159 : Option Addr),
 hc h158 ((Addr.mk n28 0 none).add 1) = some (Value.pointer o159) ∧ ∃ (p160 : Addr), o159 = some p160 ∧ c_portcullisref04_Chip_Restore p160 (fun (h161 : H) => Q true h161) h158)
 h32
 else
 ∃ (o162 : Option Addr),
 hc h32 (Addr.mk n28 0 none) = some (Value.pointer o162) ∧
 ∃ (o163 : Option Addr), hc h32 ((Addr.mk n28 0 none).add 1) = some (Value.pointer o163) ∧ c_portcullislaw04_pair_same o162 o163 (fun (b164 : Bool) (h165 : H) => Q b164 h165) h32
theorem E_portcullislaw04_pair_step (c_chip_Chip_Cut : Addr → Int → (Option Addr) → Nat → Nat → (H → Prop) → H → Prop) (c_chip_Chip_Restore : Addr → (H → Prop) → H → Prop) (c_chip_Chip_Blow : Addr → Int → (Int → H → Prop) → H → Prop) (c_chip_Chip_Erase : Addr → Int → (Int → H → Prop) → H → Prop) (c_chip_Chip_Program : Addr → Int → Int → (List Int) → (Int → H → Prop) → H → Prop) (c_chip_Chip_Read : Addr → Int → Int → ((List Int) → Int → H → Prop) → H → Prop) (c_chip_Chip_Blown : Addr → Int → (Bool → Int → H → Prop) → H → Prop) (c_portcullislaw04_pair_same : (Option Addr) → (Option Addr) → (Bool → H → Prop) → H → Prop) (c_portcullisref04_Chip_Cut : Addr → Int → (Option Addr) → Nat → Nat → (H → Prop) → H → Prop) (c_portcullisref04_Chip_Blow : Addr → Int → (Int → H → Prop) → H → Prop) (c_portcullisref04_Chip_Restore : Addr → (H → Prop) → H → Prop) (c_chip_Chip_Erases : Addr → Int → (Int → Int → H → Prop) → H → Prop) (c_portcullisref04_Chip_Read : Addr → Int → Int → ((List Int) → Int → H → Prop) → H → Prop) (c_portcullisref04_Chip_Program : Addr → Int → Int → (List Int) → (Int → H → Prop) → H → Prop) (c_portcullisref04_Chip_Erase : Addr → Int → (Int → H → Prop) → H → Prop) (c_portcullisref04_Chip_Blown : Addr → Int → (Bool → Int → H → Prop) → H → Prop) (c_portcullisref04_Chip_Erases : Addr → Int → (Int → Int → H → Prop) → H → Prop) : ∀ (a0_0 : Option Addr) (a0_1 : Option Addr) (a1_0 : Int) (a1_1 : Int) (a1_2 : Int) (a1_3 : List Int) (a1_4p : Option Addr) (a1_4l : Nat) (a1_4c : Nat) (Q : Bool → H → Prop) (h : H), G_portcullislaw04_pair_step c_chip_Chip_Cut c_chip_Chip_Restore c_chip_Chip_Blow c_chip_Chip_Erase c_chip_Chip_Program c_chip_Chip_Read c_chip_Chip_Blown c_portcullislaw04_pair_same c_portcullisref04_Chip_Cut c_portcullisref04_Chip_Blow c_portcullisref04_Chip_Restore c_chip_Chip_Erases c_portcullisref04_Chip_Read c_portcullisref04_Chip_Program c_portcullisref04_Chip_Erase c_portcullisref04_Chip_Blown c_portcullisref04_Chip_Erases a0_0 a0_1 a1_0 a1_1 a1_2 a1_3 a1_4p a1_4l a1_4c Q h = Dbody PP [(23, W [.addr, .int .i64, .slc] [] c_chip_Chip_Cut), (36, W [.addr] [] c_chip_Chip_Restore), (41, W [.addr, .int .i64] [.int .i64] c_chip_Chip_Blow), (46, W [.addr, .int .i64] [.int .i64] c_chip_Chip_Erase), (47, W [.addr, .int .i64, .int .i64, .ag [.row .u8 32]] [.int .i64] c_chip_Chip_Program), (62, W [.addr, .int .i64, .int .i64] [.ag [.row .u8 32], .int .i64] c_chip_Chip_Read), (63, W [.addr, .int .i64] [.bool, .int .i64] c_chip_Chip_Blown), (73, W [.ag [.ptr, .ptr]] [.bool] c_portcullislaw04_pair_same), (87, W [.addr, .int .i64, .slc] [] c_portcullisref04_Chip_Cut), (88, W [.addr, .int .i64] [.int .i64] c_portcullisref04_Chip_Blow), (89, W [.addr] [] c_portcullisref04_Chip_Restore), (93, W [.addr, .int .i64] [.int .i64, .int .i64] c_chip_Chip_Erases), (96, W [.addr, .int .i64, .int .i64] [.ag [.row .u8 32], .int .i64] c_portcullisref04_Chip_Read), (127, W [.addr, .int .i64, .int .i64, .ag [.row .u8 32]] [.int .i64] c_portcullisref04_Chip_Program), (128, W [.addr, .int .i64] [.int .i64] c_portcullisref04_Chip_Erase), (129, W [.addr, .int .i64] [.bool, .int .i64] c_portcullisref04_Chip_Blown), (130, W [.addr, .int .i64] [.int .i64, .int .i64] c_portcullisref04_Chip_Erases)] [(56622970, [(22, .sc (.int .i64))])] Try.f72 [.agg [.c (.pointer a0_0), .c (.pointer a0_1)], .agg [.c (.int .i64 a1_0), .c (.int .i64 a1_1), .c (.int .i64 a1_2), .row .u8 32 a1_3, .c (.slice a1_4p a1_4l a1_4c)]] (decR [.bool] Q) h := by
  intros; kernel_rfl
def F_portcullislaw04_pair_step := G_portcullislaw04_pair_step F_chip_Chip_Cut F_chip_Chip_Restore F_chip_Chip_Blow F_chip_Chip_Erase F_chip_Chip_Program F_chip_Chip_Read F_chip_Chip_Blown F_portcullislaw04_pair_same F_portcullisref04_Chip_Cut F_portcullisref04_Chip_Blow F_portcullisref04_Chip_Restore F_chip_Chip_Erases F_portcullisref04_Chip_Read F_portcullisref04_Chip_Program F_portcullisref04_Chip_Erase F_portcullisref04_Chip_Blown F_portcullisref04_Chip_Erases
theorem R_portcullislaw04_pair_step : RunOk PP 72 (W [.ag [.ptr, .ptr], .ag [.int .i64, .int .i64, .int .i64, .row .u8 32, .slc]] [.bool] F_portcullislaw04_pair_step) :=
  runOk_of (T := [(23, W [.addr, .int .i64, .slc] [] F_chip_Chip_Cut), (36, W [.addr] [] F_chip_Chip_Restore), (41, W [.addr, .int .i64] [.int .i64] F_chip_Chip_Blow), (46, W [.addr, .int .i64] [.int .i64] F_chip_Chip_Erase), (47, W [.addr, .int .i64, .int .i64, .ag [.row .u8 32]] [.int .i64] F_chip_Chip_Program), (62, W [.addr, .int .i64, .int .i64] [.ag [.row .u8 32], .int .i64] F_chip_Chip_Read), (63, W [.addr, .int .i64] [.bool, .int .i64] F_chip_Chip_Blown), (73, W [.ag [.ptr, .ptr]] [.bool] F_portcullislaw04_pair_same), (87, W [.addr, .int .i64, .slc] [] F_portcullisref04_Chip_Cut), (88, W [.addr, .int .i64] [.int .i64] F_portcullisref04_Chip_Blow), (89, W [.addr] [] F_portcullisref04_Chip_Restore), (93, W [.addr, .int .i64] [.int .i64, .int .i64] F_chip_Chip_Erases), (96, W [.addr, .int .i64, .int .i64] [.ag [.row .u8 32], .int .i64] F_portcullisref04_Chip_Read), (127, W [.addr, .int .i64, .int .i64, .ag [.row .u8 32]] [.int .i64] F_portcullisref04_Chip_Program), (128, W [.addr, .int .i64] [.int .i64] F_portcullisref04_Chip_Erase), (129, W [.addr, .int .i64] [.bool, .int .i64] F_portcullisref04_Chip_Blown), (130, W [.addr, .int .i64] [.int .i64, .int .i64] F_portcullisref04_Chip_Erases)]) (ann := [(56622970, [(22, .sc (.int .i64))])]) (TblOk.cons R_chip_Chip_Cut (TblOk.cons R_chip_Chip_Restore (TblOk.cons R_chip_Chip_Blow (TblOk.cons R_chip_Chip_Erase (TblOk.cons R_chip_Chip_Program (TblOk.cons R_chip_Chip_Read (TblOk.cons R_chip_Chip_Blown (TblOk.cons R_portcullislaw04_pair_same (TblOk.cons R_portcullisref04_Chip_Cut (TblOk.cons R_portcullisref04_Chip_Blow (TblOk.cons R_portcullisref04_Chip_Restore (TblOk.cons R_chip_Chip_Erases (TblOk.cons R_portcullisref04_Chip_Read (TblOk.cons R_portcullisref04_Chip_Program (TblOk.cons R_portcullisref04_Chip_Erase (TblOk.cons R_portcullisref04_Chip_Blown (TblOk.cons R_portcullisref04_Chip_Erases (TblOk.nil)))))))))))))))))) Try.func72 (by kernel_rfl) (by kernel_rfl) (E_portcullislaw04_pair_step F_chip_Chip_Cut F_chip_Chip_Restore F_chip_Chip_Blow F_chip_Chip_Erase F_chip_Chip_Program F_chip_Chip_Read F_chip_Chip_Blown F_portcullislaw04_pair_same F_portcullisref04_Chip_Cut F_portcullisref04_Chip_Blow F_portcullisref04_Chip_Restore F_chip_Chip_Erases F_portcullisref04_Chip_Read F_portcullisref04_Chip_Program F_portcullisref04_Chip_Erase F_portcullisref04_Chip_Blown F_portcullisref04_Chip_Erases)
attribute [irreducible] F_portcullislaw04_pair_step
end Go.Proofs.Ytamfkofcpoglnaa
