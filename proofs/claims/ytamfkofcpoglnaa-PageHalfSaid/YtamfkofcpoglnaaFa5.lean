/- The denotations of some functions of the program, printed by a program of ours (wip/tools/vcgen.py), and that they are the model's. -/
import Derived.Test.YtamfkofcpoglnaaFa0
import Derived.Test.YtamfkofcpoglnaaFa1
import Derived.Test.YtamfkofcpoglnaaFa2
import Derived.Test.YtamfkofcpoglnaaFa3
import Derived.Test.YtamfkofcpoglnaaFa4
set_option autoImplicit false
set_option linter.all false
set_option linter.unusedVariables false
set_option maxRecDepth 100000
namespace Go.Proofs.Ytamfkofcpoglnaa
open Go Go.Vc
def G_portcullislaw04_game (c_chip_Chip_Copy : Addr → (Option Addr → H → Prop) → H → Prop) (c_portcullisref04_Chip_Copy : Addr → (Option Addr → H → Prop) → H → Prop) (c_portcullislaw04_pair_step : Option Addr → Option Addr → Int → Int → Int → List Int → Option Addr → Nat → Nat → (Bool → H → Prop) → H → Prop) (c_portcullislaw04_pair_same : Option Addr → Option Addr → (Bool → H → Prop) → H → Prop) (a0 : Addr) (a1 : Addr) (a2p : Option Addr) (a2l : Nat) (a2c : Nat) (Q : Bool → H → Prop) (h : H) : Prop :=
 ∀ (n11 : Nat) (h12 : H),
 hnew h n11 [Value.pointer none, Value.pointer none] h12 →
 hcan h12 (Addr.mk n11 0 none) 2 ∧
 ∀ (h14 : H),
 h14 = hwr h12 (Addr.mk n11 0 none) [Value.pointer (some a0), Value.pointer (some a1)] →
 ∀ (n16 : Nat) (h17 : H),
 hnew h14 n16 [Value.pointer none, Value.pointer none] h17 →
 hcan h17 (Addr.mk n16 0 none) 2 ∧
 ∀ (h19 : H),
 h19 = hwr h17 (Addr.mk n16 0 none) [Value.pointer (some a0), Value.pointer (some a1)] →
 ∀ (J21 : List SV → H → Prop),
 (∀ (i22 : Int) (h23 : H),
 (if ltI i22 (↑a2l : Int) = true then
 ∀ (J24 : List SV → H → Prop),
 (∀ (h25 : H),
 (if ltI (↑a2l : Int) 200 = true then
 ∃ (o26 : Option Addr),
 hc h25 (Addr.mk n11 0 none) = some (Value.pointer o26) ∧
 ∃ (o27 : Option Addr),
 hc h25 ((Addr.mk n11 0 none).add 1) = some (Value.pointer o27) ∧
 c_portcullislaw04_pair_same o26 o27
 (fun (b28 : Bool) (h29 : H) =>
 ∃ (o30 : Option Addr),
 hc h29 (Addr.mk n16 0 none) = some (Value.pointer o30) ∧
 ∃ (o31 : Option Addr),
 hc h29 ((Addr.mk n16 0 none).add 1) = some (Value.pointer o31) ∧
 c_portcullislaw04_pair_same o30 o31
 (fun (b32 : Bool) (h33 : H) =>
 if (!b28) = true then Q false h33 else if (!b32) = true then Q false h33 else J21 [SV.dv (DV.one (Value.int IntKind.i64 (IntKind.i64.wrap (i22 + 1))))] h33)
 h29)
 h25
 else
 (50 : Int) ≠ 0 ∧
 if (i22.tmod 50 == 0) = true then
 ∃ (o34 : Option Addr),
 hc h25 (Addr.mk n11 0 none) = some (Value.pointer o34) ∧
 ∃ (o35 : Option Addr),
 hc h25 ((Addr.mk n11 0 none).add 1) = some (Value.pointer o35) ∧
 c_portcullislaw04_pair_same o34 o35
 (fun (b36 : Bool) (h37 : H) =>
 ∃ (o38 : Option Addr),
 hc h37 (Addr.mk n16 0 none) = some (Value.pointer o38) ∧
 ∃ (o39 : Option Addr),
 hc h37 ((Addr.mk n16 0 none).add 1) = some (Value.pointer o39) ∧
 c_portcullislaw04_pair_same o38 o39
 (fun (b40 : Bool) (h41 : H) =>
 if (!b36) = true then Q false h41
 else if (!b40) = true then Q false h41 else J21 [SV.dv (DV.one (Value.int IntKind.i64 (IntKind.i64.wrap (i22 + 1))))] h41)
 h37)
 h25
 else J21 [SV.dv (DV.one (Value.int IntKind.i64 (IntKind.i64.wrap (i22 + 1))))] h25) →
 J24 [] h25) →
 ∃ (p44 : Addr),
 a2p = some p44 ∧
 0 ≤ i22 ∧
 i22 < (↑a2l : Int) ∧
 ∃ (i45 : Int),
 hc h23 (p44.add (i22.toNat * 36)) = some (Value.int IntKind.i64 i45) ∧
 if (i45 == 9) = true then
 ∃ (o46 : Option Addr),
 hc h23 (Addr.mk n11 0 none) = some (Value.pointer o46) ∧
 ∃ (o47 : Option Addr),
 hc h23 ((Addr.mk n11 0 none).add 1) = some (Value.pointer o47) ∧
 ∃ (p48 : Addr),
 o46 = some p48 ∧
 c_chip_Chip_Copy p48
 (fun (o49 : Option Addr) (h50 : H) =>
 hcs h50 ((Addr.mk n11 0 none).add 1) [Value.pointer o47] ∧
 ∃ (p51 : Addr),
 o47 = some p51 ∧
 c_portcullisref04_Chip_Copy p51
 (fun (o52 : Option Addr) (h53 : H) =>
 hcan h53 (Addr.mk n16 0 none) 2 ∧
 ∀ (h54 : H),
 h54 = hwr h53 (Addr.mk n16 0 none) [Value.pointer o49, Value.pointer o52] →
 ∃ (o56 : Option Addr), hc h54 (Addr.mk n16 0 none) = some (Value.pointer o56) ∧ if o56.isNone = true then Q false h54 else J24 [] h54)
 h50)
 h23
 else
 if (i45 == 10) = true then
 ∃ (o57 : Option Addr),
 hc h23 (Addr.mk n16 0 none) = some (Value.pointer o57) ∧
 ∃ (o58 : Option Addr),
 hc h23 ((Addr.mk n16 0 none).add 1) = some (Value.pointer o58) ∧
 ∃ (o59 : Option Addr),
 hc h23 (Addr.mk n11 0 none) = some (Value.pointer o59) ∧
 ∃ (o60 : Option Addr),
 hc h23 ((Addr.mk n11 0 none).add 1) = some (Value.pointer o60) ∧
 hcan h23 (Addr.mk n11 0 none) 2 ∧
 ∀ (h61 : H),
 h61 = hwr h23 (Addr.mk n11 0 none) [Value.pointer o57, Value.pointer o58] →
 hcan h61 (Addr.mk n16 0 none) 2 ∧ ∀ (h63 : H), h63 = hwr h61 (Addr.mk n16 0 none) [Value.pointer o59, Value.pointer o60] → J24 [] h63
 else
 ∃ (o65 : Option Addr),
 hc h23 (Addr.mk n11 0 none) = some (Value.pointer o65) ∧
 ∃ (o66 : Option Addr),
 hc h23 ((Addr.mk n11 0 none).add 1) = some (Value.pointer o66) ∧
 ∃ (p67 : Addr),
 a2p = some p67 ∧
 0 ≤ i22 ∧
 i22 < (↑a2l : Int) ∧
 ∃ (i68 : Int),
 hc h23 (p67.add (i22.toNat * 36)) = some (Value.int IntKind.i64 i68) ∧
 ∃ (i69 : Int),
 hc h23 ((p67.add (i22.toNat * 36)).add 1) = some (Value.int IntKind.i64 i69) ∧
 ∃ (i70 : Int),
 hc h23 ((p67.add (i22.toNat * 36)).add 2) = some (Value.int IntKind.i64 i70) ∧
 ∃ (l71 : List Int),
 l71.length = 32 ∧
 hrow h23 ((p67.add (i22.toNat * 36)).add 3) IntKind.u8 l71 ∧
 ∃ (o72 : Option Addr),
 ∃ (n73 : Nat),
 ∃ (n74 : Nat),
 hc h23 ((p67.add (i22.toNat * 36)).add 35) = some (Value.slice o72 n73 n74) ∧
 c_portcullislaw04_pair_step o65 o66 i68 i69 i70 l71 o72 n73 n74
 (fun (b75 : Bool) (h76 : H) => if (!b75) = true then Q false h76 else J24 [] h76) h23
 else
 ∃ (o77 : Option Addr),
 hc h23 (Addr.mk n11 0 none) = some (Value.pointer o77) ∧
 ∃ (o78 : Option Addr),
 hc h23 ((Addr.mk n11 0 none).add 1) = some (Value.pointer o78) ∧
 c_portcullislaw04_pair_same o77 o78
 (fun (b79 : Bool) (h80 : H) =>
 ∃ (o81 : Option Addr),
 hc h80 (Addr.mk n16 0 none) = some (Value.pointer o81) ∧
 ∃ (o82 : Option Addr),
 hc h80 ((Addr.mk n16 0 none).add 1) = some (Value.pointer o82) ∧
 c_portcullislaw04_pair_same o81 o82 (fun (b83 : Bool) (h84 : H) => if b79 = true then Q b83 h84 else Q false h84) h80)
 h23) →
 J21 [SV.dv (DV.one (Value.int IntKind.i64 i22))] h23) →
 J21 [SV.dv (DV.one (Value.int IntKind.i64 0))] h19
theorem E_portcullislaw04_game (c_chip_Chip_Copy : Addr → ((Option Addr) → H → Prop) → H → Prop) (c_portcullisref04_Chip_Copy : Addr → ((Option Addr) → H → Prop) → H → Prop) (c_portcullislaw04_pair_step : (Option Addr) → (Option Addr) → Int → Int → Int → (List Int) → (Option Addr) → Nat → Nat → (Bool → H → Prop) → H → Prop) (c_portcullislaw04_pair_same : (Option Addr) → (Option Addr) → (Bool → H → Prop) → H → Prop) : ∀ (a0 : Addr) (a1 : Addr) (a2p : Option Addr) (a2l : Nat) (a2c : Nat) (Q : Bool → H → Prop) (h : H), G_portcullislaw04_game c_chip_Chip_Copy c_portcullisref04_Chip_Copy c_portcullislaw04_pair_step c_portcullislaw04_pair_same a0 a1 a2p a2l a2c Q h = Dbody PP [(21, W [.addr] [.ptr] c_chip_Chip_Copy), (71, W [.addr] [.ptr] c_portcullisref04_Chip_Copy), (72, W [.ag [.ptr, .ptr], .ag [.int .i64, .int .i64, .int .i64, .row .u8 32, .slc]] [.bool] c_portcullislaw04_pair_step), (73, W [.ag [.ptr, .ptr]] [.bool] c_portcullislaw04_pair_same)] [(122, [(9, .sc (.int .i64))]), (1956, [])] Try.f19 [.addr a0, .addr a1, .one (.slice a2p a2l a2c)] (decR [.bool] Q) h := by
  intros; kernel_rfl
def F_portcullislaw04_game := G_portcullislaw04_game F_chip_Chip_Copy F_portcullisref04_Chip_Copy F_portcullislaw04_pair_step F_portcullislaw04_pair_same
theorem R_portcullislaw04_game : RunOk PP 19 (W [.addr, .addr, .slc] [.bool] F_portcullislaw04_game) :=
  runOk_of (T := [(21, W [.addr] [.ptr] F_chip_Chip_Copy), (71, W [.addr] [.ptr] F_portcullisref04_Chip_Copy), (72, W [.ag [.ptr, .ptr], .ag [.int .i64, .int .i64, .int .i64, .row .u8 32, .slc]] [.bool] F_portcullislaw04_pair_step), (73, W [.ag [.ptr, .ptr]] [.bool] F_portcullislaw04_pair_same)]) (ann := [(122, [(9, .sc (.int .i64))]), (1956, [])]) (TblOk.cons R_chip_Chip_Copy (TblOk.cons R_portcullisref04_Chip_Copy (TblOk.cons R_portcullislaw04_pair_step (TblOk.cons R_portcullislaw04_pair_same (TblOk.nil))))) Try.func19 (by kernel_rfl) (by kernel_rfl) (E_portcullislaw04_game F_chip_Chip_Copy F_portcullisref04_Chip_Copy F_portcullislaw04_pair_step F_portcullislaw04_pair_same)
attribute [irreducible] F_portcullislaw04_game
def G_portcullislaw04_ChipDoes (c_portcullislaw04_fixed : (Bool → H → Prop) → H → Prop) (c_chip_New : Int → Int → Int → Int → Int → Int → Int → (Option Addr → Int → H → Prop) → H → Prop) (c_portcullisref04_New : Int → Int → Int → Int → Int → Int → Int → (Option Addr → Int → H → Prop) → H → Prop) (c_chip_May : Int → Int → Int → Int → Int → Int → Int → (Int → H → Prop) → H → Prop) (c_portcullislaw04_game : Addr → Addr → Option Addr → Nat → Nat → (Bool → H → Prop) → H → Prop) (a0_0 : Int) (a0_1 : Int) (a0_2 : Int) (a0_3 : Int) (a0_4 : Int) (a0_5 : Int) (a0_6 : Int) (a1p : Option Addr) (a1l : Nat) (a1c : Nat) (Q : Bool → H → Prop) (h : H) : Prop :=
 ∀ (n17 : Nat) (h18 : H),
 hnew h n17 [Value.int IntKind.i64 a0_0, Value.int IntKind.i64 a0_1, Value.int IntKind.i64 a0_2, Value.int IntKind.i64 a0_3, Value.int IntKind.i64 a0_4, Value.int IntKind.i64 a0_5, Value.int IntKind.i64 a0_6] h18 →
 c_portcullislaw04_fixed
 (fun (b20 : Bool) (h21 : H) =>
 ∃ (i22 : Int),
 hc h21 (Addr.mk n17 0 none) = some (Value.int IntKind.i64 i22) ∧
 ∃ (i23 : Int),
 hc h21 ((Addr.mk n17 0 none).add 1) = some (Value.int IntKind.i64 i23) ∧
 ∃ (i24 : Int),
 hc h21 ((Addr.mk n17 0 none).add 2) = some (Value.int IntKind.i64 i24) ∧
 ∃ (i25 : Int),
 hc h21 ((Addr.mk n17 0 none).add 3) = some (Value.int IntKind.i64 i25) ∧
 ∃ (i26 : Int),
 hc h21 ((Addr.mk n17 0 none).add 4) = some (Value.int IntKind.i64 i26) ∧
 ∃ (i27 : Int),
 hc h21 ((Addr.mk n17 0 none).add 5) = some (Value.int IntKind.i64 i27) ∧
 ∃ (i28 : Int),
 hc h21 ((Addr.mk n17 0 none).add 6) = some (Value.int IntKind.i64 i28) ∧
 c_chip_New i22 i23 i24 i25 i26 i27 i28
 (fun (o29 : Option Addr) (i30 : Int) (h31 : H) =>
 ∃ (i32 : Int),
 hc h31 (Addr.mk n17 0 none) = some (Value.int IntKind.i64 i32) ∧
 ∃ (i33 : Int),
 hc h31 ((Addr.mk n17 0 none).add 1) = some (Value.int IntKind.i64 i33) ∧
 ∃ (i34 : Int),
 hc h31 ((Addr.mk n17 0 none).add 2) = some (Value.int IntKind.i64 i34) ∧
 ∃ (i35 : Int),
 hc h31 ((Addr.mk n17 0 none).add 3) = some (Value.int IntKind.i64 i35) ∧
 ∃ (i36 : Int),
 hc h31 ((Addr.mk n17 0 none).add 4) = some (Value.int IntKind.i64 i36) ∧
 ∃ (i37 : Int),
 hc h31 ((Addr.mk n17 0 none).add 5) = some (Value.int IntKind.i64 i37) ∧
 ∃ (i38 : Int),
 hc h31 ((Addr.mk n17 0 none).add 6) = some (Value.int IntKind.i64 i38) ∧
 c_portcullisref04_New i32 i33 i34 i35 i36 i37 i38
 (fun (o39 : Option Addr) (i40 : Int) (h41 : H) =>
 ∃ (i42 : Int),
 hc h41 (Addr.mk n17 0 none) = some (Value.int IntKind.i64 i42) ∧
 ∃ (i43 : Int),
 hc h41 ((Addr.mk n17 0 none).add 1) = some (Value.int IntKind.i64 i43) ∧
 ∃ (i44 : Int),
 hc h41 ((Addr.mk n17 0 none).add 2) = some (Value.int IntKind.i64 i44) ∧
 ∃ (i45 : Int),
 hc h41 ((Addr.mk n17 0 none).add 3) = some (Value.int IntKind.i64 i45) ∧
 ∃ (i46 : Int),
 hc h41 ((Addr.mk n17 0 none).add 4) = some (Value.int IntKind.i64 i46) ∧
 ∃ (i47 : Int),
 hc h41 ((Addr.mk n17 0 none).add 5) = some (Value.int IntKind.i64 i47) ∧
 ∃ (i48 : Int),
 hc h41 ((Addr.mk n17 0 none).add 6) = some (Value.int IntKind.i64 i48) ∧
 c_chip_May i42 i43 i44 i45 i46 i47 i48
 (fun (i49 : Int) (h50 : H) =>
 if (!b20) = true then Q false h50
 else
 if (i30 != i40) = true then Q false h50
 else
 if (i49 != i40) = true then Q false h50
 else
 if (!o29.isNone == o39.isNone) = true then Q false h50
 else
 if o39.isNone = true then Q true h50
 else
 ∃ (p51 : Addr),
 o29 = some p51 ∧
 ∃ (p52 : Addr),
 o39 = some p52 ∧
 c_portcullislaw04_game p51 p52 a1p a1l a1c (fun (b53 : Bool) (h54 : H) => Q b53 h54) h50)
 h41)
 h31)
 h21)
 h18
theorem E_portcullislaw04_ChipDoes (c_portcullislaw04_fixed : (Bool → H → Prop) → H → Prop) (c_chip_New : Int → Int → Int → Int → Int → Int → Int → ((Option Addr) → Int → H → Prop) → H → Prop) (c_portcullisref04_New : Int → Int → Int → Int → Int → Int → Int → ((Option Addr) → Int → H → Prop) → H → Prop) (c_chip_May : Int → Int → Int → Int → Int → Int → Int → (Int → H → Prop) → H → Prop) (c_portcullislaw04_game : Addr → Addr → (Option Addr) → Nat → Nat → (Bool → H → Prop) → H → Prop) : ∀ (a0_0 : Int) (a0_1 : Int) (a0_2 : Int) (a0_3 : Int) (a0_4 : Int) (a0_5 : Int) (a0_6 : Int) (a1p : Option Addr) (a1l : Nat) (a1c : Nat) (Q : Bool → H → Prop) (h : H), G_portcullislaw04_ChipDoes c_portcullislaw04_fixed c_chip_New c_portcullisref04_New c_chip_May c_portcullislaw04_game a0_0 a0_1 a0_2 a0_3 a0_4 a0_5 a0_6 a1p a1l a1c Q h = Dbody PP [(15, W [] [.bool] c_portcullislaw04_fixed), (16, W [.ag [.int .i64, .int .i64, .int .i64, .int .i64, .int .i64, .int .i64, .int .i64]] [.ptr, .int .i64] c_chip_New), (17, W [.ag [.int .i64, .int .i64, .int .i64, .int .i64, .int .i64, .int .i64, .int .i64]] [.ptr, .int .i64] c_portcullisref04_New), (18, W [.ag [.int .i64, .int .i64, .int .i64, .int .i64, .int .i64, .int .i64, .int .i64]] [.int .i64] c_chip_May), (19, W [.addr, .addr, .slc] [.bool] c_portcullislaw04_game)] [] Try.f3 [.agg [.c (.int .i64 a0_0), .c (.int .i64 a0_1), .c (.int .i64 a0_2), .c (.int .i64 a0_3), .c (.int .i64 a0_4), .c (.int .i64 a0_5), .c (.int .i64 a0_6)], .one (.slice a1p a1l a1c)] (decR [.bool] Q) h := by
  intros; kernel_rfl
def F_portcullislaw04_ChipDoes := G_portcullislaw04_ChipDoes F_portcullislaw04_fixed F_chip_New F_portcullisref04_New F_chip_May F_portcullislaw04_game
theorem R_portcullislaw04_ChipDoes : RunOk PP 3 (W [.ag [.int .i64, .int .i64, .int .i64, .int .i64, .int .i64, .int .i64, .int .i64], .slc] [.bool] F_portcullislaw04_ChipDoes) :=
  runOk_of (T := [(15, W [] [.bool] F_portcullislaw04_fixed), (16, W [.ag [.int .i64, .int .i64, .int .i64, .int .i64, .int .i64, .int .i64, .int .i64]] [.ptr, .int .i64] F_chip_New), (17, W [.ag [.int .i64, .int .i64, .int .i64, .int .i64, .int .i64, .int .i64, .int .i64]] [.ptr, .int .i64] F_portcullisref04_New), (18, W [.ag [.int .i64, .int .i64, .int .i64, .int .i64, .int .i64, .int .i64, .int .i64]] [.int .i64] F_chip_May), (19, W [.addr, .addr, .slc] [.bool] F_portcullislaw04_game)]) (ann := []) (TblOk.cons R_portcullislaw04_fixed (TblOk.cons R_chip_New (TblOk.cons R_portcullisref04_New (TblOk.cons R_chip_May (TblOk.cons R_portcullislaw04_game (TblOk.nil)))))) Try.func3 (by kernel_rfl) (by kernel_rfl) (E_portcullislaw04_ChipDoes F_portcullislaw04_fixed F_chip_New F_portcullisref04_New F_chip_May F_portcullislaw04_game)
attribute [irreducible] F_portcullislaw04_ChipDoes
def G_slices_IndexFunc_api_Cell_api_Cell (a0p : Option Addr) (a0l : Nat) (a0c : Nat) (a1 : Value) (Q : Int → H → Prop) (h : H) : Prop :=
 ∀ (J6 : List SV → H → Prop),
 (∀ (i7 : Int) (h8 : H),
 (if ltI i7 (↑a0l : Int) = true then
 ∃ (p9 : Addr),
 a0p = some p9 ∧
 0 ≤ i7 ∧
 i7 < (↑a0l : Int) ∧
 ∃ (o10 : Option Addr),
 ∃ (n11 : Nat),
 ∃ (n12 : Nat),
 hc h8 (p9.add (i7.toNat * 1)) = some (Value.slice o10 n11 n12) ∧
 callFn PP a1 [DV.one (Value.slice o10 n11 n12)]
 (fun (l13 : List DV) (h14 : H) =>
 ∃ (x15 : DV),
 ∃ (l16 : List DV),
 l13 = x15 :: l16 ∧
 ∃ (b17 : Bool), x15 = DV.one (Value.bool b17) ∧ l16 = [] ∧ if b17 = true then Q i7 h14 else J6 [SV.dv (DV.one (Value.int IntKind.i64 (IntKind.i64.wrap (i7 + 1))))] h14)
 h8
 else Q (-1) h8) →
 J6 [SV.dv (DV.one (Value.int IntKind.i64 i7))] h8) →
 J6 [SV.dv (DV.one (Value.int IntKind.i64 0))] h
theorem E_slices_IndexFunc_api_Cell_api_Cell  : ∀ (a0p : Option Addr) (a0l : Nat) (a0c : Nat) (a1 : Value) (Q : Int → H → Prop) (h : H), G_slices_IndexFunc_api_Cell_api_Cell a0p a0l a0c a1 Q h = Dbody PP [] [(26, [(8, .sc (.int .i64))])] Try.f131 [.one (.slice a0p a0l a0c), .fnv a1] (decR [.int .i64] Q) h := by
  intros; kernel_rfl
def F_slices_IndexFunc_api_Cell_api_Cell := G_slices_IndexFunc_api_Cell_api_Cell
theorem R_slices_IndexFunc_api_Cell_api_Cell : RunOk PP 131 (W [.slc, .fn] [.int .i64] F_slices_IndexFunc_api_Cell_api_Cell) :=
  runOk_of (T := []) (ann := [(26, [(8, .sc (.int .i64))])]) (TblOk.nil) Try.func131 (by kernel_rfl) (by kernel_rfl) (E_slices_IndexFunc_api_Cell_api_Cell)
attribute [irreducible] F_slices_IndexFunc_api_Cell_api_Cell
def G_slices_ContainsFunc_api_Cell_api_Cell (c_slices_IndexFunc_api_Cell_api_Cell : Option Addr → Nat → Nat → Value → (Int → H → Prop) → H → Prop) (a0p : Option Addr) (a0l : Nat) (a0c : Nat) (a1 : Value) (Q : Bool → H → Prop) (h : H) : Prop :=
 c_slices_IndexFunc_api_Cell_api_Cell a0p a0l a0c a1 (fun (i7 : Int) (h8 : H) => Q (leI 0 i7) h8) h
theorem E_slices_ContainsFunc_api_Cell_api_Cell (c_slices_IndexFunc_api_Cell_api_Cell : (Option Addr) → Nat → Nat → Value → (Int → H → Prop) → H → Prop) : ∀ (a0p : Option Addr) (a0l : Nat) (a0c : Nat) (a1 : Value) (Q : Bool → H → Prop) (h : H), G_slices_ContainsFunc_api_Cell_api_Cell c_slices_IndexFunc_api_Cell_api_Cell a0p a0l a0c a1 Q h = Dbody PP [(131, W [.slc, .fn] [.int .i64] c_slices_IndexFunc_api_Cell_api_Cell)] [] Try.f74 [.one (.slice a0p a0l a0c), .fnv a1] (decR [.bool] Q) h := by
  intros; kernel_rfl
def F_slices_ContainsFunc_api_Cell_api_Cell := G_slices_ContainsFunc_api_Cell_api_Cell F_slices_IndexFunc_api_Cell_api_Cell
theorem R_slices_ContainsFunc_api_Cell_api_Cell : RunOk PP 74 (W [.slc, .fn] [.bool] F_slices_ContainsFunc_api_Cell_api_Cell) :=
  runOk_of (T := [(131, W [.slc, .fn] [.int .i64] F_slices_IndexFunc_api_Cell_api_Cell)]) (ann := []) (TblOk.cons R_slices_IndexFunc_api_Cell_api_Cell (TblOk.nil)) Try.func74 (by kernel_rfl) (by kernel_rfl) (E_slices_ContainsFunc_api_Cell_api_Cell F_slices_IndexFunc_api_Cell_api_Cell)
attribute [irreducible] F_slices_ContainsFunc_api_Cell_api_Cell
def G_slices_IndexFunc_int_int (a0p : Option Addr) (a0l : Nat) (a0c : Nat) (a1 : Value) (Q : Int → H → Prop) (h : H) : Prop :=
 ∀ (J6 : List SV → H → Prop),
 (∀ (i7 : Int) (h8 : H),
 (if ltI i7 (↑a0l : Int) = true then
 ∃ (p9 : Addr),
 a0p = some p9 ∧
 0 ≤ i7 ∧
 i7 < (↑a0l : Int) ∧
 ∃ (i10 : Int),
 hc h8 (p9.add (i7.toNat * 1)) = some (Value.int IntKind.i64 i10) ∧
 callFn PP a1 [DV.one (Value.int IntKind.i64 i10)]
 (fun (l11 : List DV) (h12 : H) =>
 ∃ (x13 : DV),
 ∃ (l14 : List DV),
 l11 = x13 :: l14 ∧ ∃ (b15 : Bool), x13 = DV.one (Value.bool b15) ∧ l14 = [] ∧ if b15 = true then Q i7 h12 else J6 [SV.dv (DV.one (Value.int IntKind.i64 (IntKind.i64.wrap (i7 + 1))))] h12)
 h8
 else Q (-1) h8) →
 J6 [SV.dv (DV.one (Value.int IntKind.i64 i7))] h8) →
 J6 [SV.dv (DV.one (Value.int IntKind.i64 0))] h
theorem E_slices_IndexFunc_int_int  : ∀ (a0p : Option Addr) (a0l : Nat) (a0c : Nat) (a1 : Value) (Q : Int → H → Prop) (h : H), G_slices_IndexFunc_int_int a0p a0l a0c a1 Q h = Dbody PP [] [(26, [(8, .sc (.int .i64))])] Try.f132 [.one (.slice a0p a0l a0c), .fnv a1] (decR [.int .i64] Q) h := by
  intros; kernel_rfl
def F_slices_IndexFunc_int_int := G_slices_IndexFunc_int_int
theorem R_slices_IndexFunc_int_int : RunOk PP 132 (W [.slc, .fn] [.int .i64] F_slices_IndexFunc_int_int) :=
  runOk_of (T := []) (ann := [(26, [(8, .sc (.int .i64))])]) (TblOk.nil) Try.func132 (by kernel_rfl) (by kernel_rfl) (E_slices_IndexFunc_int_int)
attribute [irreducible] F_slices_IndexFunc_int_int
def G_slices_ContainsFunc_int_int (c_slices_IndexFunc_int_int : Option Addr → Nat → Nat → Value → (Int → H → Prop) → H → Prop) (a0p : Option Addr) (a0l : Nat) (a0c : Nat) (a1 : Value) (Q : Bool → H → Prop) (h : H) : Prop :=
 c_slices_IndexFunc_int_int a0p a0l a0c a1 (fun (i7 : Int) (h8 : H) => Q (leI 0 i7) h8) h
theorem E_slices_ContainsFunc_int_int (c_slices_IndexFunc_int_int : (Option Addr) → Nat → Nat → Value → (Int → H → Prop) → H → Prop) : ∀ (a0p : Option Addr) (a0l : Nat) (a0c : Nat) (a1 : Value) (Q : Bool → H → Prop) (h : H), G_slices_ContainsFunc_int_int c_slices_IndexFunc_int_int a0p a0l a0c a1 Q h = Dbody PP [(132, W [.slc, .fn] [.int .i64] c_slices_IndexFunc_int_int)] [] Try.f76 [.one (.slice a0p a0l a0c), .fnv a1] (decR [.bool] Q) h := by
  intros; kernel_rfl
def F_slices_ContainsFunc_int_int := G_slices_ContainsFunc_int_int F_slices_IndexFunc_int_int
theorem R_slices_ContainsFunc_int_int : RunOk PP 76 (W [.slc, .fn] [.bool] F_slices_ContainsFunc_int_int) :=
  runOk_of (T := [(132, W [.slc, .fn] [.int .i64] F_slices_IndexFunc_int_int)]) (ann := []) (TblOk.cons R_slices_IndexFunc_int_int (TblOk.nil)) Try.func76 (by kernel_rfl) (by kernel_rfl) (E_slices_ContainsFunc_int_int F_slices_IndexFunc_int_int)
attribute [irreducible] F_slices_ContainsFunc_int_int
def G_chip_Lay (c_chip_May : Int → Int → Int → Int → Int → Int → Int → (Int → H → Prop) → H → Prop) (c_chip_pages : Int → Int → Int → Int → Int → Int → Int → (Int → H → Prop) → H → Prop) (c_chip_fuses : Int → Int → Int → Int → Int → Int → Int → (Int → H → Prop) → H → Prop) (c_slices_ContainsFunc_api_Cell_api_Cell : Option Addr → Nat → Nat → Value → (Bool → H → Prop) → H → Prop) (c_slices_ContainsFunc_int_int : Option Addr → Nat → Nat → Value → (Bool → H → Prop) → H → Prop) (c_chip_copied : Option Addr →
 Nat →
 Nat →
 Option Addr →
 Nat →
 Nat →
 Option Addr →
 Nat →
 Nat →
 (Option Addr → Nat → Nat → Option Addr → Nat → Nat → Option Addr → Nat → Nat → H → Prop) → H → Prop) (a0_0 : Int) (a0_1 : Int) (a0_2 : Int) (a0_3 : Int) (a0_4 : Int) (a0_5 : Int) (a0_6 : Int) (a1_0p : Option Addr) (a1_0l : Nat) (a1_0c : Nat) (a1_1p : Option Addr) (a1_1l : Nat) (a1_1c : Nat) (a1_2p : Option Addr) (a1_2l : Nat) (a1_2c : Nat) (Q : Option Addr → Int → H → Prop) (h : H) : Prop :=
 ∀ (n24 : Nat) (h25 : H),
 hnew h n24 [Value.int IntKind.i64 a0_0, Value.int IntKind.i64 a0_1, Value.int IntKind.i64 a0_2, Value.int IntKind.i64 a0_3, Value.int IntKind.i64 a0_4, Value.int IntKind.i64 a0_5, Value.int IntKind.i64 a0_6] h25 →
 ∀ (n27 : Nat) (h28 : H),
 hnew h25 n27 [Value.slice a1_0p a1_0l a1_0c, Value.slice a1_1p a1_1l a1_1c, Value.slice a1_2p a1_2l a1_2c] h28 →
 ∃ (i30 : Int),
 hc h28 (Addr.mk n24 0 none) = some (Value.int IntKind.i64 i30) ∧
 ∃ (i31 : Int),
 hc h28 ((Addr.mk n24 0 none).add 1) = some (Value.int IntKind.i64 i31) ∧
 ∃ (i32 : Int),
 hc h28 ((Addr.mk n24 0 none).add 2) = some (Value.int IntKind.i64 i32) ∧
 ∃ (i33 : Int),
 hc h28 ((Addr.mk n24 0 none).add 3) = some (Value.int IntKind.i64 i33) ∧
 ∃ (i34 : Int),
 hc h28 ((Addr.mk n24 0 none).add 4) = some (Value.int IntKind.i64 i34) ∧
 ∃ (i35 : Int),
 hc h28 ((Addr.mk n24 0 none).add 5) = some (Value.int IntKind.i64 i35) ∧
 ∃ (i36 : Int),
 hc h28 ((Addr.mk n24 0 none).add 6) = some (Value.int IntKind.i64 i36) ∧
 c_chip_May i30 i31 i32 i33 i34 i35 i36
 (fun (i37 : Int) (h38 : H) =>
 if (i37 != 0) = true then Q none i37 h38
 else
 ∀ (J39 : List SV → H → Prop),
 (∀ (b40 : Bool) (h41 : H),
 (if b40 = true then Q none 5 h41
 else
 ∃ (i42 : Int),
 hc h41 (Addr.mk n24 0 none) = some (Value.int IntKind.i64 i42) ∧
 ∃ (i43 : Int),
 hc h41 ((Addr.mk n24 0 none).add 1) = some (Value.int IntKind.i64 i43) ∧
 ∃ (i44 : Int),
 hc h41 ((Addr.mk n24 0 none).add 2) = some (Value.int IntKind.i64 i44) ∧
 ∃ (i45 : Int),
 hc h41 ((Addr.mk n24 0 none).add 3) = some (Value.int IntKind.i64 i45) ∧
 ∃ (i46 : Int),
 hc h41 ((Addr.mk n24 0 none).add 4) = some (Value.int IntKind.i64 i46) ∧
 ∃ (i47 : Int),
 hc h41 ((Addr.mk n24 0 none).add 5) = some (Value.int IntKind.i64 i47) ∧
 ∃ (i48 : Int),
 hc h41 ((Addr.mk n24 0 none).add 6) = some (Value.int IntKind.i64 i48) ∧
 ∃ (o49 : Option Addr),
 ∃ (n50 : Nat),
 ∃ (n51 : Nat),
 hc h41 (Addr.mk n27 0 none) = some (Value.slice o49 n50 n51) ∧
 ∃ (o52 : Option Addr),
 ∃ (n53 : Nat),
 ∃ (n54 : Nat),
 hc h41 ((Addr.mk n27 0 none).add 1) = some (Value.slice o52 n53 n54) ∧
 ∃ (o55 : Option Addr),
 ∃ (n56 : Nat),
 ∃ (n57 : Nat),
 hc h41 ((Addr.mk n27 0 none).add 2) = some (Value.slice o55 n56 n57) ∧
 c_chip_copied o49 n50 n51 o52 n53 n54 o55 n56 n57
 (fun (o58 : Option Addr) (n59 n60 : Nat) (o61 : Option Addr) (n62 n63 : Nat) (o64 : Option Addr) (n65 n66 : Nat)
 (h67 : H) =>
 hcs h67 (Addr.mk n24 0 none)
 [Value.int IntKind.i64 i42, Value.int IntKind.i64 i43, Value.int IntKind.i64 i44, Value.int IntKind.i64 i45,
 Value.int IntKind.i64 i46, Value.int IntKind.i64 i47, Value.int IntKind.i64 i48] ∧
 ∀ (n68 : Nat) (h69 : H),
 hnew h67 n68
 [Value.int IntKind.i64 i42, Value.int IntKind.i64 i43, Value.int IntKind.i64 i44,
 Value.int IntKind.i64 i45, Value.int IntKind.i64 i46, Value.int IntKind.i64 i47,
 Value.int IntKind.i64 i48, Value.slice o58 n59 n60, Value.slice o61 n62 n63, Value.slice o64 n65 n66,
 Value.int IntKind.i64 0, Value.bool false, Value.int IntKind.i64 (-1), Value.slice none 0 0]
 h69 →
 Q (some (Addr.mk n68 0 none)) 0 h69)
 h41) →
 J39 [SV.dv (DV.one (Value.bool b40))] h41) →
 ∃ (o73 : Option Addr),
 ∃ (n74 : Nat),
 ∃ (n75 : Nat),
 hc h38 (Addr.mk n27 0 none) = some (Value.slice o73 n74 n75) ∧
 ∃ (i76 : Int),
 hc h38 (Addr.mk n24 0 none) = some (Value.int IntKind.i64 i76) ∧
 ∃ (i77 : Int),
 hc h38 ((Addr.mk n24 0 none).add 1) = some (Value.int IntKind.i64 i77) ∧
 ∃ (i78 : Int),
 hc h38 ((Addr.mk n24 0 none).add 2) = some (Value.int IntKind.i64 i78) ∧
 ∃ (i79 : Int),
 hc h38 ((Addr.mk n24 0 none).add 3) = some (Value.int IntKind.i64 i79) ∧
 ∃ (i80 : Int),
 hc h38 ((Addr.mk n24 0 none).add 4) = some (Value.int IntKind.i64 i80) ∧
 ∃ (i81 : Int),
 hc h38 ((Addr.mk n24 0 none).add 5) = some (Value.int IntKind.i64 i81) ∧
 ∃ (i82 : Int),
 hc h38 ((Addr.mk n24 0 none).add 6) = some (Value.int IntKind.i64 i82) ∧
 c_chip_pages i76 i77 i78 i79 i80 i81 i82
 (fun (i83 : Int) (h84 : H) =>
 hcs h84 (Addr.mk n27 0 none) [Value.slice o73 n74 n75] ∧
 if ((↑n74 : Int) != i83) = true then J39 [SV.dv (DV.one (Value.bool true))] h84
 else
 ∃ (o85 : Option Addr),
 ∃ (n86 : Nat),
 ∃ (n87 : Nat),
 hc h84 ((Addr.mk n27 0 none).add 1) = some (Value.slice o85 n86 n87) ∧
 ∃ (i88 : Int),
 hc h84 (Addr.mk n24 0 none) = some (Value.int IntKind.i64 i88) ∧
 ∃ (i89 : Int),
 hc h84 ((Addr.mk n24 0 none).add 1) = some (Value.int IntKind.i64 i89) ∧
 ∃ (i90 : Int),
 hc h84 ((Addr.mk n24 0 none).add 2) = some (Value.int IntKind.i64 i90) ∧
 ∃ (i91 : Int),
 hc h84 ((Addr.mk n24 0 none).add 3) = some (Value.int IntKind.i64 i91) ∧
 ∃ (i92 : Int),
 hc h84 ((Addr.mk n24 0 none).add 4) = some (Value.int IntKind.i64 i92) ∧
 ∃ (i93 : Int),
 hc h84 ((Addr.mk n24 0 none).add 5) = some (Value.int IntKind.i64 i93) ∧
 ∃ (i94 : Int),
 hc h84 ((Addr.mk n24 0 none).add 6) = some (Value.int IntKind.i64 i94) ∧
 c_chip_pages i88 i89 i90 i91 i92 i93 i94
 (fun (i95 : Int) (h96 : H) =>
 hcs h96 ((Addr.mk n27 0 none).add 1) [Value.slice o85 n86 n87] ∧
 if ((↑n86 : Int) != i95) = true then J39 [SV.dv (DV.one (Value.bool true))] h96
 else
 ∃ (o97 : Option Addr),
 ∃ (n98 : Nat),
 ∃ (n99 : Nat),
 hc h96 ((Addr.mk n27 0 none).add 2) = some (Value.slice o97 n98 n99) ∧
 ∃ (i100 : Int),
 hc h96 (Addr.mk n24 0 none) = some (Value.int IntKind.i64 i100) ∧
 ∃ (i101 : Int),
 hc h96 ((Addr.mk n24 0 none).add 1) =
 some (Value.int IntKind.i64 i101) ∧
 ∃ (i102 : Int),
 hc h96 ((Addr.mk n24 0 none).add 2) =
 some (Value.int IntKind.i64 i102) ∧
 ∃ (i103 : Int),
 hc h96 ((Addr.mk n24 0 none).add 3) =
 some (Value.int IntKind.i64 i103) ∧
 ∃ (i104 : Int),
 hc h96 ((Addr.mk n24 0 none).add 4) =
 some (Value.int IntKind.i64 i104) ∧
 ∃ (i105 : Int),
 hc h96 ((Addr.mk n24 0 none).add 5) =
 some (Value.int IntKind.i64 i105) ∧
 ∃ (i106 : Int),
 hc h96 ((Addr.mk n24 0 none).add 6) =
 some (Value.int IntKind.i64 i106) ∧
 c_chip_fuses i100 i101 i102 i103 i104 i105 i106
 (fun (i107 : Int) (h108 : H) =>
 hcs h108 ((Addr.mk n27 0 none).add 2)
 [Value.slice o97 n98 n99] ∧
 if ((↑n98 : Int) != i107) = true then
 J39 [SV.dv (DV.one (Value.bool true))]
 h108
 else
 ∃ (o109 : Option Addr),
 ∃ (n110 : Nat),
 ∃ (n111 : Nat),
 hc h108 (Addr.mk n27 0 none) =
 some
 (Value.slice o109 n110 n111) ∧
 c_slices_ContainsFunc_api_Cell_api_Cell
 o109 n110 n111
 (Value.func (Fn.func id_chip_Lay_1)
 (Array.mk [])
 (Array.mk
 [Value.pointer
 (some
 (Addr.mk n24 0
 none))]))
 (fun (b112 : Bool) (h113 : H) =>
 if b112 = true then
 J39
 [SV.dv
 (DV.one
 (Value.bool true))]
 h113
 else
 ∃ (o114 : Option Addr),
 ∃ (n115 : Nat),
 ∃ (n116 : Nat),
 hc h113
 ((Addr.mk n27 0
 none).add
 1) =
 some
 (Value.slice
 o114 n115
 n116) ∧
 c_slices_ContainsFunc_int_int
 o114 n115 n116
 (Value.func
 (Fn.func id_chip_Lay_2)
 (Array.mk [])
 (Array.mk []))
 (fun (b117 : Bool)
 (h118 : H) =>
 J39
 [SV.dv
 (DV.one
 (Value.bool
 b117))]
 h118)
 h113)
 h108)
 h96)
 h84)
 h38)
 h28
theorem E_chip_Lay (c_chip_May : Int → Int → Int → Int → Int → Int → Int → (Int → H → Prop) → H → Prop) (c_chip_pages : Int → Int → Int → Int → Int → Int → Int → (Int → H → Prop) → H → Prop) (c_chip_fuses : Int → Int → Int → Int → Int → Int → Int → (Int → H → Prop) → H → Prop) (c_slices_ContainsFunc_api_Cell_api_Cell : (Option Addr) → Nat → Nat → Value → (Bool → H → Prop) → H → Prop) (c_slices_ContainsFunc_int_int : (Option Addr) → Nat → Nat → Value → (Bool → H → Prop) → H → Prop) (c_chip_copied : (Option Addr) → Nat → Nat → (Option Addr) → Nat → Nat → (Option Addr) → Nat → Nat → ((Option Addr) → Nat → Nat → (Option Addr) → Nat → Nat → (Option Addr) → Nat → Nat → H → Prop) → H → Prop) : ∀ (a0_0 : Int) (a0_1 : Int) (a0_2 : Int) (a0_3 : Int) (a0_4 : Int) (a0_5 : Int) (a0_6 : Int) (a1_0p : Option Addr) (a1_0l : Nat) (a1_0c : Nat) (a1_1p : Option Addr) (a1_1l : Nat) (a1_1c : Nat) (a1_2p : Option Addr) (a1_2l : Nat) (a1_2c : Nat) (Q : (Option Addr) → Int → H → Prop) (h : H), G_chip_Lay c_chip_May c_chip_pages c_chip_fuses c_slices_ContainsFunc_api_Cell_api_Cell c_slices_ContainsFunc_int_int c_chip_copied a0_0 a0_1 a0_2 a0_3 a0_4 a0_5 a0_6 a1_0p a1_0l a1_0c a1_1p a1_1l a1_1c a1_2p a1_2l a1_2c Q h = Dbody PP [(18, W [.ag [.int .i64, .int .i64, .int .i64, .int .i64, .int .i64, .int .i64, .int .i64]] [.int .i64] c_chip_May), (64, W [.ag [.int .i64, .int .i64, .int .i64, .int .i64, .int .i64, .int .i64, .int .i64]] [.int .i64] c_chip_pages), (65, W [.ag [.int .i64, .int .i64, .int .i64, .int .i64, .int .i64, .int .i64, .int .i64]] [.int .i64] c_chip_fuses), (74, W [.slc, .fn] [.bool] c_slices_ContainsFunc_api_Cell_api_Cell), (76, W [.slc, .fn] [.bool] c_slices_ContainsFunc_int_int), (78, W [.ag [.slc, .slc, .slc]] [.ag [.slc, .slc, .slc]] c_chip_copied)] [(7, [(7, .sc (.bool))])] Try.f20 [.agg [.c (.int .i64 a0_0), .c (.int .i64 a0_1), .c (.int .i64 a0_2), .c (.int .i64 a0_3), .c (.int .i64 a0_4), .c (.int .i64 a0_5), .c (.int .i64 a0_6)], .agg [.c (.slice a1_0p a1_0l a1_0c), .c (.slice a1_1p a1_1l a1_1c), .c (.slice a1_2p a1_2l a1_2c)]] (decR [.ptr, .int .i64] Q) h := by
  intros; kernel_rfl
def F_chip_Lay := G_chip_Lay F_chip_May F_chip_pages F_chip_fuses F_slices_ContainsFunc_api_Cell_api_Cell F_slices_ContainsFunc_int_int F_chip_copied
theorem R_chip_Lay : RunOk PP 20 (W [.ag [.int .i64, .int .i64, .int .i64, .int .i64, .int .i64, .int .i64, .int .i64], .ag [.slc, .slc, .slc]] [.ptr, .int .i64] F_chip_Lay) :=
  runOk_of (T := [(18, W [.ag [.int .i64, .int .i64, .int .i64, .int .i64, .int .i64, .int .i64, .int .i64]] [.int .i64] F_chip_May), (64, W [.ag [.int .i64, .int .i64, .int .i64, .int .i64, .int .i64, .int .i64, .int .i64]] [.int .i64] F_chip_pages), (65, W [.ag [.int .i64, .int .i64, .int .i64, .int .i64, .int .i64, .int .i64, .int .i64]] [.int .i64] F_chip_fuses), (74, W [.slc, .fn] [.bool] F_slices_ContainsFunc_api_Cell_api_Cell), (76, W [.slc, .fn] [.bool] F_slices_ContainsFunc_int_int), (78, W [.ag [.slc, .slc, .slc]] [.ag [.slc, .slc, .slc]] F_chip_copied)]) (ann := [(7, [(7, .sc (.bool))])]) (TblOk.cons R_chip_May (TblOk.cons R_chip_pages (TblOk.cons R_chip_fuses (TblOk.cons R_slices_ContainsFunc_api_Cell_api_Cell (TblOk.cons R_slices_ContainsFunc_int_int (TblOk.cons R_chip_copied (TblOk.nil))))))) Try.func20 (by kernel_rfl) (by kernel_rfl) (E_chip_Lay F_chip_May F_chip_pages F_chip_fuses F_slices_ContainsFunc_api_Cell_api_Cell F_slices_ContainsFunc_int_int F_chip_copied)
attribute [irreducible] F_chip_Lay
def G_portcullislaw04_done (c_chip_Chip_Blow : Addr → Int → (Int → H → Prop) → H → Prop) (c_chip_Chip_Erase : Addr → Int → (Int → H → Prop) → H → Prop) (c_chip_Chip_Program : Addr → Int → Int → List Int → (Int → H → Prop) → H → Prop) (a0 : Addr) (a1_0 : Int) (a1_1 : Int) (a1_2 : Int) (a1_3 : List Int) (a1_4p : Option Addr) (a1_4l : Nat) (a1_4c : Nat) (Q : Int → H → Prop) (h : H) : Prop :=
 ∀ (n13 : Nat) (h14 : H),
 hnew h n13 (Value.int IntKind.i64 a1_0 :: Value.int IntKind.i64 a1_1 :: Value.int IntKind.i64 a1_2 :: (ints IntKind.u8 a1_3 ++ [Value.slice a1_4p a1_4l a1_4c])) h14 →
 ∃ (i16 : Int),
 hc h14 (Addr.mk n13 0 none) = some (Value.int IntKind.i64 i16) ∧
 if (i16 == 2) = true then
 ∃ (i17 : Int),
 hc h14 ((Addr.mk n13 0 none).add 1) = some (Value.int IntKind.i64 i17) ∧
 ∃ (i18 : Int),
 hc h14 ((Addr.mk n13 0 none).add 2) = some (Value.int IntKind.i64 i18) ∧
 ∃ (l19 : List Int), l19.length = 32 ∧ hrow h14 ((Addr.mk n13 0 none).add 3) IntKind.u8 l19 ∧ c_chip_Chip_Program a0 i17 i18 l19 (fun (i20 : Int) (h21 : H) => Q i20 h21) h14
 else
 if (i16 == 3) = true then ∃ (i22 : Int), hc h14 ((Addr.mk n13 0 none).add 1) = some (Value.int IntKind.i64 i22) ∧ c_chip_Chip_Erase a0 i22 (fun (i23 : Int) (h24 : H) => Q i23 h24) h14
 else ∃ (i25 : Int), hc h14 ((Addr.mk n13 0 none).add 1) = some (Value.int IntKind.i64 i25) ∧ c_chip_Chip_Blow a0 i25 (fun (i26 : Int) (h27 : H) => Q i26 h27) h14
theorem E_portcullislaw04_done (c_chip_Chip_Blow : Addr → Int → (Int → H → Prop) → H → Prop) (c_chip_Chip_Erase : Addr → Int → (Int → H → Prop) → H → Prop) (c_chip_Chip_Program : Addr → Int → Int → (List Int) → (Int → H → Prop) → H → Prop) : ∀ (a0 : Addr) (a1_0 : Int) (a1_1 : Int) (a1_2 : Int) (a1_3 : List Int) (a1_4p : Option Addr) (a1_4l : Nat) (a1_4c : Nat) (Q : Int → H → Prop) (h : H), G_portcullislaw04_done c_chip_Chip_Blow c_chip_Chip_Erase c_chip_Chip_Program a0 a1_0 a1_1 a1_2 a1_3 a1_4p a1_4l a1_4c Q h = Dbody PP [(41, W [.addr, .int .i64] [.int .i64] c_chip_Chip_Blow), (46, W [.addr, .int .i64] [.int .i64] c_chip_Chip_Erase), (47, W [.addr, .int .i64, .int .i64, .ag [.row .u8 32]] [.int .i64] c_chip_Chip_Program)] [] Try.f24 [.addr a0, .agg [.c (.int .i64 a1_0), .c (.int .i64 a1_1), .c (.int .i64 a1_2), .row .u8 32 a1_3, .c (.slice a1_4p a1_4l a1_4c)]] (decR [.int .i64] Q) h := by
  intros; kernel_rfl
def F_portcullislaw04_done := G_portcullislaw04_done F_chip_Chip_Blow F_chip_Chip_Erase F_chip_Chip_Program
theorem R_portcullislaw04_done : RunOk PP 24 (W [.addr, .ag [.int .i64, .int .i64, .int .i64, .row .u8 32, .slc]] [.int .i64] F_portcullislaw04_done) :=
  runOk_of (T := [(41, W [.addr, .int .i64] [.int .i64] F_chip_Chip_Blow), (46, W [.addr, .int .i64] [.int .i64] F_chip_Chip_Erase), (47, W [.addr, .int .i64, .int .i64, .ag [.row .u8 32]] [.int .i64] F_chip_Chip_Program)]) (ann := []) (TblOk.cons R_chip_Chip_Blow (TblOk.cons R_chip_Chip_Erase (TblOk.cons R_chip_Chip_Program (TblOk.nil)))) Try.func24 (by kernel_rfl) (by kernel_rfl) (E_portcullislaw04_done F_chip_Chip_Blow F_chip_Chip_Erase F_chip_Chip_Program)
attribute [irreducible] F_portcullislaw04_done
def G_portcullislaw04_mixed (a0_0 : List Int) (a1_0 : List Int) (a2_0 : List Int) (a3p : Option Addr) (a3l : Nat) (a3c : Nat) (a4 : Int) (Q : Bool → H → Prop) (h : H) : Prop :=
 ∀ (n9 : Nat) (h10 : H),
 hnew h n9 (ints IntKind.u8 a0_0 ++ []) h10 →
 ∀ (n12 : Nat) (h13 : H),
 hnew h10 n12 (ints IntKind.u8 a1_0 ++ []) h13 →
 ∀ (n15 : Nat) (h16 : H),
 hnew h13 n15 (ints IntKind.u8 a2_0 ++ []) h16 →
 ∀ (J18 : List SV → H → Prop),
 (∀ (i19 : Int) (h20 : H),
 (if ltI i19 32 = true then
 if ltI 0 (↑a3l : Int) = true then
 (↑a3l : Int) ≠ 0 ∧
 ∃ (p21 : Addr),
 a3p = some p21 ∧
 0 ≤ (IntKind.i64.wrap (a4 + i19)).tmod (↑a3l : Int) ∧
 (IntKind.i64.wrap (a4 + i19)).tmod (↑a3l : Int) < (↑a3l : Int) ∧
 ∃ (i22 : Int),
 hc h20 (p21.add (((IntKind.i64.wrap (a4 + i19)).tmod (↑a3l : Int)).toNat * 1)) = some (Value.int IntKind.u8 i22) ∧
 0 ≤ i19 ∧
 i19 < (↑32 : Int) ∧
 ∃ (i23 : Int),
 hc h20 ((Addr.mk n9 0 none).add (i19.toNat * 1)) = some (Value.int IntKind.u8 i23) ∧
 0 ≤ i19 ∧
 i19 < (↑32 : Int) ∧
 ∃ (i24 : Int),
 hc h20 ((Addr.mk n12 0 none).add (i19.toNat * 1)) = some (Value.int IntKind.u8 i24) ∧
 0 ≤ i19 ∧
 i19 < (↑32 : Int) ∧
 ∃ (i25 : Int),
 hc h20 ((Addr.mk n15 0 none).add (i19.toNat * 1)) = some (Value.int IntKind.u8 i25) ∧
 if (i23 != bits BinOp.or IntKind.u8 (bits BinOp.andNot IntKind.u8 i24 i22) (bits BinOp.and IntKind.u8 i25 i22)) = true then Q false h20
 else J18 [SV.dv (DV.one (Value.int IntKind.i64 (IntKind.i64.wrap (i19 + 1))))] h20
 else
 0 ≤ i19 ∧
 i19 < (↑32 : Int) ∧
 ∃ (i26 : Int),
 hc h20 ((Addr.mk n9 0 none).add (i19.toNat * 1)) = some (Value.int IntKind.u8 i26) ∧
 0 ≤ i19 ∧
 i19 < (↑32 : Int) ∧
 ∃ (i27 : Int),
 hc h20 ((Addr.mk n12 0 none).add (i19.toNat * 1)) = some (Value.int IntKind.u8 i27) ∧
 0 ≤ i19 ∧
 i19 < (↑32 : Int) ∧
 ∃ (i28 : Int),
 hc h20 ((Addr.mk n15 0 none).add (i19.toNat * 1)) = some (Value.int IntKind.u8 i28) ∧
 if (i26 != bits BinOp.or IntKind.u8 (bits BinOp.andNot IntKind.u8 i27 0) (bits BinOp.and IntKind.u8 i28 0)) = true then Q false h20
 else J18 [SV.dv (DV.one (Value.int IntKind.i64 (IntKind.i64.wrap (i19 + 1))))] h20
 else Q true h20) →
 J18 [SV.dv (DV.one (Value.int IntKind.i64 i19))] h20) →
 J18 [SV.dv (DV.one (Value.int IntKind.i64 0))] h16
theorem E_portcullislaw04_mixed  : ∀ (a0_0 : List Int) (a1_0 : List Int) (a2_0 : List Int) (a3p : Option Addr) (a3l : Nat) (a3c : Nat) (a4 : Int) (Q : Bool → H → Prop) (h : H), G_portcullislaw04_mixed a0_0 a1_0 a2_0 a3p a3l a3c a4 Q h = Dbody PP [] [(26, [(11, .sc (.int .i64))])] Try.f28 [.agg [.row .u8 32 a0_0], .agg [.row .u8 32 a1_0], .agg [.row .u8 32 a2_0], .one (.slice a3p a3l a3c), .one (.int .i64 a4)] (decR [.bool] Q) h := by
  intros; kernel_rfl
def F_portcullislaw04_mixed := G_portcullislaw04_mixed
theorem R_portcullislaw04_mixed : RunOk PP 28 (W [.ag [.row .u8 32], .ag [.row .u8 32], .ag [.row .u8 32], .slc, .int .i64] [.bool] F_portcullislaw04_mixed) :=
  runOk_of (T := []) (ann := [(26, [(11, .sc (.int .i64))])]) (TblOk.nil) Try.func28 (by kernel_rfl) (by kernel_rfl) (E_portcullislaw04_mixed)
attribute [irreducible] F_portcullislaw04_mixed
end Go.Proofs.Ytamfkofcpoglnaa
