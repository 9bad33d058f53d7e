/- The denotations of some functions of the program, printed by a program of ours (wip/tools/vcgen.py), and that they are the model's. -/
import Derived.Test.YtamfkofcpoglnaaFa0
import Derived.Test.YtamfkofcpoglnaaFa1
import Derived.Test.YtamfkofcpoglnaaFa2
import Derived.Test.YtamfkofcpoglnaaFa3
import Derived.Test.YtamfkofcpoglnaaFa4
import Derived.Test.YtamfkofcpoglnaaFa5
import Derived.Test.YtamfkofcpoglnaaFa6
set_option autoImplicit false
set_option linter.all false
set_option linter.unusedVariables false
set_option maxRecDepth 100000
namespace Go.Proofs.Ytamfkofcpoglnaa
open Go Go.Vc
def G_fuse_Revoked (c_chip_Chip_Blown : Addr → Int → (Bool → Int → H → Prop) → H → Prop) (c_fuse_asked : Addr → Int → Int → (Int → H → Prop) → H → Prop) (c_chip_Chip_Config : Addr → (Int → Int → Int → Int → Int → Int → Int → H → Prop) → H → Prop) (c_fuse_of : Addr → Int → (Int → H → Prop) → H → Prop) (a0 : Addr) (a1 : Int) (Q : Bool → Int → H → Prop) (h : H) : Prop :=
 c_chip_Chip_Config a0
 (fun (i8 i9 i10 i11 i12 i13 i14 : Int) (h15 : H) =>
 c_fuse_asked a0 a1 i12
 (fun (i16 : Int) (h17 : H) =>
 if (i16 != 0) = true then Q false i16 h17 else c_fuse_of a0 a1 (fun (i18 : Int) (h19 : H) => c_chip_Chip_Blown a0 i18 (fun (b20 : Bool) (i21 : Int) (h22 : H) => Q b20 i21 h22) h19) h17)
 h15)
 h
theorem E_fuse_Revoked (c_chip_Chip_Blown : Addr → Int → (Bool → Int → H → Prop) → H → Prop) (c_fuse_asked : Addr → Int → Int → (Int → H → Prop) → H → Prop) (c_chip_Chip_Config : Addr → (Int → Int → Int → Int → Int → Int → Int → H → Prop) → H → Prop) (c_fuse_of : Addr → Int → (Int → H → Prop) → H → Prop) : ∀ (a0 : Addr) (a1 : Int) (Q : Bool → Int → H → Prop) (h : H), G_fuse_Revoked c_chip_Chip_Blown c_fuse_asked c_chip_Chip_Config c_fuse_of a0 a1 Q h = Dbody PP [(63, W [.addr, .int .i64] [.bool, .int .i64] c_chip_Chip_Blown), (90, W [.addr, .int .i64, .int .i64] [.int .i64] c_fuse_asked), (91, W [.addr] [.ag [.int .i64, .int .i64, .int .i64, .int .i64, .int .i64, .int .i64, .int .i64]] c_chip_Chip_Config), (136, W [.addr, .int .i64] [.int .i64] c_fuse_of)] [] Try.f82 [.addr a0, .one (.int .i64 a1)] (decR [.bool, .int .i64] Q) h := by
  intros; kernel_rfl
def F_fuse_Revoked := G_fuse_Revoked F_chip_Chip_Blown F_fuse_asked F_chip_Chip_Config F_fuse_of
theorem R_fuse_Revoked : RunOk PP 82 (W [.addr, .int .i64] [.bool, .int .i64] F_fuse_Revoked) :=
  runOk_of (T := [(63, W [.addr, .int .i64] [.bool, .int .i64] F_chip_Chip_Blown), (90, W [.addr, .int .i64, .int .i64] [.int .i64] F_fuse_asked), (91, W [.addr] [.ag [.int .i64, .int .i64, .int .i64, .int .i64, .int .i64, .int .i64, .int .i64]] F_chip_Chip_Config), (136, W [.addr, .int .i64] [.int .i64] F_fuse_of)]) (ann := []) (TblOk.cons R_chip_Chip_Blown (TblOk.cons R_fuse_asked (TblOk.cons R_chip_Chip_Config (TblOk.cons R_fuse_of (TblOk.nil))))) Try.func82 (by kernel_rfl) (by kernel_rfl) (E_fuse_Revoked F_chip_Chip_Blown F_fuse_asked F_chip_Chip_Config F_fuse_of)
attribute [irreducible] F_fuse_Revoked
def G_fuse_Revoke (c_chip_Chip_Blow : Addr → Int → (Int → H → Prop) → H → Prop) (c_fuse_Revoked : Addr → Int → (Bool → Int → H → Prop) → H → Prop) (c_fuse_of : Addr → Int → (Int → H → Prop) → H → Prop) (a0 : Addr) (a1 : Int) (Q : Int → H → Prop) (h : H) : Prop :=
 c_fuse_Revoked a0 a1
 (fun (b7 : Bool) (i8 : Int) (h9 : H) =>
 if (i8 != 0) = true then Q i8 h9 else if b7 = true then Q i8 h9 else c_fuse_of a0 a1 (fun (i10 : Int) (h11 : H) => c_chip_Chip_Blow a0 i10 (fun (i12 : Int) (h13 : H) => Q i12 h13) h11) h9)
 h
theorem E_fuse_Revoke (c_chip_Chip_Blow : Addr → Int → (Int → H → Prop) → H → Prop) (c_fuse_Revoked : Addr → Int → (Bool → Int → H → Prop) → H → Prop) (c_fuse_of : Addr → Int → (Int → H → Prop) → H → Prop) : ∀ (a0 : Addr) (a1 : Int) (Q : Int → H → Prop) (h : H), G_fuse_Revoke c_chip_Chip_Blow c_fuse_Revoked c_fuse_of a0 a1 Q h = Dbody PP [(41, W [.addr, .int .i64] [.int .i64] c_chip_Chip_Blow), (82, W [.addr, .int .i64] [.bool, .int .i64] c_fuse_Revoked), (136, W [.addr, .int .i64] [.int .i64] c_fuse_of)] [] Try.f81 [.addr a0, .one (.int .i64 a1)] (decR [.int .i64] Q) h := by
  intros; kernel_rfl
def F_fuse_Revoke := G_fuse_Revoke F_chip_Chip_Blow F_fuse_Revoked F_fuse_of
theorem R_fuse_Revoke : RunOk PP 81 (W [.addr, .int .i64] [.int .i64] F_fuse_Revoke) :=
  runOk_of (T := [(41, W [.addr, .int .i64] [.int .i64] F_chip_Chip_Blow), (82, W [.addr, .int .i64] [.bool, .int .i64] F_fuse_Revoked), (136, W [.addr, .int .i64] [.int .i64] F_fuse_of)]) (ann := []) (TblOk.cons R_chip_Chip_Blow (TblOk.cons R_fuse_Revoked (TblOk.cons R_fuse_of (TblOk.nil)))) Try.func81 (by kernel_rfl) (by kernel_rfl) (E_fuse_Revoke F_chip_Chip_Blow F_fuse_Revoked F_fuse_of)
attribute [irreducible] F_fuse_Revoke
def G_portcullislaw07_fixed (c_chip_New : Int → Int → Int → Int → Int → Int → Int → (Option Addr → Int → H → Prop) → H → Prop) (c_chip_Chip_Acts : Addr → (Int → H → Prop) → H → Prop) (c_fuse_Count : Addr → Int → (Int → Int → H → Prop) → H → Prop) (c_fuse_Raise : Addr → Int → Int → (Int → H → Prop) → H → Prop) (c_fuse_Revoke : Addr → Int → (Int → H → Prop) → H → Prop) (c_fuse_Revoked : Addr → Int → (Bool → Int → H → Prop) → H → Prop) (Q : Bool → H → Prop) (h : H) : Prop :=
 c_chip_New 4 1 3 1 1 1 0
 (fun (o8 : Option Addr) (i9 : Int) (h10 : H) =>
 ∀ (J11 : List SV → H → Prop),
 (∀ (h12 : H),
 (∃ (p13 : Addr),
 o8 = some p13 ∧
 c_fuse_Raise p13 0 2
 (fun (i14 : Int) (h15 : H) =>
 ∃ (p16 : Addr),
 o8 = some p16 ∧
 c_fuse_Count p16 0
 (fun (i17 i18 : Int) (h19 : H) =>
 ∃ (p20 : Addr),
 o8 = some p20 ∧
 c_fuse_Revoke p20 0
 (fun (i21 : Int) (h22 : H) =>
 ∃ (p23 : Addr),
 o8 = some p23 ∧
 c_fuse_Revoked p23 0
 (fun (b24 : Bool) (i25 : Int) (h26 : H) =>
 if (i14 == 0) = true then
 if (i17 == 2) = true then
 if (i18 == 0) = true then
 if (i21 == 0) = true then
 if b24 = true then if (i25 == 0) = true then ∃ (p27 : Addr), o8 = some p27 ∧ c_chip_Chip_Acts p27 (fun (i28 : Int) (h29 : H) => Q (i28 == 3) h29) h26 else Q false h26
 else Q false h26
 else Q false h26
 else Q false h26
 else Q false h26
 else Q false h26)
 h22)
 h19)
 h15)
 h12) →
 J11 [] h12) →
 if o8.isNone = true then Q false h10 else if (i9 != 0) = true then Q false h10 else J11 [] h10)
 h
theorem E_portcullislaw07_fixed (c_chip_New : Int → Int → Int → Int → Int → Int → Int → ((Option Addr) → Int → H → Prop) → H → Prop) (c_chip_Chip_Acts : Addr → (Int → H → Prop) → H → Prop) (c_fuse_Count : Addr → Int → (Int → Int → H → Prop) → H → Prop) (c_fuse_Raise : Addr → Int → Int → (Int → H → Prop) → H → Prop) (c_fuse_Revoke : Addr → Int → (Int → H → Prop) → H → Prop) (c_fuse_Revoked : Addr → Int → (Bool → Int → H → Prop) → H → Prop) : ∀ (Q : Bool → H → Prop) (h : H), G_portcullislaw07_fixed c_chip_New c_chip_Chip_Acts c_fuse_Count c_fuse_Raise c_fuse_Revoke c_fuse_Revoked Q h = Dbody PP [(16, W [.ag [.int .i64, .int .i64, .int .i64, .int .i64, .int .i64, .int .i64, .int .i64]] [.ptr, .int .i64] c_chip_New), (27, W [.addr] [.int .i64] c_chip_Chip_Acts), (34, W [.addr, .int .i64] [.int .i64, .int .i64] c_fuse_Count), (35, W [.addr, .int .i64, .int .i64] [.int .i64] c_fuse_Raise), (81, W [.addr, .int .i64] [.int .i64] c_fuse_Revoke), (82, W [.addr, .int .i64] [.bool, .int .i64] c_fuse_Revoked)] [(7, [])] Try.f32 [] (decR [.bool] Q) h := by
  intros; kernel_rfl
def F_portcullislaw07_fixed := G_portcullislaw07_fixed F_chip_New F_chip_Chip_Acts F_fuse_Count F_fuse_Raise F_fuse_Revoke F_fuse_Revoked
theorem R_portcullislaw07_fixed : RunOk PP 32 (W [] [.bool] F_portcullislaw07_fixed) :=
  runOk_of (T := [(16, W [.ag [.int .i64, .int .i64, .int .i64, .int .i64, .int .i64, .int .i64, .int .i64]] [.ptr, .int .i64] F_chip_New), (27, W [.addr] [.int .i64] F_chip_Chip_Acts), (34, W [.addr, .int .i64] [.int .i64, .int .i64] F_fuse_Count), (35, W [.addr, .int .i64, .int .i64] [.int .i64] F_fuse_Raise), (81, W [.addr, .int .i64] [.int .i64] F_fuse_Revoke), (82, W [.addr, .int .i64] [.bool, .int .i64] F_fuse_Revoked)]) (ann := [(7, [])]) (TblOk.cons R_chip_New (TblOk.cons R_chip_Chip_Acts (TblOk.cons R_fuse_Count (TblOk.cons R_fuse_Raise (TblOk.cons R_fuse_Revoke (TblOk.cons R_fuse_Revoked (TblOk.nil))))))) Try.func32 (by kernel_rfl) (by kernel_rfl) (E_portcullislaw07_fixed F_chip_New F_chip_Chip_Acts F_fuse_Count F_fuse_Raise F_fuse_Revoke F_fuse_Revoked)
attribute [irreducible] F_portcullislaw07_fixed
def G_portcullisref07_may (a0 : Addr) (a1 : Int) (a2 : Int) (Q : Int → H → Prop) (h : H) : Prop :=
 ∃ (b5 : Bool), hc h (a0.add 11) = some (Value.bool b5) ∧ if b5 = true then Q 8 h else if ltI a1 0 = true then Q 2 h else if leI a2 a1 = true then Q 2 h else Q 0 h
theorem E_portcullisref07_may  : ∀ (a0 : Addr) (a1 : Int) (a2 : Int) (Q : Int → H → Prop) (h : H), G_portcullisref07_may a0 a1 a2 Q h = Dbody PP [] [] Try.f137 [.addr a0, .one (.int .i64 a1), .one (.int .i64 a2)] (decR [.int .i64] Q) h := by
  intros; kernel_rfl
def F_portcullisref07_may := G_portcullisref07_may
theorem R_portcullisref07_may : RunOk PP 137 (W [.addr, .int .i64, .int .i64] [.int .i64] F_portcullisref07_may) :=
  runOk_of (T := []) (ann := []) (TblOk.nil) Try.func137 (by kernel_rfl) (by kernel_rfl) (E_portcullisref07_may)
attribute [irreducible] F_portcullisref07_may
def G_portcullisref07_Count (c_portcullisref07_may : Addr → Int → Int → (Int → H → Prop) → H → Prop) (a0 : Addr) (a1 : Int) (Q : Int → Int → H → Prop) (h : H) : Prop :=
 ∃ (i5 : Int),
 hc h (a0.add 1) = some (Value.int IntKind.i64 i5) ∧
 c_portcullisref07_may a0 a1 i5
 (fun (i6 : Int) (h7 : H) =>
 if (i6 != 0) = true then Q 0 i6 h7
 else
 ∀ (J8 : List SV → H → Prop),
 (∀ (i9 i10 : Int) (h11 : H),
 (∃ (i12 : Int),
 hc h11 (a0.add 2) = some (Value.int IntKind.i64 i12) ∧
 if ltI i10 i12 = true then
 ∃ (o13 : Option Addr),
 ∃ (n14 : Nat),
 ∃ (n15 : Nat),
 hc h11 (a0.add 9) = some (Value.slice o13 n14 n15) ∧
 ∃ (i16 : Int),
 hc h11 (a0.add 2) = some (Value.int IntKind.i64 i16) ∧
 ∃ (p17 : Addr),
 o13 = some p17 ∧
 0 ≤ IntKind.i64.wrap (IntKind.i64.wrap (a1 * i16) + i10) ∧
 IntKind.i64.wrap (IntKind.i64.wrap (a1 * i16) + i10) < (↑n14 : Int) ∧
 ∃ (b18 : Bool),
 hc h11 (p17.add ((IntKind.i64.wrap (IntKind.i64.wrap (a1 * i16) + i10)).toNat * 1)) = some (Value.bool b18) ∧
 if b18 = true then J8 [SV.dv (DV.one (Value.int IntKind.i64 (IntKind.i64.wrap (i9 + 1)))), SV.dv (DV.one (Value.int IntKind.i64 (IntKind.i64.wrap (i10 + 1))))] h11
 else J8 [SV.dv (DV.one (Value.int IntKind.i64 i9)), SV.dv (DV.one (Value.int IntKind.i64 (IntKind.i64.wrap (i10 + 1))))] h11
 else Q i9 0 h11) →
 J8 [SV.dv (DV.one (Value.int IntKind.i64 i9)), SV.dv (DV.one (Value.int IntKind.i64 i10))] h11) →
 J8 [SV.dv (DV.one (Value.int IntKind.i64 0)), SV.dv (DV.one (Value.int IntKind.i64 0))] h7)
 h
theorem E_portcullisref07_Count (c_portcullisref07_may : Addr → Int → Int → (Int → H → Prop) → H → Prop) : ∀ (a0 : Addr) (a1 : Int) (Q : Int → Int → H → Prop) (h : H), G_portcullisref07_Count c_portcullisref07_may a0 a1 Q h = Dbody PP [(137, W [.addr, .int .i64, .int .i64] [.int .i64] c_portcullisref07_may)] [(250, [(7, .sc (.int .i64)), (8, .sc (.int .i64))])] Try.f83 [.addr a0, .one (.int .i64 a1)] (decR [.int .i64, .int .i64] Q) h := by
  intros; kernel_rfl
def F_portcullisref07_Count := G_portcullisref07_Count F_portcullisref07_may
theorem R_portcullisref07_Count : RunOk PP 83 (W [.addr, .int .i64] [.int .i64, .int .i64] F_portcullisref07_Count) :=
  runOk_of (T := [(137, W [.addr, .int .i64, .int .i64] [.int .i64] F_portcullisref07_may)]) (ann := [(250, [(7, .sc (.int .i64)), (8, .sc (.int .i64))])]) (TblOk.cons R_portcullisref07_may (TblOk.nil)) Try.func83 (by kernel_rfl) (by kernel_rfl) (E_portcullisref07_Count F_portcullisref07_may)
attribute [irreducible] F_portcullisref07_Count
def G_portcullisref07_Raise (c_portcullisref07_Count : Addr → Int → (Int → Int → H → Prop) → H → Prop) (c_portcullisref04_Chip_Blow : Addr → Int → (Int → H → Prop) → H → Prop) (a0 : Addr) (a1 : Int) (a2 : Int) (Q : Int → H → Prop) (h : H) : Prop :=
 c_portcullisref07_Count a0 a1
 (fun (i7 i8 : Int) (h9 : H) =>
 ∀ (J10 : List SV → H → Prop),
 (∀ (i11 : Int) (h12 : H),
 (∀ (J13 : List SV → H → Prop),
 (∀ (i14 i15 i16 : Int) (h17 : H),
 (∀ (J18 : List SV → H → Prop),
 (∀ (h19 : H),
 (∃ (o20 : Option Addr),
 ∃ (n21 : Nat),
 ∃ (n22 : Nat),
 hc h19 (a0.add 9) = some (Value.slice o20 n21 n22) ∧
 ∃ (i23 : Int),
 hc h19 (a0.add 2) = some (Value.int IntKind.i64 i23) ∧
 ∃ (p24 : Addr),
 o20 = some p24 ∧
 0 ≤ IntKind.i64.wrap (IntKind.i64.wrap (a1 * i23) + i16) ∧
 IntKind.i64.wrap (IntKind.i64.wrap (a1 * i23) + i16) < (↑n21 : Int) ∧
 ∃ (b25 : Bool),
 hc h19 (p24.add ((IntKind.i64.wrap (IntKind.i64.wrap (a1 * i23) + i16)).toNat * 1)) = some (Value.bool b25) ∧
 if (!b25) = true then
 ∃ (i26 : Int),
 hc h19 (a0.add 2) = some (Value.int IntKind.i64 i26) ∧
 c_portcullisref04_Chip_Blow a0 (IntKind.i64.wrap (IntKind.i64.wrap (a1 * i26) + i16))
 (fun (i27 : Int) (h28 : H) =>
 J13
 [SV.dv (DV.one (Value.int IntKind.i64 (IntKind.i64.wrap (i14 + 1)))), SV.dv (DV.one (Value.int IntKind.i64 i27)),
 SV.dv (DV.one (Value.int IntKind.i64 (IntKind.i64.wrap (i16 + 1))))]
 h28)
 h19
 else
 J13 [SV.dv (DV.one (Value.int IntKind.i64 i14)), SV.dv (DV.one (Value.int IntKind.i64 i15)), SV.dv (DV.one (Value.int IntKind.i64 (IntKind.i64.wrap (i16 + 1))))]
 h19) →
 J18 [] h19) →
 ∃ (i31 : Int),
 hc h17 (a0.add 2) = some (Value.int IntKind.i64 i31) ∧
 if ltI i16 i31 = true then if ltI i14 a2 = true then if (i15 == 0) = true then J18 [] h17 else Q i15 h17 else Q i15 h17 else Q i15 h17) →
 J13 [SV.dv (DV.one (Value.int IntKind.i64 i14)), SV.dv (DV.one (Value.int IntKind.i64 i15)), SV.dv (DV.one (Value.int IntKind.i64 i16))] h17) →
 J13 [SV.dv (DV.one (Value.int IntKind.i64 i7)), SV.dv (DV.one (Value.int IntKind.i64 i11)), SV.dv (DV.one (Value.int IntKind.i64 0))] h12) →
 J10 [SV.dv (DV.one (Value.int IntKind.i64 i11))] h12) →
 if (i8 == 0) = true then
 if ltI a2 0 = true then J10 [SV.dv (DV.one (Value.int IntKind.i64 2))] h9
 else
 ∃ (i36 : Int), hc h9 (a0.add 2) = some (Value.int IntKind.i64 i36) ∧ if ltI i36 a2 = true then J10 [SV.dv (DV.one (Value.int IntKind.i64 2))] h9 else J10 [SV.dv (DV.one (Value.int IntKind.i64 i8))] h9
 else J10 [SV.dv (DV.one (Value.int IntKind.i64 i8))] h9)
 h
theorem E_portcullisref07_Raise (c_portcullisref07_Count : Addr → Int → (Int → Int → H → Prop) → H → Prop) (c_portcullisref04_Chip_Blow : Addr → Int → (Int → H → Prop) → H → Prop) : ∀ (a0 : Addr) (a1 : Int) (a2 : Int) (Q : Int → H → Prop) (h : H), G_portcullisref07_Raise c_portcullisref07_Count c_portcullisref04_Chip_Blow a0 a1 a2 Q h = Dbody PP [(83, W [.addr, .int .i64] [.int .i64, .int .i64] c_portcullisref07_Count), (88, W [.addr, .int .i64] [.int .i64] c_portcullisref04_Chip_Blow)] [(7, [(8, .sc (.int .i64))]), (122, [(7, .sc (.int .i64)), (8, .sc (.int .i64)), (9, .sc (.int .i64))]), (244, [])] Try.f84 [.addr a0, .one (.int .i64 a1), .one (.int .i64 a2)] (decR [.int .i64] Q) h := by
  intros; kernel_rfl
def F_portcullisref07_Raise := G_portcullisref07_Raise F_portcullisref07_Count F_portcullisref04_Chip_Blow
theorem R_portcullisref07_Raise : RunOk PP 84 (W [.addr, .int .i64, .int .i64] [.int .i64] F_portcullisref07_Raise) :=
  runOk_of (T := [(83, W [.addr, .int .i64] [.int .i64, .int .i64] F_portcullisref07_Count), (88, W [.addr, .int .i64] [.int .i64] F_portcullisref04_Chip_Blow)]) (ann := [(7, [(8, .sc (.int .i64))]), (122, [(7, .sc (.int .i64)), (8, .sc (.int .i64)), (9, .sc (.int .i64))]), (244, [])]) (TblOk.cons R_portcullisref07_Count (TblOk.cons R_portcullisref04_Chip_Blow (TblOk.nil))) Try.func84 (by kernel_rfl) (by kernel_rfl) (E_portcullisref07_Raise F_portcullisref07_Count F_portcullisref04_Chip_Blow)
attribute [irreducible] F_portcullisref07_Raise
def G_portcullisref07_Revoked (c_portcullisref07_may : Addr → Int → Int → (Int → H → Prop) → H → Prop) (a0 : Addr) (a1 : Int) (Q : Bool → Int → H → Prop) (h : H) : Prop :=
 ∃ (i5 : Int),
 hc h (a0.add 4) = some (Value.int IntKind.i64 i5) ∧
 c_portcullisref07_may a0 a1 i5
 (fun (i6 : Int) (h7 : H) =>
 if (i6 != 0) = true then Q false i6 h7
 else
 ∃ (o8 : Option Addr),
 ∃ (n9 : Nat),
 ∃ (n10 : Nat),
 hc h7 (a0.add 9) = some (Value.slice o8 n9 n10) ∧
 ∃ (i11 : Int),
 hc h7 (a0.add 1) = some (Value.int IntKind.i64 i11) ∧
 ∃ (i12 : Int),
 hc h7 (a0.add 2) = some (Value.int IntKind.i64 i12) ∧
 ∃ (p13 : Addr),
 o8 = some p13 ∧
 0 ≤ IntKind.i64.wrap (IntKind.i64.wrap (i11 * i12) + a1) ∧
 IntKind.i64.wrap (IntKind.i64.wrap (i11 * i12) + a1) < (↑n9 : Int) ∧
 ∃ (b14 : Bool), hc h7 (p13.add ((IntKind.i64.wrap (IntKind.i64.wrap (i11 * i12) + a1)).toNat * 1)) = some (Value.bool b14) ∧ Q b14 0 h7)
 h
theorem E_portcullisref07_Revoked (c_portcullisref07_may : Addr → Int → Int → (Int → H → Prop) → H → Prop) : ∀ (a0 : Addr) (a1 : Int) (Q : Bool → Int → H → Prop) (h : H), G_portcullisref07_Revoked c_portcullisref07_may a0 a1 Q h = Dbody PP [(137, W [.addr, .int .i64, .int .i64] [.int .i64] c_portcullisref07_may)] [] Try.f85 [.addr a0, .one (.int .i64 a1)] (decR [.bool, .int .i64] Q) h := by
  intros; kernel_rfl
def F_portcullisref07_Revoked := G_portcullisref07_Revoked F_portcullisref07_may
theorem R_portcullisref07_Revoked : RunOk PP 85 (W [.addr, .int .i64] [.bool, .int .i64] F_portcullisref07_Revoked) :=
  runOk_of (T := [(137, W [.addr, .int .i64, .int .i64] [.int .i64] F_portcullisref07_may)]) (ann := []) (TblOk.cons R_portcullisref07_may (TblOk.nil)) Try.func85 (by kernel_rfl) (by kernel_rfl) (E_portcullisref07_Revoked F_portcullisref07_may)
attribute [irreducible] F_portcullisref07_Revoked
def G_portcullisref07_Revoke (c_portcullisref07_Revoked : Addr → Int → (Bool → Int → H → Prop) → H → Prop) (c_portcullisref04_Chip_Blow : Addr → Int → (Int → H → Prop) → H → Prop) (a0 : Addr) (a1 : Int) (Q : Int → H → Prop) (h : H) : Prop :=
 c_portcullisref07_Revoked a0 a1
 (fun (b6 : Bool) (i7 : Int) (h8 : H) =>
 if (i7 != 0) = true then Q i7 h8
 else
 if b6 = true then Q i7 h8
 else
 ∃ (i9 : Int),
 hc h8 (a0.add 1) = some (Value.int IntKind.i64 i9) ∧
 ∃ (i10 : Int), hc h8 (a0.add 2) = some (Value.int IntKind.i64 i10) ∧ c_portcullisref04_Chip_Blow a0 (IntKind.i64.wrap (IntKind.i64.wrap (i9 * i10) + a1)) (fun (i11 : Int) (h12 : H) => Q i11 h12) h8)
 h
theorem E_portcullisref07_Revoke (c_portcullisref07_Revoked : Addr → Int → (Bool → Int → H → Prop) → H → Prop) (c_portcullisref04_Chip_Blow : Addr → Int → (Int → H → Prop) → H → Prop) : ∀ (a0 : Addr) (a1 : Int) (Q : Int → H → Prop) (h : H), G_portcullisref07_Revoke c_portcullisref07_Revoked c_portcullisref04_Chip_Blow a0 a1 Q h = Dbody PP [(85, W [.addr, .int .i64] [.bool, .int .i64] c_portcullisref07_Revoked), (88, W [.addr, .int .i64] [.int .i64] c_portcullisref04_Chip_Blow)] [] Try.f86 [.addr a0, .one (.int .i64 a1)] (decR [.int .i64] Q) h := by
  intros; kernel_rfl
def F_portcullisref07_Revoke := G_portcullisref07_Revoke F_portcullisref07_Revoked F_portcullisref04_Chip_Blow
theorem R_portcullisref07_Revoke : RunOk PP 86 (W [.addr, .int .i64] [.int .i64] F_portcullisref07_Revoke) :=
  runOk_of (T := [(85, W [.addr, .int .i64] [.bool, .int .i64] F_portcullisref07_Revoked), (88, W [.addr, .int .i64] [.int .i64] F_portcullisref04_Chip_Blow)]) (ann := []) (TblOk.cons R_portcullisref07_Revoked (TblOk.cons R_portcullisref04_Chip_Blow (TblOk.nil))) Try.func86 (by kernel_rfl) (by kernel_rfl) (E_portcullisref07_Revoke F_portcullisref07_Revoked F_portcullisref04_Chip_Blow)
attribute [irreducible] F_portcullisref07_Revoke
def G_portcullislaw07_step (c_chip_Chip_Cut : Addr → Int → Option Addr → Nat → Nat → (H → Prop) → H → Prop) (c_fuse_Count : Addr → Int → (Int → Int → H → Prop) → H → Prop) (c_fuse_Raise : Addr → Int → Int → (Int → H → Prop) → H → Prop) (c_chip_Chip_Restore : Addr → (H → Prop) → H → Prop) (c_chip_Chip_Blow : Addr → Int → (Int → H → Prop) → H → Prop) (c_fuse_Revoke : Addr → Int → (Int → H → Prop) → H → Prop) (c_fuse_Revoked : Addr → Int → (Bool → Int → H → Prop) → H → Prop) (c_portcullisref07_Count : Addr → Int → (Int → Int → H → Prop) → H → Prop) (c_portcullisref07_Raise : Addr → Int → Int → (Int → H → Prop) → H → Prop) (c_portcullisref07_Revoked : Addr → Int → (Bool → Int → H → Prop) → H → Prop) (c_portcullisref07_Revoke : Addr → Int → (Int → H → Prop) → H → Prop) (c_portcullisref04_Chip_Cut : Addr → Int → Option Addr → Nat → Nat → (H → Prop) → H → Prop) (c_portcullisref04_Chip_Blow : Addr → Int → (Int → H → Prop) → H → Prop) (c_portcullisref04_Chip_Restore : Addr → (H → Prop) → H → Prop) (a0 : Addr) (a1 : Addr) (a2_0 : Int) (a2_1 : Int) (a2_2 : Int) (Q : Bool → H → Prop) (h : H) : Prop :=
 ∀ (n21 : Nat) (h22 : H),
 hnew h n21 [Value.int IntKind.i64 a2_0, Value.int IntKind.i64 a2_1, Value.int IntKind.i64 a2_2] h22 →
 ∃ (i24 : Int),
 hc h22 (Addr.mk n21 0 none) = some (Value.int IntKind.i64 i24) ∧
 if (i24 == 1) = true then
 ∃ (i25 : Int),
 hc h22 ((Addr.mk n21 0 none).add 1) = some (Value.int IntKind.i64 i25) ∧
 c_fuse_Count a0 i25
 (fun (i26 i27 : Int) (h28 : H) =>
 ∃ (i29 : Int),
 hc h28 ((Addr.mk n21 0 none).add 1) = some (Value.int IntKind.i64 i29) ∧
 c_portcullisref07_Count a1 i29 (fun (i30 i31 : Int) (h32 : H) => if (i26 == i30) = true then Q (i27 == i31) h32 else Q false h32) h28)
 h22
 else
 if (i24 == 2) = true then
 ∃ (i33 : Int),
 hc h22 ((Addr.mk n21 0 none).add 1) = some (Value.int IntKind.i64 i33) ∧
 ∃ (i34 : Int),
 hc h22 ((Addr.mk n21 0 none).add 2) = some (Value.int IntKind.i64 i34) ∧
 c_fuse_Raise a0 i33 i34
 (fun (i35 : Int) (h36 : H) =>
 ∃ (i37 : Int),
 hc h36 ((Addr.mk n21 0 none).add 1) = some (Value.int IntKind.i64 i37) ∧
 ∃ (i38 : Int), hc h36 ((Addr.mk n21 0 none).add 2) = some (Value.int IntKind.i64 i38) ∧ c_portcullisref07_Raise a1 i37 i38 (fun (i39 : Int) (h40 : H) => Q (i35 == i39) h40) h36)
 h22
 else
 if (i24 == 3) = true then
 ∃ (i41 : Int),
 hc h22 ((Addr.mk n21 0 none).add 1) = some (Value.int IntKind.i64 i41) ∧
 c_fuse_Revoked a0 i41
 (fun (b42 : Bool) (i43 : Int) (h44 : H) =>
 ∃ (i45 : Int),
 hc h44 ((Addr.mk n21 0 none).add 1) = some (Value.int IntKind.i64 i45) ∧
 c_portcullisref07_Revoked a1 i45 (fun (b46 : Bool) (i47 : Int) (h48 : H) => if (b42 == b46) = true then Q (i43 == i47) h48 else Q false h48) h44)
 h22
 else
 if (i24 == 4) = true then
 ∃ (i49 : Int),
 hc h22 ((Addr.mk n21 0 none).add 1) = some (Value.int IntKind.i64 i49) ∧
 c_fuse_Revoke a0 i49
 (fun (i50 : Int) (h51 : H) =>
 ∃ (i52 : Int), hc h51 ((Addr.mk n21 0 none).add 1) = some (Value.int IntKind.i64 i52) ∧ c_portcullisref07_Revoke a1 i52 (fun (i53 : Int) (h54 : H) => Q (i50 == i53) h54) h51)
 h22
 else
 if (i24 == 5) = true then
 ∃ (i55 : Int),
 hc h22 ((Addr.mk n21 0 none).add 2) = some (Value.int IntKind.i64 i55) ∧
 ∃ (i56 : Int),
 hc h22 ((Addr.mk n21 0 none).add 1) = some (Value.int IntKind.i64 i56) ∧
 ∀ (n57 : Nat) (h58 : H),
 hnew h22 n57 [Value.int IntKind.u8 (IntKind.u8.wrap i56)] h58 →
 c_chip_Chip_Cut a0 i55 (some (Addr.mk n57 0 none)) 1 1
 (fun (h60 : H) =>
 ∃ (i61 : Int),
 hc h60 ((Addr.mk n21 0 none).add 2) = some (Value.int IntKind.i64 i61) ∧
 ∃ (i62 : Int),
 hc h60 ((Addr.mk n21 0 none).add 1) = some (Value.int IntKind.i64 i62) ∧
 ∀ (n63 : Nat) (h64 : H),
 hnew h60 n63 [Value.int IntKind.u8 (IntKind.u8.wrap i62)] h64 → c_portcullisref04_Chip_Cut a1 i61 (some (Addr.mk n63 0 none)) 1 1 (fun (h66 : H) => Q true h66) h64)
 h58
 else
 if (i24 == 6) = true then
 ∃ (i67 : Int),
 hc h22 ((Addr.mk n21 0 none).add 1) = some (Value.int IntKind.i64 i67) ∧
 c_chip_Chip_Blow a0 i67
 (fun (i68 : Int) (h69 : H) =>
 ∃ (i70 : Int), hc h69 ((Addr.mk n21 0 none).add 1) = some (Value.int IntKind.i64 i70) ∧ c_portcullisref04_Chip_Blow a1 i70 (fun (i71 : Int) (h72 : H) => Q (i68 == i71) h72) h69)
 h22
 else c_chip_Chip_Restore a0 (fun (h73 : H) => c_portcullisref04_Chip_Restore a1 (fun (h74 : H) => Q true h74) h73) h22
theorem E_portcullislaw07_step (c_chip_Chip_Cut : Addr → Int → (Option Addr) → Nat → Nat → (H → Prop) → H → Prop) (c_fuse_Count : Addr → Int → (Int → Int → H → Prop) → H → Prop) (c_fuse_Raise : Addr → Int → Int → (Int → H → Prop) → H → Prop) (c_chip_Chip_Restore : Addr → (H → Prop) → H → Prop) (c_chip_Chip_Blow : Addr → Int → (Int → H → Prop) → H → Prop) (c_fuse_Revoke : Addr → Int → (Int → H → Prop) → H → Prop) (c_fuse_Revoked : Addr → Int → (Bool → Int → H → Prop) → H → Prop) (c_portcullisref07_Count : Addr → Int → (Int → Int → H → Prop) → H → Prop) (c_portcullisref07_Raise : Addr → Int → Int → (Int → H → Prop) → H → Prop) (c_portcullisref07_Revoked : Addr → Int → (Bool → Int → H → Prop) → H → Prop) (c_portcullisref07_Revoke : Addr → Int → (Int → H → Prop) → H → Prop) (c_portcullisref04_Chip_Cut : Addr → Int → (Option Addr) → Nat → Nat → (H → Prop) → H → Prop) (c_portcullisref04_Chip_Blow : Addr → Int → (Int → H → Prop) → H → Prop) (c_portcullisref04_Chip_Restore : Addr → (H → Prop) → H → Prop) : ∀ (a0 : Addr) (a1 : Addr) (a2_0 : Int) (a2_1 : Int) (a2_2 : Int) (Q : Bool → H → Prop) (h : H), G_portcullislaw07_step c_chip_Chip_Cut c_fuse_Count c_fuse_Raise c_chip_Chip_Restore c_chip_Chip_Blow c_fuse_Revoke c_fuse_Revoked c_portcullisref07_Count c_portcullisref07_Raise c_portcullisref07_Revoked c_portcullisref07_Revoke c_portcullisref04_Chip_Cut c_portcullisref04_Chip_Blow c_portcullisref04_Chip_Restore a0 a1 a2_0 a2_1 a2_2 Q h = Dbody PP [(23, W [.addr, .int .i64, .slc] [] c_chip_Chip_Cut), (34, W [.addr, .int .i64] [.int .i64, .int .i64] c_fuse_Count), (35, W [.addr, .int .i64, .int .i64] [.int .i64] c_fuse_Raise), (36, W [.addr] [] c_chip_Chip_Restore), (41, W [.addr, .int .i64] [.int .i64] c_chip_Chip_Blow), (81, W [.addr, .int .i64] [.int .i64] c_fuse_Revoke), (82, W [.addr, .int .i64] [.bool, .int .i64] c_fuse_Revoked), (83, W [.addr, .int .i64] [.int .i64, .int .i64] c_portcullisref07_Count), (84, W [.addr, .int .i64, .int .i64] [.int .i64] c_portcullisref07_Raise), (85, W [.addr, .int .i64] [.bool, .int .i64] c_portcullisref07_Revoked), (86, W [.addr, .int .i64] [.int .i64] c_portcullisref07_Revoke), (87, W [.addr, .int .i64, .slc] [] c_portcullisref04_Chip_Cut), (88, W [.addr, .int .i64] [.int .i64] c_portcullisref04_Chip_Blow), (89, W [.addr] [] c_portcullisref04_Chip_Restore)] [] Try.f33 [.addr a0, .addr a1, .agg [.c (.int .i64 a2_0), .c (.int .i64 a2_1), .c (.int .i64 a2_2)]] (decR [.bool] Q) h := by
  intros; kernel_rfl
def F_portcullislaw07_step := G_portcullislaw07_step F_chip_Chip_Cut F_fuse_Count F_fuse_Raise F_chip_Chip_Restore F_chip_Chip_Blow F_fuse_Revoke F_fuse_Revoked F_portcullisref07_Count F_portcullisref07_Raise F_portcullisref07_Revoked F_portcullisref07_Revoke F_portcullisref04_Chip_Cut F_portcullisref04_Chip_Blow F_portcullisref04_Chip_Restore
theorem R_portcullislaw07_step : RunOk PP 33 (W [.addr, .addr, .ag [.int .i64, .int .i64, .int .i64]] [.bool] F_portcullislaw07_step) :=
  runOk_of (T := [(23, W [.addr, .int .i64, .slc] [] F_chip_Chip_Cut), (34, W [.addr, .int .i64] [.int .i64, .int .i64] F_fuse_Count), (35, W [.addr, .int .i64, .int .i64] [.int .i64] F_fuse_Raise), (36, W [.addr] [] F_chip_Chip_Restore), (41, W [.addr, .int .i64] [.int .i64] F_chip_Chip_Blow), (81, W [.addr, .int .i64] [.int .i64] F_fuse_Revoke), (82, W [.addr, .int .i64] [.bool, .int .i64] F_fuse_Revoked), (83, W [.addr, .int .i64] [.int .i64, .int .i64] F_portcullisref07_Count), (84, W [.addr, .int .i64, .int .i64] [.int .i64] F_portcullisref07_Raise), (85, W [.addr, .int .i64] [.bool, .int .i64] F_portcullisref07_Revoked), (86, W [.addr, .int .i64] [.int .i64] F_portcullisref07_Revoke), (87, W [.addr, .int .i64, .slc] [] F_portcullisref04_Chip_Cut), (88, W [.addr, .int .i64] [.int .i64] F_portcullisref04_Chip_Blow), (89, W [.addr] [] F_portcullisref04_Chip_Restore)]) (ann := []) (TblOk.cons R_chip_Chip_Cut (TblOk.cons R_fuse_Count (TblOk.cons R_fuse_Raise (TblOk.cons R_chip_Chip_Restore (TblOk.cons R_chip_Chip_Blow (TblOk.cons R_fuse_Revoke (TblOk.cons R_fuse_Revoked (TblOk.cons R_portcullisref07_Count (TblOk.cons R_portcullisref07_Raise (TblOk.cons R_portcullisref07_Revoked (TblOk.cons R_portcullisref07_Revoke (TblOk.cons R_portcullisref04_Chip_Cut (TblOk.cons R_portcullisref04_Chip_Blow (TblOk.cons R_portcullisref04_Chip_Restore (TblOk.nil))))))))))))))) Try.func33 (by kernel_rfl) (by kernel_rfl) (E_portcullislaw07_step F_chip_Chip_Cut F_fuse_Count F_fuse_Raise F_chip_Chip_Restore F_chip_Chip_Blow F_fuse_Revoke F_fuse_Revoked F_portcullisref07_Count F_portcullisref07_Raise F_portcullisref07_Revoked F_portcullisref07_Revoke F_portcullisref04_Chip_Cut F_portcullisref04_Chip_Blow F_portcullisref04_Chip_Restore)
attribute [irreducible] F_portcullislaw07_step
def G_portcullislaw07_FuseDoes (c_chip_Lay : Int →
 Int →
 Int →
 Int →
 Int →
 Int →
 Int →
 Option Addr →
 Nat →
 Nat → Option Addr → Nat → Nat → Option Addr → Nat → Nat → (Option Addr → Int → H → Prop) → H → Prop) (c_chip_Chip_State : Addr → (Option Addr → Nat → Nat → Option Addr → Nat → Nat → Option Addr → Nat → Nat → H → Prop) → H → Prop) (c_chip_Chip_Out : Addr → (Bool → H → Prop) → H → Prop) (c_portcullisref04_SameState : Option Addr →
 Nat →
 Nat →
 Option Addr →
 Nat →
 Nat →
 Option Addr →
 Nat →
 Nat →
 Option Addr →
 Nat → Nat → Option Addr → Nat → Nat → Option Addr → Nat → Nat → (Bool → H → Prop) → H → Prop) (c_chip_Chip_Acts : Addr → (Int → H → Prop) → H → Prop) (c_portcullisref04_Lay : Int →
 Int →
 Int →
 Int →
 Int →
 Int →
 Int →
 Option Addr →
 Nat →
 Nat → Option Addr → Nat → Nat → Option Addr → Nat → Nat → (Option Addr → Int → H → Prop) → H → Prop) (c_portcullislaw07_fixed : (Bool → H → Prop) → H → Prop) (c_portcullislaw07_step : Addr → Addr → Int → Int → Int → (Bool → H → Prop) → H → Prop) (a0_0 : Int) (a0_1 : Int) (a0_2 : Int) (a0_3 : Int) (a0_4 : Int) (a0_5 : Int) (a0_6 : Int) (a1_0p : Option Addr) (a1_0l : Nat) (a1_0c : Nat) (a1_1p : Option Addr) (a1_1l : Nat) (a1_1c : Nat) (a1_2p : Option Addr) (a1_2l : Nat) (a1_2c : Nat) (a2p : Option Addr) (a2l : Nat) (a2c : Nat) (Q : Bool → H → Prop) (h : H) : Prop :=
 ∀ (n29 : Nat) (h30 : H),
 hnew h n29 [Value.int IntKind.i64 a0_0, Value.int IntKind.i64 a0_1, Value.int IntKind.i64 a0_2, Value.int IntKind.i64 a0_3, Value.int IntKind.i64 a0_4, Value.int IntKind.i64 a0_5, Value.int IntKind.i64 a0_6] h30 →
 ∀ (n32 : Nat) (h33 : H),
 hnew h30 n32 [Value.slice a1_0p a1_0l a1_0c, Value.slice a1_1p a1_1l a1_1c, Value.slice a1_2p a1_2l a1_2c] h33 →
 c_portcullislaw07_fixed
 (fun (b35 : Bool) (h36 : H) =>
 ∃ (i37 : Int),
 hc h36 (Addr.mk n29 0 none) = some (Value.int IntKind.i64 i37) ∧
 ∃ (i38 : Int),
 hc h36 ((Addr.mk n29 0 none).add 1) = some (Value.int IntKind.i64 i38) ∧
 ∃ (i39 : Int),
 hc h36 ((Addr.mk n29 0 none).add 2) = some (Value.int IntKind.i64 i39) ∧
 ∃ (i40 : Int),
 hc h36 ((Addr.mk n29 0 none).add 3) = some (Value.int IntKind.i64 i40) ∧
 ∃ (i41 : Int),
 hc h36 ((Addr.mk n29 0 none).add 4) = some (Value.int IntKind.i64 i41) ∧
 ∃ (i42 : Int),
 hc h36 ((Addr.mk n29 0 none).add 5) = some (Value.int IntKind.i64 i42) ∧
 ∃ (i43 : Int),
 hc h36 ((Addr.mk n29 0 none).add 6) = some (Value.int IntKind.i64 i43) ∧
 ∃ (o44 : Option Addr),
 ∃ (n45 : Nat),
 ∃ (n46 : Nat),
 hc h36 (Addr.mk n32 0 none) = some (Value.slice o44 n45 n46) ∧
 ∃ (o47 : Option Addr),
 ∃ (n48 : Nat),
 ∃ (n49 : Nat),
 hc h36 ((Addr.mk n32 0 none).add 1) = some (Value.slice o47 n48 n49) ∧
 ∃ (o50 : Option Addr),
 ∃ (n51 : Nat),
 ∃ (n52 : Nat),
 hc h36 ((Addr.mk n32 0 none).add 2) = some (Value.slice o50 n51 n52) ∧
 c_chip_Lay i37 i38 i39 i40 i41 i42 i43 o44 n45 n46 o47 n48 n49 o50 n51 n52
 (fun (o53 : Option Addr) (i54 : Int) (h55 : H) =>
 ∃ (i56 : Int),
 hc h55 (Addr.mk n29 0 none) = some (Value.int IntKind.i64 i56) ∧
 ∃ (i57 : Int),
 hc h55 ((Addr.mk n29 0 none).add 1) = some (Value.int IntKind.i64 i57) ∧
 ∃ (i58 : Int),
 hc h55 ((Addr.mk n29 0 none).add 2) = some (Value.int IntKind.i64 i58) ∧
 ∃ (i59 : Int),
 hc h55 ((Addr.mk n29 0 none).add 3) = some (Value.int IntKind.i64 i59) ∧
 ∃ (i60 : Int),
 hc h55 ((Addr.mk n29 0 none).add 4) = some (Value.int IntKind.i64 i60) ∧
 ∃ (i61 : Int),
 hc h55 ((Addr.mk n29 0 none).add 5) = some (Value.int IntKind.i64 i61) ∧
 ∃ (i62 : Int),
 hc h55 ((Addr.mk n29 0 none).add 6) = some (Value.int IntKind.i64 i62) ∧
 ∃ (o63 : Option Addr),
 ∃ (n64 : Nat),
 ∃ (n65 : Nat),
 hc h55 (Addr.mk n32 0 none) = some (Value.slice o63 n64 n65) ∧
 ∃ (o66 : Option Addr),
 ∃ (n67 : Nat),
 ∃ (n68 : Nat),
 hc h55 ((Addr.mk n32 0 none).add 1) = some (Value.slice o66 n67 n68) ∧
 ∃ (o69 : Option Addr),
 ∃ (n70 : Nat),
 ∃ (n71 : Nat),
 hc h55 ((Addr.mk n32 0 none).add 2) = some (Value.slice o69 n70 n71) ∧
 c_portcullisref04_Lay i56 i57 i58 i59 i60 i61 i62 o63 n64 n65 o66 n67 n68 o69 n70 n71
 (fun (o72 : Option Addr) (i73 : Int) (h74 : H) =>
 ∀ (J75 : List SV → H → Prop),
 (∀ (h76 : H),
 (∀ (J77 : List SV → H → Prop),
 (∀ (i78 : Int) (h79 : H),
 (∀ (J80 : List SV → H → Prop),
 (∀ (h81 : H),
 (∃ (p82 : Addr),
 a2p = some p82 ∧
 0 ≤ i78 ∧
 i78 < (↑a2l : Int) ∧
 ∃ (i83 : Int),
 hc h81 (p82.add (i78.toNat * 3)) =
 some (Value.int IntKind.i64 i83) ∧
 ∃ (i84 : Int),
 hc h81 ((p82.add (i78.toNat * 3)).add 1) =
 some (Value.int IntKind.i64 i84) ∧
 ∃ (i85 : Int),
 hc h81 ((p82.add (i78.toNat * 3)).add 2) =
 some (Value.int IntKind.i64 i85) ∧
 ∃ (p86 : Addr),
 o53 = some p86 ∧
 ∃ (p87 : Addr),
 o72 = some p87 ∧
 c_portcullislaw07_step p86 p87 i83 i84 i85
 (fun (b88 : Bool) (h89 : H) =>
 ∃ (p90 : Addr),
 o72 = some p90 ∧
 ∃ (o91 : Option Addr),
 ∃ (n92 : Nat),
 ∃ (n93 : Nat),
 hc h89 (p90.add 7) =
 some
 (Value.slice o91 n92
 n93) ∧
 ∃ (o94 : Option Addr),
 ∃ (n95 : Nat),
 ∃ (n96 : Nat),
 hc h89 (p90.add 8) =
 some
 (Value.slice o94
 n95 n96) ∧
 ∃ (o97 :
 Option Addr),
 ∃ (n98 : Nat),
 ∃ (n99 : Nat),
 hc h89
 (p90.add
 9) =
 some
 (Value.slice
 o97
 n98
 n99) ∧
 ∃ (p100 :
 Addr),
 o53 =
 some
 p100 ∧
 c_chip_Chip_State
 p100
 (fun
 (o101 :
 Option
 Addr)
 (n102
 n103 :
 Nat)
 (o104 :
 Option
 Addr)
 (n105
 n106 :
 Nat)
 (o107 :
 Option
 Addr)
 (n108
 n109 :
 Nat)
 (h110 :
 H) =>
 hcs
 h110
 (p90.add
 7)
 [Value.slice
 o91
 n92
 n93,
 Value.slice
 o94
 n95
 n96,
 Value.slice
 o97
 n98
 n99] ∧
 c_portcullisref04_SameState
 o101
 n102
 n103
 o104
 n105
 n106
 o107
 n108
 n109
 o91
 n92
 n93
 o94
 n95
 n96
 o97
 n98
 n99
 (fun
 (b111 :
 Bool)
 (h112 :
 H) =>
 if
 (!b88) =
 true then
 Q
 false
 h112
 else
 if
 (!b111) =
 true then
 Q
 false
 h112
 else
 ∃
 (p113
 :
 Addr),
 o72 =
 some
 p113 ∧
 ∃
 (i114
 :
 Int),
 hc
 h112
 (p113.add
 10) =
 some
 (Value.int
 IntKind.i64
 i114) ∧
 ∃
 (p115
 :
 Addr),
 o53 =
 some
 p115 ∧
 c_chip_Chip_Acts
 p115
 (fun
 (i116 :
 Int)
 (h117 :
 H) =>
 hcs
 h117
 (p113.add
 10)
 [Value.int
 IntKind.i64
 i114] ∧
 if
 (i116 !=
 i114) =
 true then
 Q
 false
 h117
 else
 ∃
 (p118
 :
 Addr),
 o72 =
 some
 p118 ∧
 ∃
 (b119
 :
 Bool),
 hc
 h117
 (p118.add
 11) =
 some
 (Value.bool
 b119) ∧
 ∃
 (p120
 :
 Addr),
 o53 =
 some
 p120 ∧
 c_chip_Chip_Out
 p120
 (fun
 (b121 :
 Bool)
 (h122 :
 H) =>
 hcs
 h122
 (p118.add
 11)
 [Value.bool
 b119] ∧
 if
 (!b121 ==
 b119) =
 true then
 Q
 false
 h122
 else
 J77
 [SV.dv
 (DV.one
 (Value.int
 IntKind.i64
 (IntKind.i64.wrap
 (i78 +
 1))))]
 h122)
 h117)
 h112)
 h110)
 h89)
 h81) →
 J80 [] h81) →
 if ltI i78 (↑a2l : Int) = true then
 if (!o72.isNone) = true then J80 [] h79 else Q true h79
 else Q true h79) →
 J77 [SV.dv (DV.one (Value.int IntKind.i64 i78))] h79) →
 J77 [SV.dv (DV.one (Value.int IntKind.i64 0))] h76) →
 J75 [] h76) →
 if (!b35) = true then Q false h74
 else
 if (i54 != i73) = true then Q false h74
 else if (!o53.isNone == o72.isNone) = true then Q false h74 else J75 [] h74)
 h55)
 h36)
 h33
theorem E_portcullislaw07_FuseDoes (c_chip_Lay : Int → Int → Int → Int → Int → Int → Int → (Option Addr) → Nat → Nat → (Option Addr) → Nat → Nat → (Option Addr) → Nat → Nat → ((Option Addr) → Int → H → Prop) → H → Prop) (c_chip_Chip_State : Addr → ((Option Addr) → Nat → Nat → (Option Addr) → Nat → Nat → (Option Addr) → Nat → Nat → H → Prop) → H → Prop) (c_chip_Chip_Out : Addr → (Bool → H → Prop) → H → Prop) (c_portcullisref04_SameState : (Option Addr) → Nat → Nat → (Option Addr) → Nat → Nat → (Option Addr) → Nat → Nat → (Option Addr) → Nat → Nat → (Option Addr) → Nat → Nat → (Option Addr) → Nat → Nat → (Bool → H → Prop) → H → Prop) (c_chip_Chip_Acts : Addr → (Int → H → Prop) → H → Prop) (c_portcullisref04_Lay : Int → Int → Int → Int → Int → Int → Int → (Option Addr) → Nat → Nat → (Option Addr) → Nat → Nat → (Option Addr) → Nat → Nat → ((Option Addr) → Int → H → Prop) → H → Prop) (c_portcullislaw07_fixed : (Bool → H → Prop) → H → Prop) (c_portcullislaw07_step : Addr → Addr → Int → Int → Int → (Bool → H → Prop) → H → Prop) : ∀ (a0_0 : Int) (a0_1 : Int) (a0_2 : Int) (a0_3 : Int) (a0_4 : Int) (a0_5 : Int) (a0_6 : Int) (a1_0p : Option Addr) (a1_0l : Nat) (a1_0c : Nat) (a1_1p : Option Addr) (a1_1l : Nat) (a1_1c : Nat) (a1_2p : Option Addr) (a1_2l : Nat) (a1_2c : Nat) (a2p : Option Addr) (a2l : Nat) (a2c : Nat) (Q : Bool → H → Prop) (h : H), G_portcullislaw07_FuseDoes c_chip_Lay c_chip_Chip_State c_chip_Chip_Out c_portcullisref04_SameState c_chip_Chip_Acts c_portcullisref04_Lay c_portcullislaw07_fixed c_portcullislaw07_step a0_0 a0_1 a0_2 a0_3 a0_4 a0_5 a0_6 a1_0p a1_0l a1_0c a1_1p a1_1l a1_1c a1_2p a1_2l a1_2c a2p a2l a2c Q h = Dbody PP [(20, W [.ag [.int .i64, .int .i64, .int .i64, .int .i64, .int .i64, .int .i64, .int .i64], .ag [.slc, .slc, .slc]] [.ptr, .int .i64] c_chip_Lay), (22, W [.addr] [.ag [.slc, .slc, .slc]] c_chip_Chip_State), (25, W [.addr] [.bool] c_chip_Chip_Out), (26, W [.ag [.slc, .slc, .slc], .ag [.slc, .slc, .slc]] [.bool] c_portcullisref04_SameState), (27, W [.addr] [.int .i64] c_chip_Chip_Acts), (30, W [.ag [.int .i64, .int .i64, .int .i64, .int .i64, .int .i64, .int .i64, .int .i64], .ag [.slc, .slc, .slc]] [.ptr, .int .i64] c_portcullisref04_Lay), (32, W [] [.bool] c_portcullislaw07_fixed), (33, W [.addr, .addr, .ag [.int .i64, .int .i64, .int .i64]] [.bool] c_portcullislaw07_step)] [(31, []), (506, [(12, .sc (.int .i64))]), (1012, [])] Try.f6 [.agg [.c (.int .i64 a0_0), .c (.int .i64 a0_1), .c (.int .i64 a0_2), .c (.int .i64 a0_3), .c (.int .i64 a0_4), .c (.int .i64 a0_5), .c (.int .i64 a0_6)], .agg [.c (.slice a1_0p a1_0l a1_0c), .c (.slice a1_1p a1_1l a1_1c), .c (.slice a1_2p a1_2l a1_2c)], .one (.slice a2p a2l a2c)] (decR [.bool] Q) h := by
  intros; kernel_rfl
def F_portcullislaw07_FuseDoes := G_portcullislaw07_FuseDoes F_chip_Lay F_chip_Chip_State F_chip_Chip_Out F_portcullisref04_SameState F_chip_Chip_Acts F_portcullisref04_Lay F_portcullislaw07_fixed F_portcullislaw07_step
theorem R_portcullislaw07_FuseDoes : RunOk PP 6 (W [.ag [.int .i64, .int .i64, .int .i64, .int .i64, .int .i64, .int .i64, .int .i64], .ag [.slc, .slc, .slc], .slc] [.bool] F_portcullislaw07_FuseDoes) :=
  runOk_of (T := [(20, W [.ag [.int .i64, .int .i64, .int .i64, .int .i64, .int .i64, .int .i64, .int .i64], .ag [.slc, .slc, .slc]] [.ptr, .int .i64] F_chip_Lay), (22, W [.addr] [.ag [.slc, .slc, .slc]] F_chip_Chip_State), (25, W [.addr] [.bool] F_chip_Chip_Out), (26, W [.ag [.slc, .slc, .slc], .ag [.slc, .slc, .slc]] [.bool] F_portcullisref04_SameState), (27, W [.addr] [.int .i64] F_chip_Chip_Acts), (30, W [.ag [.int .i64, .int .i64, .int .i64, .int .i64, .int .i64, .int .i64, .int .i64], .ag [.slc, .slc, .slc]] [.ptr, .int .i64] F_portcullisref04_Lay), (32, W [] [.bool] F_portcullislaw07_fixed), (33, W [.addr, .addr, .ag [.int .i64, .int .i64, .int .i64]] [.bool] F_portcullislaw07_step)]) (ann := [(31, []), (506, [(12, .sc (.int .i64))]), (1012, [])]) (TblOk.cons R_chip_Lay (TblOk.cons R_chip_Chip_State (TblOk.cons R_chip_Chip_Out (TblOk.cons R_portcullisref04_SameState (TblOk.cons R_chip_Chip_Acts (TblOk.cons R_portcullisref04_Lay (TblOk.cons R_portcullislaw07_fixed (TblOk.cons R_portcullislaw07_step (TblOk.nil))))))))) Try.func6 (by kernel_rfl) (by kernel_rfl) (E_portcullislaw07_FuseDoes F_chip_Lay F_chip_Chip_State F_chip_Chip_Out F_portcullisref04_SameState F_chip_Chip_Acts F_portcullisref04_Lay F_portcullislaw07_fixed F_portcullislaw07_step)
attribute [irreducible] F_portcullislaw07_FuseDoes
def G_portcullislaw07_FuseRises (c_chip_Lay : Int →
 Int →
 Int →
 Int →
 Int →
 Int →
 Int →
 Option Addr →
 Nat →
 Nat → Option Addr → Nat → Nat → Option Addr → Nat → Nat → (Option Addr → Int → H → Prop) → H → Prop) (c_chip_Chip_State : Addr → (Option Addr → Nat → Nat → Option Addr → Nat → Nat → Option Addr → Nat → Nat → H → Prop) → H → Prop) (c_chip_Chip_Cut : Addr → Int → Option Addr → Nat → Nat → (H → Prop) → H → Prop) (c_chip_Chip_Acts : Addr → (Int → H → Prop) → H → Prop) (c_portcullislaw07_fixed : (Bool → H → Prop) → H → Prop) (c_fuse_Count : Addr → Int → (Int → Int → H → Prop) → H → Prop) (c_fuse_Raise : Addr → Int → Int → (Int → H → Prop) → H → Prop) (c_chip_Chip_Restore : Addr → (H → Prop) → H → Prop) (a0_0 : Int) (a0_1 : Int) (a0_2 : Int) (a0_3 : Int) (a0_4 : Int) (a0_5 : Int) (a0_6 : Int) (a1_0p : Option Addr) (a1_0l : Nat) (a1_0c : Nat) (a1_1p : Option Addr) (a1_1l : Nat) (a1_1c : Nat) (a1_2p : Option Addr) (a1_2l : Nat) (a1_2c : Nat) (a2 : Int) (a3 : Int) (a4 : Int) (a5 : Int) (Q : Bool → H → Prop) (h : H) : Prop :=
 ∀ (n30 : Nat) (h31 : H),
 hnew h n30 [Value.int IntKind.i64 a0_0, Value.int IntKind.i64 a0_1, Value.int IntKind.i64 a0_2, Value.int IntKind.i64 a0_3, Value.int IntKind.i64 a0_4, Value.int IntKind.i64 a0_5, Value.int IntKind.i64 a0_6] h31 →
 ∀ (n33 : Nat) (h34 : H),
 hnew h31 n33 [Value.slice a1_0p a1_0l a1_0c, Value.slice a1_1p a1_1l a1_1c, Value.slice a1_2p a1_2l a1_2c] h34 →
 c_portcullislaw07_fixed
 (fun (b36 : Bool) (h37 : H) =>
 ∃ (i38 : Int),
 hc h37 (Addr.mk n30 0 none) = some (Value.int IntKind.i64 i38) ∧
 ∃ (i39 : Int),
 hc h37 ((Addr.mk n30 0 none).add 1) = some (Value.int IntKind.i64 i39) ∧
 ∃ (i40 : Int),
 hc h37 ((Addr.mk n30 0 none).add 2) = some (Value.int IntKind.i64 i40) ∧
 ∃ (i41 : Int),
 hc h37 ((Addr.mk n30 0 none).add 3) = some (Value.int IntKind.i64 i41) ∧
 ∃ (i42 : Int),
 hc h37 ((Addr.mk n30 0 none).add 4) = some (Value.int IntKind.i64 i42) ∧
 ∃ (i43 : Int),
 hc h37 ((Addr.mk n30 0 none).add 5) = some (Value.int IntKind.i64 i43) ∧
 ∃ (i44 : Int),
 hc h37 ((Addr.mk n30 0 none).add 6) = some (Value.int IntKind.i64 i44) ∧
 ∃ (o45 : Option Addr),
 ∃ (n46 : Nat),
 ∃ (n47 : Nat),
 hc h37 (Addr.mk n33 0 none) = some (Value.slice o45 n46 n47) ∧
 ∃ (o48 : Option Addr),
 ∃ (n49 : Nat),
 ∃ (n50 : Nat),
 hc h37 ((Addr.mk n33 0 none).add 1) = some (Value.slice o48 n49 n50) ∧
 ∃ (o51 : Option Addr),
 ∃ (n52 : Nat),
 ∃ (n53 : Nat),
 hc h37 ((Addr.mk n33 0 none).add 2) = some (Value.slice o51 n52 n53) ∧
 c_chip_Lay i38 i39 i40 i41 i42 i43 i44 o45 n46 n47 o48 n49 n50 o51 n52 n53
 (fun (o54 : Option Addr) (i55 : Int) (h56 : H) =>
 ∀ (J57 : List SV → H → Prop),
 (∀ (h58 : H),
 (∃ (p59 : Addr),
 o54 = some p59 ∧
 c_fuse_Count p59 a2
 (fun (i60 i61 : Int) (h62 : H) =>
 ∀ (J63 : List SV → H → Prop),
 (∀ (h64 : H),
 (∀ (n65 : Nat) (h66 : H),
 hnew h64 n65 [Value.int IntKind.u8 a5] h66 →
 ∃ (p68 : Addr),
 o54 = some p68 ∧
 c_chip_Chip_Cut p68 a4 (some (Addr.mk n65 0 none)) 1 1
 (fun (h69 : H) =>
 ∃ (p70 : Addr),
 o54 = some p70 ∧
 c_fuse_Raise p70 a2 a3
 (fun (i71 : Int) (h72 : H) =>
 ∀ (J73 : List SV → H → Prop),
 (∀ (h74 : H),
 (∃ (p75 : Addr),
 o54 = some p75 ∧
 c_chip_Chip_Restore p75
 (fun (h76 : H) =>
 ∃ (p77 : Addr),
 o54 = some p77 ∧
 c_chip_Chip_Cut p77 (-1) none 0 0
 (fun (h78 : H) =>
 ∃ (p79 : Addr),
 o54 = some p79 ∧
 c_fuse_Count p79 a2
 (fun (i80 i81 : Int) (h82 : H) =>
 ∀ (J83 : List SV → H → Prop),
 (∀ (h84 : H),
 (∃ (p85 : Addr),
 o54 = some p85 ∧
 c_fuse_Raise p85 a2 a3
 (fun (i86 : Int) (h87 : H) =>
 ∃ (p88 : Addr),
 o54 = some p88 ∧
 c_fuse_Count p88 a2
 (fun (i89 i90 : Int) (h91 : H) =>
 ∃ (p92 : Addr),
 o54 = some p92 ∧
 c_chip_Chip_State p92
 (fun (o93 : Option Addr) (n94 n95 : Nat)
 (o96 : Option Addr) (n97 n98 : Nat)
 (o99 : Option Addr) (n100 n101 : Nat)
 (h102 : H) =>
 ∀ (n103 : Nat) (h104 : H),
 hnew h102 n103
 [Value.slice none 0 0,
 Value.slice none 0 0,
 Value.slice none 0 0]
 h104 →
 hcan h104 (Addr.mk n103 0 none) 3 ∧
 ∀ (h106 : H),
 h106 =
 hwr h104 (Addr.mk n103 0 none)
 [Value.slice o93 n94 n95,
 Value.slice o96 n97 n98,
 Value.slice o99 n100 n101] →
 ∀ (J108 : List SV → H → Prop),
 (∀ (i109 : Int) (h110 : H),
 (∃ (o111 : Option Addr),
 ∃ (n112 : Nat),
 ∃ (n113 : Nat),
 hc h110
 ((Addr.mk n103
 0
 none).add
 2) =
 some
 (Value.slice
 o111 n112
 n113) ∧
 if
 ltI i109
 (↑n112 :
 Int) =
 true then
 ∃ (i114 : Int),
 hc h110
 ((Addr.mk
 n30
 0
 none).add
 2) =
 some
 (Value.int
 IntKind.i64
 i114) ∧
 if
 ltI i109
 (IntKind.i64.wrap
 (a2 *
 i114)) =
 true then
 ∃ (o115 :
 Option
 Addr),
 ∃ (n116
 :
 Nat),
 ∃
 (n117
 :
 Nat),
 hc
 h110
 ((Addr.mk
 n103
 0
 none).add
 2) =
 some
 (Value.slice
 o115
 n116
 n117) ∧
 ∃
 (p118
 :
 Addr),
 o115 =
 some
 p118 ∧
 0 ≤
 i109 ∧
 i109 <
 (↑n116 :
 Int) ∧
 ∃
 (b119
 :
 Bool),
 hc
 h110
 (p118.add
 (i109.toNat *
 1)) =
 some
 (Value.bool
 b119) ∧
 ∃
 (o120
 :
 Option
 Addr),
 ∃
 (n121
 :
 Nat),
 ∃
 (n122
 :
 Nat),
 hc
 h110
 ((Addr.mk
 n33
 0
 none).add
 2) =
 some
 (Value.slice
 o120
 n121
 n122) ∧
 ∃
 (p123
 :
 Addr),
 o120 =
 some
 p123 ∧
 0 ≤
 i109 ∧
 i109 <
 (↑n121 :
 Int) ∧
 ∃
 (b124
 :
 Bool),
 hc
 h110
 (p123.add
 (i109.toNat *
 1)) =
 some
 (Value.bool
 b124) ∧
 if
 (!b119 ==
 b124) =
 true then
 Q
 false
 h110
 else
 ∃
 (o125
 :
 Option
 Addr),
 ∃
 (n126
 :
 Nat),
 ∃
 (n127
 :
 Nat),
 hc
 h110
 ((Addr.mk
 n33
 0
 none).add
 2) =
 some
 (Value.slice
 o125
 n126
 n127) ∧
 ∃
 (p128
 :
 Addr),
 o125 =
 some
 p128 ∧
 0 ≤
 i109 ∧
 i109 <
 (↑n126 :
 Int) ∧
 ∃
 (b129
 :
 Bool),
 hc
 h110
 (p128.add
 (i109.toNat *
 1)) =
 some
 (Value.bool
 b129) ∧
 if
 b129 =
 true then
 ∃
 (o130
 :
 Option
 Addr),
 ∃
 (n131
 :
 Nat),
 ∃
 (n132
 :
 Nat),
 hc
 h110
 ((Addr.mk
 n103
 0
 none).add
 2) =
 some
 (Value.slice
 o130
 n131
 n132) ∧
 ∃
 (p133
 :
 Addr),
 o130 =
 some
 p133 ∧
 0 ≤
 i109 ∧
 i109 <
 (↑n131 :
 Int) ∧
 ∃
 (b134
 :
 Bool),
 hc
 h110
 (p133.add
 (i109.toNat *
 1)) =
 some
 (Value.bool
 b134) ∧
 if
 (!b134) =
 true then
 Q
 false
 h110
 else
 J108
 [SV.dv
 (DV.one
 (Value.int
 IntKind.i64
 (IntKind.i64.wrap
 (i109 +
 1))))]
 h110
 else
 J108
 [SV.dv
 (DV.one
 (Value.int
 IntKind.i64
 (IntKind.i64.wrap
 (i109 +
 1))))]
 h110
 else
 ∃ (i135 :
 Int),
 hc h110
 ((Addr.mk
 n30
 0
 none).add
 2) =
 some
 (Value.int
 IntKind.i64
 i135) ∧
 if
 leI
 (IntKind.i64.wrap
 (IntKind.i64.wrap
 (a2 +
 1) *
 i135))
 i109 =
 true then
 ∃
 (o136
 :
 Option
 Addr),
 ∃
 (n137
 :
 Nat),
 ∃
 (n138
 :
 Nat),
 hc
 h110
 ((Addr.mk
 n103
 0
 none).add
 2) =
 some
 (Value.slice
 o136
 n137
 n138) ∧
 ∃
 (p139
 :
 Addr),
 o136 =
 some
 p139 ∧
 0 ≤
 i109 ∧
 i109 <
 (↑n137 :
 Int) ∧
 ∃
 (b140
 :
 Bool),
 hc
 h110
 (p139.add
 (i109.toNat *
 1)) =
 some
 (Value.bool
 b140) ∧
 ∃
 (o141
 :
 Option
 Addr),
 ∃
 (n142
 :
 Nat),
 ∃
 (n143
 :
 Nat),
 hc
 h110
 ((Addr.mk
 n33
 0
 none).add
 2) =
 some
 (Value.slice
 o141
 n142
 n143) ∧
 ∃
 (p144
 :
 Addr),
 o141 =
 some
 p144 ∧
 0 ≤
 i109 ∧
 i109 <
 (↑n142 :
 Int) ∧
 ∃
 (b145
 :
 Bool),
 hc
 h110
 (p144.add
 (i109.toNat *
 1)) =
 some
 (Value.bool
 b145) ∧
 if
 (!b140 ==
 b145) =
 true then
 Q
 false
 h110
 else
 ∃
 (o146
 :
 Option
 Addr),
 ∃
 (n147
 :
 Nat),
 ∃
 (n148
 :
 Nat),
 hc
 h110
 ((Addr.mk
 n33
 0
 none).add
 2) =
 some
 (Value.slice
 o146
 n147
 n148) ∧
 ∃
 (p149
 :
 Addr),
 o146 =
 some
 p149 ∧
 0 ≤
 i109 ∧
 i109 <
 (↑n147 :
 Int) ∧
 ∃
 (b150
 :
 Bool),
 hc
 h110
 (p149.add
 (i109.toNat *
 1)) =
 some
 (Value.bool
 b150) ∧
 if
 b150 =
 true then
 ∃
 (o151
 :
 Option
 Addr),
 ∃
 (n152
 :
 Nat),
 ∃
 (n153
 :
 Nat),
 hc
 h110
 ((Addr.mk
 n103
 0
 none).add
 2) =
 some
 (Value.slice
 o151
 n152
 n153) ∧
 ∃
 (p154
 :
 Addr),
 o151 =
 some
 p154 ∧
 0 ≤
 i109 ∧
 i109 <
 (↑n152 :
 Int) ∧
 ∃
 (b155
 :
 Bool),
 hc
 h110
 (p154.add
 (i109.toNat *
 1)) =
 some
 (Value.bool
 b155) ∧
 if
 (!b155) =
 true then
 Q
 false
 h110
 else
 J108
 [SV.dv
 (DV.one
 (Value.int
 IntKind.i64
 (IntKind.i64.wrap
 (i109 +
 1))))]
 h110
 else
 J108
 [SV.dv
 (DV.one
 (Value.int
 IntKind.i64
 (IntKind.i64.wrap
 (i109 +
 1))))]
 h110
 else
 ∃
 (o156
 :
 Option
 Addr),
 ∃
 (n157
 :
 Nat),
 ∃
 (n158
 :
 Nat),
 hc
 h110
 ((Addr.mk
 n33
 0
 none).add
 2) =
 some
 (Value.slice
 o156
 n157
 n158) ∧
 ∃
 (p159
 :
 Addr),
 o156 =
 some
 p159 ∧
 0 ≤
 i109 ∧
 i109 <
 (↑n157 :
 Int) ∧
 ∃
 (b160
 :
 Bool),
 hc
 h110
 (p159.add
 (i109.toNat *
 1)) =
 some
 (Value.bool
 b160) ∧
 if
 b160 =
 true then
 ∃
 (o161
 :
 Option
 Addr),
 ∃
 (n162
 :
 Nat),
 ∃
 (n163
 :
 Nat),
 hc
 h110
 ((Addr.mk
 n103
 0
 none).add
 2) =
 some
 (Value.slice
 o161
 n162
 n163) ∧
 ∃
 (p164
 :
 Addr),
 o161 =
 some
 p164 ∧
 0 ≤
 i109 ∧
 i109 <
 (↑n162 :
 Int) ∧
 ∃
 (b165
 :
 Bool),
 hc
 h110
 (p164.add
 (i109.toNat *
 1)) =
 some
 (Value.bool
 b165) ∧
 if
 (!b165) =
 true then
 Q
 false
 h110
 else
 J108
 [SV.dv
 (DV.one
 (Value.int
 IntKind.i64
 (IntKind.i64.wrap
 (i109 +
 1))))]
 h110
 else
 J108
 [SV.dv
 (DV.one
 (Value.int
 IntKind.i64
 (IntKind.i64.wrap
 (i109 +
 1))))]
 h110
 else
 if
 (i86 == 0) =
 true then
 Q
 (i89 ==
 IntKind.i64.wrap
 (i60 +
 if
 IntKind.i64.wrap
 (a3 -
 i60) >
 0 then
 IntKind.i64.wrap
 (a3 -
 i60)
 else
 0))
 h110
 else
 Q false
 h110) →
 J108
 [SV.dv
 (DV.one
 (Value.int
 IntKind.i64
 i109))]
 h110) →
 J108
 [SV.dv
 (DV.one
 (Value.int IntKind.i64
 0))]
 h106)
 h91)
 h87)
 h84) →
 J83 [] h84) →
 if (i61 != 0) = true then Q false h82
 else
 if (i81 != 0) = true then Q false h82
 else
 if ltI i80 i60 = true then Q false h82
 else
 if
 ltI
 (IntKind.i64.wrap
 (i60 +
 if IntKind.i64.wrap (a3 - i60) > 0 then
 IntKind.i64.wrap (a3 - i60)
 else 0))
 i80 =
 true then
 Q false h82
 else
 if (i71 == 0) = true then
 if
 (i80 !=
 IntKind.i64.wrap
 (i60 +
 if IntKind.i64.wrap (a3 - i60) > 0 then
 IntKind.i64.wrap (a3 - i60)
 else 0)) =
 true then
 Q false h82
 else
 if (i71 != 0) = true then
 if (i71 != 8) = true then Q false h82
 else
 if ltI a4 0 = true then Q false h82
 else
 if
 leI
 (if IntKind.i64.wrap (a3 - i60) > 0 then
 IntKind.i64.wrap (a3 - i60)
 else 0)
 a4 =
 true then
 Q false h82
 else J83 [] h82
 else J83 [] h82
 else
 if (i71 != 0) = true then
 if (i71 != 8) = true then Q false h82
 else
 if ltI a4 0 = true then Q false h82
 else
 if
 leI
 (if IntKind.i64.wrap (a3 - i60) > 0 then
 IntKind.i64.wrap (a3 - i60)
 else 0)
 a4 =
 true then
 Q false h82
 else J83 [] h82
 else J83 [] h82)
 h78)
 h76)
 h74) →
 J73 [] h74) →
 if ltI a3 0 = true then
 if (i71 == 2) = true then
 ∃ (p172 : Addr),
 o54 = some p172 ∧ c_chip_Chip_Acts p172 (fun (i173 : Int) (h174 : H) => Q (i173 == 0) h174) h72
 else Q false h72
 else
 ∃ (i175 : Int),
 hc h72 ((Addr.mk n30 0 none).add 2) = some (Value.int IntKind.i64 i175) ∧
 if ltI i175 a3 = true then
 if (i71 == 2) = true then
 ∃ (p176 : Addr),
 o54 = some p176 ∧
 c_chip_Chip_Acts p176 (fun (i177 : Int) (h178 : H) => Q (i177 == 0) h178) h72
 else Q false h72
 else J73 [] h72)
 h69)
 h66) →
 J63 [] h64) →
 if ltI a2 0 = true then Q (i61 == 2) h62
 else
 ∃ (i181 : Int),
 hc h62 ((Addr.mk n30 0 none).add 1) = some (Value.int IntKind.i64 i181) ∧
 if leI i181 a2 = true then Q (i61 == 2) h62 else J63 [] h62)
 h58) →
 J57 [] h58) →
 if (!b36) = true then if b36 = true then Q (o54.isNone == (i55 != 0)) h56 else Q false h56
 else
 if o54.isNone = true then if b36 = true then Q (o54.isNone == (i55 != 0)) h56 else Q false h56
 else if (i55 != 0) = true then if b36 = true then Q (o54.isNone == (i55 != 0)) h56 else Q false h56 else J57 [] h56)
 h37)
 h34
theorem E_portcullislaw07_FuseRises (c_chip_Lay : Int → Int → Int → Int → Int → Int → Int → (Option Addr) → Nat → Nat → (Option Addr) → Nat → Nat → (Option Addr) → Nat → Nat → ((Option Addr) → Int → H → Prop) → H → Prop) (c_chip_Chip_State : Addr → ((Option Addr) → Nat → Nat → (Option Addr) → Nat → Nat → (Option Addr) → Nat → Nat → H → Prop) → H → Prop) (c_chip_Chip_Cut : Addr → Int → (Option Addr) → Nat → Nat → (H → Prop) → H → Prop) (c_chip_Chip_Acts : Addr → (Int → H → Prop) → H → Prop) (c_portcullislaw07_fixed : (Bool → H → Prop) → H → Prop) (c_fuse_Count : Addr → Int → (Int → Int → H → Prop) → H → Prop) (c_fuse_Raise : Addr → Int → Int → (Int → H → Prop) → H → Prop) (c_chip_Chip_Restore : Addr → (H → Prop) → H → Prop) : ∀ (a0_0 : Int) (a0_1 : Int) (a0_2 : Int) (a0_3 : Int) (a0_4 : Int) (a0_5 : Int) (a0_6 : Int) (a1_0p : Option Addr) (a1_0l : Nat) (a1_0c : Nat) (a1_1p : Option Addr) (a1_1l : Nat) (a1_1c : Nat) (a1_2p : Option Addr) (a1_2l : Nat) (a1_2c : Nat) (a2 : Int) (a3 : Int) (a4 : Int) (a5 : Int) (Q : Bool → H → Prop) (h : H), G_portcullislaw07_FuseRises c_chip_Lay c_chip_Chip_State c_chip_Chip_Cut c_chip_Chip_Acts c_portcullislaw07_fixed c_fuse_Count c_fuse_Raise c_chip_Chip_Restore a0_0 a0_1 a0_2 a0_3 a0_4 a0_5 a0_6 a1_0p a1_0l a1_0c a1_1p a1_1l a1_1c a1_2p a1_2l a1_2c a2 a3 a4 a5 Q h = Dbody PP [(20, W [.ag [.int .i64, .int .i64, .int .i64, .int .i64, .int .i64, .int .i64, .int .i64], .ag [.slc, .slc, .slc]] [.ptr, .int .i64] c_chip_Lay), (22, W [.addr] [.ag [.slc, .slc, .slc]] c_chip_Chip_State), (23, W [.addr, .int .i64, .slc] [] c_chip_Chip_Cut), (27, W [.addr] [.int .i64] c_chip_Chip_Acts), (32, W [] [.bool] c_portcullislaw07_fixed), (34, W [.addr, .int .i64] [.int .i64, .int .i64] c_fuse_Count), (35, W [.addr, .int .i64, .int .i64] [.int .i64] c_fuse_Raise), (36, W [.addr] [] c_chip_Chip_Restore)] [(15, []), (63, []), (511, []), (16383, []), (2097146, [(26, .sc (.int .i64))])] Try.f7 [.agg [.c (.int .i64 a0_0), .c (.int .i64 a0_1), .c (.int .i64 a0_2), .c (.int .i64 a0_3), .c (.int .i64 a0_4), .c (.int .i64 a0_5), .c (.int .i64 a0_6)], .agg [.c (.slice a1_0p a1_0l a1_0c), .c (.slice a1_1p a1_1l a1_1c), .c (.slice a1_2p a1_2l a1_2c)], .one (.int .i64 a2), .one (.int .i64 a3), .one (.int .i64 a4), .one (.int .u8 a5)] (decR [.bool] Q) h := by
  intros; kernel_rfl
def F_portcullislaw07_FuseRises := G_portcullislaw07_FuseRises F_chip_Lay F_chip_Chip_State F_chip_Chip_Cut F_chip_Chip_Acts F_portcullislaw07_fixed F_fuse_Count F_fuse_Raise F_chip_Chip_Restore
theorem R_portcullislaw07_FuseRises : RunOk PP 7 (W [.ag [.int .i64, .int .i64, .int .i64, .int .i64, .int .i64, .int .i64, .int .i64], .ag [.slc, .slc, .slc], .int .i64, .int .i64, .int .i64, .int .u8] [.bool] F_portcullislaw07_FuseRises) :=
  runOk_of (T := [(20, W [.ag [.int .i64, .int .i64, .int .i64, .int .i64, .int .i64, .int .i64, .int .i64], .ag [.slc, .slc, .slc]] [.ptr, .int .i64] F_chip_Lay), (22, W [.addr] [.ag [.slc, .slc, .slc]] F_chip_Chip_State), (23, W [.addr, .int .i64, .slc] [] F_chip_Chip_Cut), (27, W [.addr] [.int .i64] F_chip_Chip_Acts), (32, W [] [.bool] F_portcullislaw07_fixed), (34, W [.addr, .int .i64] [.int .i64, .int .i64] F_fuse_Count), (35, W [.addr, .int .i64, .int .i64] [.int .i64] F_fuse_Raise), (36, W [.addr] [] F_chip_Chip_Restore)]) (ann := [(15, []), (63, []), (511, []), (16383, []), (2097146, [(26, .sc (.int .i64))])]) (TblOk.cons R_chip_Lay (TblOk.cons R_chip_Chip_State (TblOk.cons R_chip_Chip_Cut (TblOk.cons R_chip_Chip_Acts (TblOk.cons R_portcullislaw07_fixed (TblOk.cons R_fuse_Count (TblOk.cons R_fuse_Raise (TblOk.cons R_chip_Chip_Restore (TblOk.nil))))))))) Try.func7 (by kernel_rfl) (by kernel_rfl) (E_portcullislaw07_FuseRises F_chip_Lay F_chip_Chip_State F_chip_Chip_Cut F_chip_Chip_Acts F_portcullislaw07_fixed F_fuse_Count F_fuse_Raise F_chip_Chip_Restore)
attribute [irreducible] F_portcullislaw07_FuseRises
def G_page_Info_lay (a0 : Addr) (a1 : Int) (a2_0 : Int) (a2_1 : Int) (a2_2 : Int) (Q : H → Prop) (h : H) : Prop :=
 ∀ (n7 : Nat) (h8 : H),
 hnew h n7 [Value.int IntKind.i64 a2_0, Value.int IntKind.i64 a2_1, Value.int IntKind.i64 a2_2] h8 →
 ∀ (J10 : List SV → H → Prop),
 (∀ (h11 : H),
 (∃ (i12 : Int),
 hc h11 (Addr.mk n7 0 none) = some (Value.int IntKind.i64 i12) ∧
 if (i12 == 3) = true then
 ∃ (i13 : Int), hc h11 (a0.add 12) = some (Value.int IntKind.i64 i13) ∧ hcan h11 (a0.add 12) 1 ∧ ∀ (h14 : H), h14 = hwr h11 (a0.add 12) [Value.int IntKind.i64 (IntKind.i64.wrap (i13 + 1))] → Q h14
 else
 ∀ (J16 : List SV → H → Prop),
 (∀ (b17 : Bool) (h18 : H),
 (if b17 = true then ∃ (i19 : Int), hc h18 ((Addr.mk n7 0 none).add 2) = some (Value.int IntKind.i64 i19) ∧ hcan h18 a0 1 ∧ ∀ (h20 : H), h20 = hwr h18 a0 [Value.int IntKind.i64 i19] → Q h20
 else
 ∃ (i22 : Int),
 hc h18 (Addr.mk n7 0 none) = some (Value.int IntKind.i64 i22) ∧
 if (i22 == 2) = true then
 if ltI 0 a1 = true then
 ∃ (i23 : Int),
 hc h18 ((Addr.mk n7 0 none).add 1) = some (Value.int IntKind.i64 i23) ∧
 ∃ (i24 : Int),
 hc h18 ((Addr.mk n7 0 none).add 1) = some (Value.int IntKind.i64 i24) ∧
 0 ≤ i24 ∧
 i24 < (↑9 : Int) ∧
 ∃ (i25 : Int),
 hc h18 ((a0.add 1).add (i24.toNat * 1)) = some (Value.int IntKind.i64 i25) ∧
 ∃ (i26 : Int),
 hc h18 ((Addr.mk n7 0 none).add 2) = some (Value.int IntKind.i64 i26) ∧
 0 ≤ i23 ∧
 i23 < (↑9 : Int) ∧
 hcan h18 ((a0.add 1).add (i23.toNat * 1)) 1 ∧
 ∀ (h27 : H), h27 = hwr h18 ((a0.add 1).add (i23.toNat * 1)) [Value.int IntKind.i64 (if i26 > i25 then i26 else i25)] → Q h27
 else Q h18
 else Q h18) →
 J16 [SV.dv (DV.one (Value.bool b17))] h18) →
 ∃ (i31 : Int),
 hc h11 (Addr.mk n7 0 none) = some (Value.int IntKind.i64 i31) ∧ if (i31 == 1) = true then J16 [SV.dv (DV.one (Value.bool (a1 == 0)))] h11 else J16 [SV.dv (DV.one (Value.bool false))] h11) →
 J10 [] h11) →
 ∃ (i34 : Int),
 hc h8 (Addr.mk n7 0 none) = some (Value.int IntKind.i64 i34) ∧
 if (i34 != 0) = true then hcan h8 (a0.add 10) 1 ∧ ∀ (h35 : H), h35 = hwr h8 (a0.add 10) [Value.int IntKind.i64 (IntKind.i64.wrap (a1 + 1))] → J10 [] h35 else J10 [] h8
theorem E_page_Info_lay  : ∀ (a0 : Addr) (a1 : Int) (a2_0 : Int) (a2_1 : Int) (a2_2 : Int) (Q : H → Prop) (h : H), G_page_Info_lay a0 a1 a2_0 a2_1 a2_2 Q h = Dbody PP [] [(3, []), (59, [(25, .sc (.bool))])] Try.f94 [.addr a0, .one (.int .i64 a1), .agg [.c (.int .i64 a2_0), .c (.int .i64 a2_1), .c (.int .i64 a2_2)]] (decR [] Q) h := by
  intros; kernel_rfl
def F_page_Info_lay := G_page_Info_lay
theorem R_page_Info_lay : RunOk PP 94 (W [.addr, .int .i64, .ag [.int .i64, .int .i64, .int .i64]] [] F_page_Info_lay) :=
  runOk_of (T := []) (ann := [(3, []), (59, [(25, .sc (.bool))])]) (TblOk.nil) Try.func94 (by kernel_rfl) (by kernel_rfl) (E_page_Info_lay)
attribute [irreducible] F_page_Info_lay
def G_cell_put (a0p : Option Addr) (a0l : Nat) (a0c : Nat) (a1 : Int) (Q : H → Prop) (h : H) : Prop :=
 ∀ (J6 : List SV → H → Prop),
 (∀ (i7 : Int) (h8 : H),
 (if ltI i7 (↑a0l : Int) = true then
 0 ≤ IntKind.i64.wrap (8 * i7) ∧
 ∃ (p9 : Addr),
 a0p = some p9 ∧
 0 ≤ i7 ∧
 i7 < (↑a0l : Int) ∧
 hcan h8 (p9.add (i7.toNat * 1)) 1 ∧
 ∀ (h10 : H),
 h10 = hwr h8 (p9.add (i7.toNat * 1)) [Value.int IntKind.u8 (IntKind.u8.wrap (a1.fdiv (2 ^ min (IntKind.i64.wrap (8 * i7)).toNat 64)))] →
 J6 [SV.dv (DV.one (Value.int IntKind.i64 (IntKind.i64.wrap (i7 + 1))))] h10
 else Q h8) →
 J6 [SV.dv (DV.one (Value.int IntKind.i64 i7))] h8) →
 J6 [SV.dv (DV.one (Value.int IntKind.i64 0))] h
theorem E_cell_put  : ∀ (a0p : Option Addr) (a0l : Nat) (a0c : Nat) (a1 : Int) (Q : H → Prop) (h : H), G_cell_put a0p a0l a0c a1 Q h = Dbody PP [] [(6, [(7, .sc (.int .i64))])] Try.f147 [.one (.slice a0p a0l a0c), .one (.int .u64 a1)] (decR [] Q) h := by
  intros; kernel_rfl
def F_cell_put := G_cell_put
theorem R_cell_put : RunOk PP 147 (W [.slc, .int .u64] [] F_cell_put) :=
  runOk_of (T := []) (ann := [(6, [(7, .sc (.int .i64))])]) (TblOk.nil) Try.func147 (by kernel_rfl) (by kernel_rfl) (E_cell_put)
attribute [irreducible] F_cell_put
def G_crc_New (Q : Option Addr → H → Prop) (h : H) : Prop :=
 ∀ (n2 : Nat) (h3 : H), hnew h n2 [Value.int IntKind.u32 0] h3 → Q (some (Addr.mk n2 0 none)) h3
theorem E_crc_New  : ∀ (Q : (Option Addr) → H → Prop) (h : H), G_crc_New Q h = Dbody PP [] [] Try.f170 [] (decR [.ptr] Q) h := by
  intros; kernel_rfl
def F_crc_New := G_crc_New
theorem R_crc_New : RunOk PP 170 (W [] [.ptr] F_crc_New) :=
  runOk_of (T := []) (ann := []) (TblOk.nil) Try.func170 (by kernel_rfl) (by kernel_rfl) (E_crc_New)
attribute [irreducible] F_crc_New
end Go.Proofs.Ytamfkofcpoglnaa
