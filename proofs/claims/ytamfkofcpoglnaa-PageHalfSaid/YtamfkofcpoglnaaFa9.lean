/- The denotations of some functions of the program, printed by a program of ours (wip/tools/vcgen.py), and that they are the model's. -/
import Derived.Test.YtamfkofcpoglnaaFa0
import Derived.Test.YtamfkofcpoglnaaFa1
import Derived.Test.YtamfkofcpoglnaaFa2
import Derived.Test.YtamfkofcpoglnaaFa3
import Derived.Test.YtamfkofcpoglnaaFa4
import Derived.Test.YtamfkofcpoglnaaFa5
import Derived.Test.YtamfkofcpoglnaaFa6
import Derived.Test.YtamfkofcpoglnaaFa8
set_option autoImplicit false
set_option linter.all false
set_option linter.unusedVariables false
set_option maxRecDepth 100000
namespace Go.Proofs.Ytamfkofcpoglnaa
open Go Go.Vc
def G_portcullisref06_Read (c_portcullisref06_Blank : (List Int → H → Prop) → H → Prop) (c_portcullisref06_Head : Int → (List Int → Int → H → Prop) → H → Prop) (c_portcullisref06_Value : Int → Int → (List Int → Int → H → Prop) → H → Prop) (a0_0 : List Int) (Q : Int → Int → Int → H → Prop) (h : H) : Prop :=
 ∀ (n6 : Nat) (h7 : H),
 hnew h n6 (ints IntKind.u8 a0_0 ++ []) h7 →
 ∀ (n9 : Nat) (h10 : H),
 hnew h7 n9 [Value.int IntKind.i64 0, Value.int IntKind.i64 0, Value.int IntKind.i64 0] h10 →
 ∃ (l12 : List Int),
 l12.length = 32 ∧
 hrow h10 (Addr.mk n6 0 none) IntKind.u8 l12 ∧
 c_portcullisref06_Blank
 (fun (l13 : List Int) (h14 : H) =>
 hcs h14 (Addr.mk n6 0 none) (ints IntKind.u8 l12 ++ []) ∧
 if (l12 == l13) = true then
 hcan h14 (Addr.mk n9 0 none) 3 ∧
 ∀ (h15 : H),
 h15 = hwr h14 (Addr.mk n9 0 none) [Value.int IntKind.i64 0, Value.int IntKind.i64 0, Value.int IntKind.i64 0] →
 ∃ (i17 : Int),
 hc h15 (Addr.mk n9 0 none) = some (Value.int IntKind.i64 i17) ∧
 ∃ (i18 : Int),
 hc h15 ((Addr.mk n9 0 none).add 1) = some (Value.int IntKind.i64 i18) ∧ ∃ (i19 : Int), hc h15 ((Addr.mk n9 0 none).add 2) = some (Value.int IntKind.i64 i19) ∧ Q i17 i18 i19 h15
 else
 ∀ (J20 : List SV → H → Prop),
 (∀ (i21 i22 : Int) (h23 : H),
 (if ltI i22 8 = true then
 0 ≤ IntKind.i64.wrap (4 + i22) ∧
 IntKind.i64.wrap (4 + i22) < (↑32 : Int) ∧
 ∃ (i24 : Int),
 hc h23 ((Addr.mk n6 0 none).add ((IntKind.i64.wrap (4 + i22)).toNat * 1)) = some (Value.int IntKind.u8 i24) ∧
 0 ≤ IntKind.i64.wrap (8 * i22) ∧
 J20
 [SV.dv (DV.one (Value.int IntKind.i64 (bits BinOp.or IntKind.i64 i21 (IntKind.i64.wrap (IntKind.i64.wrap i24 * 2 ^ min (IntKind.i64.wrap (8 * i22)).toNat 64))))),
 SV.dv (DV.one (Value.int IntKind.i64 (IntKind.i64.wrap (i22 + 1))))]
 h23
 else
 ∀ (J25 : List SV → H → Prop),
 (∀ (h26 : H),
 ((0 : Int) ≤ 1 ∧
 (1 : Int) < (↑32 : Int) ∧
 ∃ (i27 : Int),
 hc h26 ((Addr.mk n6 0 none).add 1) = some (Value.int IntKind.u8 i27) ∧
 c_portcullisref06_Value (IntKind.i64.wrap i27) i21
 (fun (l28 : List Int) (i29 : Int) (h30 : H) =>
 ∀ (n31 : Nat) (h32 : H),
 hnew h30 n31 (ints IntKind.u8 (zeros 32)) h32 →
 hcan h32 (Addr.mk n31 0 none) 32 ∧
 ∀ (h34 : H),
 h34 = hwr h32 (Addr.mk n31 0 none) (ints IntKind.u8 l28 ++ []) →
 if (i29 == 0) = true then
 ∃ (l36 : List Int),
 l36.length = 32 ∧
 hrow h34 (Addr.mk n31 0 none) IntKind.u8 l36 ∧
 ∃ (l37 : List Int),
 l37.length = 32 ∧
 hrow h34 (Addr.mk n6 0 none) IntKind.u8 l37 ∧
 if (l36 == l37) = true then
 (0 : Int) ≤ 1 ∧
 (1 : Int) < (↑32 : Int) ∧
 ∃ (i38 : Int),
 hc h34 ((Addr.mk n6 0 none).add 1) = some (Value.int IntKind.u8 i38) ∧
 hcan h34 (Addr.mk n9 0 none) 3 ∧
 ∀ (h39 : H),
 h39 =
 hwr h34 (Addr.mk n9 0 none)
 [Value.int IntKind.i64 2, Value.int IntKind.i64 (IntKind.i64.wrap i38), Value.int IntKind.i64 i21] →
 ∃ (i41 : Int),
 hc h39 (Addr.mk n9 0 none) = some (Value.int IntKind.i64 i41) ∧
 ∃ (i42 : Int),
 hc h39 ((Addr.mk n9 0 none).add 1) = some (Value.int IntKind.i64 i42) ∧
 ∃ (i43 : Int), hc h39 ((Addr.mk n9 0 none).add 2) = some (Value.int IntKind.i64 i43) ∧ Q i41 i42 i43 h39
 else
 hcan h34 (Addr.mk n9 0 none) 3 ∧
 ∀ (h44 : H),
 h44 = hwr h34 (Addr.mk n9 0 none) [Value.int IntKind.i64 3, Value.int IntKind.i64 0, Value.int IntKind.i64 0] →
 ∃ (i46 : Int),
 hc h44 (Addr.mk n9 0 none) = some (Value.int IntKind.i64 i46) ∧
 ∃ (i47 : Int),
 hc h44 ((Addr.mk n9 0 none).add 1) = some (Value.int IntKind.i64 i47) ∧
 ∃ (i48 : Int), hc h44 ((Addr.mk n9 0 none).add 2) = some (Value.int IntKind.i64 i48) ∧ Q i46 i47 i48 h44
 else
 hcan h34 (Addr.mk n9 0 none) 3 ∧
 ∀ (h49 : H),
 h49 = hwr h34 (Addr.mk n9 0 none) [Value.int IntKind.i64 3, Value.int IntKind.i64 0, Value.int IntKind.i64 0] →
 ∃ (i51 : Int),
 hc h49 (Addr.mk n9 0 none) = some (Value.int IntKind.i64 i51) ∧
 ∃ (i52 : Int),
 hc h49 ((Addr.mk n9 0 none).add 1) = some (Value.int IntKind.i64 i52) ∧
 ∃ (i53 : Int), hc h49 ((Addr.mk n9 0 none).add 2) = some (Value.int IntKind.i64 i53) ∧ Q i51 i52 i53 h49)
 h26) →
 J25 [] h26) →
 c_portcullisref06_Head i21
 (fun (l56 : List Int) (i57 : Int) (h58 : H) =>
 ∀ (n59 : Nat) (h60 : H),
 hnew h58 n59 (ints IntKind.u8 (zeros 32)) h60 →
 hcan h60 (Addr.mk n59 0 none) 32 ∧
 ∀ (h62 : H),
 h62 = hwr h60 (Addr.mk n59 0 none) (ints IntKind.u8 l56 ++ []) →
 if (i57 == 0) = true then
 ∃ (l64 : List Int),
 l64.length = 32 ∧
 hrow h62 (Addr.mk n59 0 none) IntKind.u8 l64 ∧
 ∃ (l65 : List Int),
 l65.length = 32 ∧
 hrow h62 (Addr.mk n6 0 none) IntKind.u8 l65 ∧
 if (l64 == l65) = true then
 hcan h62 (Addr.mk n9 0 none) 3 ∧
 ∀ (h66 : H),
 h66 = hwr h62 (Addr.mk n9 0 none) [Value.int IntKind.i64 1, Value.int IntKind.i64 0, Value.int IntKind.i64 i21] →
 ∃ (i68 : Int),
 hc h66 (Addr.mk n9 0 none) = some (Value.int IntKind.i64 i68) ∧
 ∃ (i69 : Int),
 hc h66 ((Addr.mk n9 0 none).add 1) = some (Value.int IntKind.i64 i69) ∧
 ∃ (i70 : Int), hc h66 ((Addr.mk n9 0 none).add 2) = some (Value.int IntKind.i64 i70) ∧ Q i68 i69 i70 h66
 else J25 [] h62
 else J25 [] h62)
 h23) →
 J20 [SV.dv (DV.one (Value.int IntKind.i64 i21)), SV.dv (DV.one (Value.int IntKind.i64 i22))] h23) →
 J20 [SV.dv (DV.one (Value.int IntKind.i64 0)), SV.dv (DV.one (Value.int IntKind.i64 0))] h14)
 h10
theorem E_portcullisref06_Read (c_portcullisref06_Blank : ((List Int) → H → Prop) → H → Prop) (c_portcullisref06_Head : Int → ((List Int) → Int → H → Prop) → H → Prop) (c_portcullisref06_Value : Int → Int → ((List Int) → Int → H → Prop) → H → Prop) : ∀ (a0_0 : List Int) (Q : Int → Int → Int → H → Prop) (h : H), G_portcullisref06_Read c_portcullisref06_Blank c_portcullisref06_Head c_portcullisref06_Value a0_0 Q h = Dbody PP [(167, W [] [.ag [.row .u8 32]] c_portcullisref06_Blank), (168, W [.int .i64] [.ag [.row .u8 32], .int .i64] c_portcullisref06_Head), (169, W [.int .i64, .int .i64] [.ag [.row .u8 32], .int .i64] c_portcullisref06_Value)] [(31, []), (122, [(3, .sc (.int .i64)), (4, .sc (.int .i64))])] Try.f144 [.agg [.row .u8 32 a0_0]] (decR [.ag [.int .i64, .int .i64, .int .i64]] Q) h := by
  intros; kernel_rfl
def F_portcullisref06_Read := G_portcullisref06_Read F_portcullisref06_Blank F_portcullisref06_Head F_portcullisref06_Value
theorem R_portcullisref06_Read : RunOk PP 144 (W [.ag [.row .u8 32]] [.ag [.int .i64, .int .i64, .int .i64]] F_portcullisref06_Read) :=
  runOk_of (T := [(167, W [] [.ag [.row .u8 32]] F_portcullisref06_Blank), (168, W [.int .i64] [.ag [.row .u8 32], .int .i64] F_portcullisref06_Head), (169, W [.int .i64, .int .i64] [.ag [.row .u8 32], .int .i64] F_portcullisref06_Value)]) (ann := [(31, []), (122, [(3, .sc (.int .i64)), (4, .sc (.int .i64))])]) (TblOk.cons R_portcullisref06_Blank (TblOk.cons R_portcullisref06_Head (TblOk.cons R_portcullisref06_Value (TblOk.nil)))) Try.func144 (by kernel_rfl) (by kernel_rfl) (E_portcullisref06_Read F_portcullisref06_Blank F_portcullisref06_Head F_portcullisref06_Value)
attribute [irreducible] F_portcullisref06_Read
def G_portcullisref08_Of (c_portcullisref06_Read : List Int → (Int → Int → Int → H → Prop) → H → Prop) (a0p : Option Addr) (a0l : Nat) (a0c : Nat) (Q : Int → List Int → Int → Bool → Int → H → Prop) (h : H) : Prop :=
 ∀ (n6 : Nat) (h7 : H),
 hnew h n6 (Value.int IntKind.i64 0 :: (ints IntKind.i64 (zeros 9) ++ [Value.int IntKind.i64 0, Value.bool false, Value.int IntKind.i64 0])) h7 →
 ∀ (n9 : Nat) (h10 : H),
 hnew h7 n9 (Value.int IntKind.i64 0 :: (ints IntKind.i64 (zeros 9) ++ [Value.int IntKind.i64 0, Value.bool false, Value.int IntKind.i64 0])) h10 →
 hcan h10 (Addr.mk n9 0 none) 13 ∧
 ∀ (h12 : H),
 h12 = hwr h10 (Addr.mk n9 0 none) (Value.int IntKind.i64 0 :: (ints IntKind.i64 (zeros 9) ++ [Value.int IntKind.i64 0, Value.bool false, Value.int IntKind.i64 0])) →
 ∀ (J14 : List SV → H → Prop),
 (∀ (i15 : Int) (h16 : H),
 (if ltI i15 (↑a0l : Int) = true then
 ∃ (p17 : Addr),
 a0p = some p17 ∧
 0 ≤ i15 ∧
 i15 < (↑a0l : Int) ∧
 ∃ (l18 : List Int),
 l18.length = 32 ∧
 hrow h16 (p17.add (i15.toNat * 32)) IntKind.u8 l18 ∧
 c_portcullisref06_Read l18
 (fun (i19 i20 i21 : Int) (h22 : H) =>
 ∀ (n23 : Nat) (h24 : H),
 hnew h22 n23 [Value.int IntKind.i64 0, Value.int IntKind.i64 0, Value.int IntKind.i64 0] h24 →
 hcan h24 (Addr.mk n23 0 none) 3 ∧
 ∀ (h26 : H),
 h26 = hwr h24 (Addr.mk n23 0 none) [Value.int IntKind.i64 i19, Value.int IntKind.i64 i20, Value.int IntKind.i64 i21] →
 ∀ (J28 : List SV → H → Prop),
 (∀ (h29 : H),
 (∃ (i30 : Int),
 hc h29 (Addr.mk n23 0 none) = some (Value.int IntKind.i64 i30) ∧
 if (i30 == 3) = true then
 ∃ (i31 : Int),
 hc h29 ((Addr.mk n9 0 none).add 12) = some (Value.int IntKind.i64 i31) ∧
 hcan h29 ((Addr.mk n9 0 none).add 12) 1 ∧
 ∀ (h32 : H),
 h32 = hwr h29 ((Addr.mk n9 0 none).add 12) [Value.int IntKind.i64 (IntKind.i64.wrap (i31 + 1))] →
 J14 [SV.dv (DV.one (Value.int IntKind.i64 (IntKind.i64.wrap (i15 + 1))))] h32
 else
 ∀ (J34 : List SV → H → Prop),
 (∀ (b35 : Bool) (h36 : H),
 (if b35 = true then
 ∃ (i37 : Int),
 hc h36 ((Addr.mk n23 0 none).add 2) = some (Value.int IntKind.i64 i37) ∧
 hcan h36 (Addr.mk n9 0 none) 1 ∧
 ∀ (h38 : H),
 h38 = hwr h36 (Addr.mk n9 0 none) [Value.int IntKind.i64 i37] →
 J14 [SV.dv (DV.one (Value.int IntKind.i64 (IntKind.i64.wrap (i15 + 1))))] h38
 else
 ∀ (J40 : List SV → H → Prop),
 (∀ (b41 : Bool) (h42 : H),
 (if b41 = true then
 ∃ (i43 : Int),
 hc h42 ((Addr.mk n23 0 none).add 1) = some (Value.int IntKind.i64 i43) ∧
 ∃ (i44 : Int),
 hc h42 ((Addr.mk n23 0 none).add 1) = some (Value.int IntKind.i64 i44) ∧
 0 ≤ i44 ∧
 i44 < (↑9 : Int) ∧
 ∃ (i45 : Int),
 hc h42 (((Addr.mk n9 0 none).add 1).add (i44.toNat * 1)) = some (Value.int IntKind.i64 i45) ∧
 ∃ (i46 : Int),
 hc h42 ((Addr.mk n23 0 none).add 2) = some (Value.int IntKind.i64 i46) ∧
 0 ≤ i43 ∧
 i43 < (↑9 : Int) ∧
 hcan h42 (((Addr.mk n9 0 none).add 1).add (i43.toNat * 1)) 1 ∧
 ∀ (h47 : H),
 h47 =
 hwr h42 (((Addr.mk n9 0 none).add 1).add (i43.toNat * 1))
 [Value.int IntKind.i64 (if i46 > i45 then i46 else i45)] →
 J14 [SV.dv (DV.one (Value.int IntKind.i64 (IntKind.i64.wrap (i15 + 1))))] h47
 else J14 [SV.dv (DV.one (Value.int IntKind.i64 (IntKind.i64.wrap (i15 + 1))))] h42) →
 J40 [SV.dv (DV.one (Value.bool b41))] h42) →
 ∃ (i51 : Int),
 hc h36 (Addr.mk n23 0 none) = some (Value.int IntKind.i64 i51) ∧
 if (i51 == 2) = true then
 if ltI 0 i15 = true then
 ∃ (i52 : Int),
 hc h36 ((Addr.mk n23 0 none).add 1) = some (Value.int IntKind.i64 i52) ∧
 if leI 0 i52 = true then
 ∃ (i53 : Int),
 hc h36 ((Addr.mk n23 0 none).add 1) = some (Value.int IntKind.i64 i53) ∧
 J40 [SV.dv (DV.one (Value.bool (leI i53 8)))] h36
 else J40 [SV.dv (DV.one (Value.bool false))] h36
 else J40 [SV.dv (DV.one (Value.bool false))] h36
 else J40 [SV.dv (DV.one (Value.bool false))] h36) →
 J34 [SV.dv (DV.one (Value.bool b35))] h36) →
 ∃ (i56 : Int),
 hc h29 (Addr.mk n23 0 none) = some (Value.int IntKind.i64 i56) ∧
 if (i56 == 1) = true then J34 [SV.dv (DV.one (Value.bool (i15 == 0)))] h29 else J34 [SV.dv (DV.one (Value.bool false))] h29) →
 J28 [] h29) →
 ∃ (i59 : Int),
 hc h26 (Addr.mk n23 0 none) = some (Value.int IntKind.i64 i59) ∧
 if (i59 != 0) = true then
 hcan h26 ((Addr.mk n9 0 none).add 10) 1 ∧
 ∀ (h60 : H), h60 = hwr h26 ((Addr.mk n9 0 none).add 10) [Value.int IntKind.i64 (IntKind.i64.wrap (i15 + 1))] → J28 [] h60
 else J28 [] h26)
 h16
 else
 ∃ (i62 : Int),
 hc h16 ((Addr.mk n9 0 none).add 10) = some (Value.int IntKind.i64 i62) ∧
 hcan h16 ((Addr.mk n9 0 none).add 11) 1 ∧
 ∀ (h63 : H),
 h63 = hwr h16 ((Addr.mk n9 0 none).add 11) [Value.bool (i62 == 0)] →
 ∃ (i65 : Int),
 hc h63 (Addr.mk n9 0 none) = some (Value.int IntKind.i64 i65) ∧
 ∃ (l66 : List Int),
 l66.length = 9 ∧
 hrow h63 ((Addr.mk n9 0 none).add 1) IntKind.i64 l66 ∧
 ∃ (i67 : Int),
 hc h63 ((Addr.mk n9 0 none).add 10) = some (Value.int IntKind.i64 i67) ∧
 ∃ (b68 : Bool),
 hc h63 ((Addr.mk n9 0 none).add 11) = some (Value.bool b68) ∧
 ∃ (i69 : Int),
 hc h63 ((Addr.mk n9 0 none).add 12) = some (Value.int IntKind.i64 i69) ∧
 hcan h63 (Addr.mk n6 0 none) 13 ∧
 ∀ (h70 : H),
 h70 =
 hwr h63 (Addr.mk n6 0 none)
 (Value.int IntKind.i64 i65 :: (ints IntKind.i64 l66 ++ [Value.int IntKind.i64 i67, Value.bool b68, Value.int IntKind.i64 i69])) →
 ∃ (i72 : Int),
 hc h70 (Addr.mk n6 0 none) = some (Value.int IntKind.i64 i72) ∧
 ∃ (l73 : List Int),
 l73.length = 9 ∧
 hrow h70 ((Addr.mk n6 0 none).add 1) IntKind.i64 l73 ∧
 ∃ (i74 : Int),
 hc h70 ((Addr.mk n6 0 none).add 10) = some (Value.int IntKind.i64 i74) ∧
 ∃ (b75 : Bool),
 hc h70 ((Addr.mk n6 0 none).add 11) = some (Value.bool b75) ∧
 ∃ (i76 : Int), hc h70 ((Addr.mk n6 0 none).add 12) = some (Value.int IntKind.i64 i76) ∧ Q i72 l73 i74 b75 i76 h70) →
 J14 [SV.dv (DV.one (Value.int IntKind.i64 i15))] h16) →
 J14 [SV.dv (DV.one (Value.int IntKind.i64 0))] h12
theorem E_portcullisref08_Of (c_portcullisref06_Read : (List Int) → (Int → Int → Int → H → Prop) → H → Prop) : ∀ (a0p : Option Addr) (a0l : Nat) (a0c : Nat) (Q : Int → (List Int) → Int → Bool → Int → H → Prop) (h : H), G_portcullisref08_Of c_portcullisref06_Read a0p a0l a0c Q h = Dbody PP [(144, W [.ag [.row .u8 32]] [.ag [.int .i64, .int .i64, .int .i64]] c_portcullisref06_Read)] [(58, [(4, .sc (.int .i64))]), (1865, []), (29851, [(32, .sc (.bool))]), (119407, [(43, .sc (.bool))])] Try.f97 [.one (.slice a0p a0l a0c)] (decR [.ag [.int .i64, .row .i64 9, .int .i64, .bool, .int .i64]] Q) h := by
  intros; kernel_rfl
def F_portcullisref08_Of := G_portcullisref08_Of F_portcullisref06_Read
theorem R_portcullisref08_Of : RunOk PP 97 (W [.slc] [.ag [.int .i64, .row .i64 9, .int .i64, .bool, .int .i64]] F_portcullisref08_Of) :=
  runOk_of (T := [(144, W [.ag [.row .u8 32]] [.ag [.int .i64, .int .i64, .int .i64]] F_portcullisref06_Read)]) (ann := [(58, [(4, .sc (.int .i64))]), (1865, []), (29851, [(32, .sc (.bool))]), (119407, [(43, .sc (.bool))])]) (TblOk.cons R_portcullisref06_Read (TblOk.nil)) Try.func97 (by kernel_rfl) (by kernel_rfl) (E_portcullisref08_Of F_portcullisref06_Read)
attribute [irreducible] F_portcullisref08_Of
def G_portcullisref08_Look (c_portcullisref04_Chip_Read : Addr → Int → Int → (List Int → Int → H → Prop) → H → Prop) (c_portcullisref08_Of : Option Addr → Nat → Nat → (Int → List Int → Int → Bool → Int → H → Prop) → H → Prop) (a0 : Addr) (a1 : Int) (Q : Int → List Int → Int → Bool → Int → Int → H → Prop) (h : H) : Prop :=
 ∀ (n6 : Nat) (h7 : H),
 hnew h n6 (Value.int IntKind.i64 0 :: (ints IntKind.i64 (zeros 9) ++ [Value.int IntKind.i64 0, Value.bool false, Value.int IntKind.i64 0])) h7 →
 c_portcullisref04_Chip_Read a0 a1 0
 (fun (l9 : List Int) (i10 : Int) (h11 : H) =>
 ∀ (n12 : Nat) (h13 : H),
 hnew h11 n12 (ints IntKind.u8 (zeros 32)) h13 →
 hcan h13 (Addr.mk n12 0 none) 32 ∧
 ∀ (h15 : H),
 h15 = hwr h13 (Addr.mk n12 0 none) (ints IntKind.u8 l9 ++ []) →
 if (i10 != 0) = true then
 hcan h15 (Addr.mk n6 0 none) 13 ∧
 ∀ (h17 : H),
 h17 = hwr h15 (Addr.mk n6 0 none) (Value.int IntKind.i64 0 :: (ints IntKind.i64 (zeros 9) ++ [Value.int IntKind.i64 0, Value.bool false, Value.int IntKind.i64 0])) →
 ∃ (i19 : Int),
 hc h17 (Addr.mk n6 0 none) = some (Value.int IntKind.i64 i19) ∧
 ∃ (l20 : List Int),
 l20.length = 9 ∧
 hrow h17 ((Addr.mk n6 0 none).add 1) IntKind.i64 l20 ∧
 ∃ (i21 : Int),
 hc h17 ((Addr.mk n6 0 none).add 10) = some (Value.int IntKind.i64 i21) ∧
 ∃ (b22 : Bool),
 hc h17 ((Addr.mk n6 0 none).add 11) = some (Value.bool b22) ∧
 ∃ (i23 : Int), hc h17 ((Addr.mk n6 0 none).add 12) = some (Value.int IntKind.i64 i23) ∧ Q i19 l20 i21 b22 i23 i10 h17
 else
 ∃ (o24 : Option Addr),
 ∃ (n25 : Nat),
 ∃ (n26 : Nat),
 hc h15 (a0.add 7) = some (Value.slice o24 n25 n26) ∧
 ∃ (p27 : Addr),
 o24 = some p27 ∧
 0 ≤ a1 ∧
 a1 < (↑n25 : Int) ∧
 ∃ (o28 : Option Addr),
 ∃ (n29 : Nat),
 ∃ (n30 : Nat),
 hc h15 (p27.add (a1.toNat * 1)) = some (Value.slice o28 n29 n30) ∧
 c_portcullisref08_Of o28 n29 n30
 (fun (i31 : Int) (l32 : List Int) (i33 : Int) (b34 : Bool) (i35 : Int) (h36 : H) =>
 hcan h36 (Addr.mk n6 0 none) 13 ∧
 ∀ (h37 : H),
 h37 = hwr h36 (Addr.mk n6 0 none) (Value.int IntKind.i64 i31 :: (ints IntKind.i64 l32 ++ [Value.int IntKind.i64 i33, Value.bool b34, Value.int IntKind.i64 i35])) →
 ∃ (i39 : Int),
 hc h37 (Addr.mk n6 0 none) = some (Value.int IntKind.i64 i39) ∧
 ∃ (l40 : List Int),
 l40.length = 9 ∧
 hrow h37 ((Addr.mk n6 0 none).add 1) IntKind.i64 l40 ∧
 ∃ (i41 : Int),
 hc h37 ((Addr.mk n6 0 none).add 10) = some (Value.int IntKind.i64 i41) ∧
 ∃ (b42 : Bool),
 hc h37 ((Addr.mk n6 0 none).add 11) = some (Value.bool b42) ∧
 ∃ (i43 : Int), hc h37 ((Addr.mk n6 0 none).add 12) = some (Value.int IntKind.i64 i43) ∧ Q i39 l40 i41 b42 i43 0 h37)
 h15)
 h7
theorem E_portcullisref08_Look (c_portcullisref04_Chip_Read : Addr → Int → Int → ((List Int) → Int → H → Prop) → H → Prop) (c_portcullisref08_Of : (Option Addr) → Nat → Nat → (Int → (List Int) → Int → Bool → Int → H → Prop) → H → Prop) : ∀ (a0 : Addr) (a1 : Int) (Q : Int → (List Int) → Int → Bool → Int → Int → H → Prop) (h : H), G_portcullisref08_Look c_portcullisref04_Chip_Read c_portcullisref08_Of a0 a1 Q h = Dbody PP [(96, W [.addr, .int .i64, .int .i64] [.ag [.row .u8 32], .int .i64] c_portcullisref04_Chip_Read), (97, W [.slc] [.ag [.int .i64, .row .i64 9, .int .i64, .bool, .int .i64]] c_portcullisref08_Of)] [] Try.f39 [.addr a0, .one (.int .i64 a1)] (decR [.ag [.int .i64, .row .i64 9, .int .i64, .bool, .int .i64], .int .i64] Q) h := by
  intros; kernel_rfl
def F_portcullisref08_Look := G_portcullisref08_Look F_portcullisref04_Chip_Read F_portcullisref08_Of
theorem R_portcullisref08_Look : RunOk PP 39 (W [.addr, .int .i64] [.ag [.int .i64, .row .i64 9, .int .i64, .bool, .int .i64], .int .i64] F_portcullisref08_Look) :=
  runOk_of (T := [(96, W [.addr, .int .i64, .int .i64] [.ag [.row .u8 32], .int .i64] F_portcullisref04_Chip_Read), (97, W [.slc] [.ag [.int .i64, .row .i64 9, .int .i64, .bool, .int .i64]] F_portcullisref08_Of)]) (ann := []) (TblOk.cons R_portcullisref04_Chip_Read (TblOk.cons R_portcullisref08_Of (TblOk.nil))) Try.func39 (by kernel_rfl) (by kernel_rfl) (E_portcullisref08_Look F_portcullisref04_Chip_Read F_portcullisref08_Of)
attribute [irreducible] F_portcullisref08_Look
def G_portcullislaw08_like (a0_0 : Int) (a0_1 : List Int) (a0_2 : Int) (a0_3 : Bool) (a0_4 : Int) (a1_0 : Int) (a1_1 : List Int) (a1_2 : Int) (a1_3 : Bool) (a1_4 : Int) (Q : Bool → H → Prop) (h : H) : Prop :=
 ∀ (n12 : Nat) (h13 : H),
 hnew h n12 (Value.int IntKind.i64 a0_0 :: (ints IntKind.i64 a0_1 ++ [Value.int IntKind.i64 a0_2, Value.bool a0_3, Value.int IntKind.i64 a0_4])) h13 →
 ∀ (n15 : Nat) (h16 : H),
 hnew h13 n15 (Value.int IntKind.i64 a1_0 :: (ints IntKind.i64 a1_1 ++ [Value.int IntKind.i64 a1_2, Value.bool a1_3, Value.int IntKind.i64 a1_4])) h16 →
 ∃ (i18 : Int),
 hc h16 (Addr.mk n12 0 none) = some (Value.int IntKind.i64 i18) ∧
 ∃ (i19 : Int),
 hc h16 (Addr.mk n15 0 none) = some (Value.int IntKind.i64 i19) ∧
 if (i18 == i19) = true then
 ∃ (l20 : List Int),
 l20.length = 9 ∧
 hrow h16 ((Addr.mk n12 0 none).add 1) IntKind.i64 l20 ∧
 ∃ (l21 : List Int),
 l21.length = 9 ∧
 hrow h16 ((Addr.mk n15 0 none).add 1) IntKind.i64 l21 ∧
 if (l20 == l21) = true then
 ∃ (i22 : Int),
 hc h16 ((Addr.mk n12 0 none).add 10) = some (Value.int IntKind.i64 i22) ∧
 ∃ (i23 : Int),
 hc h16 ((Addr.mk n15 0 none).add 10) = some (Value.int IntKind.i64 i23) ∧
 if (i22 == i23) = true then
 ∃ (b24 : Bool),
 hc h16 ((Addr.mk n12 0 none).add 11) = some (Value.bool b24) ∧
 ∃ (b25 : Bool),
 hc h16 ((Addr.mk n15 0 none).add 11) = some (Value.bool b25) ∧
 if (b24 == b25) = true then
 ∃ (i26 : Int),
 hc h16 ((Addr.mk n12 0 none).add 12) = some (Value.int IntKind.i64 i26) ∧
 ∃ (i27 : Int), hc h16 ((Addr.mk n15 0 none).add 12) = some (Value.int IntKind.i64 i27) ∧ Q (i26 == i27) h16
 else Q false h16
 else Q false h16
 else Q false h16
 else Q false h16
theorem E_portcullislaw08_like  : ∀ (a0_0 : Int) (a0_1 : List Int) (a0_2 : Int) (a0_3 : Bool) (a0_4 : Int) (a1_0 : Int) (a1_1 : List Int) (a1_2 : Int) (a1_3 : Bool) (a1_4 : Int) (Q : Bool → H → Prop) (h : H), G_portcullislaw08_like a0_0 a0_1 a0_2 a0_3 a0_4 a1_0 a1_1 a1_2 a1_3 a1_4 Q h = Dbody PP [] [] Try.f40 [.agg [.c (.int .i64 a0_0), .row .i64 9 a0_1, .c (.int .i64 a0_2), .c (.bool a0_3), .c (.int .i64 a0_4)], .agg [.c (.int .i64 a1_0), .row .i64 9 a1_1, .c (.int .i64 a1_2), .c (.bool a1_3), .c (.int .i64 a1_4)]] (decR [.bool] Q) h := by
  intros; kernel_rfl
def F_portcullislaw08_like := G_portcullislaw08_like
theorem R_portcullislaw08_like : RunOk PP 40 (W [.ag [.int .i64, .row .i64 9, .int .i64, .bool, .int .i64], .ag [.int .i64, .row .i64 9, .int .i64, .bool, .int .i64]] [.bool] F_portcullislaw08_like) :=
  runOk_of (T := []) (ann := []) (TblOk.nil) Try.func40 (by kernel_rfl) (by kernel_rfl) (E_portcullislaw08_like)
attribute [irreducible] F_portcullislaw08_like
def G_portcullislaw08_PageLooks (c_chip_Lay : Int →
 Int →
 Int →
 Int →
 Int →
 Int →
 Int →
 Option Addr →
 Nat →
 Nat → Option Addr → Nat → Nat → Option Addr → Nat → Nat → (Option Addr → Int → H → Prop) → H → Prop) (c_chip_Chip_State : Addr → (Option Addr → Nat → Nat → Option Addr → Nat → Nat → Option Addr → Nat → Nat → H → Prop) → H → Prop) (c_chip_Chip_Cut : Addr → Int → Option Addr → Nat → Nat → (H → Prop) → H → Prop) (c_portcullisref04_SameState : Option Addr →
 Nat →
 Nat →
 Option Addr →
 Nat →
 Nat →
 Option Addr →
 Nat →
 Nat →
 Option Addr →
 Nat → Nat → Option Addr → Nat → Nat → Option Addr → Nat → Nat → (Bool → H → Prop) → H → Prop) (c_chip_Chip_Acts : Addr → (Int → H → Prop) → H → Prop) (c_portcullisref04_Lay : Int →
 Int →
 Int →
 Int →
 Int →
 Int →
 Int →
 Option Addr →
 Nat →
 Nat → Option Addr → Nat → Nat → Option Addr → Nat → Nat → (Option Addr → Int → H → Prop) → H → Prop) (c_portcullislaw08_fixed : (Bool → H → Prop) → H → Prop) (c_page_Look : Addr → Int → (Int → List Int → Int → Bool → Int → Int → H → Prop) → H → Prop) (c_portcullisref08_Look : Addr → Int → (Int → List Int → Int → Bool → Int → Int → H → Prop) → H → Prop) (c_portcullislaw08_like : Int → List Int → Int → Bool → Int → Int → List Int → Int → Bool → Int → (Bool → H → Prop) → H → Prop) (c_chip_Chip_Blow : Addr → Int → (Int → H → Prop) → H → Prop) (a0_0 : Int) (a0_1 : Int) (a0_2 : Int) (a0_3 : Int) (a0_4 : Int) (a0_5 : Int) (a0_6 : Int) (a1_0p : Option Addr) (a1_0l : Nat) (a1_0c : Nat) (a1_1p : Option Addr) (a1_1l : Nat) (a1_1c : Nat) (a1_2p : Option Addr) (a1_2l : Nat) (a1_2c : Nat) (Q : Bool → H → Prop) (h : H) : Prop :=
 ∀ (n29 : Nat) (h30 : H),
 hnew h n29 [Value.int IntKind.i64 a0_0, Value.int IntKind.i64 a0_1, Value.int IntKind.i64 a0_2, Value.int IntKind.i64 a0_3, Value.int IntKind.i64 a0_4, Value.int IntKind.i64 a0_5, Value.int IntKind.i64 a0_6] h30 →
 ∀ (n32 : Nat) (h33 : H),
 hnew h30 n32 [Value.slice a1_0p a1_0l a1_0c, Value.slice a1_1p a1_1l a1_1c, Value.slice a1_2p a1_2l a1_2c] h33 →
 c_portcullislaw08_fixed
 (fun (b35 : Bool) (h36 : H) =>
 ∃ (i37 : Int),
 hc h36 (Addr.mk n29 0 none) = some (Value.int IntKind.i64 i37) ∧
 ∃ (i38 : Int),
 hc h36 ((Addr.mk n29 0 none).add 1) = some (Value.int IntKind.i64 i38) ∧
 ∃ (i39 : Int),
 hc h36 ((Addr.mk n29 0 none).add 2) = some (Value.int IntKind.i64 i39) ∧
 ∃ (i40 : Int),
 hc h36 ((Addr.mk n29 0 none).add 3) = some (Value.int IntKind.i64 i40) ∧
 ∃ (i41 : Int),
 hc h36 ((Addr.mk n29 0 none).add 4) = some (Value.int IntKind.i64 i41) ∧
 ∃ (i42 : Int),
 hc h36 ((Addr.mk n29 0 none).add 5) = some (Value.int IntKind.i64 i42) ∧
 ∃ (i43 : Int),
 hc h36 ((Addr.mk n29 0 none).add 6) = some (Value.int IntKind.i64 i43) ∧
 ∃ (o44 : Option Addr),
 ∃ (n45 : Nat),
 ∃ (n46 : Nat),
 hc h36 (Addr.mk n32 0 none) = some (Value.slice o44 n45 n46) ∧
 ∃ (o47 : Option Addr),
 ∃ (n48 : Nat),
 ∃ (n49 : Nat),
 hc h36 ((Addr.mk n32 0 none).add 1) = some (Value.slice o47 n48 n49) ∧
 ∃ (o50 : Option Addr),
 ∃ (n51 : Nat),
 ∃ (n52 : Nat),
 hc h36 ((Addr.mk n32 0 none).add 2) = some (Value.slice o50 n51 n52) ∧
 c_chip_Lay i37 i38 i39 i40 i41 i42 i43 o44 n45 n46 o47 n48 n49 o50 n51 n52
 (fun (o53 : Option Addr) (i54 : Int) (h55 : H) =>
 ∃ (i56 : Int),
 hc h55 (Addr.mk n29 0 none) = some (Value.int IntKind.i64 i56) ∧
 ∃ (i57 : Int),
 hc h55 ((Addr.mk n29 0 none).add 1) = some (Value.int IntKind.i64 i57) ∧
 ∃ (i58 : Int),
 hc h55 ((Addr.mk n29 0 none).add 2) = some (Value.int IntKind.i64 i58) ∧
 ∃ (i59 : Int),
 hc h55 ((Addr.mk n29 0 none).add 3) = some (Value.int IntKind.i64 i59) ∧
 ∃ (i60 : Int),
 hc h55 ((Addr.mk n29 0 none).add 4) = some (Value.int IntKind.i64 i60) ∧
 ∃ (i61 : Int),
 hc h55 ((Addr.mk n29 0 none).add 5) = some (Value.int IntKind.i64 i61) ∧
 ∃ (i62 : Int),
 hc h55 ((Addr.mk n29 0 none).add 6) = some (Value.int IntKind.i64 i62) ∧
 ∃ (o63 : Option Addr),
 ∃ (n64 : Nat),
 ∃ (n65 : Nat),
 hc h55 (Addr.mk n32 0 none) = some (Value.slice o63 n64 n65) ∧
 ∃ (o66 : Option Addr),
 ∃ (n67 : Nat),
 ∃ (n68 : Nat),
 hc h55 ((Addr.mk n32 0 none).add 1) = some (Value.slice o66 n67 n68) ∧
 ∃ (o69 : Option Addr),
 ∃ (n70 : Nat),
 ∃ (n71 : Nat),
 hc h55 ((Addr.mk n32 0 none).add 2) = some (Value.slice o69 n70 n71) ∧
 c_portcullisref04_Lay i56 i57 i58 i59 i60 i61 i62 o63 n64 n65 o66 n67 n68 o69 n70 n71
 (fun (o72 : Option Addr) (i73 : Int) (h74 : H) =>
 ∀ (J75 : List SV → H → Prop),
 (∀ (h76 : H),
 (if o72.isNone = true then Q true h76
 else
 ∀ (J77 : List SV → H → Prop),
 (∀ (i78 : Int) (h79 : H),
 (∃ (o80 : Option Addr),
 ∃ (n81 : Nat),
 ∃ (n82 : Nat),
 hc h79 (Addr.mk n32 0 none) = some (Value.slice o80 n81 n82) ∧
 if leI i78 (↑n81 : Int) = true then
 ∀ (J83 : List SV → H → Prop),
 (∀ (i84 : Int) (h85 : H),
 (if ltI i84 2 = true then
 ∃ (p86 : Addr),
 o53 = some p86 ∧
 c_page_Look p86 i78
 (fun (i87 : Int) (l88 : List Int) (i89 : Int)
 (b90 : Bool) (i91 i92 : Int) (h93 : H) =>
 ∀ (n94 : Nat) (h95 : H),
 hnew h93 n94
 (Value.int IntKind.i64 0 ::
 (ints IntKind.i64 (zeros 9) ++
 [Value.int IntKind.i64 0,
 Value.bool false,
 Value.int IntKind.i64 0]))
 h95 →
 hcan h95 (Addr.mk n94 0 none) 13 ∧
 ∀ (h97 : H),
 h97 =
 hwr h95 (Addr.mk n94 0 none)
 (Value.int IntKind.i64 i87 ::
 (ints IntKind.i64 l88 ++
 [Value.int IntKind.i64 i89,
 Value.bool b90,
 Value.int IntKind.i64 i91])) →
 ∃ (p99 : Addr),
 o72 = some p99 ∧
 c_portcullisref08_Look p99 i78
 (fun (i100 : Int)
 (l101 : List Int) (i102 : Int)
 (b103 : Bool)
 (i104 i105 : Int)
 (h106 : H) =>
 ∀ (n107 : Nat) (h108 : H),
 hnew h106 n107
 (Value.int IntKind.i64
 0 ::
 (ints IntKind.i64
 (zeros 9) ++
 [Value.int IntKind.i64
 0,
 Value.bool false,
 Value.int
 IntKind.i64 0]))
 h108 →
 hcan h108
 (Addr.mk n107 0 none)
 13 ∧
 ∀ (h110 : H),
 h110 =
 hwr h108
 (Addr.mk n107 0
 none)
 (Value.int
 IntKind.i64
 i100 ::
 (ints
 IntKind.i64
 l101 ++
 [Value.int
 IntKind.i64
 i102,
 Value.bool
 b103,
 Value.int
 IntKind.i64
 i104])) →
 ∃ (i112 : Int),
 hc h110
 (Addr.mk n94 0
 none) =
 some
 (Value.int
 IntKind.i64
 i112) ∧
 ∃ (l113 :
 List Int),
 l113.length =
 9 ∧
 hrow h110
 ((Addr.mk
 n94
 0
 none).add
 1)
 IntKind.i64
 l113 ∧
 ∃ (i114 :
 Int),
 hc h110
 ((Addr.mk
 n94
 0
 none).add
 10) =
 some
 (Value.int
 IntKind.i64
 i114) ∧
 ∃ (b115
 :
 Bool),
 hc
 h110
 ((Addr.mk
 n94
 0
 none).add
 11) =
 some
 (Value.bool
 b115) ∧
 ∃
 (i116
 :
 Int),
 hc
 h110
 ((Addr.mk
 n94
 0
 none).add
 12) =
 some
 (Value.int
 IntKind.i64
 i116) ∧
 ∃
 (i117
 :
 Int),
 hc
 h110
 (Addr.mk
 n107
 0
 none) =
 some
 (Value.int
 IntKind.i64
 i117) ∧
 ∃
 (l118
 :
 List
 Int),
 l118.length =
 9 ∧
 hrow
 h110
 ((Addr.mk
 n107
 0
 none).add
 1)
 IntKind.i64
 l118 ∧
 ∃
 (i119
 :
 Int),
 hc
 h110
 ((Addr.mk
 n107
 0
 none).add
 10) =
 some
 (Value.int
 IntKind.i64
 i119) ∧
 ∃
 (b120
 :
 Bool),
 hc
 h110
 ((Addr.mk
 n107
 0
 none).add
 11) =
 some
 (Value.bool
 b120) ∧
 ∃
 (i121
 :
 Int),
 hc
 h110
 ((Addr.mk
 n107
 0
 none).add
 12) =
 some
 (Value.int
 IntKind.i64
 i121) ∧
 c_portcullislaw08_like
 i112
 l113
 i114
 b115
 i116
 i117
 l118
 i119
 b120
 i121
 (fun
 (b122 :
 Bool)
 (h123 :
 H) =>
 if
 (!b122) =
 true then
 Q
 false
 h123
 else
 if
 (i92 !=
 i105) =
 true then
 Q
 false
 h123
 else
 J83
 [SV.dv
 (DV.one
 (Value.int
 IntKind.i64
 (IntKind.i64.wrap
 (i84 +
 1))))]
 h123)
 h110)
 h97)
 h85
 else
 J77
 [SV.dv
 (DV.one
 (Value.int IntKind.i64
 (IntKind.i64.wrap (i78 + 1))))]
 h85) →
 J83 [SV.dv (DV.one (Value.int IntKind.i64 i84))] h85) →
 J83 [SV.dv (DV.one (Value.int IntKind.i64 0))] h79
 else
 ∃ (o126 : Option Addr),
 ∃ (n127 : Nat),
 ∃ (n128 : Nat),
 hc h79 (Addr.mk n32 0 none) =
 some (Value.slice o126 n127 n128) ∧
 ∃ (o129 : Option Addr),
 ∃ (n130 : Nat),
 ∃ (n131 : Nat),
 hc h79 ((Addr.mk n32 0 none).add 1) =
 some (Value.slice o129 n130 n131) ∧
 ∃ (o132 : Option Addr),
 ∃ (n133 : Nat),
 ∃ (n134 : Nat),
 hc h79 ((Addr.mk n32 0 none).add 2) =
 some (Value.slice o132 n133 n134) ∧
 ∃ (p135 : Addr),
 o53 = some p135 ∧
 c_chip_Chip_State p135
 (fun (o136 : Option Addr)
 (n137 n138 : Nat)
 (o139 : Option Addr)
 (n140 n141 : Nat)
 (o142 : Option Addr)
 (n143 n144 : Nat) (h145 : H) =>
 hcs h145 (Addr.mk n32 0 none)
 [Value.slice o126 n127 n128,
 Value.slice o129 n130 n131,
 Value.slice o132 n133 n134] ∧
 c_portcullisref04_SameState o136
 n137 n138 o139 n140 n141 o142
 n143 n144 o126 n127 n128 o129
 n130 n131 o132 n133 n134
 (fun (b146 : Bool) (h147 : H) =>
 ∃ (p148 : Addr),
 o53 = some p148 ∧
 c_chip_Chip_Acts p148
 (fun (i149 : Int)
 (h150 : H) =>
 ∃ (p151 : Addr),
 o53 = some p151 ∧
 c_chip_Chip_Cut
 p151 0 none 0 0
 (fun
 (h152 :
 H) =>
 ∃ (p153 :
 Addr),
 o53 =
 some
 p153 ∧
 c_chip_Chip_Blow
 p153 0
 (fun
 (i154 :
 Int)
 (h155 :
 H) =>
 ∃
 (p156
 :
 Addr),
 o53 =
 some
 p156 ∧
 c_page_Look
 p156
 0
 (fun
 (i157 :
 Int)
 (l158 :
 List
 Int)
 (i159 :
 Int)
 (b160 :
 Bool)
 (i161
 i162 :
 Int)
 (h163 :
 H) =>
 ∀
 (n164 :
 Nat)
 (h165 :
 H),
 hnew
 h163
 n164
 (Value.int
 IntKind.i64
 0 ::
 (ints
 IntKind.i64
 (zeros
 9) ++
 [Value.int
 IntKind.i64
 0,
 Value.bool
 false,
 Value.int
 IntKind.i64
 0]))
 h165 →
 hcan
 h165
 (Addr.mk
 n164
 0
 none)
 13 ∧
 ∀
 (h167 :
 H),
 h167 =
 hwr
 h165
 (Addr.mk
 n164
 0
 none)
 (Value.int
 IntKind.i64
 i157 ::
 (ints
 IntKind.i64
 l158 ++
 [Value.int
 IntKind.i64
 i159,
 Value.bool
 b160,
 Value.int
 IntKind.i64
 i161])) →
 ∃
 (i169
 :
 Int),
 hc
 h167
 (Addr.mk
 n164
 0
 none) =
 some
 (Value.int
 IntKind.i64
 i169) ∧
 ∃
 (l170
 :
 List
 Int),
 l170.length =
 9 ∧
 hrow
 h167
 ((Addr.mk
 n164
 0
 none).add
 1)
 IntKind.i64
 l170 ∧
 ∃
 (i171
 :
 Int),
 hc
 h167
 ((Addr.mk
 n164
 0
 none).add
 10) =
 some
 (Value.int
 IntKind.i64
 i171) ∧
 ∃
 (b172
 :
 Bool),
 hc
 h167
 ((Addr.mk
 n164
 0
 none).add
 11) =
 some
 (Value.bool
 b172) ∧
 ∃
 (i173
 :
 Int),
 hc
 h167
 ((Addr.mk
 n164
 0
 none).add
 12) =
 some
 (Value.int
 IntKind.i64
 i173) ∧
 c_portcullislaw08_like
 i169
 l170
 i171
 b172
 i173
 0
 (zeros
 9)
 0
 false
 0
 (fun
 (b174 :
 Bool)
 (h175 :
 H) =>
 if
 b146 =
 true then
 if
 (i149 ==
 0) =
 true then
 if
 b174 =
 true then
 Q
 (i162 ==
 8)
 h175
 else
 Q
 false
 h175
 else
 Q
 false
 h175
 else
 Q
 false
 h175)
 h167)
 h155)
 h152)
 h150)
 h147)
 h145)
 h79) →
 J77 [SV.dv (DV.one (Value.int IntKind.i64 i78))] h79) →
 J77 [SV.dv (DV.one (Value.int IntKind.i64 (-1)))] h76) →
 J75 [] h76) →
 if (!b35) = true then Q false h74
 else
 if (i54 != i73) = true then Q false h74
 else if (!o53.isNone == o72.isNone) = true then Q false h74 else J75 [] h74)
 h55)
 h36)
 h33
theorem E_portcullislaw08_PageLooks (c_chip_Lay : Int → Int → Int → Int → Int → Int → Int → (Option Addr) → Nat → Nat → (Option Addr) → Nat → Nat → (Option Addr) → Nat → Nat → ((Option Addr) → Int → H → Prop) → H → Prop) (c_chip_Chip_State : Addr → ((Option Addr) → Nat → Nat → (Option Addr) → Nat → Nat → (Option Addr) → Nat → Nat → H → Prop) → H → Prop) (c_chip_Chip_Cut : Addr → Int → (Option Addr) → Nat → Nat → (H → Prop) → H → Prop) (c_portcullisref04_SameState : (Option Addr) → Nat → Nat → (Option Addr) → Nat → Nat → (Option Addr) → Nat → Nat → (Option Addr) → Nat → Nat → (Option Addr) → Nat → Nat → (Option Addr) → Nat → Nat → (Bool → H → Prop) → H → Prop) (c_chip_Chip_Acts : Addr → (Int → H → Prop) → H → Prop) (c_portcullisref04_Lay : Int → Int → Int → Int → Int → Int → Int → (Option Addr) → Nat → Nat → (Option Addr) → Nat → Nat → (Option Addr) → Nat → Nat → ((Option Addr) → Int → H → Prop) → H → Prop) (c_portcullislaw08_fixed : (Bool → H → Prop) → H → Prop) (c_page_Look : Addr → Int → (Int → (List Int) → Int → Bool → Int → Int → H → Prop) → H → Prop) (c_portcullisref08_Look : Addr → Int → (Int → (List Int) → Int → Bool → Int → Int → H → Prop) → H → Prop) (c_portcullislaw08_like : Int → (List Int) → Int → Bool → Int → Int → (List Int) → Int → Bool → Int → (Bool → H → Prop) → H → Prop) (c_chip_Chip_Blow : Addr → Int → (Int → H → Prop) → H → Prop) : ∀ (a0_0 : Int) (a0_1 : Int) (a0_2 : Int) (a0_3 : Int) (a0_4 : Int) (a0_5 : Int) (a0_6 : Int) (a1_0p : Option Addr) (a1_0l : Nat) (a1_0c : Nat) (a1_1p : Option Addr) (a1_1l : Nat) (a1_1c : Nat) (a1_2p : Option Addr) (a1_2l : Nat) (a1_2c : Nat) (Q : Bool → H → Prop) (h : H), G_portcullislaw08_PageLooks c_chip_Lay c_chip_Chip_State c_chip_Chip_Cut c_portcullisref04_SameState c_chip_Chip_Acts c_portcullisref04_Lay c_portcullislaw08_fixed c_page_Look c_portcullisref08_Look c_portcullislaw08_like c_chip_Chip_Blow a0_0 a0_1 a0_2 a0_3 a0_4 a0_5 a0_6 a1_0p a1_0l a1_0c a1_1p a1_1l a1_1c a1_2p a1_2l a1_2c Q h = Dbody PP [(20, W [.ag [.int .i64, .int .i64, .int .i64, .int .i64, .int .i64, .int .i64, .int .i64], .ag [.slc, .slc, .slc]] [.ptr, .int .i64] c_chip_Lay), (22, W [.addr] [.ag [.slc, .slc, .slc]] c_chip_Chip_State), (23, W [.addr, .int .i64, .slc] [] c_chip_Chip_Cut), (26, W [.ag [.slc, .slc, .slc], .ag [.slc, .slc, .slc]] [.bool] c_portcullisref04_SameState), (27, W [.addr] [.int .i64] c_chip_Chip_Acts), (30, W [.ag [.int .i64, .int .i64, .int .i64, .int .i64, .int .i64, .int .i64, .int .i64], .ag [.slc, .slc, .slc]] [.ptr, .int .i64] c_portcullisref04_Lay), (37, W [] [.bool] c_portcullislaw08_fixed), (38, W [.addr, .int .i64] [.ag [.int .i64, .row .i64 9, .int .i64, .bool, .int .i64], .int .i64] c_page_Look), (39, W [.addr, .int .i64] [.ag [.int .i64, .row .i64 9, .int .i64, .bool, .int .i64], .int .i64] c_portcullisref08_Look), (40, W [.ag [.int .i64, .row .i64 9, .int .i64, .bool, .int .i64], .ag [.int .i64, .row .i64 9, .int .i64, .bool, .int .i64]] [.bool] c_portcullislaw08_like), (41, W [.addr, .int .i64] [.int .i64] c_chip_Chip_Blow)] [(31, []), (1018, [(10, .sc (.int .i64))]), (65170, [(11, .sc (.int .i64))])] Try.f8 [.agg [.c (.int .i64 a0_0), .c (.int .i64 a0_1), .c (.int .i64 a0_2), .c (.int .i64 a0_3), .c (.int .i64 a0_4), .c (.int .i64 a0_5), .c (.int .i64 a0_6)], .agg [.c (.slice a1_0p a1_0l a1_0c), .c (.slice a1_1p a1_1l a1_1c), .c (.slice a1_2p a1_2l a1_2c)]] (decR [.bool] Q) h := by
  intros; kernel_rfl
def F_portcullislaw08_PageLooks := G_portcullislaw08_PageLooks F_chip_Lay F_chip_Chip_State F_chip_Chip_Cut F_portcullisref04_SameState F_chip_Chip_Acts F_portcullisref04_Lay F_portcullislaw08_fixed F_page_Look F_portcullisref08_Look F_portcullislaw08_like F_chip_Chip_Blow
theorem R_portcullislaw08_PageLooks : RunOk PP 8 (W [.ag [.int .i64, .int .i64, .int .i64, .int .i64, .int .i64, .int .i64, .int .i64], .ag [.slc, .slc, .slc]] [.bool] F_portcullislaw08_PageLooks) :=
  runOk_of (T := [(20, W [.ag [.int .i64, .int .i64, .int .i64, .int .i64, .int .i64, .int .i64, .int .i64], .ag [.slc, .slc, .slc]] [.ptr, .int .i64] F_chip_Lay), (22, W [.addr] [.ag [.slc, .slc, .slc]] F_chip_Chip_State), (23, W [.addr, .int .i64, .slc] [] F_chip_Chip_Cut), (26, W [.ag [.slc, .slc, .slc], .ag [.slc, .slc, .slc]] [.bool] F_portcullisref04_SameState), (27, W [.addr] [.int .i64] F_chip_Chip_Acts), (30, W [.ag [.int .i64, .int .i64, .int .i64, .int .i64, .int .i64, .int .i64, .int .i64], .ag [.slc, .slc, .slc]] [.ptr, .int .i64] F_portcullisref04_Lay), (37, W [] [.bool] F_portcullislaw08_fixed), (38, W [.addr, .int .i64] [.ag [.int .i64, .row .i64 9, .int .i64, .bool, .int .i64], .int .i64] F_page_Look), (39, W [.addr, .int .i64] [.ag [.int .i64, .row .i64 9, .int .i64, .bool, .int .i64], .int .i64] F_portcullisref08_Look), (40, W [.ag [.int .i64, .row .i64 9, .int .i64, .bool, .int .i64], .ag [.int .i64, .row .i64 9, .int .i64, .bool, .int .i64]] [.bool] F_portcullislaw08_like), (41, W [.addr, .int .i64] [.int .i64] F_chip_Chip_Blow)]) (ann := [(31, []), (1018, [(10, .sc (.int .i64))]), (65170, [(11, .sc (.int .i64))])]) (TblOk.cons R_chip_Lay (TblOk.cons R_chip_Chip_State (TblOk.cons R_chip_Chip_Cut (TblOk.cons R_portcullisref04_SameState (TblOk.cons R_chip_Chip_Acts (TblOk.cons R_portcullisref04_Lay (TblOk.cons R_portcullislaw08_fixed (TblOk.cons R_page_Look (TblOk.cons R_portcullisref08_Look (TblOk.cons R_portcullislaw08_like (TblOk.cons R_chip_Chip_Blow (TblOk.nil)))))))))))) Try.func8 (by kernel_rfl) (by kernel_rfl) (E_portcullislaw08_PageLooks F_chip_Lay F_chip_Chip_State F_chip_Chip_Cut F_portcullisref04_SameState F_chip_Chip_Acts F_portcullisref04_Lay F_portcullislaw08_fixed F_page_Look F_portcullisref08_Look F_portcullislaw08_like F_chip_Chip_Blow)
attribute [irreducible] F_portcullislaw08_PageLooks
def G_portcullisref08_Sound (a0p : Option Addr) (a0l : Nat) (a0c : Nat) (Q : Bool → H → Prop) (h : H) : Prop :=
 ∀ (J5 : List SV → H → Prop),
 (∀ (i6 : Int) (h7 : H),
 (if ltI i6 (↑a0l : Int) = true then
 ∀ (J8 : List SV → H → Prop),
 (∀ (i9 : Int) (h10 : H),
 (if ltI i9 16 = true then
 ∃ (p11 : Addr),
 a0p = some p11 ∧
 0 ≤ i6 ∧
 i6 < (↑a0l : Int) ∧
 0 ≤ i9 ∧
 i9 < (↑32 : Int) ∧
 ∃ (i12 : Int),
 hc h10 ((p11.add (i6.toNat * 32)).add (i9.toNat * 1)) = some (Value.int IntKind.u8 i12) ∧
 ∃ (p13 : Addr),
 a0p = some p13 ∧
 0 ≤ i6 ∧
 i6 < (↑a0l : Int) ∧
 0 ≤ IntKind.i64.wrap (16 + i9) ∧
 IntKind.i64.wrap (16 + i9) < (↑32 : Int) ∧
 ∃ (i14 : Int),
 hc h10 ((p13.add (i6.toNat * 32)).add ((IntKind.i64.wrap (16 + i9)).toNat * 1)) = some (Value.int IntKind.u8 i14) ∧
 if (bits BinOp.or IntKind.u8 i12 i14 != 255) = true then Q false h10 else J8 [SV.dv (DV.one (Value.int IntKind.i64 (IntKind.i64.wrap (i9 + 1))))] h10
 else J5 [SV.dv (DV.one (Value.int IntKind.i64 (IntKind.i64.wrap (i6 + 1))))] h10) →
 J8 [SV.dv (DV.one (Value.int IntKind.i64 i9))] h10) →
 J8 [SV.dv (DV.one (Value.int IntKind.i64 0))] h7
 else Q true h7) →
 J5 [SV.dv (DV.one (Value.int IntKind.i64 i6))] h7) →
 J5 [SV.dv (DV.one (Value.int IntKind.i64 0))] h
theorem E_portcullisref08_Sound  : ∀ (a0p : Option Addr) (a0l : Nat) (a0c : Nat) (Q : Bool → H → Prop) (h : H), G_portcullisref08_Sound a0p a0l a0c Q h = Dbody PP [] [(26, [(3, .sc (.int .i64))]), (1682, [(4, .sc (.int .i64))])] Try.f44 [.one (.slice a0p a0l a0c)] (decR [.bool] Q) h := by
  intros; kernel_rfl
def F_portcullisref08_Sound := G_portcullisref08_Sound
theorem R_portcullisref08_Sound : RunOk PP 44 (W [.slc] [.bool] F_portcullisref08_Sound) :=
  runOk_of (T := []) (ann := [(26, [(3, .sc (.int .i64))]), (1682, [(4, .sc (.int .i64))])]) (TblOk.nil) Try.func44 (by kernel_rfl) (by kernel_rfl) (E_portcullisref08_Sound)
attribute [irreducible] F_portcullisref08_Sound
def G_portcullislaw08_PageHalf (c_chip_Lay : Int →
 Int →
 Int →
 Int →
 Int →
 Int →
 Int →
 Option Addr →
 Nat →
 Nat → Option Addr → Nat → Nat → Option Addr → Nat → Nat → (Option Addr → Int → H → Prop) → H → Prop) (c_chip_Chip_Copy : Addr → (Option Addr → H → Prop) → H → Prop) (c_chip_Chip_State : Addr → (Option Addr → Nat → Nat → Option Addr → Nat → Nat → Option Addr → Nat → Nat → H → Prop) → H → Prop) (c_chip_Chip_Cut : Addr → Int → Option Addr → Nat → Nat → (H → Prop) → H → Prop) (c_chip_Chip_Restore : Addr → (H → Prop) → H → Prop) (c_portcullislaw08_fixed : (Bool → H → Prop) → H → Prop) (c_page_Look : Addr → Int → (Int → List Int → Int → Bool → Int → Int → H → Prop) → H → Prop) (c_cell_Value : Int → Int → (List Int → Int → H → Prop) → H → Prop) (c_cell_Head : Int → (List Int → Int → H → Prop) → H → Prop) (c_portcullisref08_Sound : Option Addr → Nat → Nat → (Bool → H → Prop) → H → Prop) (c_portcullisref04_Blank : (List Int → H → Prop) → H → Prop) (c_chip_Chip_Erase : Addr → Int → (Int → H → Prop) → H → Prop) (c_chip_Chip_Program : Addr → Int → Int → List Int → (Int → H → Prop) → H → Prop) (a0_0 : Int) (a0_1 : Int) (a0_2 : Int) (a0_3 : Int) (a0_4 : Int) (a0_5 : Int) (a0_6 : Int) (a1_0p : Option Addr) (a1_0l : Nat) (a1_0c : Nat) (a1_1p : Option Addr) (a1_1l : Nat) (a1_1c : Nat) (a1_2p : Option Addr) (a1_2l : Nat) (a1_2c : Nat) (a2 : Int) (a3 : Int) (a4 : Int) (a5 : Int) (a6 : Bool) (a7 : Bool) (a8p : Option Addr) (a8l : Nat) (a8c : Nat) (Q : Bool → H → Prop) (h : H) : Prop :=
 ∀ (n40 : Nat) (h41 : H),
 hnew h n40 [Value.int IntKind.i64 a0_0, Value.int IntKind.i64 a0_1, Value.int IntKind.i64 a0_2, Value.int IntKind.i64 a0_3, Value.int IntKind.i64 a0_4, Value.int IntKind.i64 a0_5, Value.int IntKind.i64 a0_6] h41 →
 ∀ (n43 : Nat) (h44 : H),
 hnew h41 n43 [Value.slice a1_0p a1_0l a1_0c, Value.slice a1_1p a1_1l a1_1c, Value.slice a1_2p a1_2l a1_2c] h44 →
 c_portcullislaw08_fixed
 (fun (b46 : Bool) (h47 : H) =>
 ∃ (i48 : Int),
 hc h47 (Addr.mk n40 0 none) = some (Value.int IntKind.i64 i48) ∧
 ∃ (i49 : Int),
 hc h47 ((Addr.mk n40 0 none).add 1) = some (Value.int IntKind.i64 i49) ∧
 ∃ (i50 : Int),
 hc h47 ((Addr.mk n40 0 none).add 2) = some (Value.int IntKind.i64 i50) ∧
 ∃ (i51 : Int),
 hc h47 ((Addr.mk n40 0 none).add 3) = some (Value.int IntKind.i64 i51) ∧
 ∃ (i52 : Int),
 hc h47 ((Addr.mk n40 0 none).add 4) = some (Value.int IntKind.i64 i52) ∧
 ∃ (i53 : Int),
 hc h47 ((Addr.mk n40 0 none).add 5) = some (Value.int IntKind.i64 i53) ∧
 ∃ (i54 : Int),
 hc h47 ((Addr.mk n40 0 none).add 6) = some (Value.int IntKind.i64 i54) ∧
 ∃ (o55 : Option Addr),
 ∃ (n56 : Nat),
 ∃ (n57 : Nat),
 hc h47 (Addr.mk n43 0 none) = some (Value.slice o55 n56 n57) ∧
 ∃ (o58 : Option Addr),
 ∃ (n59 : Nat),
 ∃ (n60 : Nat),
 hc h47 ((Addr.mk n43 0 none).add 1) = some (Value.slice o58 n59 n60) ∧
 ∃ (o61 : Option Addr),
 ∃ (n62 : Nat),
 ∃ (n63 : Nat),
 hc h47 ((Addr.mk n43 0 none).add 2) = some (Value.slice o61 n62 n63) ∧
 c_chip_Lay i48 i49 i50 i51 i52 i53 i54 o55 n56 n57 o58 n59 n60 o61 n62 n63
 (fun (o64 : Option Addr) (i65 : Int) (h66 : H) =>
 ∀ (J67 : List SV → H → Prop),
 (∀ (h68 : H),
 c_cell_Value a4 a5
 (fun (l69 : List Int) (i70 : Int) (h71 : H) =>
 ∀ (n72 : Nat) (h73 : H),
 hnew h71 n72 (ints IntKind.u8 (zeros 32)) h73 →
 hcan h73 (Addr.mk n72 0 none) 32 ∧
 ∀ (h75 : H),
 h75 = hwr h73 (Addr.mk n72 0 none) (ints IntKind.u8 l69 ++ []) →
 ∀ (J77 : List SV → H → Prop),
 (∀ (i78 : Int) (h79 : H),
 (∃ (p80 : Addr),
 o64 = some p80 ∧
 c_page_Look p80 a2
 (fun (i81 : Int) (l82 : List Int) (i83 : Int) (b84 : Bool) (i85 i86 : Int) (h87 : H) =>
 ∀ (n88 : Nat) (h89 : H),
 hnew h87 n88
 (Value.int IntKind.i64 0 ::
 (ints IntKind.i64 (zeros 9) ++ [Value.int IntKind.i64 0, Value.bool false, Value.int IntKind.i64 0]))
 h89 →
 hcan h89 (Addr.mk n88 0 none) 13 ∧
 ∀ (h91 : H),
 h91 =
 hwr h89 (Addr.mk n88 0 none)
 (Value.int IntKind.i64 i81 ::
 (ints IntKind.i64 l82 ++
 [Value.int IntKind.i64 i83, Value.bool b84, Value.int IntKind.i64 i85])) →
 if (i86 != 0) = true then
 if ltI a2 0 = true then Q true h91
 else
 ∃ (o93 : Option Addr),
 ∃ (n94 : Nat),
 ∃ (n95 : Nat),
 hc h91 (Addr.mk n43 0 none) = some (Value.slice o93 n94 n95) ∧ Q (leI (↑n94 : Int) a2) h91
 else
 ∀ (J96 : List SV → H → Prop),
 (∀ (h97 : H),
 (∃ (p98 : Addr),
 o64 = some p98 ∧
 c_chip_Chip_Copy p98
 (fun (o99 : Option Addr) (h100 : H) =>
 if o99.isNone = true then Q false h100
 else
 ∃ (o101 : Option Addr),
 ∃ (n102 : Nat),
 ∃ (n103 : Nat),
 hc h100 (Addr.mk n43 0 none) = some (Value.slice o101 n102 n103) ∧
 ∃ (p104 : Addr),
 o101 = some p104 ∧
 0 ≤ a2 ∧
 a2 < (↑n102 : Int) ∧
 ∃ (o105 : Option Addr),
 ∃ (n106 : Nat),
 ∃ (n107 : Nat),
 hc h100 (p104.add (a2.toNat * 1)) =
 some (Value.slice o105 n106 n107) ∧
 c_portcullisref08_Sound o105 n106 n107
 (fun (b108 : Bool) (h109 : H) =>
 ∀ (J110 : List SV → H → Prop),
 (∀ (b111 : Bool) (h112 : H),
 (∀ (J113 : List SV → H → Prop),
 (∀ (h114 : H),
 (∃ (p115 : Addr),
 o64 = some p115 ∧
 c_chip_Chip_Cut p115 0 a8p a8l a8c
 (fun (h116 : H) =>
 ∀ (J117 : List SV → H → Prop),
 (∀ (h118 : H),
 (∃ (p119 : Addr),
 o64 = some p119 ∧
 c_chip_Chip_Restore
 p119
 (fun (h120 : H) =>
 ∃ (p121 : Addr),
 o64 =
 some
 p121 ∧
 c_page_Look
 p121 a2
 (fun
 (i122 :
 Int)
 (l123 :
 List
 Int)
 (i124 :
 Int)
 (b125 :
 Bool)
 (i126
 i127 :
 Int)
 (h128 :
 H) =>
 ∀
 (n129 :
 Nat)
 (h130 :
 H),
 hnew
 h128
 n129
 (Value.int
 IntKind.i64
 0 ::
 (ints
 IntKind.i64
 (zeros
 9) ++
 [Value.int
 IntKind.i64
 0,
 Value.bool
 false,
 Value.int
 IntKind.i64
 0]))
 h130 →
 hcan
 h130
 (Addr.mk
 n129
 0
 none)
 13 ∧
 ∀
 (h132 :
 H),
 h132 =
 hwr
 h130
 (Addr.mk
 n129
 0
 none)
 (Value.int
 IntKind.i64
 i122 ::
 (ints
 IntKind.i64
 l123 ++
 [Value.int
 IntKind.i64
 i124,
 Value.bool
 b125,
 Value.int
 IntKind.i64
 i126])) →
 ∃
 (p134
 :
 Addr),
 o99 =
 some
 p134 ∧
 c_page_Look
 p134
 a2
 (fun
 (i135 :
 Int)
 (l136 :
 List
 Int)
 (i137 :
 Int)
 (b138 :
 Bool)
 (i139
 i140 :
 Int)
 (h141 :
 H) =>
 ∀
 (n142 :
 Nat)
 (h143 :
 H),
 hnew
 h141
 n142
 (Value.int
 IntKind.i64
 0 ::
 (ints
 IntKind.i64
 (zeros
 9) ++
 [Value.int
 IntKind.i64
 0,
 Value.bool
 false,
 Value.int
 IntKind.i64
 0]))
 h143 →
 hcan
 h143
 (Addr.mk
 n142
 0
 none)
 13 ∧
 ∀
 (h145 :
 H),
 h145 =
 hwr
 h143
 (Addr.mk
 n142
 0
 none)
 (Value.int
 IntKind.i64
 i135 ::
 (ints
 IntKind.i64
 l136 ++
 [Value.int
 IntKind.i64
 i137,
 Value.bool
 b138,
 Value.int
 IntKind.i64
 i139])) →
 ∀
 (J147 :
 List
 SV →
 H →
 Prop),
 (∀
 (h148 :
 H),
 (∀
 (J149 :
 List
 SV →
 H →
 Prop),
 (∀
 (i150 :
 Int)
 (h151 :
 H),
 (if
 ltI
 i150
 9 =
 true then
 0 ≤
 i150 ∧
 i150 <
 (↑9 :
 Int) ∧
 ∃
 (i152
 :
 Int),
 hc
 h151
 (((Addr.mk
 n129
 0
 none).add
 1).add
 (i150.toNat *
 1)) =
 some
 (Value.int
 IntKind.i64
 i152) ∧
 0 ≤
 i150 ∧
 i150 <
 (↑9 :
 Int) ∧
 ∃
 (i153
 :
 Int),
 hc
 h151
 (((Addr.mk
 n88
 0
 none).add
 1).add
 (i150.toNat *
 1)) =
 some
 (Value.int
 IntKind.i64
 i153) ∧
 0 ≤
 i150 ∧
 i150 <
 (↑9 :
 Int) ∧
 ∃
 (i154
 :
 Int),
 hc
 h151
 (((Addr.mk
 n142
 0
 none).add
 1).add
 (i150.toNat *
 1)) =
 some
 (Value.int
 IntKind.i64
 i154) ∧
 if
 ltI
 (if
 i154 >
 i153 then
 i154
 else
 i153)
 i152 =
 true then
 Q
 false
 h151
 else
 J149
 [SV.dv
 (DV.one
 (Value.int
 IntKind.i64
 (IntKind.i64.wrap
 (i150 +
 1))))]
 h151
 else
 ∃
 (p155
 :
 Addr),
 o64 =
 some
 p155 ∧
 c_chip_Chip_State
 p155
 (fun
 (o156 :
 Option
 Addr)
 (n157
 n158 :
 Nat)
 (o159 :
 Option
 Addr)
 (n160
 n161 :
 Nat)
 (o162 :
 Option
 Addr)
 (n163
 n164 :
 Nat)
 (h165 :
 H) =>
 ∀
 (n166 :
 Nat)
 (h167 :
 H),
 hnew
 h165
 n166
 [Value.slice
 none
 0
 0,
 Value.slice
 none
 0
 0,
 Value.slice
 none
 0
 0]
 h167 →
 hcan
 h167
 (Addr.mk
 n166
 0
 none)
 3 ∧
 ∀
 (h169 :
 H),
 h169 =
 hwr
 h167
 (Addr.mk
 n166
 0
 none)
 [Value.slice
 o156
 n157
 n158,
 Value.slice
 o159
 n160
 n161,
 Value.slice
 o162
 n163
 n164] →
 ∃
 (o171
 :
 Option
 Addr),
 ∃
 (n172
 :
 Nat),
 ∃
 (n173
 :
 Nat),
 hc
 h169
 (Addr.mk
 n166
 0
 none) =
 some
 (Value.slice
 o171
 n172
 n173) ∧
 ∃
 (p174
 :
 Addr),
 o171 =
 some
 p174 ∧
 0 ≤
 a2 ∧
 a2 <
 (↑n172 :
 Int) ∧
 ∃
 (o175
 :
 Option
 Addr),
 ∃
 (n176
 :
 Nat),
 ∃
 (n177
 :
 Nat),
 hc
 h169
 (p174.add
 (a2.toNat *
 1)) =
 some
 (Value.slice
 o175
 n176
 n177) ∧
 c_portcullisref08_Sound
 o175
 n176
 n177
 (fun
 (b178 :
 Bool)
 (h179 :
 H) =>
 Q
 b178
 h179)
 h169)
 h151) →
 J149
 [SV.dv
 (DV.one
 (Value.int
 IntKind.i64
 i150))]
 h151) →
 J149
 [SV.dv
 (DV.one
 (Value.int
 IntKind.i64
 0))]
 h148) →
 J147
 []
 h148) →
 if
 (i127 !=
 0) =
 true then
 Q
 false
 h145
 else
 if
 (i140 !=
 0) =
 true then
 Q
 false
 h145
 else
 ∃
 (i184
 :
 Int),
 hc
 h145
 (Addr.mk
 n129
 0
 none) =
 some
 (Value.int
 IntKind.i64
 i184) ∧
 ∃
 (i185
 :
 Int),
 hc
 h145
 (Addr.mk
 n88
 0
 none) =
 some
 (Value.int
 IntKind.i64
 i185) ∧
 if
 (i184 !=
 i185) =
 true then
 ∃
 (i186
 :
 Int),
 hc
 h145
 (Addr.mk
 n129
 0
 none) =
 some
 (Value.int
 IntKind.i64
 i186) ∧
 ∃
 (i187
 :
 Int),
 hc
 h145
 (Addr.mk
 n142
 0
 none) =
 some
 (Value.int
 IntKind.i64
 i187) ∧
 if
 (i186 !=
 i187) =
 true then
 ∃
 (i188
 :
 Int),
 hc
 h145
 (Addr.mk
 n129
 0
 none) =
 some
 (Value.int
 IntKind.i64
 i188) ∧
 if
 (i188 !=
 0) =
 true then
 Q
 false
 h145
 else
 J147
 []
 h145
 else
 J147
 []
 h145
 else
 J147
 []
 h145)
 h132)
 h120)
 h118) →
 J117 [] h118) →
 if a7 = true then
 ∃ (p191 : Addr),
 o64 = some p191 ∧
 c_chip_Chip_Erase p191
 a2
 (fun (i192 : Int)
 (h193 : H) =>
 ∃ (p194 : Addr),
 o99 =
 some p194 ∧
 c_chip_Chip_Erase
 p194 a2
 (fun
 (i195 :
 Int)
 (h196 :
 H) =>
 J117 []
 h196)
 h193)
 h116
 else
 ∃ (l197 : List Int),
 l197.length = 32 ∧
 hrow h116
 (Addr.mk n72 0
 none)
 IntKind.u8 l197 ∧
 ∃ (p198 : Addr),
 o64 = some p198 ∧
 c_chip_Chip_Program
 p198 a2 a3
 l197
 (fun
 (i199 :
 Int)
 (h200 :
 H) =>
 ∃ (l201 :
 List Int),
 l201.length =
 32 ∧
 hrow
 h200
 (Addr.mk
 n72
 0
 none)
 IntKind.u8
 l201 ∧
 ∃
 (p202
 :
 Addr),
 o99 =
 some
 p202 ∧
 c_chip_Chip_Program
 p202
 a2
 a3
 l201
 (fun
 (i203 :
 Int)
 (h204 :
 H) =>
 J117
 []
 h204)
 h200)
 h116)
 h114) →
 J113 [] h114) →
 if (!b108) = true then Q true h112
 else
 if (!a7) = true then
 if (!b111) = true then Q true h112
 else J113 [] h112
 else J113 [] h112) →
 J110 [SV.dv (DV.one (Value.bool b111))] h112) →
 if leI 0 a3 = true then
 ∃ (i209 : Int),
 hc h109 (Addr.mk n40 0 none) =
 some (Value.int IntKind.i64 i209) ∧
 if ltI a3 i209 = true then
 ∃ (o210 : Option Addr),
 ∃ (n211 : Nat),
 ∃ (n212 : Nat),
 hc h109 (Addr.mk n43 0 none) =
 some
 (Value.slice o210 n211 n212) ∧
 ∃ (p213 : Addr),
 o210 = some p213 ∧
 0 ≤ a2 ∧
 a2 < (↑n211 : Int) ∧
 ∃ (o214 : Option Addr),
 ∃ (n215 : Nat),
 ∃ (n216 : Nat),
 hc h109
 (p213.add
 (a2.toNat *
 1)) =
 some
 (Value.slice
 o214 n215
 n216) ∧
 ∃ (p217 : Addr),
 o214 = some p217 ∧
 0 ≤ a3 ∧
 a3 <
 (↑n215 :
 Int) ∧
 ∃ (l218 :
 List Int),
 l218.length =
 32 ∧
 hrow
 h109
 (p217.add
 (a3.toNat *
 32))
 IntKind.u8
 l218 ∧
 c_portcullisref04_Blank
 (fun
 (l219 :
 List
 Int)
 (h220 :
 H) =>
 hcs
 h220
 (p217.add
 (a3.toNat *
 32))
 (ints
 IntKind.u8
 l218 ++
 []) ∧
 hcs
 h220
 (p213.add
 (a2.toNat *
 1))
 [Value.slice
 o214
 n215
 n216] ∧
 hcs
 h220
 (Addr.mk
 n43
 0
 none)
 [Value.slice
 o210
 n211
 n212] ∧
 J110
 [SV.dv
 (DV.one
 (Value.bool
 (l218 ==
 l219)))]
 h220)
 h109
 else
 J110 [SV.dv (DV.one (Value.bool false))]
 h109
 else J110 [SV.dv (DV.one (Value.bool false))] h109)
 h100)
 h97) →
 J96 [] h97) →
 if (i78 != 0) = true then if (!a7) = true then Q true h91 else J96 [] h91 else J96 [] h91)
 h79) →
 J77 [SV.dv (DV.one (Value.int IntKind.i64 i78))] h79) →
 if a6 = true then
 c_cell_Head a5
 (fun (l225 : List Int) (i226 : Int) (h227 : H) =>
 hcan h227 (Addr.mk n72 0 none) 32 ∧
 ∀ (h228 : H),
 h228 = hwr h227 (Addr.mk n72 0 none) (ints IntKind.u8 l225 ++ []) →
 J77 [SV.dv (DV.one (Value.int IntKind.i64 i226))] h228)
 h75
 else J77 [SV.dv (DV.one (Value.int IntKind.i64 i70))] h75)
 h68 →
 J67 [] h68) →
 if (!b46) = true then if b46 = true then Q (o64.isNone == (i65 != 0)) h66 else Q false h66
 else
 if o64.isNone = true then if b46 = true then Q (o64.isNone == (i65 != 0)) h66 else Q false h66
 else if (i65 != 0) = true then if b46 = true then Q (o64.isNone == (i65 != 0)) h66 else Q false h66 else J67 [] h66)
 h47)
 h44
theorem E_portcullislaw08_PageHalf (c_chip_Lay : Int → Int → Int → Int → Int → Int → Int → (Option Addr) → Nat → Nat → (Option Addr) → Nat → Nat → (Option Addr) → Nat → Nat → ((Option Addr) → Int → H → Prop) → H → Prop) (c_chip_Chip_Copy : Addr → ((Option Addr) → H → Prop) → H → Prop) (c_chip_Chip_State : Addr → ((Option Addr) → Nat → Nat → (Option Addr) → Nat → Nat → (Option Addr) → Nat → Nat → H → Prop) → H → Prop) (c_chip_Chip_Cut : Addr → Int → (Option Addr) → Nat → Nat → (H → Prop) → H → Prop) (c_chip_Chip_Restore : Addr → (H → Prop) → H → Prop) (c_portcullislaw08_fixed : (Bool → H → Prop) → H → Prop) (c_page_Look : Addr → Int → (Int → (List Int) → Int → Bool → Int → Int → H → Prop) → H → Prop) (c_cell_Value : Int → Int → ((List Int) → Int → H → Prop) → H → Prop) (c_cell_Head : Int → ((List Int) → Int → H → Prop) → H → Prop) (c_portcullisref08_Sound : (Option Addr) → Nat → Nat → (Bool → H → Prop) → H → Prop) (c_portcullisref04_Blank : ((List Int) → H → Prop) → H → Prop) (c_chip_Chip_Erase : Addr → Int → (Int → H → Prop) → H → Prop) (c_chip_Chip_Program : Addr → Int → Int → (List Int) → (Int → H → Prop) → H → Prop) : ∀ (a0_0 : Int) (a0_1 : Int) (a0_2 : Int) (a0_3 : Int) (a0_4 : Int) (a0_5 : Int) (a0_6 : Int) (a1_0p : Option Addr) (a1_0l : Nat) (a1_0c : Nat) (a1_1p : Option Addr) (a1_1l : Nat) (a1_1c : Nat) (a1_2p : Option Addr) (a1_2l : Nat) (a1_2c : Nat) (a2 : Int) (a3 : Int) (a4 : Int) (a5 : Int) (a6 : Bool) (a7 : Bool) (a8p : Option Addr) (a8l : Nat) (a8c : Nat) (Q : Bool → H → Prop) (h : H), G_portcullislaw08_PageHalf c_chip_Lay c_chip_Chip_Copy c_chip_Chip_State c_chip_Chip_Cut c_chip_Chip_Restore c_portcullislaw08_fixed c_page_Look c_cell_Value c_cell_Head c_portcullisref08_Sound c_portcullisref04_Blank c_chip_Chip_Erase c_chip_Chip_Program a0_0 a0_1 a0_2 a0_3 a0_4 a0_5 a0_6 a1_0p a1_0l a1_0c a1_1p a1_1l a1_1c a1_2p a1_2l a1_2c a2 a3 a4 a5 a6 a7 a8p a8l a8c Q h = Dbody PP [(20, W [.ag [.int .i64, .int .i64, .int .i64, .int .i64, .int .i64, .int .i64, .int .i64], .ag [.slc, .slc, .slc]] [.ptr, .int .i64] c_chip_Lay), (21, W [.addr] [.ptr] c_chip_Chip_Copy), (22, W [.addr] [.ag [.slc, .slc, .slc]] c_chip_Chip_State), (23, W [.addr, .int .i64, .slc] [] c_chip_Chip_Cut), (36, W [.addr] [] c_chip_Chip_Restore), (37, W [] [.bool] c_portcullislaw08_fixed), (38, W [.addr, .int .i64] [.ag [.int .i64, .row .i64 9, .int .i64, .bool, .int .i64], .int .i64] c_page_Look), (42, W [.int .i64, .int .i64] [.ag [.row .u8 32], .int .i64] c_cell_Value), (43, W [.int .i64] [.ag [.row .u8 32], .int .i64] c_cell_Head), (44, W [.slc] [.bool] c_portcullisref08_Sound), (45, W [] [.ag [.row .u8 32]] c_portcullisref04_Blank), (46, W [.addr, .int .i64] [.int .i64] c_chip_Chip_Erase), (47, W [.addr, .int .i64, .int .i64, .ag [.row .u8 32]] [.int .i64] c_chip_Chip_Program)] [(15, []), (63, [(23, .sc (.int .i64))]), (511, []), (8191, [(28, .sc (.bool))]), (16383, []), (65535, []), (1048575, []), (16777210, [(33, .sc (.int .i64))])] Try.f9 [.agg [.c (.int .i64 a0_0), .c (.int .i64 a0_1), .c (.int .i64 a0_2), .c (.int .i64 a0_3), .c (.int .i64 a0_4), .c (.int .i64 a0_5), .c (.int .i64 a0_6)], .agg [.c (.slice a1_0p a1_0l a1_0c), .c (.slice a1_1p a1_1l a1_1c), .c (.slice a1_2p a1_2l a1_2c)], .one (.int .i64 a2), .one (.int .i64 a3), .one (.int .i64 a4), .one (.int .i64 a5), .one (.bool a6), .one (.bool a7), .one (.slice a8p a8l a8c)] (decR [.bool] Q) h := by
  intros; kernel_rfl
def F_portcullislaw08_PageHalf := G_portcullislaw08_PageHalf F_chip_Lay F_chip_Chip_Copy F_chip_Chip_State F_chip_Chip_Cut F_chip_Chip_Restore F_portcullislaw08_fixed F_page_Look F_cell_Value F_cell_Head F_portcullisref08_Sound F_portcullisref04_Blank F_chip_Chip_Erase F_chip_Chip_Program
theorem R_portcullislaw08_PageHalf : RunOk PP 9 (W [.ag [.int .i64, .int .i64, .int .i64, .int .i64, .int .i64, .int .i64, .int .i64], .ag [.slc, .slc, .slc], .int .i64, .int .i64, .int .i64, .int .i64, .bool, .bool, .slc] [.bool] F_portcullislaw08_PageHalf) :=
  runOk_of (T := [(20, W [.ag [.int .i64, .int .i64, .int .i64, .int .i64, .int .i64, .int .i64, .int .i64], .ag [.slc, .slc, .slc]] [.ptr, .int .i64] F_chip_Lay), (21, W [.addr] [.ptr] F_chip_Chip_Copy), (22, W [.addr] [.ag [.slc, .slc, .slc]] F_chip_Chip_State), (23, W [.addr, .int .i64, .slc] [] F_chip_Chip_Cut), (36, W [.addr] [] F_chip_Chip_Restore), (37, W [] [.bool] F_portcullislaw08_fixed), (38, W [.addr, .int .i64] [.ag [.int .i64, .row .i64 9, .int .i64, .bool, .int .i64], .int .i64] F_page_Look), (42, W [.int .i64, .int .i64] [.ag [.row .u8 32], .int .i64] F_cell_Value), (43, W [.int .i64] [.ag [.row .u8 32], .int .i64] F_cell_Head), (44, W [.slc] [.bool] F_portcullisref08_Sound), (45, W [] [.ag [.row .u8 32]] F_portcullisref04_Blank), (46, W [.addr, .int .i64] [.int .i64] F_chip_Chip_Erase), (47, W [.addr, .int .i64, .int .i64, .ag [.row .u8 32]] [.int .i64] F_chip_Chip_Program)]) (ann := [(15, []), (63, [(23, .sc (.int .i64))]), (511, []), (8191, [(28, .sc (.bool))]), (16383, []), (65535, []), (1048575, []), (16777210, [(33, .sc (.int .i64))])]) (TblOk.cons R_chip_Lay (TblOk.cons R_chip_Chip_Copy (TblOk.cons R_chip_Chip_State (TblOk.cons R_chip_Chip_Cut (TblOk.cons R_chip_Chip_Restore (TblOk.cons R_portcullislaw08_fixed (TblOk.cons R_page_Look (TblOk.cons R_cell_Value (TblOk.cons R_cell_Head (TblOk.cons R_portcullisref08_Sound (TblOk.cons R_portcullisref04_Blank (TblOk.cons R_chip_Chip_Erase (TblOk.cons R_chip_Chip_Program (TblOk.nil)))))))))))))) Try.func9 (by kernel_rfl) (by kernel_rfl) (E_portcullislaw08_PageHalf F_chip_Lay F_chip_Chip_Copy F_chip_Chip_State F_chip_Chip_Cut F_chip_Chip_Restore F_portcullislaw08_fixed F_page_Look F_cell_Value F_cell_Head F_portcullisref08_Sound F_portcullisref04_Blank F_chip_Chip_Erase F_chip_Chip_Program)
attribute [irreducible] F_portcullislaw08_PageHalf
def G_wear_config_lays (a0_0 : Int) (a0_1 : Int) (a0_2 : Int) (a0_3 : Int) (a0_4 : Int) (a0_5 : Int) (a0_6 : Int) (Q : Int → H → Prop) (h : H) : Prop :=
 ∀ (n9 : Nat) (h10 : H),
 hnew h n9 [Value.int IntKind.i64 a0_0, Value.int IntKind.i64 a0_1, Value.int IntKind.i64 a0_2, Value.int IntKind.i64 a0_3, Value.int IntKind.i64 a0_4, Value.int IntKind.i64 a0_5, Value.int IntKind.i64 a0_6] h10 →
 ∃ (i12 : Int),
 hc h10 (Addr.mk n9 0 none) = some (Value.int IntKind.i64 i12) ∧ ∃ (i13 : Int), hc h10 ((Addr.mk n9 0 none).add 1) = some (Value.int IntKind.i64 i13) ∧ Q (IntKind.i64.wrap (IntKind.i64.wrap (i12 - i13) - 1)) h10
theorem E_wear_config_lays  : ∀ (a0_0 : Int) (a0_1 : Int) (a0_2 : Int) (a0_3 : Int) (a0_4 : Int) (a0_5 : Int) (a0_6 : Int) (Q : Int → H → Prop) (h : H), G_wear_config_lays a0_0 a0_1 a0_2 a0_3 a0_4 a0_5 a0_6 Q h = Dbody PP [] [] Try.f103 [.agg [.c (.int .i64 a0_0), .c (.int .i64 a0_1), .c (.int .i64 a0_2), .c (.int .i64 a0_3), .c (.int .i64 a0_4), .c (.int .i64 a0_5), .c (.int .i64 a0_6)]] (decR [.int .i64] Q) h := by
  intros; kernel_rfl
def F_wear_config_lays := G_wear_config_lays
theorem R_wear_config_lays : RunOk PP 103 (W [.ag [.int .i64, .int .i64, .int .i64, .int .i64, .int .i64, .int .i64, .int .i64]] [.int .i64] F_wear_config_lays) :=
  runOk_of (T := []) (ann := []) (TblOk.nil) Try.func103 (by kernel_rfl) (by kernel_rfl) (E_wear_config_lays)
attribute [irreducible] F_wear_config_lays
end Go.Proofs.Ytamfkofcpoglnaa
