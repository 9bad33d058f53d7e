/- StoreDoes: what is proved and its parts, laid together by a program of ours: F Hp Hs Lp Sl -/
import Derived.Test.YteabcbpimjjdpaaGreatK9
set_option autoImplicit false
set_option linter.all false
/- Denotations of functions of the program, printed by a program of ours, and that they are the model's. -/
section
set_option linter.unusedVariables false
set_option maxRecDepth 100000
namespace Go.Proofs.YteabcbpimjjdpaaGreat
open Go Go.Vc
def G_portcullisref10_BumpTo (c_portcullisref10_Read : Addr → Int → (Int → Int → H → Prop) → H → Prop) (c_portcullisref10_Last : Int → Int → Int → Int → Int → Int → Int → (Int → H → Prop) → H → Prop) (c_portcullisref09_Lay : Addr → Int → Int → (Int → H → Prop) → H → Prop) (c_portcullisref07_Raise : Addr → Int → Int → (Int → H → Prop) → H → Prop) (a0 : Addr) (a1 : Int) (a2 : Int) (Q : Int → H → Prop) (h : H) : Prop := c_portcullisref10_Read a0 a1 (fun (i9 i10 : Int) (h11 : H) => if (i10 != 0) = true then Q i10 h11 else if ltI a2 0 = true then Q 2 h11 else if leI a2 i9 = true then Q 0 h11 else ∃ (i12 : Int), hc h11 a0 = some (Value.int IntKind.i64 i12) ∧ ∃ (i13 : Int), hc h11 (a0.add 1) = some (Value.int IntKind.i64 i13) ∧ ∃ (i14 : Int), hc h11 (a0.add 2) = some (Value.int IntKind.i64 i14) ∧ ∃ (i15 : Int), hc h11 (a0.add 3) = some (Value.int IntKind.i64 i15) ∧ ∃ (i16 : Int), hc h11 (a0.add 4) = some (Value.int IntKind.i64 i16) ∧ ∃ (i17 : Int), hc h11 (a0.add 5) = some (Value.int IntKind.i64 i17) ∧ ∃ (i18 : Int), hc h11 (a0.add 6) = some (Value.int IntKind.i64 i18) ∧ c_portcullisref10_Last i12 i13 i14 i15 i16 i17 i18 (fun (i19 : Int) (h20 : H) => if ltI i19 a2 = true then Q 10 h20 else c_portcullisref09_Lay a0 a1 a2 (fun (i21 : Int) (h22 : H) => if (i21 != 0) = true then Q i21 h22 else ∃ (i23 : Int), hc h22 (a0.add 3) = some (Value.int IntKind.i64 i23) ∧ i23 ≠ 0 ∧ c_portcullisref07_Raise a0 a1 (IntKind.i64.wrap (a2.tdiv i23)) (fun (i24 : Int) (h25 : H) => Q i24 h25) h22) h20) h11) h
theorem E_portcullisref10_BumpTo (c_portcullisref10_Read : Addr → Int → (Int → Int → H → Prop) → H → Prop) (c_portcullisref10_Last : Int → Int → Int → Int → Int → Int → Int → (Int → H → Prop) → H → Prop) (c_portcullisref09_Lay : Addr → Int → Int → (Int → H → Prop) → H → Prop) (c_portcullisref07_Raise : Addr → Int → Int → (Int → H → Prop) → H → Prop) : ∀ (a0 : Addr) (a1 : Int) (a2 : Int) (Q : Int → H → Prop) (h : H), G_portcullisref10_BumpTo c_portcullisref10_Read c_portcullisref10_Last c_portcullisref09_Lay c_portcullisref07_Raise a0 a1 a2 Q h = Dbody PP [(62, W [.addr, .int .i64] [.int .i64, .int .i64] c_portcullisref10_Read), (106, W [.ag [.int .i64, .int .i64, .int .i64, .int .i64, .int .i64, .int .i64, .int .i64]] [.int .i64] c_portcullisref10_Last), (110, W [.addr, .int .i64, .int .i64] [.int .i64] c_portcullisref09_Lay), (111, W [.addr, .int .i64, .int .i64] [.int .i64] c_portcullisref07_Raise)] [] Tryz.f64 [.addr a0, .one (.int .i64 a1), .one (.int .i64 a2)] (decR [.int .i64] Q) h := by intros; kernel_rfl
def F_portcullisref10_BumpTo := G_portcullisref10_BumpTo F_portcullisref10_Read F_portcullisref10_Last F_portcullisref09_Lay F_portcullisref07_Raise
theorem R_portcullisref10_BumpTo : RunOk PP 64 (W [.addr, .int .i64, .int .i64] [.int .i64] F_portcullisref10_BumpTo) := runOk_of (T := [(62, W [.addr, .int .i64] [.int .i64, .int .i64] F_portcullisref10_Read), (106, W [.ag [.int .i64, .int .i64, .int .i64, .int .i64, .int .i64, .int .i64, .int .i64]] [.int .i64] F_portcullisref10_Last), (110, W [.addr, .int .i64, .int .i64] [.int .i64] F_portcullisref09_Lay), (111, W [.addr, .int .i64, .int .i64] [.int .i64] F_portcullisref07_Raise)]) (ann := []) (TblOk.cons R_portcullisref10_Read (TblOk.cons R_portcullisref10_Last (TblOk.cons R_portcullisref09_Lay (TblOk.cons R_portcullisref07_Raise (TblOk.nil))))) Tryz.func64 (by kernel_rfl) (by kernel_rfl) (E_portcullisref10_BumpTo F_portcullisref10_Read F_portcullisref10_Last F_portcullisref09_Lay F_portcullisref07_Raise)
attribute [irreducible] F_portcullisref10_BumpTo
def G_portcullisref10_Bump (c_portcullisref10_Read : Addr → Int → (Int → Int → H → Prop) → H → Prop) (c_portcullisref10_BumpTo : Addr → Int → Int → (Int → H → Prop) → H → Prop) (a0 : Addr) (a1 : Int) (Q : Int → Int → H → Prop) (h : H) : Prop := c_portcullisref10_Read a0 a1 (fun (i6 i7 : Int) (h8 : H) => if (i7 != 0) = true then Q 0 i7 h8 else c_portcullisref10_BumpTo a0 a1 (IntKind.i64.wrap (i6 + 1)) (fun (i9 : Int) (h10 : H) => if (i9 != 0) = true then Q 0 i9 h10 else Q (IntKind.i64.wrap (i6 + 1)) 0 h10) h8) h
theorem E_portcullisref10_Bump (c_portcullisref10_Read : Addr → Int → (Int → Int → H → Prop) → H → Prop) (c_portcullisref10_BumpTo : Addr → Int → Int → (Int → H → Prop) → H → Prop) : ∀ (a0 : Addr) (a1 : Int) (Q : Int → Int → H → Prop) (h : H), G_portcullisref10_Bump c_portcullisref10_Read c_portcullisref10_BumpTo a0 a1 Q h = Dbody PP [(62, W [.addr, .int .i64] [.int .i64, .int .i64] c_portcullisref10_Read), (64, W [.addr, .int .i64, .int .i64] [.int .i64] c_portcullisref10_BumpTo)] [] Tryz.f63 [.addr a0, .one (.int .i64 a1)] (decR [.int .i64, .int .i64] Q) h := by intros; kernel_rfl
def F_portcullisref10_Bump := G_portcullisref10_Bump F_portcullisref10_Read F_portcullisref10_BumpTo
theorem R_portcullisref10_Bump : RunOk PP 63 (W [.addr, .int .i64] [.int .i64, .int .i64] F_portcullisref10_Bump) := runOk_of (T := [(62, W [.addr, .int .i64] [.int .i64, .int .i64] F_portcullisref10_Read), (64, W [.addr, .int .i64, .int .i64] [.int .i64] F_portcullisref10_BumpTo)]) (ann := []) (TblOk.cons R_portcullisref10_Read (TblOk.cons R_portcullisref10_BumpTo (TblOk.nil))) Tryz.func63 (by kernel_rfl) (by kernel_rfl) (E_portcullisref10_Bump F_portcullisref10_Read F_portcullisref10_BumpTo)
attribute [irreducible] F_portcullisref10_Bump
def G_fuse_of (c_chip_Chip_Config : Addr → (Int → Int → Int → Int → Int → Int → Int → H → Prop) → H → Prop) (a0 : Addr) (a1 : Int) (Q : Int → H → Prop) (h : H) : Prop := c_chip_Chip_Config a0 (fun (i5 i6 i7 i8 i9 i10 i11 : Int) (h12 : H) => c_chip_Chip_Config a0 (fun (i13 i14 i15 i16 i17 i18 i19 : Int) (h20 : H) => Q (IntKind.i64.wrap (IntKind.i64.wrap (i6 * i15) + a1)) h20) h12) h
theorem E_fuse_of (c_chip_Chip_Config : Addr → (Int → Int → Int → Int → Int → Int → Int → H → Prop) → H → Prop) : ∀ (a0 : Addr) (a1 : Int) (Q : Int → H → Prop) (h : H), G_fuse_of c_chip_Chip_Config a0 a1 Q h = Dbody PP [(78, W [.addr] [.ag [.int .i64, .int .i64, .int .i64, .int .i64, .int .i64, .int .i64, .int .i64]] c_chip_Chip_Config)] [] Tryz.f134 [.addr a0, .one (.int .i64 a1)] (decR [.int .i64] Q) h := by intros; kernel_rfl
def F_fuse_of := G_fuse_of F_chip_Chip_Config
theorem R_fuse_of : RunOk PP 134 (W [.addr, .int .i64] [.int .i64] F_fuse_of) := runOk_of (T := [(78, W [.addr] [.ag [.int .i64, .int .i64, .int .i64, .int .i64, .int .i64, .int .i64, .int .i64]] F_chip_Chip_Config)]) (ann := []) (TblOk.cons R_chip_Chip_Config (TblOk.nil)) Tryz.func134 (by kernel_rfl) (by kernel_rfl) (E_fuse_of F_chip_Chip_Config)
attribute [irreducible] F_fuse_of
def G_fuse_Revoked (c_chip_Chip_Config : Addr → (Int → Int → Int → Int → Int → Int → Int → H → Prop) → H → Prop) (c_fuse_asked : Addr → Int → Int → (Int → H → Prop) → H → Prop) (c_fuse_of : Addr → Int → (Int → H → Prop) → H → Prop) (c_chip_Chip_Blown : Addr → Int → (Bool → Int → H → Prop) → H → Prop) (a0 : Addr) (a1 : Int) (Q : Bool → Int → H → Prop) (h : H) : Prop := c_chip_Chip_Config a0 (fun (i8 i9 i10 i11 i12 i13 i14 : Int) (h15 : H) => c_fuse_asked a0 a1 i12 (fun (i16 : Int) (h17 : H) => if (i16 != 0) = true then Q false i16 h17 else c_fuse_of a0 a1 (fun (i18 : Int) (h19 : H) => c_chip_Chip_Blown a0 i18 (fun (b20 : Bool) (i21 : Int) (h22 : H) => Q b20 i21 h22) h19) h17) h15) h
theorem E_fuse_Revoked (c_chip_Chip_Config : Addr → (Int → Int → Int → Int → Int → Int → Int → H → Prop) → H → Prop) (c_fuse_asked : Addr → Int → Int → (Int → H → Prop) → H → Prop) (c_fuse_of : Addr → Int → (Int → H → Prop) → H → Prop) (c_chip_Chip_Blown : Addr → Int → (Bool → Int → H → Prop) → H → Prop) : ∀ (a0 : Addr) (a1 : Int) (Q : Bool → Int → H → Prop) (h : H), G_fuse_Revoked c_chip_Chip_Config c_fuse_asked c_fuse_of c_chip_Chip_Blown a0 a1 Q h = Dbody PP [(78, W [.addr] [.ag [.int .i64, .int .i64, .int .i64, .int .i64, .int .i64, .int .i64, .int .i64]] c_chip_Chip_Config), (128, W [.addr, .int .i64, .int .i64] [.int .i64] c_fuse_asked), (134, W [.addr, .int .i64] [.int .i64] c_fuse_of), (135, W [.addr, .int .i64] [.bool, .int .i64] c_chip_Chip_Blown)] [] Tryz.f114 [.addr a0, .one (.int .i64 a1)] (decR [.bool, .int .i64] Q) h := by intros; kernel_rfl
def F_fuse_Revoked := G_fuse_Revoked F_chip_Chip_Config F_fuse_asked F_fuse_of F_chip_Chip_Blown
theorem R_fuse_Revoked : RunOk PP 114 (W [.addr, .int .i64] [.bool, .int .i64] F_fuse_Revoked) := runOk_of (T := [(78, W [.addr] [.ag [.int .i64, .int .i64, .int .i64, .int .i64, .int .i64, .int .i64, .int .i64]] F_chip_Chip_Config), (128, W [.addr, .int .i64, .int .i64] [.int .i64] F_fuse_asked), (134, W [.addr, .int .i64] [.int .i64] F_fuse_of), (135, W [.addr, .int .i64] [.bool, .int .i64] F_chip_Chip_Blown)]) (ann := []) (TblOk.cons R_chip_Chip_Config (TblOk.cons R_fuse_asked (TblOk.cons R_fuse_of (TblOk.cons R_chip_Chip_Blown (TblOk.nil))))) Tryz.func114 (by kernel_rfl) (by kernel_rfl) (E_fuse_Revoked F_chip_Chip_Config F_fuse_asked F_fuse_of F_chip_Chip_Blown)
attribute [irreducible] F_fuse_Revoked
def G_fuse_Revoke (c_fuse_Revoked : Addr → Int → (Bool → Int → H → Prop) → H → Prop) (c_chip_Chip_Blow : Addr → Int → (Int → H → Prop) → H → Prop) (c_fuse_of : Addr → Int → (Int → H → Prop) → H → Prop) (a0 : Addr) (a1 : Int) (Q : Int → H → Prop) (h : H) : Prop := c_fuse_Revoked a0 a1 (fun (b7 : Bool) (i8 : Int) (h9 : H) => if (i8 != 0) = true then Q i8 h9 else if b7 = true then Q i8 h9 else c_fuse_of a0 a1 (fun (i10 : Int) (h11 : H) => c_chip_Chip_Blow a0 i10 (fun (i12 : Int) (h13 : H) => Q i12 h13) h11) h9) h
theorem E_fuse_Revoke (c_fuse_Revoked : Addr → Int → (Bool → Int → H → Prop) → H → Prop) (c_chip_Chip_Blow : Addr → Int → (Int → H → Prop) → H → Prop) (c_fuse_of : Addr → Int → (Int → H → Prop) → H → Prop) : ∀ (a0 : Addr) (a1 : Int) (Q : Int → H → Prop) (h : H), G_fuse_Revoke c_fuse_Revoked c_chip_Chip_Blow c_fuse_of a0 a1 Q h = Dbody PP [(114, W [.addr, .int .i64] [.bool, .int .i64] c_fuse_Revoked), (130, W [.addr, .int .i64] [.int .i64] c_chip_Chip_Blow), (134, W [.addr, .int .i64] [.int .i64] c_fuse_of)] [] Tryz.f112 [.addr a0, .one (.int .i64 a1)] (decR [.int .i64] Q) h := by intros; kernel_rfl
def F_fuse_Revoke := G_fuse_Revoke F_fuse_Revoked F_chip_Chip_Blow F_fuse_of
theorem R_fuse_Revoke : RunOk PP 112 (W [.addr, .int .i64] [.int .i64] F_fuse_Revoke) := runOk_of (T := [(114, W [.addr, .int .i64] [.bool, .int .i64] F_fuse_Revoked), (130, W [.addr, .int .i64] [.int .i64] F_chip_Chip_Blow), (134, W [.addr, .int .i64] [.int .i64] F_fuse_of)]) (ann := []) (TblOk.cons R_fuse_Revoked (TblOk.cons R_chip_Chip_Blow (TblOk.cons R_fuse_of (TblOk.nil)))) Tryz.func112 (by kernel_rfl) (by kernel_rfl) (E_fuse_Revoke F_fuse_Revoked F_chip_Chip_Blow F_fuse_of)
attribute [irreducible] F_fuse_Revoke
def G_store_Store_Revoke (c_chip_Chip_Config : Addr → (Int → Int → Int → Int → Int → Int → Int → H → Prop) → H → Prop) (c_store_Store_asked : Addr → Int → Int → (Int → H → Prop) → H → Prop) (c_fuse_Revoke : Addr → Int → (Int → H → Prop) → H → Prop) (a0 : Addr) (a1 : Int) (Q : Int → H → Prop) (h : H) : Prop := ∃ (o7 : Option Addr), hc h a0 = some (Value.pointer o7) ∧ ∃ (p8 : Addr), o7 = some p8 ∧ c_chip_Chip_Config p8 (fun (i9 i10 i11 i12 i13 i14 i15 : Int) (h16 : H) => c_store_Store_asked a0 a1 i13 (fun (i17 : Int) (h18 : H) => if (i17 != 0) = true then Q i17 h18 else ∃ (o19 : Option Addr), hc h18 a0 = some (Value.pointer o19) ∧ ∃ (p20 : Addr), o19 = some p20 ∧ c_fuse_Revoke p20 a1 (fun (i21 : Int) (h22 : H) => Q i21 h22) h18) h16) h
theorem E_store_Store_Revoke (c_chip_Chip_Config : Addr → (Int → Int → Int → Int → Int → Int → Int → H → Prop) → H → Prop) (c_store_Store_asked : Addr → Int → Int → (Int → H → Prop) → H → Prop) (c_fuse_Revoke : Addr → Int → (Int → H → Prop) → H → Prop) : ∀ (a0 : Addr) (a1 : Int) (Q : Int → H → Prop) (h : H), G_store_Store_Revoke c_chip_Chip_Config c_store_Store_asked c_fuse_Revoke a0 a1 Q h = Dbody PP [(78, W [.addr] [.ag [.int .i64, .int .i64, .int .i64, .int .i64, .int .i64, .int .i64, .int .i64]] c_chip_Chip_Config), (101, W [.addr, .int .i64, .int .i64] [.int .i64] c_store_Store_asked), (112, W [.addr, .int .i64] [.int .i64] c_fuse_Revoke)] [] Tryz.f65 [.addr a0, .one (.int .i64 a1)] (decR [.int .i64] Q) h := by intros; kernel_rfl
def F_store_Store_Revoke := G_store_Store_Revoke F_chip_Chip_Config F_store_Store_asked F_fuse_Revoke
theorem R_store_Store_Revoke : RunOk PP 65 (W [.addr, .int .i64] [.int .i64] F_store_Store_Revoke) := runOk_of (T := [(78, W [.addr] [.ag [.int .i64, .int .i64, .int .i64, .int .i64, .int .i64, .int .i64, .int .i64]] F_chip_Chip_Config), (101, W [.addr, .int .i64, .int .i64] [.int .i64] F_store_Store_asked), (112, W [.addr, .int .i64] [.int .i64] F_fuse_Revoke)]) (ann := []) (TblOk.cons R_chip_Chip_Config (TblOk.cons R_store_Store_asked (TblOk.cons R_fuse_Revoke (TblOk.nil)))) Tryz.func65 (by kernel_rfl) (by kernel_rfl) (E_store_Store_Revoke F_chip_Chip_Config F_store_Store_asked F_fuse_Revoke)
attribute [irreducible] F_store_Store_Revoke
def G_portcullisref07_Revoked (c_portcullisref07_may : Addr → Int → Int → (Int → H → Prop) → H → Prop) (a0 : Addr) (a1 : Int) (Q : Bool → Int → H → Prop) (h : H) : Prop := ∃ (i5 : Int), hc h (a0.add 4) = some (Value.int IntKind.i64 i5) ∧ c_portcullisref07_may a0 a1 i5 (fun (i6 : Int) (h7 : H) => if (i6 != 0) = true then Q false i6 h7 else ∃ (o8 : Option Addr), ∃ (n9 : Nat), ∃ (n10 : Nat), hc h7 (a0.add 9) = some (Value.slice o8 n9 n10) ∧ ∃ (i11 : Int), hc h7 (a0.add 1) = some (Value.int IntKind.i64 i11) ∧ ∃ (i12 : Int), hc h7 (a0.add 2) = some (Value.int IntKind.i64 i12) ∧ ∃ (p13 : Addr), o8 = some p13 ∧ 0 ≤ IntKind.i64.wrap (IntKind.i64.wrap (i11 * i12) + a1) ∧ IntKind.i64.wrap (IntKind.i64.wrap (i11 * i12) + a1) < (↑n9 : Int) ∧ ∃ (b14 : Bool), hc h7 (p13.add ((IntKind.i64.wrap (IntKind.i64.wrap (i11 * i12) + a1)).toNat * 1)) = some (Value.bool b14) ∧ Q b14 0 h7) h
theorem E_portcullisref07_Revoked (c_portcullisref07_may : Addr → Int → Int → (Int → H → Prop) → H → Prop) : ∀ (a0 : Addr) (a1 : Int) (Q : Bool → Int → H → Prop) (h : H), G_portcullisref07_Revoked c_portcullisref07_may a0 a1 Q h = Dbody PP [(132, W [.addr, .int .i64, .int .i64] [.int .i64] c_portcullisref07_may)] [] Tryz.f115 [.addr a0, .one (.int .i64 a1)] (decR [.bool, .int .i64] Q) h := by intros; kernel_rfl
def F_portcullisref07_Revoked := G_portcullisref07_Revoked F_portcullisref07_may
theorem R_portcullisref07_Revoked : RunOk PP 115 (W [.addr, .int .i64] [.bool, .int .i64] F_portcullisref07_Revoked) := runOk_of (T := [(132, W [.addr, .int .i64, .int .i64] [.int .i64] F_portcullisref07_may)]) (ann := []) (TblOk.cons R_portcullisref07_may (TblOk.nil)) Tryz.func115 (by kernel_rfl) (by kernel_rfl) (E_portcullisref07_Revoked F_portcullisref07_may)
attribute [irreducible] F_portcullisref07_Revoked
def G_portcullisref07_Revoke (c_portcullisref07_Revoked : Addr → Int → (Bool → Int → H → Prop) → H → Prop) (c_portcullisref04_Chip_Blow : Addr → Int → (Int → H → Prop) → H → Prop) (a0 : Addr) (a1 : Int) (Q : Int → H → Prop) (h : H) : Prop := c_portcullisref07_Revoked a0 a1 (fun (b6 : Bool) (i7 : Int) (h8 : H) => if (i7 != 0) = true then Q i7 h8 else if b6 = true then Q i7 h8 else ∃ (i9 : Int), hc h8 (a0.add 1) = some (Value.int IntKind.i64 i9) ∧ ∃ (i10 : Int), hc h8 (a0.add 2) = some (Value.int IntKind.i64 i10) ∧ c_portcullisref04_Chip_Blow a0 (IntKind.i64.wrap (IntKind.i64.wrap (i9 * i10) + a1)) (fun (i11 : Int) (h12 : H) => Q i11 h12) h8) h
theorem E_portcullisref07_Revoke (c_portcullisref07_Revoked : Addr → Int → (Bool → Int → H → Prop) → H → Prop) (c_portcullisref04_Chip_Blow : Addr → Int → (Int → H → Prop) → H → Prop) : ∀ (a0 : Addr) (a1 : Int) (Q : Int → H → Prop) (h : H), G_portcullisref07_Revoke c_portcullisref07_Revoked c_portcullisref04_Chip_Blow a0 a1 Q h = Dbody PP [(115, W [.addr, .int .i64] [.bool, .int .i64] c_portcullisref07_Revoked), (133, W [.addr, .int .i64] [.int .i64] c_portcullisref04_Chip_Blow)] [] Tryz.f113 [.addr a0, .one (.int .i64 a1)] (decR [.int .i64] Q) h := by intros; kernel_rfl
def F_portcullisref07_Revoke := G_portcullisref07_Revoke F_portcullisref07_Revoked F_portcullisref04_Chip_Blow
theorem R_portcullisref07_Revoke : RunOk PP 113 (W [.addr, .int .i64] [.int .i64] F_portcullisref07_Revoke) := runOk_of (T := [(115, W [.addr, .int .i64] [.bool, .int .i64] F_portcullisref07_Revoked), (133, W [.addr, .int .i64] [.int .i64] F_portcullisref04_Chip_Blow)]) (ann := []) (TblOk.cons R_portcullisref07_Revoked (TblOk.cons R_portcullisref04_Chip_Blow (TblOk.nil))) Tryz.func113 (by kernel_rfl) (by kernel_rfl) (E_portcullisref07_Revoke F_portcullisref07_Revoked F_portcullisref04_Chip_Blow)
attribute [irreducible] F_portcullisref07_Revoke
def G_portcullisref10_Revoke (c_portcullisref07_Revoke : Addr → Int → (Int → H → Prop) → H → Prop) (a0 : Addr) (a1 : Int) (Q : Int → H → Prop) (h : H) : Prop := c_portcullisref07_Revoke a0 a1 (fun (i5 : Int) (h6 : H) => Q i5 h6) h
theorem E_portcullisref10_Revoke (c_portcullisref07_Revoke : Addr → Int → (Int → H → Prop) → H → Prop) : ∀ (a0 : Addr) (a1 : Int) (Q : Int → H → Prop) (h : H), G_portcullisref10_Revoke c_portcullisref07_Revoke a0 a1 Q h = Dbody PP [(113, W [.addr, .int .i64] [.int .i64] c_portcullisref07_Revoke)] [] Tryz.f66 [.addr a0, .one (.int .i64 a1)] (decR [.int .i64] Q) h := by intros; kernel_rfl
def F_portcullisref10_Revoke := G_portcullisref10_Revoke F_portcullisref07_Revoke
theorem R_portcullisref10_Revoke : RunOk PP 66 (W [.addr, .int .i64] [.int .i64] F_portcullisref10_Revoke) := runOk_of (T := [(113, W [.addr, .int .i64] [.int .i64] F_portcullisref07_Revoke)]) (ann := []) (TblOk.cons R_portcullisref07_Revoke (TblOk.nil)) Tryz.func66 (by kernel_rfl) (by kernel_rfl) (E_portcullisref10_Revoke F_portcullisref07_Revoke)
attribute [irreducible] F_portcullisref10_Revoke
def G_store_Store_Revoked (c_chip_Chip_Config : Addr → (Int → Int → Int → Int → Int → Int → Int → H → Prop) → H → Prop) (c_store_Store_asked : Addr → Int → Int → (Int → H → Prop) → H → Prop) (c_fuse_Revoked : Addr → Int → (Bool → Int → H → Prop) → H → Prop) (a0 : Addr) (a1 : Int) (Q : Bool → Int → H → Prop) (h : H) : Prop := ∃ (o7 : Option Addr), hc h a0 = some (Value.pointer o7) ∧ ∃ (p8 : Addr), o7 = some p8 ∧ c_chip_Chip_Config p8 (fun (i9 i10 i11 i12 i13 i14 i15 : Int) (h16 : H) => c_store_Store_asked a0 a1 i13 (fun (i17 : Int) (h18 : H) => if (i17 != 0) = true then Q false i17 h18 else ∃ (o19 : Option Addr), hc h18 a0 = some (Value.pointer o19) ∧ ∃ (p20 : Addr), o19 = some p20 ∧ c_fuse_Revoked p20 a1 (fun (b21 : Bool) (i22 : Int) (h23 : H) => Q b21 i22 h23) h18) h16) h
theorem E_store_Store_Revoked (c_chip_Chip_Config : Addr → (Int → Int → Int → Int → Int → Int → Int → H → Prop) → H → Prop) (c_store_Store_asked : Addr → Int → Int → (Int → H → Prop) → H → Prop) (c_fuse_Revoked : Addr → Int → (Bool → Int → H → Prop) → H → Prop) : ∀ (a0 : Addr) (a1 : Int) (Q : Bool → Int → H → Prop) (h : H), G_store_Store_Revoked c_chip_Chip_Config c_store_Store_asked c_fuse_Revoked a0 a1 Q h = Dbody PP [(78, W [.addr] [.ag [.int .i64, .int .i64, .int .i64, .int .i64, .int .i64, .int .i64, .int .i64]] c_chip_Chip_Config), (101, W [.addr, .int .i64, .int .i64] [.int .i64] c_store_Store_asked), (114, W [.addr, .int .i64] [.bool, .int .i64] c_fuse_Revoked)] [] Tryz.f67 [.addr a0, .one (.int .i64 a1)] (decR [.bool, .int .i64] Q) h := by intros; kernel_rfl
def F_store_Store_Revoked := G_store_Store_Revoked F_chip_Chip_Config F_store_Store_asked F_fuse_Revoked
theorem R_store_Store_Revoked : RunOk PP 67 (W [.addr, .int .i64] [.bool, .int .i64] F_store_Store_Revoked) := runOk_of (T := [(78, W [.addr] [.ag [.int .i64, .int .i64, .int .i64, .int .i64, .int .i64, .int .i64, .int .i64]] F_chip_Chip_Config), (101, W [.addr, .int .i64, .int .i64] [.int .i64] F_store_Store_asked), (114, W [.addr, .int .i64] [.bool, .int .i64] F_fuse_Revoked)]) (ann := []) (TblOk.cons R_chip_Chip_Config (TblOk.cons R_store_Store_asked (TblOk.cons R_fuse_Revoked (TblOk.nil)))) Tryz.func67 (by kernel_rfl) (by kernel_rfl) (E_store_Store_Revoked F_chip_Chip_Config F_store_Store_asked F_fuse_Revoked)
attribute [irreducible] F_store_Store_Revoked
def G_portcullisref10_Revoked (c_portcullisref07_Revoked : Addr → Int → (Bool → Int → H → Prop) → H → Prop) (a0 : Addr) (a1 : Int) (Q : Bool → Int → H → Prop) (h : H) : Prop := c_portcullisref07_Revoked a0 a1 (fun (b5 : Bool) (i6 : Int) (h7 : H) => Q b5 i6 h7) h
theorem E_portcullisref10_Revoked (c_portcullisref07_Revoked : Addr → Int → (Bool → Int → H → Prop) → H → Prop) : ∀ (a0 : Addr) (a1 : Int) (Q : Bool → Int → H → Prop) (h : H), G_portcullisref10_Revoked c_portcullisref07_Revoked a0 a1 Q h = Dbody PP [(115, W [.addr, .int .i64] [.bool, .int .i64] c_portcullisref07_Revoked)] [] Tryz.f68 [.addr a0, .one (.int .i64 a1)] (decR [.bool, .int .i64] Q) h := by intros; kernel_rfl
def F_portcullisref10_Revoked := G_portcullisref10_Revoked F_portcullisref07_Revoked
theorem R_portcullisref10_Revoked : RunOk PP 68 (W [.addr, .int .i64] [.bool, .int .i64] F_portcullisref10_Revoked) := runOk_of (T := [(115, W [.addr, .int .i64] [.bool, .int .i64] F_portcullisref07_Revoked)]) (ann := []) (TblOk.cons R_portcullisref07_Revoked (TblOk.nil)) Tryz.func68 (by kernel_rfl) (by kernel_rfl) (E_portcullisref10_Revoked F_portcullisref07_Revoked)
attribute [irreducible] F_portcullisref10_Revoked
def G_store_Store_Active (c_chip_Chip_Out : Addr → (Bool → H → Prop) → H → Prop) (c_log_Log_Number : Addr → Int → (Int → Int → H → Prop) → H → Prop) (c_chip_Chip_Config : Addr → (Int → Int → Int → Int → Int → Int → Int → H → Prop) → H → Prop) (a0 : Addr) (Q : Int → Int → H → Prop) (h : H) : Prop := ∃ (o6 : Option Addr), hc h a0 = some (Value.pointer o6) ∧ ∃ (p7 : Addr), o6 = some p7 ∧ c_chip_Chip_Out p7 (fun (b8 : Bool) (h9 : H) => if b8 = true then Q 0 8 h9 else ∃ (o10 : Option Addr), hc h9 (a0.add 1) = some (Value.pointer o10) ∧ ∃ (o11 : Option Addr), hc h9 a0 = some (Value.pointer o11) ∧ ∃ (p12 : Addr), o11 = some p12 ∧ c_chip_Chip_Config p12 (fun (i13 i14 i15 i16 i17 i18 i19 : Int) (h20 : H) => hcs h20 (a0.add 1) [Value.pointer o10] ∧ ∃ (p21 : Addr), o10 = some p21 ∧ c_log_Log_Number p21 i14 (fun (i22 i23 : Int) (h24 : H) => Q i22 i23 h24) h20) h9) h
theorem E_store_Store_Active (c_chip_Chip_Out : Addr → (Bool → H → Prop) → H → Prop) (c_log_Log_Number : Addr → Int → (Int → Int → H → Prop) → H → Prop) (c_chip_Chip_Config : Addr → (Int → Int → Int → Int → Int → Int → Int → H → Prop) → H → Prop) : ∀ (a0 : Addr) (Q : Int → Int → H → Prop) (h : H), G_store_Store_Active c_chip_Chip_Out c_log_Log_Number c_chip_Chip_Config a0 Q h = Dbody PP [(13, W [.addr] [.bool] c_chip_Chip_Out), (24, W [.addr, .int .i64] [.int .i64, .int .i64] c_log_Log_Number), (78, W [.addr] [.ag [.int .i64, .int .i64, .int .i64, .int .i64, .int .i64, .int .i64, .int .i64]] c_chip_Chip_Config)] [] Tryz.f69 [.addr a0] (decR [.int .i64, .int .i64] Q) h := by intros; kernel_rfl
def F_store_Store_Active := G_store_Store_Active F_chip_Chip_Out F_log_Log_Number F_chip_Chip_Config
theorem R_store_Store_Active : RunOk PP 69 (W [.addr] [.int .i64, .int .i64] F_store_Store_Active) := runOk_of (T := [(13, W [.addr] [.bool] F_chip_Chip_Out), (24, W [.addr, .int .i64] [.int .i64, .int .i64] F_log_Log_Number), (78, W [.addr] [.ag [.int .i64, .int .i64, .int .i64, .int .i64, .int .i64, .int .i64, .int .i64]] F_chip_Chip_Config)]) (ann := []) (TblOk.cons R_chip_Chip_Out (TblOk.cons R_log_Log_Number (TblOk.cons R_chip_Chip_Config (TblOk.nil)))) Tryz.func69 (by kernel_rfl) (by kernel_rfl) (E_store_Store_Active F_chip_Chip_Out F_log_Log_Number F_chip_Chip_Config)
attribute [irreducible] F_store_Store_Active
def G_portcullisref10_Active (c_portcullisref09_Number : Addr → Int → (Int → Int → H → Prop) → H → Prop) (a0 : Addr) (Q : Int → Int → H → Prop) (h : H) : Prop := ∃ (i4 : Int), hc h (a0.add 1) = some (Value.int IntKind.i64 i4) ∧ c_portcullisref09_Number a0 i4 (fun (i5 i6 : Int) (h7 : H) => Q i5 i6 h7) h
theorem E_portcullisref10_Active (c_portcullisref09_Number : Addr → Int → (Int → Int → H → Prop) → H → Prop) : ∀ (a0 : Addr) (Q : Int → Int → H → Prop) (h : H), G_portcullisref10_Active c_portcullisref09_Number a0 Q h = Dbody PP [(108, W [.addr, .int .i64] [.int .i64, .int .i64] c_portcullisref09_Number)] [] Tryz.f70 [.addr a0] (decR [.int .i64, .int .i64] Q) h := by intros; kernel_rfl
def F_portcullisref10_Active := G_portcullisref10_Active F_portcullisref09_Number
theorem R_portcullisref10_Active : RunOk PP 70 (W [.addr] [.int .i64, .int .i64] F_portcullisref10_Active) := runOk_of (T := [(108, W [.addr, .int .i64] [.int .i64, .int .i64] F_portcullisref09_Number)]) (ann := []) (TblOk.cons R_portcullisref09_Number (TblOk.nil)) Tryz.func70 (by kernel_rfl) (by kernel_rfl) (E_portcullisref10_Active F_portcullisref09_Number)
attribute [irreducible] F_portcullisref10_Active
def G_store_Store_Activate (c_log_Log_Lay : Addr → Int → Int → (Int → H → Prop) → H → Prop) (c_store_Store_Active : Addr → (Int → Int → H → Prop) → H → Prop) (c_chip_Chip_Config : Addr → (Int → Int → Int → Int → Int → Int → Int → H → Prop) → H → Prop) (a0 : Addr) (a1 : Int) (Q : Int → H → Prop) (h : H) : Prop := c_store_Store_Active a0 (fun (i7 i8 : Int) (h9 : H) => if (i8 != 0) = true then Q i8 h9 else if leI a1 i7 = true then Q 2 h9 else ∀ (i10 : Int), i10 = 4611686018427387904 → if ltI i10 a1 = true then Q 2 h9 else ∃ (o12 : Option Addr), hc h9 (a0.add 1) = some (Value.pointer o12) ∧ ∃ (o13 : Option Addr), hc h9 a0 = some (Value.pointer o13) ∧ ∃ (p14 : Addr), o13 = some p14 ∧ c_chip_Chip_Config p14 (fun (i15 i16 i17 i18 i19 i20 i21 : Int) (h22 : H) => hcs h22 (a0.add 1) [Value.pointer o12] ∧ ∃ (p23 : Addr), o12 = some p23 ∧ c_log_Log_Lay p23 i16 a1 (fun (i24 : Int) (h25 : H) => Q i24 h25) h22) h9) h
theorem E_store_Store_Activate (c_log_Log_Lay : Addr → Int → Int → (Int → H → Prop) → H → Prop) (c_store_Store_Active : Addr → (Int → Int → H → Prop) → H → Prop) (c_chip_Chip_Config : Addr → (Int → Int → Int → Int → Int → Int → Int → H → Prop) → H → Prop) : ∀ (a0 : Addr) (a1 : Int) (Q : Int → H → Prop) (h : H), G_store_Store_Activate c_log_Log_Lay c_store_Store_Active c_chip_Chip_Config a0 a1 Q h = Dbody PP [(23, W [.addr, .int .i64, .int .i64] [.int .i64] c_log_Log_Lay), (69, W [.addr] [.int .i64, .int .i64] c_store_Store_Active), (78, W [.addr] [.ag [.int .i64, .int .i64, .int .i64, .int .i64, .int .i64, .int .i64, .int .i64]] c_chip_Chip_Config)] [] Tryz.f71 [.addr a0, .one (.int .i64 a1)] (decR [.int .i64] Q) h := by intros; kernel_rfl
def F_store_Store_Activate := G_store_Store_Activate F_log_Log_Lay F_store_Store_Active F_chip_Chip_Config
theorem R_store_Store_Activate : RunOk PP 71 (W [.addr, .int .i64] [.int .i64] F_store_Store_Activate) := runOk_of (T := [(23, W [.addr, .int .i64, .int .i64] [.int .i64] F_log_Log_Lay), (69, W [.addr] [.int .i64, .int .i64] F_store_Store_Active), (78, W [.addr] [.ag [.int .i64, .int .i64, .int .i64, .int .i64, .int .i64, .int .i64, .int .i64]] F_chip_Chip_Config)]) (ann := []) (TblOk.cons R_log_Log_Lay (TblOk.cons R_store_Store_Active (TblOk.cons R_chip_Chip_Config (TblOk.nil)))) Tryz.func71 (by kernel_rfl) (by kernel_rfl) (E_store_Store_Activate F_log_Log_Lay F_store_Store_Active F_chip_Chip_Config)
attribute [irreducible] F_store_Store_Activate
def G_portcullisref10_Activate (c_portcullisref10_Active : Addr → (Int → Int → H → Prop) → H → Prop) (c_portcullisref09_Lay : Addr → Int → Int → (Int → H → Prop) → H → Prop) (a0 : Addr) (a1 : Int) (Q : Int → H → Prop) (h : H) : Prop := c_portcullisref10_Active a0 (fun (i6 i7 : Int) (h8 : H) => if (i7 != 0) = true then Q i7 h8 else if leI a1 i6 = true then Q 2 h8 else ∀ (i9 : Int), i9 = 4611686018427387904 → if ltI i9 a1 = true then Q 2 h8 else ∃ (i11 : Int), hc h8 (a0.add 1) = some (Value.int IntKind.i64 i11) ∧ c_portcullisref09_Lay a0 i11 a1 (fun (i12 : Int) (h13 : H) => Q i12 h13) h8) h
theorem E_portcullisref10_Activate (c_portcullisref10_Active : Addr → (Int → Int → H → Prop) → H → Prop) (c_portcullisref09_Lay : Addr → Int → Int → (Int → H → Prop) → H → Prop) : ∀ (a0 : Addr) (a1 : Int) (Q : Int → H → Prop) (h : H), G_portcullisref10_Activate c_portcullisref10_Active c_portcullisref09_Lay a0 a1 Q h = Dbody PP [(70, W [.addr] [.int .i64, .int .i64] c_portcullisref10_Active), (110, W [.addr, .int .i64, .int .i64] [.int .i64] c_portcullisref09_Lay)] [] Tryz.f72 [.addr a0, .one (.int .i64 a1)] (decR [.int .i64] Q) h := by intros; kernel_rfl
def F_portcullisref10_Activate := G_portcullisref10_Activate F_portcullisref10_Active F_portcullisref09_Lay
theorem R_portcullisref10_Activate : RunOk PP 72 (W [.addr, .int .i64] [.int .i64] F_portcullisref10_Activate) := runOk_of (T := [(70, W [.addr] [.int .i64, .int .i64] F_portcullisref10_Active), (110, W [.addr, .int .i64, .int .i64] [.int .i64] F_portcullisref09_Lay)]) (ann := []) (TblOk.cons R_portcullisref10_Active (TblOk.cons R_portcullisref09_Lay (TblOk.nil))) Tryz.func72 (by kernel_rfl) (by kernel_rfl) (E_portcullisref10_Activate F_portcullisref10_Active F_portcullisref09_Lay)
attribute [irreducible] F_portcullisref10_Activate
def G_portcullislaw10_world_step (c_store_Store_Bump : Addr → Int → (Int → Int → H → Prop) → H → Prop) (c_store_Store_Read : Addr → Int → (Int → Int → H → Prop) → H → Prop) (c_store_Store_BumpTo : Addr → Int → Int → (Int → H → Prop) → H → Prop) (c_portcullislaw10_world_hand : Addr → Int → Int → Int → Option Addr → Nat → Nat → (Bool → H → Prop) → H → Prop) (c_portcullisref10_Read : Addr → Int → (Int → Int → H → Prop) → H → Prop) (c_portcullisref10_Bump : Addr → Int → (Int → Int → H → Prop) → H → Prop) (c_portcullisref10_BumpTo : Addr → Int → Int → (Int → H → Prop) → H → Prop) (c_store_Store_Revoke : Addr → Int → (Int → H → Prop) → H → Prop) (c_portcullisref10_Revoke : Addr → Int → (Int → H → Prop) → H → Prop) (c_store_Store_Revoked : Addr → Int → (Bool → Int → H → Prop) → H → Prop) (c_portcullisref10_Revoked : Addr → Int → (Bool → Int → H → Prop) → H → Prop) (c_store_Store_Active : Addr → (Int → Int → H → Prop) → H → Prop) (c_portcullisref10_Active : Addr → (Int → Int → H → Prop) → H → Prop) (c_store_Store_Activate : Addr → Int → (Int → H → Prop) → H → Prop) (c_portcullisref10_Activate : Addr → Int → (Int → H → Prop) → H → Prop) (a0 : Addr) (a1_0 : Int) (a1_1 : Int) (a1_2 : Int) (a1_3p : Option Addr) (a1_3l : Nat) (a1_3c : Nat) (Q : Bool → H → Prop) (h : H) : Prop := ∀ (n24 : Nat) (h25 : H), hnew h n24 [Value.int IntKind.i64 a1_0, Value.int IntKind.i64 a1_1, Value.int IntKind.i64 a1_2, Value.slice a1_3p a1_3l a1_3c] h25 → ∀ (J27 : List SV → H → Prop), (∀ (h28 : H), (∃ (o29 : Option Addr), hc h28 (a0.add 1) = some (Value.pointer o29) ∧ if o29.isNone = true then Q true h28 else ∃ (i30 : Int), hc h28 (Addr.mk n24 0 none) = some (Value.int IntKind.i64 i30) ∧ if (i30 == 1) = true then ∃ (o31 : Option Addr), hc h28 (a0.add 1) = some (Value.pointer o31) ∧ ∃ (i32 : Int), hc h28 ((Addr.mk n24 0 none).add 1) = some (Value.int IntKind.i64 i32) ∧ ∃ (p33 : Addr), o31 = some p33 ∧ c_store_Store_Read p33 i32 (fun (i34 i35 : Int) (h36 : H) => ∃ (o37 : Option Addr), hc h36 (a0.add 2) = some (Value.pointer o37) ∧ ∃ (i38 : Int), hc h36 ((Addr.mk n24 0 none).add 1) = some (Value.int IntKind.i64 i38) ∧ ∃ (p39 : Addr), o37 = some p39 ∧ c_portcullisref10_Read p39 i38 (fun (i40 i41 : Int) (h42 : H) => if (i34 == i40) = true then Q (i35 == i41) h42 else Q false h42) h36) h28 else if (i30 == 2) = true then ∃ (o43 : Option Addr), hc h28 (a0.add 1) = some (Value.pointer o43) ∧ ∃ (i44 : Int), hc h28 ((Addr.mk n24 0 none).add 1) = some (Value.int IntKind.i64 i44) ∧ ∃ (p45 : Addr), o43 = some p45 ∧ c_store_Store_Bump p45 i44 (fun (i46 i47 : Int) (h48 : H) => ∃ (o49 : Option Addr), hc h48 (a0.add 2) = some (Value.pointer o49) ∧ ∃ (i50 : Int), hc h48 ((Addr.mk n24 0 none).add 1) = some (Value.int IntKind.i64 i50) ∧ ∃ (p51 : Addr), o49 = some p51 ∧ c_portcullisref10_Bump p51 i50 (fun (i52 i53 : Int) (h54 : H) => if (i46 == i52) = true then Q (i47 == i53) h54 else Q false h54) h48) h28 else if (i30 == 3) = true then ∃ (o55 : Option Addr), hc h28 (a0.add 1) = some (Value.pointer o55) ∧ ∃ (i56 : Int), hc h28 ((Addr.mk n24 0 none).add 1) = some (Value.int IntKind.i64 i56) ∧ ∃ (i57 : Int), hc h28 ((Addr.mk n24 0 none).add 2) = some (Value.int IntKind.i64 i57) ∧ ∃ (o58 : Option Addr), hc h28 (a0.add 2) = some (Value.pointer o58) ∧ ∃ (i59 : Int), hc h28 ((Addr.mk n24 0 none).add 1) = some (Value.int IntKind.i64 i59) ∧ ∃ (i60 : Int), hc h28 ((Addr.mk n24 0 none).add 2) = some (Value.int IntKind.i64 i60) ∧ ∃ (p61 : Addr), o55 = some p61 ∧ c_store_Store_BumpTo p61 i56 i57 (fun (i62 : Int) (h63 : H) => hcs h63 ((Addr.mk n24 0 none).add 2) [Value.int IntKind.i64 i60] ∧ hcs h63 ((Addr.mk n24 0 none).add 1) [Value.int IntKind.i64 i59] ∧ hcs h63 (a0.add 2) [Value.pointer o58] ∧ ∃ (p64 : Addr), o58 = some p64 ∧ c_portcullisref10_BumpTo p64 i59 i60 (fun (i65 : Int) (h66 : H) => Q (i62 == i65) h66) h63) h28 else if (i30 == 4) = true then ∃ (o67 : Option Addr), hc h28 (a0.add 1) = some (Value.pointer o67) ∧ ∃ (i68 : Int), hc h28 ((Addr.mk n24 0 none).add 1) = some (Value.int IntKind.i64 i68) ∧ ∃ (o69 : Option Addr), hc h28 (a0.add 2) = some (Value.pointer o69) ∧ ∃ (i70 : Int), hc h28 ((Addr.mk n24 0 none).add 1) = some (Value.int IntKind.i64 i70) ∧ ∃ (p71 : Addr), o67 = some p71 ∧ c_store_Store_Revoke p71 i68 (fun (i72 : Int) (h73 : H) => hcs h73 ((Addr.mk n24 0 none).add 1) [Value.int IntKind.i64 i70] ∧ hcs h73 (a0.add 2) [Value.pointer o69] ∧ ∃ (p74 : Addr), o69 = some p74 ∧ c_portcullisref10_Revoke p74 i70 (fun (i75 : Int) (h76 : H) => Q (i72 == i75) h76) h73) h28 else if (i30 == 5) = true then ∃ (o77 : Option Addr), hc h28 (a0.add 1) = some (Value.pointer o77) ∧ ∃ (i78 : Int), hc h28 ((Addr.mk n24 0 none).add 1) = some (Value.int IntKind.i64 i78) ∧ ∃ (p79 : Addr), o77 = some p79 ∧ c_store_Store_Revoked p79 i78 (fun (b80 : Bool) (i81 : Int) (h82 : H) => ∃ (o83 : Option Addr), hc h82 (a0.add 2) = some (Value.pointer o83) ∧ ∃ (i84 : Int), hc h82 ((Addr.mk n24 0 none).add 1) = some (Value.int IntKind.i64 i84) ∧ ∃ (p85 : Addr), o83 = some p85 ∧ c_portcullisref10_Revoked p85 i84 (fun (b86 : Bool) (i87 : Int) (h88 : H) => if (b80 == b86) = true then Q (i81 == i87) h88 else Q false h88) h82) h28 else if (i30 == 6) = true then ∃ (o89 : Option Addr), hc h28 (a0.add 1) = some (Value.pointer o89) ∧ ∃ (p90 : Addr), o89 = some p90 ∧ c_store_Store_Active p90 (fun (i91 i92 : Int) (h93 : H) => ∃ (o94 : Option Addr), hc h93 (a0.add 2) = some (Value.pointer o94) ∧ ∃ (p95 : Addr), o94 = some p95 ∧ c_portcullisref10_Active p95 (fun (i96 i97 : Int) (h98 : H) => if (i91 == i96) = true then Q (i92 == i97) h98 else Q false h98) h93) h28 else if (i30 == 7) = true then ∃ (o99 : Option Addr), hc h28 (a0.add 1) = some (Value.pointer o99) ∧ ∃ (i100 : Int), hc h28 ((Addr.mk n24 0 none).add 2) = some (Value.int IntKind.i64 i100) ∧ ∃ (o101 : Option Addr), hc h28 (a0.add 2) = some (Value.pointer o101) ∧ ∃ (i102 : Int), hc h28 ((Addr.mk n24 0 none).add 2) = some (Value.int IntKind.i64 i102) ∧ ∃ (p103 : Addr), o99 = some p103 ∧ c_store_Store_Activate p103 i100 (fun (i104 : Int) (h105 : H) => hcs h105 ((Addr.mk n24 0 none).add 2) [Value.int IntKind.i64 i102] ∧ hcs h105 (a0.add 2) [Value.pointer o101] ∧ ∃ (p106 : Addr), o101 = some p106 ∧ c_portcullisref10_Activate p106 i102 (fun (i107 : Int) (h108 : H) => Q (i104 == i107) h108) h105) h28 else Q true h28) → J27 [] h28) → ∃ (i111 : Int), hc h25 (Addr.mk n24 0 none) = some (Value.int IntKind.i64 i111) ∧ if leI 8 i111 = true then ∃ (i112 : Int), hc h25 (Addr.mk n24 0 none) = some (Value.int IntKind.i64 i112) ∧ if leI i112 10 = true then ∃ (i113 : Int), hc h25 (Addr.mk n24 0 none) = some (Value.int IntKind.i64 i113) ∧ ∃ (i114 : Int), hc h25 ((Addr.mk n24 0 none).add 1) = some (Value.int IntKind.i64 i114) ∧ ∃ (i115 : Int), hc h25 ((Addr.mk n24 0 none).add 2) = some (Value.int IntKind.i64 i115) ∧ ∃ (o116 : Option Addr), ∃ (n117 : Nat), ∃ (n118 : Nat), hc h25 ((Addr.mk n24 0 none).add 3) = some (Value.slice o116 n117 n118) ∧ c_portcullislaw10_world_hand a0 i113 i114 i115 o116 n117 n118 (fun (b119 : Bool) (h120 : H) => Q b119 h120) h25 else J27 [] h25 else J27 [] h25
theorem E_portcullislaw10_world_step (c_store_Store_Bump : Addr → Int → (Int → Int → H → Prop) → H → Prop) (c_store_Store_Read : Addr → Int → (Int → Int → H → Prop) → H → Prop) (c_store_Store_BumpTo : Addr → Int → Int → (Int → H → Prop) → H → Prop) (c_portcullislaw10_world_hand : Addr → Int → Int → Int → (Option Addr) → Nat → Nat → (Bool → H → Prop) → H → Prop) (c_portcullisref10_Read : Addr → Int → (Int → Int → H → Prop) → H → Prop) (c_portcullisref10_Bump : Addr → Int → (Int → Int → H → Prop) → H → Prop) (c_portcullisref10_BumpTo : Addr → Int → Int → (Int → H → Prop) → H → Prop) (c_store_Store_Revoke : Addr → Int → (Int → H → Prop) → H → Prop) (c_portcullisref10_Revoke : Addr → Int → (Int → H → Prop) → H → Prop) (c_store_Store_Revoked : Addr → Int → (Bool → Int → H → Prop) → H → Prop) (c_portcullisref10_Revoked : Addr → Int → (Bool → Int → H → Prop) → H → Prop) (c_store_Store_Active : Addr → (Int → Int → H → Prop) → H → Prop) (c_portcullisref10_Active : Addr → (Int → Int → H → Prop) → H → Prop) (c_store_Store_Activate : Addr → Int → (Int → H → Prop) → H → Prop) (c_portcullisref10_Activate : Addr → Int → (Int → H → Prop) → H → Prop) : ∀ (a0 : Addr) (a1_0 : Int) (a1_1 : Int) (a1_2 : Int) (a1_3p : Option Addr) (a1_3l : Nat) (a1_3c : Nat) (Q : Bool → H → Prop) (h : H), G_portcullislaw10_world_step c_store_Store_Bump c_store_Store_Read c_store_Store_BumpTo c_portcullislaw10_world_hand c_portcullisref10_Read c_portcullisref10_Bump c_portcullisref10_BumpTo c_store_Store_Revoke c_portcullisref10_Revoke c_store_Store_Revoked c_portcullisref10_Revoked c_store_Store_Active c_portcullisref10_Active c_store_Store_Activate c_portcullisref10_Activate a0 a1_0 a1_1 a1_2 a1_3p a1_3l a1_3c Q h = Dbody PP [(55, W [.addr, .int .i64] [.int .i64, .int .i64] c_store_Store_Bump), (56, W [.addr, .int .i64] [.int .i64, .int .i64] c_store_Store_Read), (58, W [.addr, .int .i64, .int .i64] [.int .i64] c_store_Store_BumpTo), (61, W [.addr, .ag [.int .i64, .int .i64, .int .i64, .slc]] [.bool] c_portcullislaw10_world_hand), (62, W [.addr, .int .i64] [.int .i64, .int .i64] c_portcullisref10_Read), (63, W [.addr, .int .i64] [.int .i64, .int .i64] c_portcullisref10_Bump), (64, W [.addr, .int .i64, .int .i64] [.int .i64] c_portcullisref10_BumpTo), (65, W [.addr, .int .i64] [.int .i64] c_store_Store_Revoke), (66, W [.addr, .int .i64] [.int .i64] c_portcullisref10_Revoke), (67, W [.addr, .int .i64] [.bool, .int .i64] c_store_Store_Revoked), (68, W [.addr, .int .i64] [.bool, .int .i64] c_portcullisref10_Revoked), (69, W [.addr] [.int .i64, .int .i64] c_store_Store_Active), (70, W [.addr] [.int .i64, .int .i64] c_portcullisref10_Active), (71, W [.addr, .int .i64] [.int .i64] c_store_Store_Activate), (72, W [.addr, .int .i64] [.int .i64] c_portcullisref10_Activate)] [(3, [])] Tryz.f19 [.addr a0, .agg [.c (.int .i64 a1_0), .c (.int .i64 a1_1), .c (.int .i64 a1_2), .c (.slice a1_3p a1_3l a1_3c)]] (decR [.bool] Q) h := by intros; kernel_rfl
def F_portcullislaw10_world_step := G_portcullislaw10_world_step F_store_Store_Bump F_store_Store_Read F_store_Store_BumpTo F_portcullislaw10_world_hand F_portcullisref10_Read F_portcullisref10_Bump F_portcullisref10_BumpTo F_store_Store_Revoke F_portcullisref10_Revoke F_store_Store_Revoked F_portcullisref10_Revoked F_store_Store_Active F_portcullisref10_Active F_store_Store_Activate F_portcullisref10_Activate
theorem R_portcullislaw10_world_step : RunOk PP 19 (W [.addr, .ag [.int .i64, .int .i64, .int .i64, .slc]] [.bool] F_portcullislaw10_world_step) := runOk_of (T := [(55, W [.addr, .int .i64] [.int .i64, .int .i64] F_store_Store_Bump), (56, W [.addr, .int .i64] [.int .i64, .int .i64] F_store_Store_Read), (58, W [.addr, .int .i64, .int .i64] [.int .i64] F_store_Store_BumpTo), (61, W [.addr, .ag [.int .i64, .int .i64, .int .i64, .slc]] [.bool] F_portcullislaw10_world_hand), (62, W [.addr, .int .i64] [.int .i64, .int .i64] F_portcullisref10_Read), (63, W [.addr, .int .i64] [.int .i64, .int .i64] F_portcullisref10_Bump), (64, W [.addr, .int .i64, .int .i64] [.int .i64] F_portcullisref10_BumpTo), (65, W [.addr, .int .i64] [.int .i64] F_store_Store_Revoke), (66, W [.addr, .int .i64] [.int .i64] F_portcullisref10_Revoke), (67, W [.addr, .int .i64] [.bool, .int .i64] F_store_Store_Revoked), (68, W [.addr, .int .i64] [.bool, .int .i64] F_portcullisref10_Revoked), (69, W [.addr] [.int .i64, .int .i64] F_store_Store_Active), (70, W [.addr] [.int .i64, .int .i64] F_portcullisref10_Active), (71, W [.addr, .int .i64] [.int .i64] F_store_Store_Activate), (72, W [.addr, .int .i64] [.int .i64] F_portcullisref10_Activate)]) (ann := [(3, [])]) (TblOk.cons R_store_Store_Bump (TblOk.cons R_store_Store_Read (TblOk.cons R_store_Store_BumpTo (TblOk.cons R_portcullislaw10_world_hand (TblOk.cons R_portcullisref10_Read (TblOk.cons R_portcullisref10_Bump (TblOk.cons R_portcullisref10_BumpTo (TblOk.cons R_store_Store_Revoke (TblOk.cons R_portcullisref10_Revoke (TblOk.cons R_store_Store_Revoked (TblOk.cons R_portcullisref10_Revoked (TblOk.cons R_store_Store_Active (TblOk.cons R_portcullisref10_Active (TblOk.cons R_store_Store_Activate (TblOk.cons R_portcullisref10_Activate (TblOk.nil)))))))))))))))) Tryz.func19 (by kernel_rfl) (by kernel_rfl) (E_portcullislaw10_world_step F_store_Store_Bump F_store_Store_Read F_store_Store_BumpTo F_portcullislaw10_world_hand F_portcullisref10_Read F_portcullisref10_Bump F_portcullisref10_BumpTo F_store_Store_Revoke F_portcullisref10_Revoke F_store_Store_Revoked F_portcullisref10_Revoked F_store_Store_Active F_portcullisref10_Active F_store_Store_Activate F_portcullisref10_Activate)
attribute [irreducible] F_portcullislaw10_world_step
def G_portcullislaw10_world_alike (c_portcullisref04_SameState : Option Addr → Nat → Nat → Option Addr → Nat → Nat → Option Addr → Nat → Nat → Option Addr → Nat → Nat → Option Addr → Nat → Nat → Option Addr → Nat → Nat → (Bool → H → Prop) → H → Prop) (c_chip_Chip_State : Addr → (Option Addr → Nat → Nat → Option Addr → Nat → Nat → Option Addr → Nat → Nat → H → Prop) → H → Prop) (c_chip_Chip_Acts : Addr → (Int → H → Prop) → H → Prop) (c_chip_Chip_Out : Addr → (Bool → H → Prop) → H → Prop) (a0 : Addr) (Q : Bool → H → Prop) (h : H) : Prop := ∃ (o7 : Option Addr), hc h a0 = some (Value.pointer o7) ∧ ∃ (o8 : Option Addr), hc h (a0.add 2) = some (Value.pointer o8) ∧ ∃ (p9 : Addr), o8 = some p9 ∧ ∃ (o10 : Option Addr), ∃ (n11 : Nat), ∃ (n12 : Nat), hc h (p9.add 7) = some (Value.slice o10 n11 n12) ∧ ∃ (o13 : Option Addr), ∃ (n14 : Nat), ∃ (n15 : Nat), hc h (p9.add 8) = some (Value.slice o13 n14 n15) ∧ ∃ (o16 : Option Addr), ∃ (n17 : Nat), ∃ (n18 : Nat), hc h (p9.add 9) = some (Value.slice o16 n17 n18) ∧ ∃ (p19 : Addr), o7 = some p19 ∧ c_chip_Chip_State p19 (fun (o20 : Option Addr) (n21 n22 : Nat) (o23 : Option Addr) (n24 n25 : Nat) (o26 : Option Addr) (n27 n28 : Nat) (h29 : H) => hcs h29 (p9.add 7) [Value.slice o10 n11 n12, Value.slice o13 n14 n15, Value.slice o16 n17 n18] ∧ hcs h29 (a0.add 2) [Value.pointer o8] ∧ c_portcullisref04_SameState o20 n21 n22 o23 n24 n25 o26 n27 n28 o10 n11 n12 o13 n14 n15 o16 n17 n18 (fun (b30 : Bool) (h31 : H) => if b30 = true then ∃ (o32 : Option Addr), hc h31 a0 = some (Value.pointer o32) ∧ ∃ (o33 : Option Addr), hc h31 (a0.add 2) = some (Value.pointer o33) ∧ ∃ (p34 : Addr), o33 = some p34 ∧ ∃ (i35 : Int), hc h31 (p34.add 10) = some (Value.int IntKind.i64 i35) ∧ ∃ (p36 : Addr), o32 = some p36 ∧ c_chip_Chip_Acts p36 (fun (i37 : Int) (h38 : H) => hcs h38 (p34.add 10) [Value.int IntKind.i64 i35] ∧ hcs h38 (a0.add 2) [Value.pointer o33] ∧ if (i37 == i35) = true then ∃ (o39 : Option Addr), hc h38 a0 = some (Value.pointer o39) ∧ ∃ (o40 : Option Addr), hc h38 (a0.add 2) = some (Value.pointer o40) ∧ ∃ (p41 : Addr), o40 = some p41 ∧ ∃ (b42 : Bool), hc h38 (p41.add 11) = some (Value.bool b42) ∧ ∃ (p43 : Addr), o39 = some p43 ∧ c_chip_Chip_Out p43 (fun (b44 : Bool) (h45 : H) => hcs h45 (p41.add 11) [Value.bool b42] ∧ hcs h45 (a0.add 2) [Value.pointer o40] ∧ Q (b44 == b42) h45) h38 else Q false h38) h31 else Q false h31) h29) h
theorem E_portcullislaw10_world_alike (c_portcullisref04_SameState : (Option Addr) → Nat → Nat → (Option Addr) → Nat → Nat → (Option Addr) → Nat → Nat → (Option Addr) → Nat → Nat → (Option Addr) → Nat → Nat → (Option Addr) → Nat → Nat → (Bool → H → Prop) → H → Prop) (c_chip_Chip_State : Addr → ((Option Addr) → Nat → Nat → (Option Addr) → Nat → Nat → (Option Addr) → Nat → Nat → H → Prop) → H → Prop) (c_chip_Chip_Acts : Addr → (Int → H → Prop) → H → Prop) (c_chip_Chip_Out : Addr → (Bool → H → Prop) → H → Prop) : ∀ (a0 : Addr) (Q : Bool → H → Prop) (h : H), G_portcullislaw10_world_alike c_portcullisref04_SameState c_chip_Chip_State c_chip_Chip_Acts c_chip_Chip_Out a0 Q h = Dbody PP [(10, W [.ag [.slc, .slc, .slc], .ag [.slc, .slc, .slc]] [.bool] c_portcullisref04_SameState), (11, W [.addr] [.ag [.slc, .slc, .slc]] c_chip_Chip_State), (12, W [.addr] [.int .i64] c_chip_Chip_Acts), (13, W [.addr] [.bool] c_chip_Chip_Out)] [] Tryz.f20 [.addr a0] (decR [.bool] Q) h := by intros; kernel_rfl
def F_portcullislaw10_world_alike := G_portcullislaw10_world_alike F_portcullisref04_SameState F_chip_Chip_State F_chip_Chip_Acts F_chip_Chip_Out
theorem R_portcullislaw10_world_alike : RunOk PP 20 (W [.addr] [.bool] F_portcullislaw10_world_alike) := runOk_of (T := [(10, W [.ag [.slc, .slc, .slc], .ag [.slc, .slc, .slc]] [.bool] F_portcullisref04_SameState), (11, W [.addr] [.ag [.slc, .slc, .slc]] F_chip_Chip_State), (12, W [.addr] [.int .i64] F_chip_Chip_Acts), (13, W [.addr] [.bool] F_chip_Chip_Out)]) (ann := []) (TblOk.cons R_portcullisref04_SameState (TblOk.cons R_chip_Chip_State (TblOk.cons R_chip_Chip_Acts (TblOk.cons R_chip_Chip_Out (TblOk.nil))))) Tryz.func20 (by kernel_rfl) (by kernel_rfl) (E_portcullislaw10_world_alike F_portcullisref04_SameState F_chip_Chip_State F_chip_Chip_Acts F_chip_Chip_Out)
attribute [irreducible] F_portcullislaw10_world_alike
def G_portcullislaw10_StoreDoes (c_portcullislaw10_awake : (Bool → H → Prop) → H → Prop) (c_portcullislaw10_begun : Int → Int → Int → Int → Int → Int → Int → Option Addr → Nat → Nat → Option Addr → Nat → Nat → Option Addr → Nat → Nat → (Option Addr → Bool → H → Prop) → H → Prop) (c_portcullislaw10_world_step : Addr → Int → Int → Int → Option Addr → Nat → Nat → (Bool → H → Prop) → H → Prop) (c_portcullislaw10_world_alike : Addr → (Bool → H → Prop) → H → Prop) (a0_0 : Int) (a0_1 : Int) (a0_2 : Int) (a0_3 : Int) (a0_4 : Int) (a0_5 : Int) (a0_6 : Int) (a1_0p : Option Addr) (a1_0l : Nat) (a1_0c : Nat) (a1_1p : Option Addr) (a1_1l : Nat) (a1_1c : Nat) (a1_2p : Option Addr) (a1_2l : Nat) (a1_2c : Nat) (a2p : Option Addr) (a2l : Nat) (a2c : Nat) (Q : Bool → H → Prop) (h : H) : Prop := ∀ (n25 : Nat) (h26 : H), hnew h n25 [Value.int IntKind.i64 a0_0, Value.int IntKind.i64 a0_1, Value.int IntKind.i64 a0_2, Value.int IntKind.i64 a0_3, Value.int IntKind.i64 a0_4, Value.int IntKind.i64 a0_5, Value.int IntKind.i64 a0_6] h26 → ∀ (n28 : Nat) (h29 : H), hnew h26 n28 [Value.slice a1_0p a1_0l a1_0c, Value.slice a1_1p a1_1l a1_1c, Value.slice a1_2p a1_2l a1_2c] h29 → c_portcullislaw10_awake (fun (b31 : Bool) (h32 : H) => if (!b31) = true then Q false h32 else ∃ (i33 : Int), hc h32 (Addr.mk n25 0 none) = some (Value.int IntKind.i64 i33) ∧ ∃ (i34 : Int), hc h32 ((Addr.mk n25 0 none).add 1) = some (Value.int IntKind.i64 i34) ∧ ∃ (i35 : Int), hc h32 ((Addr.mk n25 0 none).add 2) = some (Value.int IntKind.i64 i35) ∧ ∃ (i36 : Int), hc h32 ((Addr.mk n25 0 none).add 3) = some (Value.int IntKind.i64 i36) ∧ ∃ (i37 : Int), hc h32 ((Addr.mk n25 0 none).add 4) = some (Value.int IntKind.i64 i37) ∧ ∃ (i38 : Int), hc h32 ((Addr.mk n25 0 none).add 5) = some (Value.int IntKind.i64 i38) ∧ ∃ (i39 : Int), hc h32 ((Addr.mk n25 0 none).add 6) = some (Value.int IntKind.i64 i39) ∧ ∃ (o40 : Option Addr), ∃ (n41 : Nat), ∃ (n42 : Nat), hc h32 (Addr.mk n28 0 none) = some (Value.slice o40 n41 n42) ∧ ∃ (o43 : Option Addr), ∃ (n44 : Nat), ∃ (n45 : Nat), hc h32 ((Addr.mk n28 0 none).add 1) = some (Value.slice o43 n44 n45) ∧ ∃ (o46 : Option Addr), ∃ (n47 : Nat), ∃ (n48 : Nat), hc h32 ((Addr.mk n28 0 none).add 2) = some (Value.slice o46 n47 n48) ∧ c_portcullislaw10_begun i33 i34 i35 i36 i37 i38 i39 o40 n41 n42 o43 n44 n45 o46 n47 n48 (fun (o49 : Option Addr) (b50 : Bool) (h51 : H) => ∀ (J52 : List SV → H → Prop), (∀ (h53 : H), (∀ (J54 : List SV → H → Prop), (∀ (i55 : Int) (h56 : H), (if ltI i55 (↑a2l : Int) = true then ∃ (p57 : Addr), a2p = some p57 ∧ 0 ≤ i55 ∧ i55 < (↑a2l : Int) ∧ ∃ (i58 : Int), hc h56 (p57.add (i55.toNat * 4)) = some (Value.int IntKind.i64 i58) ∧ ∃ (i59 : Int), hc h56 ((p57.add (i55.toNat * 4)).add 1) = some (Value.int IntKind.i64 i59) ∧ ∃ (i60 : Int), hc h56 ((p57.add (i55.toNat * 4)).add 2) = some (Value.int IntKind.i64 i60) ∧ ∃ (o61 : Option Addr), ∃ (n62 : Nat), ∃ (n63 : Nat), hc h56 ((p57.add (i55.toNat * 4)).add 3) = some (Value.slice o61 n62 n63) ∧ ∃ (p64 : Addr), o49 = some p64 ∧ c_portcullislaw10_world_step p64 i58 i59 i60 o61 n62 n63 (fun (b65 : Bool) (h66 : H) => if (!b65) = true then Q false h66 else ∃ (p67 : Addr), o49 = some p67 ∧ c_portcullislaw10_world_alike p67 (fun (b68 : Bool) (h69 : H) => if (!b68) = true then Q false h69 else J54 [SV.dv (DV.one (Value.int IntKind.i64 (IntKind.i64.wrap (i55 + 1))))] h69) h66) h56 else Q true h56) → J54 [SV.dv (DV.one (Value.int IntKind.i64 i55))] h56) → J54 [SV.dv (DV.one (Value.int IntKind.i64 0))] h53) → J52 [] h53) → if o49.isNone = true then Q b50 h51 else if (!b50) = true then Q b50 h51 else J52 [] h51) h32) h29
theorem E_portcullislaw10_StoreDoes (c_portcullislaw10_awake : (Bool → H → Prop) → H → Prop) (c_portcullislaw10_begun : Int → Int → Int → Int → Int → Int → Int → (Option Addr) → Nat → Nat → (Option Addr) → Nat → Nat → (Option Addr) → Nat → Nat → ((Option Addr) → Bool → H → Prop) → H → Prop) (c_portcullislaw10_world_step : Addr → Int → Int → Int → (Option Addr) → Nat → Nat → (Bool → H → Prop) → H → Prop) (c_portcullislaw10_world_alike : Addr → (Bool → H → Prop) → H → Prop) : ∀ (a0_0 : Int) (a0_1 : Int) (a0_2 : Int) (a0_3 : Int) (a0_4 : Int) (a0_5 : Int) (a0_6 : Int) (a1_0p : Option Addr) (a1_0l : Nat) (a1_0c : Nat) (a1_1p : Option Addr) (a1_1l : Nat) (a1_1c : Nat) (a1_2p : Option Addr) (a1_2l : Nat) (a1_2c : Nat) (a2p : Option Addr) (a2l : Nat) (a2c : Nat) (Q : Bool → H → Prop) (h : H), G_portcullislaw10_StoreDoes c_portcullislaw10_awake c_portcullislaw10_begun c_portcullislaw10_world_step c_portcullislaw10_world_alike a0_0 a0_1 a0_2 a0_3 a0_4 a0_5 a0_6 a1_0p a1_0l a1_0c a1_1p a1_1l a1_1c a1_2p a1_2l a1_2c a2p a2l a2c Q h = Dbody PP [(17, W [] [.bool] c_portcullislaw10_awake), (18, W [.ag [.int .i64, .int .i64, .int .i64, .int .i64, .int .i64, .int .i64, .int .i64], .ag [.slc, .slc, .slc]] [.ptr, .bool] c_portcullislaw10_begun), (19, W [.addr, .ag [.int .i64, .int .i64, .int .i64, .slc]] [.bool] c_portcullislaw10_world_step), (20, W [.addr] [.bool] c_portcullislaw10_world_alike)] [(15, []), (250, [(9, .sc (.int .i64))])] Tryz.f4 [.agg [.c (.int .i64 a0_0), .c (.int .i64 a0_1), .c (.int .i64 a0_2), .c (.int .i64 a0_3), .c (.int .i64 a0_4), .c (.int .i64 a0_5), .c (.int .i64 a0_6)], .agg [.c (.slice a1_0p a1_0l a1_0c), .c (.slice a1_1p a1_1l a1_1c), .c (.slice a1_2p a1_2l a1_2c)], .one (.slice a2p a2l a2c)] (decR [.bool] Q) h := by intros; kernel_rfl
def F_portcullislaw10_StoreDoes := G_portcullislaw10_StoreDoes F_portcullislaw10_awake F_portcullislaw10_begun F_portcullislaw10_world_step F_portcullislaw10_world_alike
theorem R_portcullislaw10_StoreDoes : RunOk PP 4 (W [.ag [.int .i64, .int .i64, .int .i64, .int .i64, .int .i64, .int .i64, .int .i64], .ag [.slc, .slc, .slc], .slc] [.bool] F_portcullislaw10_StoreDoes) := runOk_of (T := [(17, W [] [.bool] F_portcullislaw10_awake), (18, W [.ag [.int .i64, .int .i64, .int .i64, .int .i64, .int .i64, .int .i64, .int .i64], .ag [.slc, .slc, .slc]] [.ptr, .bool] F_portcullislaw10_begun), (19, W [.addr, .ag [.int .i64, .int .i64, .int .i64, .slc]] [.bool] F_portcullislaw10_world_step), (20, W [.addr] [.bool] F_portcullislaw10_world_alike)]) (ann := [(15, []), (250, [(9, .sc (.int .i64))])]) (TblOk.cons R_portcullislaw10_awake (TblOk.cons R_portcullislaw10_begun (TblOk.cons R_portcullislaw10_world_step (TblOk.cons R_portcullislaw10_world_alike (TblOk.nil))))) Tryz.func4 (by kernel_rfl) (by kernel_rfl) (E_portcullislaw10_StoreDoes F_portcullislaw10_awake F_portcullislaw10_begun F_portcullislaw10_world_step F_portcullislaw10_world_alike)
attribute [irreducible] F_portcullislaw10_StoreDoes
def G_chip_Lay_1 (a0p : Option Addr) (a0l : Nat) (a0c : Nat) (a1 : Addr) (Q : Bool → H → Prop) (h : H) : Prop := ∃ (i6 : Int), hc h a1 = some (Value.int IntKind.i64 i6) ∧ Q ((↑a0l : Int) != i6) h
theorem E_chip_Lay_1  : ∀ (a0p : Option Addr) (a0l : Nat) (a0c : Nat) (a1 : Addr) (Q : Bool → H → Prop) (h : H), G_chip_Lay_1 a0p a0l a0c a1 Q h = Dbody PP [] [] Tryz.f32 [.one (.slice a0p a0l a0c), .addr a1] (decR [.bool] Q) h := by intros; kernel_rfl
def F_chip_Lay_1 := G_chip_Lay_1
theorem R_chip_Lay_1 : RunOk PP 32 (W [.slc, .addr] [.bool] F_chip_Lay_1) := runOk_of (T := []) (ann := []) (TblOk.nil) Tryz.func32 (by kernel_rfl) (by kernel_rfl) (E_chip_Lay_1)
attribute [irreducible] F_chip_Lay_1
def G_chip_Lay_2 (a0 : Int) (Q : Bool → H → Prop) (h : H) : Prop := Q (ltI a0 0) h
theorem E_chip_Lay_2  : ∀ (a0 : Int) (Q : Bool → H → Prop) (h : H), G_chip_Lay_2 a0 Q h = Dbody PP [] [] Tryz.f34 [.one (.int .i64 a0)] (decR [.bool] Q) h := by intros; kernel_rfl
def F_chip_Lay_2 := G_chip_Lay_2
theorem R_chip_Lay_2 : RunOk PP 34 (W [.int .i64] [.bool] F_chip_Lay_2) := runOk_of (T := []) (ann := []) (TblOk.nil) Tryz.func34 (by kernel_rfl) (by kernel_rfl) (E_chip_Lay_2)
attribute [irreducible] F_chip_Lay_2
def G_chip_Chip_begins_1 (a0 : Int) (Q : Int → H → Prop) (h : H) : Prop := Q 255 h
theorem E_chip_Chip_begins_1  : ∀ (a0 : Int) (Q : Int → H → Prop) (h : H), G_chip_Chip_begins_1 a0 Q h = Dbody PP [] [] Tryz.f125 [.one (.int .i64 a0)] (decR [.int .u8] Q) h := by intros; kernel_rfl
def F_chip_Chip_begins_1 := G_chip_Chip_begins_1
theorem R_chip_Chip_begins_1 : RunOk PP 125 (W [.int .i64] [.int .u8] F_chip_Chip_begins_1) := runOk_of (T := []) (ann := []) (TblOk.nil) Tryz.func125 (by kernel_rfl) (by kernel_rfl) (E_chip_Chip_begins_1)
attribute [irreducible] F_chip_Chip_begins_1
def G_chip_Chip_begins_2 (a0 : Int) (a1 : Addr) (Q : Int → H → Prop) (h : H) : Prop := ∃ (o4 : Option Addr), ∃ (n5 : Nat), ∃ (n6 : Nat), hc h a1 = some (Value.slice o4 n5 n6) ∧ if ((↑n5 : Int) == 0) = true then Q 0 h else ∃ (o7 : Option Addr), ∃ (n8 : Nat), ∃ (n9 : Nat), hc h a1 = some (Value.slice o7 n8 n9) ∧ ∃ (o10 : Option Addr), ∃ (n11 : Nat), ∃ (n12 : Nat), hc h a1 = some (Value.slice o10 n11 n12) ∧ (↑n11 : Int) ≠ 0 ∧ ∃ (p13 : Addr), o7 = some p13 ∧ 0 ≤ a0.tmod (↑n11 : Int) ∧ a0.tmod (↑n11 : Int) < (↑n8 : Int) ∧ ∃ (i14 : Int), hc h (p13.add ((a0.tmod (↑n11 : Int)).toNat * 1)) = some (Value.int IntKind.u8 i14) ∧ Q i14 h
theorem E_chip_Chip_begins_2  : ∀ (a0 : Int) (a1 : Addr) (Q : Int → H → Prop) (h : H), G_chip_Chip_begins_2 a0 a1 Q h = Dbody PP [] [] Tryz.f126 [.one (.int .i64 a0), .addr a1] (decR [.int .u8] Q) h := by intros; kernel_rfl
def F_chip_Chip_begins_2 := G_chip_Chip_begins_2
theorem R_chip_Chip_begins_2 : RunOk PP 126 (W [.int .i64, .addr] [.int .u8] F_chip_Chip_begins_2) := runOk_of (T := []) (ann := []) (TblOk.nil) Tryz.func126 (by kernel_rfl) (by kernel_rfl) (E_chip_Chip_begins_2)
attribute [irreducible] F_chip_Chip_begins_2
end Go.Proofs.YteabcbpimjjdpaaGreat
end

/- Blocks of memory as lists of cells, and what loads, stores and allocations do to them. Own work; generic over any program. -/
section
set_option linter.unusedVariables false
namespace Go.Vc

/-- Block b holds just these cells, and none of them is frozen. -/
def Blk (h : H) (b : Nat) (vs : List Value) : Prop :=
  ∃ t lo hi, h[b]? = some (.cells vs.toArray t (lo, hi)) ∧ ∀ i, i < vs.length → ¬ (lo ≤ i ∧ i < hi)

abbrev at_ (b o : Nat) : Addr := ⟨b, o, none⟩

@[simp] theorem add_mk (b o n : Nat) : (Addr.mk b o none).add n = Addr.mk b (o + n) none := by
  unfold Addr.add; split
  · rename_i h; subst h; rfl
  · rfl

theorem Blk.lt {h : H} {b : Nat} {vs : List Value} (k : Blk h b vs) : b < h.size := by
  obtain ⟨t, lo, hi, hb, _⟩ := k
  exact (Array.getElem?_eq_some_iff.1 hb).1
theorem Blk.of_eq {h h' : H} {b : Nat} {vs : List Value} (k : Blk h b vs) (e : h'[b]? = h[b]?) : Blk h' b vs := by
  obtain ⟨t, lo, hi, hb, hf⟩ := k
  exact ⟨t, lo, hi, by rw [e]; exact hb, hf⟩

theorem Blk.hc {h : H} {b : Nat} {vs : List Value} (k : Blk h b vs) (o : Nat) : hc h ⟨b, o, none⟩ = vs[o]? := by
  obtain ⟨t, lo, hi, hb, _⟩ := k
  simp [Vc.hc, hb]
theorem Blk.hf {h : H} {b : Nat} {vs : List Value} (k : Blk h b vs) {o : Nat} (ho : o < vs.length) : hf h ⟨b, o, none⟩ = false := by
  obtain ⟨t, lo, hi, hb, hfz⟩ := k
  have := hfz o ho
  simp only [Vc.hf, hb]
  simp only [Bool.and_eq_false_imp, decide_eq_true_eq, decide_eq_false_iff_not]
  intro h1 h2; exact this ⟨h1, h2⟩
theorem Blk.can {h : H} {b : Nat} {vs : List Value} (k : Blk h b vs) {o n : Nat} (ho : o + n ≤ vs.length) : hcan h ⟨b, o, none⟩ n := by
  intro i hi
  have hl : o + i < vs.length := by omega
  rw [add_mk, k.hc, k.hf hl]
  simp [List.getElem?_eq_getElem hl]
theorem Blk.hcs {h : H} {b : Nat} {vs : List Value} (k : Blk h b vs) {o : Nat} {xs : List Value} (e : ∀ i, i < xs.length → vs[o + i]? = xs[i]?) : hcs h ⟨b, o, none⟩ xs := by
  intro i v hv
  rw [add_mk, k.hc, e i (List.getElem?_eq_some_iff.1 hv).1, hv]

/-! ### Writing -/
/-- Cells put in the place of others. -/
def splice (vs : List Value) : Nat → List Value → List Value
  | _, [] => vs
  | o, x :: r => splice (vs.set o x) (o + 1) r
@[simp] theorem splice_nil (vs : List Value) (o : Nat) : splice vs o [] = vs := rfl
@[simp] theorem splice_cons (vs : List Value) (o : Nat) (x : Value) (r : List Value) : splice vs o (x :: r) = splice (vs.set o x) (o + 1) r := rfl
@[simp] theorem splice_length (vs : List Value) (o : Nat) (xs : List Value) : (splice vs o xs).length = vs.length := by
  induction xs generalizing vs o with
  | nil => rfl
  | cons x r ih => simp [ih]
theorem splice_get (vs : List Value) (o : Nat) (xs : List Value) (i : Nat) : (splice vs o xs)[i]? = if o ≤ i ∧ i < o + xs.length ∧ i < vs.length then xs[i - o]? else vs[i]? := by
  induction xs generalizing vs o with
  | nil =>
    have : ¬ (o ≤ i ∧ i < o + ([] : List Value).length ∧ i < vs.length) := by simp; omega
    rw [if_neg this]; rfl
  | cons x r ih =>
    rw [splice_cons, ih]
    simp only [List.length_cons, List.length_set]
    by_cases h1 : o = i
    · subst h1
      rw [if_neg (by omega)]
      by_cases h2 : o < vs.length
      · rw [if_pos (by omega)]; simp [h2]
      · rw [if_neg (by omega)]
        have : (vs.set o x) = vs := List.set_eq_of_length_le (by omega)
        rw [this]
    · rw [List.getElem?_set_ne h1]
      by_cases h2 : o + 1 ≤ i ∧ i < o + 1 + r.length ∧ i < vs.length
      · rw [if_pos h2, if_pos (by omega)]
        have : i - o = (i - (o + 1)) + 1 := by omega
        rw [this]; simp
      · rw [if_neg h2, if_neg (by omega)]
theorem splice_all (vs xs : List Value) (h : xs.length = vs.length) : splice vs 0 xs = xs := by
  apply List.ext_getElem?
  intro i
  rw [splice_get]
  split
  · simp
  · rename_i hn
    rw [List.getElem?_eq_none (by omega), List.getElem?_eq_none (by omega)]
theorem splice_append (a b c xs : List Value) (h : xs.length = b.length) : splice (a ++ b ++ c) a.length xs = a ++ xs ++ c := by
  apply List.ext_getElem?
  intro i
  rw [splice_get]
  simp only [List.length_append]
  split
  · rename_i hh
    rw [List.append_assoc, List.getElem?_append_right hh.1, List.getElem?_append_left (by omega)]
  · rename_i hh
    rw [List.append_assoc, List.append_assoc]
    by_cases h1 : i < a.length
    · rw [List.getElem?_append_left h1, List.getElem?_append_left h1]
    · rw [List.getElem?_append_right (by omega), List.getElem?_append_right (by omega)]
      by_cases h2 : i - a.length < b.length
      · omega
      · rw [List.getElem?_append_right (by omega), List.getElem?_append_right (by omega), h]

theorem hs_eq {h : H} {b : Nat} {vs : List Value} (k : Blk h b vs) (o : Nat) (v : Value) : Blk (hs h ⟨b, o, none⟩ v) b (vs.set o v) := by
  obtain ⟨t, lo, hi, hb, hfz⟩ := k
  refine ⟨t, lo, hi, ?_, by simpa using hfz⟩
  simp only [hs, Array.getElem?_modify, hb]
  simp
theorem hs_ne (h : H) (a : Addr) (v : Value) {x : Nat} (hx : x ≠ a.block) : (hs h a v)[x]? = h[x]? := by
  simp only [hs, Array.getElem?_modify]
  rw [if_neg (by omega)]
theorem hs_size (h : H) (a : Addr) (v : Value) : (hs h a v).size = h.size := by simp [hs]
theorem hwrFrom_blk {h : H} {b : Nat} {vs : List Value} (k : Blk h b vs) (o : Nat) (xs : List Value) (j : Nat) : Blk (hwrFrom h ⟨b, o, none⟩ j xs) b (splice vs (o + j) xs) := by
  induction xs generalizing h vs j with
  | nil => exact k
  | cons x r ih =>
    simp only [hwrFrom, splice_cons, add_mk]
    exact ih (hs_eq k (o + j) x) (j + 1)
theorem add_block (a : Addr) (n : Nat) : (a.add n).block = a.block := by unfold Addr.add; split <;> rfl
theorem hwrFrom_ne (h : H) (a : Addr) (j : Nat) (xs : List Value) {x : Nat} (hx : x ≠ a.block) : (hwrFrom h a j xs)[x]? = h[x]? := by
  induction xs generalizing h j with
  | nil => rfl
  | cons y r ih => simp only [hwrFrom]; rw [ih, hs_ne]; rw [add_block]; exact hx
theorem hwrFrom_size (h : H) (a : Addr) (j : Nat) (xs : List Value) : (hwrFrom h a j xs).size = h.size := by
  induction xs generalizing h j with
  | nil => rfl
  | cons y r ih => simp only [hwrFrom]; rw [ih, hs_size]
theorem Blk.wr {h : H} {b : Nat} {vs : List Value} (k : Blk h b vs) (o : Nat) (xs : List Value) : Blk (hwr h ⟨b, o, none⟩ xs) b (splice vs o xs) := hwrFrom_blk k o xs 0
theorem hwr_ne (h : H) (a : Addr) (xs : List Value) {x : Nat} (hx : x ≠ a.block) : (hwr h a xs)[x]? = h[x]? := hwrFrom_ne h a 0 xs hx
theorem hwr_size (h : H) (a : Addr) (xs : List Value) : (hwr h a xs).size = h.size := hwrFrom_size h a 0 xs
theorem Blk.wr_ne {h : H} {b : Nat} {vs : List Value} (k : Blk h b vs) {a : Addr} {xs : List Value} (hx : b ≠ a.block) : Blk (hwr h a xs) b vs := k.of_eq (hwr_ne h a xs hx)

/-! ### What is left alone -/
/-- From h to h' only these blocks, and new ones, may differ. -/
structure Ext (S : Nat → Prop) (h h' : H) : Prop where
  size : h.size ≤ h'.size
  eq : ∀ b, b < h.size → ¬ S b → h'[b]? = h[b]?
abbrev none_ : Nat → Prop := fun _ => False
theorem Ext.refl (S : Nat → Prop) (h : H) : Ext S h h := ⟨Nat.le_refl _, fun _ _ _ => rfl⟩
theorem Ext.trans {S : Nat → Prop} {h h' h'' : H} (a : Ext S h h') (b : Ext S h' h'') : Ext S h h'' :=
  ⟨Nat.le_trans a.size b.size, fun x hx hs => by rw [b.eq x (Nat.lt_of_lt_of_le hx a.size) hs, a.eq x hx hs]⟩
theorem Ext.mono {S T : Nat → Prop} {h h' : H} (a : Ext S h h') (st : ∀ b, b < h.size → S b → T b) : Ext T h h' :=
  ⟨a.size, fun x hx hs => a.eq x hx fun h => hs (st x hx h)⟩
/-- A change of blocks that are new, or allowed, is no change of old ones. -/
theorem Ext.comp {S T : Nat → Prop} {h h' h'' : H} (a : Ext S h h') (b : Ext T h' h'') (st : ∀ x, x < h.size → T x → S x) : Ext S h h'' :=
  ⟨Nat.le_trans a.size b.size, fun x hx hs => by rw [b.eq x (Nat.lt_of_lt_of_le hx a.size) (fun t => hs (st x hx t)), a.eq x hx hs]⟩
theorem Ext.blk {S : Nat → Prop} {h h' : H} (a : Ext S h h') {b : Nat} {vs : List Value} (k : Blk h b vs) (hb : ¬ S b) : Blk h' b vs := k.of_eq (a.eq b k.lt hb)
theorem Ext.wr (h : H) (b o : Nat) (xs : List Value) : Ext (fun x => x = b) h (hwr h ⟨b, o, none⟩ xs) :=
  ⟨by rw [hwr_size]; exact Nat.le_refl _, fun x _ hx => hwr_ne h _ xs hx⟩
theorem hnew.size {h h' : H} {b : Nat} {c : List Value} (n : hnew h b c h') : h'.size = h.size + 1 := by
  obtain ⟨_, t, lo, hi, _, rfl⟩ := n; simp
theorem hnew.b {h h' : H} {b : Nat} {c : List Value} (n : hnew h b c h') : b = h.size := n.1
theorem hnew.ext {h h' : H} {b : Nat} {c : List Value} (n : hnew h b c h') : Ext none_ h h' := by
  refine ⟨by rw [n.size]; omega, ?_⟩
  obtain ⟨_, t, lo, hi, _, rfl⟩ := n
  intro x hx _
  rw [Array.getElem?_push]; rw [if_neg (by omega)]
theorem hnew.blk {h h' : H} {b : Nat} {c : List Value} (n : hnew h b c h') : Blk h' b c := by
  obtain ⟨rfl, t, lo, hi, hf, rfl⟩ := n
  exact ⟨t, lo, hi, by simp, hf⟩
theorem Blk.ne {h : H} {b b' : Nat} {vs vs' : List Value} (k : Blk h b vs) (k' : ¬ b' < h.size) : b ≠ b' := fun e => k' (e ▸ k.lt)

/-! ### Rows of integers -/
@[simp] theorem ints_nil (k : IntKind) : ints k [] = [] := rfl
@[simp] theorem ints_cons (k : IntKind) (n : Int) (r : List Int) : ints k (n :: r) = .int k n :: ints k r := rfl
@[simp] theorem ints_length (k : IntKind) (ns : List Int) : (ints k ns).length = ns.length := by simp [ints]
@[simp] theorem ints_append (k : IntKind) (a b : List Int) : ints k (a ++ b) = ints k a ++ ints k b := by simp [ints]
theorem ints_get (k : IntKind) (ns : List Int) (i : Nat) : (ints k ns)[i]? = ns[i]?.map (Value.int k) := by simp [ints]
@[simp] theorem zeros_length (n : Nat) : (zeros n).length = n := by simp [zeros]
theorem Blk.hrow {h : H} {b : Nat} {vs : List Value} (k : Blk h b vs) {o : Nat} {kd : IntKind} {ns : List Int} (e : ∀ i, i < ns.length → vs[o + i]? = ns[i]?.map (Value.int kd)) : hrow h ⟨b, o, none⟩ kd ns := by
  apply k.hcs
  intro i hi
  rw [e i (by simpa using hi), ints_get]
@[simp] theorem oneCell_int (k : IntKind) (n : Int) : (Value.int k n).oneCell' = true := rfl
end Go.Vc
end

/- Slices: what they hold, who owns it, and appending. Own work; generic over any program. -/
section
set_option linter.unusedVariables false
namespace Go.Vc

theorem hc_congr {h h' : H} {a : Addr} (e : h'[a.block]? = h[a.block]?) : hc h' a = hc h a := by simp only [hc, e]
theorem hc_lt {h : H} {a : Addr} {v : Value} (e : hc h a = some v) : a.block < h.size := by
  rcases Nat.lt_or_ge a.block h.size with k | k
  · exact k
  · simp [hc, Array.getElem?_eq_none k] at e
theorem hc_ext {S : Nat → Prop} {h h' : H} (x : Ext S h h') {a : Addr} {v : Value} (e : hc h a = some v) (hs : ¬ S a.block) : hc h' a = some v := by
  rw [hc_congr (x.eq _ (hc_lt e) hs), e]
theorem hcs_ext {S : Nat → Prop} {h h' : H} (x : Ext S h h') {a : Addr} {vs : List Value} (e : hcs h a vs) (hs : ¬ S a.block) : hcs h' a vs := by
  intro i v hv
  exact hc_ext x (e i v hv) (by rw [add_block]; exact hs)
theorem hsv_ext {S : Nat → Prop} {h h' : H} (x : Ext S h h') {p : Option Addr} {sz l : Nat} {vs : List Value} (e : hsv h p sz l vs) (hs : ∀ q, p = some q → ¬ S q.block) : hsv h' p sz l vs := by
  obtain ⟨h1, h2, h3⟩ := e
  refine ⟨h1, h2, ?_⟩
  rcases h3 with h3 | ⟨q, hq, h3⟩
  · exact Or.inl h3
  · exact Or.inr ⟨q, hq, hcs_ext x h3 (hs q hq)⟩
theorem hsv_none {h : H} {sz l : Nat} {vs : List Value} (e : hsv h none sz l vs) : vs = [] := by
  obtain ⟨_, _, h3⟩ := e
  rcases h3 with h3 | ⟨q, hq, _⟩
  · exact h3
  · cases hq
theorem hsv_get {h : H} {p : Option Addr} {sz l : Nat} {vs : List Value} (e : hsv h p sz l vs) {i : Nat} {v : Value} (hi : vs[i]? = some v) : ∃ q, p = some q ∧ hc h (q.add i) = some v := by
  obtain ⟨_, _, h3⟩ := e
  rcases h3 with h3 | ⟨q, hq, h3⟩
  · subst h3; simp at hi
  · exact ⟨q, hq, h3 i v hi⟩
/-- A slice whose cells lie at the head of a block of their own (bs: that block, if there is one). -/
def OwnS (h : H) (p : Option Addr) (l c sz : Nat) (vs : List Value) (bs : List Nat) : Prop :=
  vs.length = l * sz ∧ l ≤ c ∧ (∀ v, v ∈ vs → v.oneCell' = true) ∧
    ((l = 0 ∧ c = 0 ∧ bs = []) ∨ ∃ b rest, p = some ⟨b, 0, none⟩ ∧ bs = [b] ∧ Blk h b (vs ++ rest) ∧ (c - l) * sz ≤ rest.length)
theorem OwnS.hsv {h : H} {p : Option Addr} {l c sz : Nat} {vs : List Value} {bs : List Nat} (o : OwnS h p l c sz vs bs) : hsv h p sz l vs := by
  obtain ⟨h1, h2, h3, h4⟩ := o
  refine ⟨h1, h3, ?_⟩
  rcases h4 with ⟨rfl, _, _⟩ | ⟨b, rest, rfl, _, k, _⟩
  · left; apply List.eq_nil_of_length_eq_zero; simp [h1]
  · right
    exact ⟨_, rfl, k.hcs fun i hi => by rw [Nat.zero_add, List.getElem?_append_left hi]⟩
theorem OwnS.lt {h : H} {p : Option Addr} {l c sz : Nat} {vs : List Value} {bs : List Nat} (o : OwnS h p l c sz vs bs) : ∀ b, b ∈ bs → b < h.size := by
  obtain ⟨_, _, _, h4⟩ := o
  rcases h4 with ⟨_, _, rfl⟩ | ⟨b, rest, _, rfl, k, _⟩
  · intro b hb; simp at hb
  · intro b' hb; simp at hb; subst hb; exact k.lt
theorem OwnS.ext {S : Nat → Prop} {h h' : H} (x : Ext S h h') {p : Option Addr} {l c sz : Nat} {vs : List Value} {bs : List Nat} (o : OwnS h p l c sz vs bs) (hs : ∀ b, b ∈ bs → ¬ S b) : OwnS h' p l c sz vs bs := by
  obtain ⟨h1, h2, h3, h4⟩ := o
  refine ⟨h1, h2, h3, ?_⟩
  rcases h4 with h4 | ⟨b, rest, hp, rfl, k, hr⟩
  · exact Or.inl h4
  · exact Or.inr ⟨b, rest, hp, rfl, x.blk k (hs b (by simp)), hr⟩
theorem OwnS.nil (h : H) (p : Option Addr) (sz : Nat) : OwnS h p 0 0 sz [] [] := ⟨by simp, Nat.le_refl _, by simp, Or.inl ⟨rfl, rfl, rfl⟩⟩

theorem flatten_replicate_length {α : Type} (n : Nat) (z : List α) : (List.replicate n z).flatten.length = n * z.length := by
  induction n with
  | zero => simp
  | succ n ih => simp [List.replicate_succ, Nat.succ_mul, ih]; omega

/-- Blocks that are new. -/
def newB (h : H) (bs : List Nat) : Prop := ∀ b, b ∈ bs → h.size ≤ b
theorem newB.ext {S : Nat → Prop} {h h' : H} (x : Ext S h h') {bs : List Nat} (n : newB h' bs) : newB h bs := fun b hb => Nat.le_trans x.size (n b hb)

/-- Cells are appended to an empty slice without room. -/
theorem pApp_empty {h : H} {sz : Nat} {z : List Value} {B : Nat} {p : Option Addr} {n : Nat} {vs : List Value} {K : Option Addr → Nat → Nat → H → Prop}
    (hl : vs.length = n * sz) (hz : z.length = sz) (hv : ∀ v, v ∈ vs → v.oneCell' = true) (hb : n * B ≤ 2 ^ 47)
    (hk : ∀ p' c' h' bs, Ext none_ h h' → OwnS h' p' n c' sz vs bs → newB h bs → K p' n c' h') : pApp h sz z B p 0 0 n vs K := by
  unfold pApp
  by_cases hn : n = 0
  · subst hn
    have hv0 : vs = [] := List.eq_nil_of_length_eq_zero (by simp [hl])
    subst hv0
    rw [if_pos (by simp)]
    refine ⟨Or.inl rfl, fun h' e => ?_⟩
    have e' : h' = h := by rw [e]; cases p <;> rfl
    subst e'
    exact hk _ _ _ [] (Ext.refl _ _) (OwnS.nil _ _ _) (by intro b hb; simp at hb)
  · rw [if_neg (by omega)]
    refine ⟨by simpa using hb, [], ⟨by simp, by simp, Or.inl rfl⟩, fun c' b h' hc hw => ?_⟩
    have : (0 + n) = n := by omega
    rw [this] at hc ⊢
    refine hk _ _ _ [b] hw.ext ⟨hl, hc, hv, Or.inr ⟨b, (List.replicate (c' - (0 + n)) z).flatten, rfl, rfl, ?_, ?_⟩⟩ ?_
    · simpa using hw.blk
    · rw [flatten_replicate_length, hz, this]; exact Nat.le_refl _
    · intro x hx; simp at hx; subst hx; rw [hw.b]; exact Nat.le_refl _

/-- Cells are appended to a slice that is owned. -/
theorem pApp_own {h : H} {sz : Nat} {z : List Value} {B : Nat} {p : Option Addr} {l c n : Nat} {old vs : List Value} {bs : List Nat} {K : Option Addr → Nat → Nat → H → Prop}
    (o : OwnS h p l c sz old bs) (hl : vs.length = n * sz) (hz : z.length = sz) (hv : ∀ v, v ∈ vs → v.oneCell' = true) (hb : (l + n) * B ≤ 2 ^ 47)
    (hk : ∀ p' c' h' bs', Ext (fun b => b ∈ bs) h h' → OwnS h' p' (l + n) c' sz (old ++ vs) bs' → (∀ b, b ∈ bs' → b ∈ bs ∨ h.size ≤ b) → K p' (l + n) c' h') : pApp h sz z B p l c n vs K := by
  have ohs := o.hsv
  have olt := o.lt
  obtain ⟨h1, h2, h3, h4⟩ := o
  have hov : ∀ v, v ∈ old ++ vs → v.oneCell' = true := by
    intro v hm; rcases List.mem_append.1 hm with hm | hm
    · exact h3 v hm
    · exact hv v hm
  have hlen : (old ++ vs).length = (l + n) * sz := by simp [h1, hl, Nat.add_mul]
  unfold pApp
  split
  · rename_i hroom
    rcases h4 with ⟨rfl, rfl, rfl⟩ | ⟨b, rest, rfl, rfl, k, hr⟩
    · have hn : n = 0 := by omega
      subst hn
      have hv0 : vs = [] := List.eq_nil_of_length_eq_zero (by simp [hl])
      have ho0 : old = [] := List.eq_nil_of_length_eq_zero (by simp [h1])
      subst hv0; subst ho0
      refine ⟨Or.inl rfl, fun h' e => ?_⟩
      have e' : h' = h := by rw [e]; cases p <;> rfl
      subst e'
      exact hk _ _ _ [] (Ext.refl _ _) (OwnS.nil _ _ _) (by intro b hb; simp at hb)
    · have hnr : n * sz ≤ rest.length := by
        have : n * sz ≤ (c - l) * sz := Nat.mul_le_mul_right _ (by omega)
        omega
      refine ⟨Or.inr ⟨_, rfl, ?_⟩, fun h' e => ?_⟩
      · rw [add_mk]; apply k.can; simp [h1]; omega
      · simp only [Option.map_some, hwrO, add_mk, Nat.zero_add] at e
        have hs : splice (old ++ rest) (l * sz) vs = (old ++ vs) ++ rest.drop (n * sz) := by
          have : old ++ rest = old ++ rest.take (n * sz) ++ rest.drop (n * sz) := by simp
          rw [this, ← h1, splice_append]
          simp [hl, Nat.min_eq_left hnr]
        have kb := k.wr (l * sz) vs
        rw [hs] at kb
        subst e
        refine hk _ _ _ [b] ⟨by rw [hwr_size]; exact Nat.le_refl _, fun x _ hx => hwr_ne _ _ _ (by simpa using hx)⟩ ⟨hlen, hroom, hov, Or.inr ⟨b, rest.drop (n * sz), rfl, rfl, kb, ?_⟩⟩ (fun x hx => Or.inl hx)
        simp
        have : c - (l + n) = (c - l) - n := by omega
        rw [this, Nat.sub_mul]; omega
  · rename_i hroom
    refine ⟨hb, old, ohs, fun c' b h' hc hw => ?_⟩
    refine hk _ _ _ [b] (hw.ext.mono fun _ _ hf => hf.elim) ⟨hlen, hc, hov, Or.inr ⟨b, (List.replicate (c' - (l + n)) z).flatten, rfl, rfl, ?_, ?_⟩⟩ ?_
    · exact hw.blk
    · rw [flatten_replicate_length, hz]; exact Nat.le_refl _
    · intro x hx; simp at hx; subst hx; right; rw [hw.b]; exact Nat.le_refl _
end Go.Vc
end

/- Loops that count up. Own work; generic over any program. -/
section
set_option linter.unusedVariables false
namespace Go.Vc
abbrev si (i : Nat) : SV := .dv (.one (.int .i64 (i : Int)))
theorem loop_up {J : List SV → H → Prop} (N : Nat) (Inv : Nat → H → Prop) (step : ∀ i h, i < N → Inv i h → (∀ h', Inv (i + 1) h' → J [si (i + 1)] h') → J [si i] h)
    (exit : ∀ h, Inv N h → J [si N] h) (i : Nat) (h : H) (hi : i ≤ N) (inv : Inv i h) : J [si i] h := by
  generalize e : N - i = n
  induction n generalizing i h with
  | zero =>
    have : i = N := by omega
    subst this; exact exit h inv
  | succ n ih => exact step i h (by omega) inv fun h' inv' => ih (i + 1) h' (by omega) inv' (by omega)
theorem wrap_succ {i : Nat} (h : i < 2 ^ 62) : IntKind.i64.wrap ((i : Int) + 1) = ((i + 1 : Nat) : Int) := by
  rw [IntKind.wrap_i64]; omega
theorem wrap_id {n : Int} (h : -(2 ^ 62) ≤ n ∧ n ≤ 2 ^ 62) : IntKind.i64.wrap n = n := by
  rw [IntKind.wrap_i64]; omega
/-- The first i entries are mapped. -/
def mapTo (g : Nat → Int → Int) (i : Nat) (ns : List Int) : List Int := ns.mapIdx fun j v => if j < i then g j v else v
@[simp] theorem mapTo_length (g : Nat → Int → Int) (i : Nat) (ns : List Int) : (mapTo g i ns).length = ns.length := by simp [mapTo]
theorem mapTo_get (g : Nat → Int → Int) (i : Nat) (ns : List Int) (j : Nat) : (mapTo g i ns)[j]? = ns[j]?.map fun v => if j < i then g j v else v := by simp [mapTo]
@[simp] theorem mapTo_zero (g : Nat → Int → Int) (ns : List Int) : mapTo g 0 ns = ns := by
  apply List.ext_getElem?; intro j; rw [mapTo_get]; simp
theorem mapTo_succ (g : Nat → Int → Int) (i : Nat) (ns : List Int) (hi : i < ns.length) : (mapTo g i ns).set i (g i ns[i]) = mapTo g (i + 1) ns := by
  apply List.ext_getElem?; intro j
  by_cases h : i = j
  · subst h; rw [List.getElem?_set_self (by simpa using hi), mapTo_get]; simp [hi]
  · rw [List.getElem?_set_ne h, mapTo_get, mapTo_get]
    congr 1; funext v
    by_cases h1 : j < i
    · rw [if_pos h1, if_pos (by omega)]
    · rw [if_neg h1, if_neg (by omega)]
theorem ints_set (k : IntKind) (ns : List Int) (i : Nat) (n : Int) : (ints k ns).set i (.int k n) = ints k (ns.set i n) := by simp [ints, List.map_set]
end Go.Vc
end

/- Assertions: a list of things that own blocks, none twice; all else is as it was in a base heap. Own work; generic over any program. -/
section
set_option linter.unusedVariables false
namespace Go.Vc

@[simp] theorem oneCell_slice (p : Option Addr) (l c : Nat) : (Value.slice p l c).oneCell' = true := rfl
@[simp] theorem oneCell_bool (b : Bool) : (Value.bool b).oneCell' = true := rfl
@[simp] theorem oneCell_ptr (p : Option Addr) : (Value.pointer p).oneCell' = true := rfl
@[simp] theorem oneCell_str (s : ByteArray) : (Value.string s).oneCell' = true := rfl

inductive Tag where
  | blk (b : Nat) (vs : List Value)
  | sl (p : Option Addr) (l c sz : Nat) (vs : List Value)
  | of (n : Nat)

/-- Something that lies in memory: what it says of a heap and of the blocks that it owns. -/
structure Ent where
  tag : Tag
  P : H → (Nat → Prop) → Prop
  st : ∀ {h h' : H} {f : Nat → Prop}, P h f → (∀ b, f b → h'[b]? = h[b]?) → P h' f
  lt : ∀ {h : H} {f : Nat → Prop} {b : Nat}, P h f → f b → b < h.size

def SatX : List Ent → H → (Nat → Prop) → Prop
  | [], _, O => ∀ b, ¬ O b
  | e :: A, h, O => ∃ f g, e.P h f ∧ SatX A h g ∧ (∀ b, f b → ¬ g b) ∧ (∀ b, O b ↔ f b ∨ g b)

theorem SatX.st {A : List Ent} {h h' : H} {O : Nat → Prop} (s : SatX A h O) (e : ∀ b, O b → h'[b]? = h[b]?) : SatX A h' O := by
  induction A generalizing O with
  | nil => exact s
  | cons x A ih =>
    obtain ⟨f, g, hp, hg, hd, ho⟩ := s
    exact ⟨f, g, x.st hp fun b hb => e b ((ho b).2 (Or.inl hb)), ih hg fun b hb => e b ((ho b).2 (Or.inr hb)), hd, ho⟩
theorem SatX.lt {A : List Ent} {h : H} {O : Nat → Prop} (s : SatX A h O) {b : Nat} (hb : O b) : b < h.size := by
  induction A generalizing O with
  | nil => exact absurd hb (s b)
  | cons x A ih =>
    obtain ⟨f, g, hp, hg, hd, ho⟩ := s
    rcases (ho b).1 hb with k | k
    · exact x.lt hp k
    · exact ih hg k
theorem SatX.iff {A : List Ent} {h : H} {O O' : Nat → Prop} (s : SatX A h O) (e : ∀ b, O b ↔ O' b) : SatX A h O' := by
  have : O = O' := funext fun b => propext (e b)
  exact this ▸ s
theorem SatX.append {A B : List Ent} {h : H} {O : Nat → Prop} : SatX (A ++ B) h O ↔ ∃ f g, SatX A h f ∧ SatX B h g ∧ (∀ b, f b → ¬ g b) ∧ (∀ b, O b ↔ f b ∨ g b) := by
  induction A generalizing O with
  | nil =>
    constructor
    · intro s; exact ⟨fun _ => False, O, fun _ x => x, s, fun _ x => x.elim, fun b => by simp⟩
    · rintro ⟨f, g, hf, hg, _, ho⟩
      refine hg.iff fun b => ?_
      rw [ho]; constructor
      · exact Or.inr
      · rintro (k | k)
        · exact absurd k (hf b)
        · exact k
  | cons x A ih =>
    constructor
    · rintro ⟨f, g, hp, hg, hd, ho⟩
      obtain ⟨f', g', h1, h2, h3, h4⟩ := ih.1 hg
      refine ⟨fun b => f b ∨ f' b, g', ⟨f, f', hp, h1, fun b k k' => hd b k ((h4 b).2 (Or.inl k')), fun b => Iff.rfl⟩, h2, ?_, ?_⟩
      · rintro b (k | k) k'
        · exact hd b k ((h4 b).2 (Or.inr k'))
        · exact h3 b k k'
      · intro b; rw [ho, h4, or_assoc]
    · rintro ⟨f, g, ⟨f1, f2, hp, h1, h2, h3⟩, hg, hd, ho⟩
      refine ⟨f1, fun b => f2 b ∨ g b, hp, ih.2 ⟨f2, g, h1, hg, fun b k k' => hd b ((h3 b).2 (Or.inr k)) k', fun b => Iff.rfl⟩, ?_, ?_⟩
      · rintro b k (k' | k')
        · exact h2 b k k'
        · exact hd b ((h3 b).2 (Or.inl k)) k'
      · intro b; rw [ho, h3, or_assoc]

/-- The thing at a place of the list. -/
inductive At : List Ent → Nat → Ent → Prop where
  | z {A : List Ent} {e : Ent} : At (e :: A) 0 e
  | s {A : List Ent} {e x : Ent} {i : Nat} : At A i e → At (x :: A) (i + 1) e
def put : List Ent → Nat → Ent → List Ent
  | [], _, _ => []
  | _ :: A, 0, e => e :: A
  | x :: A, i + 1, e => x :: put A i e
@[simp] theorem put_zero (x e : Ent) (A : List Ent) : put (x :: A) 0 e = e :: A := rfl
@[simp] theorem put_succ (x e : Ent) (A : List Ent) (i : Nat) : put (x :: A) (i + 1) e = x :: put A i e := rfl
theorem At.put {A : List Ent} {i : Nat} {e : Ent} (a : At A i e) (x : Ent) : At (Vc.put A i x) i x := by
  induction a with
  | z => exact .z
  | s _ ih => exact .s ih
theorem At.put_ne {A : List Ent} {i j : Nat} {e : Ent} (a : At A i e) (hj : i ≠ j) (x : Ent) : At (Vc.put A j x) i e := by
  induction a generalizing j with
  | z => cases j with
    | zero => exact absurd rfl hj
    | succ j => exact .z
  | s q ih => cases j with
    | zero => exact .s q
    | succ j => exact .s (ih (by omega))
@[simp] theorem put_put (A : List Ent) (i : Nat) (x y : Ent) : put (put A i x) i y = put A i y := by
  induction A generalizing i with
  | nil => rfl
  | cons a A ih => cases i with
    | zero => rfl
    | succ i => simp [ih]
theorem At.put_self {A : List Ent} {i : Nat} {e : Ent} (a : At A i e) : Vc.put A i e = A := by
  induction a with
  | z => rfl
  | s _ ih => simp [ih]

/-- A thing taken out of the list, and another one put in its place. -/
theorem SatX.take {A : List Ent} {i : Nat} {e : Ent} (a : At A i e) {h : H} {O : Nat → Prop} (s : SatX A h O) :
    ∃ f g : Nat → Prop, e.P h f ∧ (∀ b, f b → ¬ g b) ∧ (∀ b, O b ↔ f b ∨ g b) ∧
      ∀ (e' : Ent) (h' : H) (f' : Nat → Prop), e'.P h' f' → (∀ b, g b → h'[b]? = h[b]?) → (∀ b, f' b → ¬ g b) → SatX (Vc.put A i e') h' (fun b => f' b ∨ g b) := by
  induction a generalizing O with
  | z =>
    obtain ⟨f, g, hp, hg, hd, ho⟩ := s
    exact ⟨f, g, hp, hd, ho, fun e' h' f' hp' hsame hd' => ⟨f', g, hp', hg.st hsame, hd', fun b => Iff.rfl⟩⟩
  | s a ih =>
    obtain ⟨f, g, hp, hg, hd, ho⟩ := s
    obtain ⟨f1, g1, h1, h2, h3, h4⟩ := ih hg
    refine ⟨f1, fun b => f b ∨ g1 b, h1, ?_, ?_, ?_⟩
    · rintro b k (k' | k')
      · exact hd b k' ((h3 b).2 (Or.inl k))
      · exact h2 b k k'
    · intro b; rw [ho, h3]; constructor
      · rintro (k | k | k) <;> simp [k]
      · rintro (k | k | k) <;> simp [k]
    · intro e' h' f' hp' hsame hd'
      refine ⟨f, fun b => f' b ∨ g1 b, Ent.st _ hp fun b k => hsame b (Or.inl k), h4 e' h' f' hp' (fun b k => hsame b (Or.inr k)) (fun b k k' => hd' b k (Or.inr k')), ?_, ?_⟩
      · rintro b k (k' | k')
        · exact hd' b k' (Or.inl k)
        · exact hd b k ((h3 b).2 (Or.inr k'))
      · intro b; constructor
        · rintro (k | k | k) <;> simp [k]
        · rintro (k | k | k) <;> simp [k]

/-! ### With a base -/
/-- The things lie in new blocks; all blocks of the base heap are as they were. -/
def Sat (h0 : H) (A : List Ent) (h : H) : Prop := Ext none_ h0 h ∧ ∃ O, SatX A h O ∧ ∀ b, O b → h0.size ≤ b

theorem Sat.init (h : H) : Sat h [] h := ⟨Ext.refl _ _, fun _ => False, fun _ x => x, fun _ x => x.elim⟩
theorem Sat.ex {h0 h : H} {A : List Ent} (s : Sat h0 A h) : Ext none_ h0 h := s.1
theorem Sat.ext {h0 h h' : H} {A : List Ent} (s : Sat h0 A h) (x : Ext none_ h h') : Sat h0 A h' := by
  obtain ⟨s1, O, s2, s3⟩ := s
  exact ⟨s1.trans x, O, s2.st fun b hb => x.eq b (s2.lt hb) (fun y => y), s3⟩
theorem Sat.add {h0 h h' : H} {A : List Ent} (s : Sat h0 A h) (x : Ext none_ h h') {e : Ent} {f : Nat → Prop} (p : e.P h' f) (n : ∀ b, f b → h.size ≤ b) : Sat h0 (e :: A) h' := by
  obtain ⟨s1, O, s2, s3⟩ := s
  refine ⟨s1.trans x, fun b => f b ∨ O b, ⟨f, O, p, s2.st fun b hb => x.eq b (s2.lt hb) (fun y => y), ?_, fun b => Iff.rfl⟩, ?_⟩
  · intro b k k'; have := n b k; have := s2.lt k'; omega
  · rintro b (k | k)
    · have := n b k; have := s1.size; omega
    · exact s3 b k
theorem Sat.drop {h0 h : H} {A : List Ent} {e : Ent} (s : Sat h0 (e :: A) h) : Sat h0 A h := by
  obtain ⟨s1, O, ⟨f, g, _, hg, _, ho⟩, s3⟩ := s
  exact ⟨s1, g, hg, fun b hb => s3 b ((ho b).2 (Or.inr hb))⟩
theorem Sat.sub {h0 h : H} {A B : List Ent} (s : Sat h0 A h) (p : B.Sublist A) : Sat h0 B h := by
  obtain ⟨s1, O, s2, s3⟩ := s
  have : ∃ O', SatX B h O' ∧ ∀ b, O' b → O b := by
    clear s3
    induction p generalizing O with
    | slnil => exact ⟨O, s2, fun _ x => x⟩
    | cons a _ ih =>
      obtain ⟨f, g, hp, hg, hd, ho⟩ := s2
      obtain ⟨O', h1, h2⟩ := ih g hg
      exact ⟨O', h1, fun b hb => (ho b).2 (Or.inr (h2 b hb))⟩
    | cons_cons a _ ih =>
      obtain ⟨f, g, hp, hg, hd, ho⟩ := s2
      obtain ⟨O', h1, h2⟩ := ih g hg
      exact ⟨fun b => f b ∨ O' b, ⟨f, O', hp, h1, fun b k k' => hd b k (h2 b k'), fun b => Iff.rfl⟩, fun b hb => (ho b).2 (hb.imp id (h2 b))⟩
  obtain ⟨O', h1, h2⟩ := this
  exact ⟨s1, O', h1, fun b hb => s3 b (h2 b hb)⟩
theorem Sat.nil {h0 h : H} {A : List Ent} (s : Sat h0 A h) : Sat h0 [] h := ⟨s.1, fun _ => False, fun _ x => x, fun _ x => x.elim⟩
theorem Sat.perm {h0 h : H} {A B : List Ent} (s : Sat h0 A h) (p : A.Perm B) : Sat h0 B h := by
  obtain ⟨s1, O, s2, s3⟩ := s
  refine ⟨s1, O, ?_, s3⟩
  clear s3
  induction p generalizing O with
  | nil => exact s2
  | cons x _ ih =>
    obtain ⟨f, g, hp, hg, hd, ho⟩ := s2
    exact ⟨f, g, hp, ih g hg, hd, ho⟩
  | swap x y l =>
    obtain ⟨f, g, hp, ⟨f1, g1, hp1, hg1, hd1, ho1⟩, hd, ho⟩ := s2
    refine ⟨f1, fun b => f b ∨ g1 b, hp1, ⟨f, g1, hp, hg1, fun b k k' => hd b k ((ho1 b).2 (Or.inr k')), fun b => Iff.rfl⟩, ?_, ?_⟩
    · rintro b k (k' | k')
      · exact hd b k' ((ho1 b).2 (Or.inl k))
      · exact hd1 b k k'
    · intro b; rw [ho, ho1]; constructor
      · rintro (k | k | k) <;> simp [k]
      · rintro (k | k | k) <;> simp [k]
  | trans _ _ ih1 ih2 => exact ih2 O (ih1 O s2)
theorem Sat.takeK {h0 h : H} {A : List Ent} (s : Sat h0 A h) {i : Nat} {e : Ent} (a : At A i e) : ∃ f : Nat → Prop, e.P h f ∧ (∀ b, f b → h0.size ≤ b) ∧
    ∀ (h' : H) (e' : Ent) (f' : Nat → Prop), e'.P h' f' → (∀ b, f' b → f b ∨ h.size ≤ b) → Ext f h h' → Sat h0 (Vc.put A i e') h' := by
  obtain ⟨s1, O, s2, s3⟩ := s
  obtain ⟨f, g, hp, hd, ho, hk⟩ := s2.take a
  refine ⟨f, hp, fun b hb => s3 b ((ho b).2 (Or.inl hb)), fun h' e' f' hp' hn hx => ?_⟩
  have hg : ∀ b, g b → b < h.size := fun b hb => s2.lt ((ho b).2 (Or.inr hb))
  refine ⟨s1.comp hx (fun b hb hf => ?_), _, hk e' h' f' hp' (fun b hb => hx.eq b (hg b hb) (fun hf => hd b hf hb)) ?_, ?_⟩
  · have := s3 b ((ho b).2 (Or.inl hf)); omega
  · intro b k1 k2
    rcases hn b k1 with k | k
    · exact hd b k k2
    · have := hg b k2; omega
  · rintro b (k1 | k1)
    · rcases hn b k1 with k | k
      · exact s3 b ((ho b).2 (Or.inl k))
      · have := s1.size; omega
    · exact s3 b ((ho b).2 (Or.inr k1))
theorem Sat.take {h0 h : H} {A : List Ent} (s : Sat h0 A h) {i : Nat} {e : Ent} (a : At A i e) : ∃ f, e.P h f ∧ ∀ b, f b → h0.size ≤ b := by
  obtain ⟨f, h1, h2, _⟩ := s.takeK a
  exact ⟨f, h1, h2⟩
/-- One thing becomes another one: only its own blocks, and new ones, change. -/
theorem Sat.upd {h0 h h' : H} {A : List Ent} (s : Sat h0 A h) {i : Nat} {e e' : Ent} (a : At A i e)
    (k : ∀ f, e.P h f → ∃ f', e'.P h' f' ∧ (∀ b, f' b → f b ∨ h.size ≤ b) ∧ Ext f h h') : Sat h0 (Vc.put A i e') h' := by
  obtain ⟨f, hp, _, hk⟩ := s.takeK a
  obtain ⟨f', h1, h2, h3⟩ := k f hp
  exact hk h' e' f' h1 h2 h3
/-- The same heap, read otherwise. -/
theorem Sat.as {h0 h : H} {A : List Ent} (s : Sat h0 A h) {i : Nat} {e e' : Ent} (a : At A i e) (k : ∀ f, e.P h f → e'.P h f) : Sat h0 (Vc.put A i e') h :=
  s.upd a fun f hp => ⟨f, k f hp, fun _ => Or.inl, Ext.refl _ _⟩

/-! ### A block; a slice -/
@[irreducible] def blkP (b : Nat) (vs : List Value) (h : H) (f : Nat → Prop) : Prop := Blk h b vs ∧ ∀ x, f x ↔ x = b
def blk (b : Nat) (vs : List Value) : Ent where
  tag := .blk b vs
  P := blkP b vs
  st := by unfold blkP; rintro h h' f ⟨k, e⟩ hs; exact ⟨k.of_eq (hs b ((e b).2 rfl)), e⟩
  lt := by unfold blkP; rintro h f x ⟨k, e⟩ hx; rw [(e x).1 hx]; exact k.lt
theorem blk_P {b : Nat} {vs : List Value} {h : H} {f : Nat → Prop} : (blk b vs).P h f ↔ Blk h b vs ∧ ∀ x, f x ↔ x = b := by
  show blkP b vs h f ↔ _; unfold blkP; rfl
@[irreducible] def slP (p : Option Addr) (l c sz : Nat) (vs : List Value) (h : H) (f : Nat → Prop) : Prop := ∃ bs, OwnS h p l c sz vs bs ∧ ∀ x, f x ↔ x ∈ bs
def slE (p : Option Addr) (l c sz : Nat) (vs : List Value) : Ent where
  tag := .sl p l c sz vs
  P := slP p l c sz vs
  st := by
    unfold slP; rintro h h' f ⟨bs, ⟨h1, h2, h3, h4⟩, e⟩ hs
    refine ⟨bs, ⟨h1, h2, h3, ?_⟩, e⟩
    rcases h4 with h4 | ⟨b, rest, e1, rfl, k, e2⟩
    · exact Or.inl h4
    · exact Or.inr ⟨b, rest, e1, rfl, k.of_eq (hs b ((e b).2 (by simp))), e2⟩
  lt := by unfold slP; rintro h f x ⟨bs, o, e⟩ hx; exact o.lt x ((e x).1 hx)
theorem slE_P {p : Option Addr} {l c sz : Nat} {vs : List Value} {h : H} {f : Nat → Prop} : (slE p l c sz vs).P h f ↔ ∃ bs, OwnS h p l c sz vs bs ∧ ∀ x, f x ↔ x ∈ bs := by
  show slP p l c sz vs h f ↔ _; unfold slP; rfl
@[irreducible] def exP {α : Type} (φ : α → Prop) (F : α → List Ent) (h : H) (f : Nat → Prop) : Prop := ∃ a, φ a ∧ SatX (F a) h f
/-- Things whose places nobody need know. -/
def exE {α : Type} (n : Nat) (φ : α → Prop) (F : α → List Ent) : Ent where
  tag := .of n
  P := exP φ F
  st := by unfold exP; rintro h h' f ⟨a, ha, s⟩ hs; exact ⟨a, ha, s.st hs⟩
  lt := by unfold exP; rintro h f x ⟨a, ha, s⟩ hx; exact s.lt hx
theorem exE_P {α : Type} {n : Nat} {φ : α → Prop} {F : α → List Ent} {h : H} {f : Nat → Prop} : (exE n φ F).P h f ↔ ∃ a, φ a ∧ SatX (F a) h f := by
  show exP φ F h f ↔ _; unfold exP; rfl
theorem Sat.open_ {h0 h : H} {A : List Ent} {α : Type} {n : Nat} {φ : α → Prop} {F : α → List Ent} (s : Sat h0 (exE n φ F :: A) h) : ∃ a, φ a ∧ Sat h0 (F a ++ A) h := by
  obtain ⟨s1, O, ⟨f, g, hp, hg, hd, ho⟩, s3⟩ := s
  obtain ⟨a, ha, s⟩ := exE_P.1 hp
  exact ⟨a, ha, s1, O, SatX.append.2 ⟨f, g, s, hg, hd, ho⟩, s3⟩
theorem Sat.close {h0 h : H} {A : List Ent} {α : Type} {n : Nat} {φ : α → Prop} {F : α → List Ent} (a : α) (ha : φ a) (s : Sat h0 (F a ++ A) h) : Sat h0 (exE n φ F :: A) h := by
  obtain ⟨s1, O, s2, s3⟩ := s
  obtain ⟨f, g, hf, hg, hd, ho⟩ := SatX.append.1 s2
  exact ⟨s1, O, ⟨f, g, exE_P.2 ⟨a, ha, hf⟩, hg, hd, ho⟩, s3⟩
/-- Moved to the front. -/
def del : List Ent → Nat → List Ent
  | [], _ => []
  | _ :: A, 0 => A
  | x :: A, i + 1 => x :: del A i
theorem At.perm {A : List Ent} {i : Nat} {e : Ent} (a : At A i e) : A.Perm (e :: del A i) := by
  induction a with
  | z => exact .refl _
  | s _ ih => exact (ih.cons _).trans (.swap _ _ _)
theorem At.perm_put {A : List Ent} {i : Nat} {e : Ent} (a : At A i e) (x : Ent) : (x :: del A i).Perm (Vc.put A i x) := by
  induction a with
  | z => exact .refl _
  | s _ ih => exact (List.Perm.swap _ _ _).trans (ih.cons _)
theorem Sat.front {h0 h : H} {A : List Ent} (s : Sat h0 A h) {i : Nat} {e : Ent} (a : At A i e) : Sat h0 (e :: del A i) h := s.perm a.perm
theorem Sat.back {h0 h : H} {A : List Ent} {i : Nat} {e x : Ent} (a : At A i e) (s : Sat h0 (x :: del A i) h) : Sat h0 (Vc.put A i x) h := s.perm (a.perm_put x)

/-! ### Steps -/
theorem Sat.new {h0 h h' : H} {A : List Ent} (s : Sat h0 A h) {b : Nat} {vs : List Value} (n : hnew h b vs h') : Sat h0 (blk b vs :: A) h' :=
  s.add n.ext (blk_P.2 ⟨n.blk, fun _ => Iff.rfl⟩) fun x hx => by rw [hx, n.b]; exact Nat.le_refl _
theorem Sat.blkOf {h0 h : H} {A : List Ent} (s : Sat h0 A h) {i b : Nat} {vs : List Value} (a : At A i (blk b vs)) : Blk h b vs := by
  obtain ⟨f, hp, _⟩ := s.take a
  exact (blk_P.1 hp).1
theorem Sat.old {h0 h : H} {A : List Ent} (s : Sat h0 A h) {i b : Nat} {vs : List Value} (a : At A i (blk b vs)) : h0.size ≤ b := by
  obtain ⟨f, hp, hl⟩ := s.take a
  exact hl b (((blk_P.1 hp).2 b).2 rfl)
theorem Sat.ld {h0 h : H} {A : List Ent} (s : Sat h0 A h) {i b : Nat} {vs : List Value} (a : At A i (blk b vs)) {o : Nat} {v : Value} (e : vs[o]? = some v) : hc h ⟨b, o, none⟩ = some v := by
  rw [(s.blkOf a).hc, e]
theorem Sat.cs1 {h0 h : H} {A : List Ent} (s : Sat h0 A h) {i b : Nat} {vs : List Value} (a : At A i (blk b vs)) {o : Nat} {xs : List Value} (e : ∀ i, i < xs.length → vs[o + i]? = xs[i]?) : hcs h ⟨b, o, none⟩ xs := (s.blkOf a).hcs e
theorem Sat.cs {h0 h : H} {A : List Ent} (s : Sat h0 A h) {i b : Nat} {vs : List Value} (a : At A i (blk b vs)) {o : Nat} {xs : List Value} (e : (vs.drop o).take xs.length = xs) : hcs h ⟨b, o, none⟩ xs := by
  refine s.cs1 a fun i hi => ?_
  have : ((vs.drop o).take xs.length)[i]? = xs[i]? := by rw [e]
  rw [List.getElem?_take_of_lt hi, List.getElem?_drop] at this
  exact this
theorem Sat.row {h0 h : H} {A : List Ent} (s : Sat h0 A h) {i b : Nat} {vs : List Value} (a : At A i (blk b vs)) {o : Nat} {k : IntKind} {ns : List Int} (e : ∀ i, i < ns.length → vs[o + i]? = ns[i]?.map (Value.int k)) : hrow h ⟨b, o, none⟩ k ns := (s.blkOf a).hrow e
theorem Sat.can {h0 h : H} {A : List Ent} (s : Sat h0 A h) {i b : Nat} {vs : List Value} (a : At A i (blk b vs)) {o n : Nat} (e : o + n ≤ vs.length) : hcan h ⟨b, o, none⟩ n := (s.blkOf a).can e
theorem Sat.wr {h0 h h' : H} {A : List Ent} (s : Sat h0 A h) {i b : Nat} {vs : List Value} (a : At A i (blk b vs)) {o : Nat} {xs : List Value} (e : h' = hwr h ⟨b, o, none⟩ xs) : Sat h0 (Vc.put A i (blk b (splice vs o xs))) h' := by
  subst e
  refine s.upd a fun f hp => ?_
  obtain ⟨k, hf⟩ := blk_P.1 hp
  refine ⟨f, blk_P.2 ⟨k.wr o xs, hf⟩, fun _ => Or.inl, (Ext.wr h b o xs).mono fun x _ hx => (hf x).2 hx⟩
theorem Sat.sv {h0 h : H} {A : List Ent} (s : Sat h0 A h) {i : Nat} {p : Option Addr} {l c sz : Nat} {vs : List Value} (a : At A i (slE p l c sz vs)) : hsv h p sz l vs := by
  obtain ⟨f, hp, _⟩ := s.take a
  obtain ⟨bs, o, _⟩ := slE_P.1 hp
  exact o.hsv
theorem Sat.base {h0 h : H} {A : List Ent} (s : Sat h0 A h) {p : Option Addr} {sz l : Nat} {vs : List Value} (e : hsv h0 p sz l vs) : hsv h p sz l vs := hsv_ext s.1 e fun _ _ x => x
theorem Sat.own {h0 h h' : H} {A : List Ent} (s : Sat h0 A h) (x : Ext none_ h h') {p : Option Addr} {l c sz : Nat} {vs : List Value} {bs : List Nat} (o : OwnS h' p l c sz vs bs) (n : newB h bs) : Sat h0 (slE p l c sz vs :: A) h' :=
  s.add x (f := fun x => x ∈ bs) (slE_P.2 ⟨bs, o, fun _ => Iff.rfl⟩) n
/-- Cells are appended to a slice that is owned. -/
theorem Sat.app {h0 h : H} {A : List Ent} (s : Sat h0 A h) {i : Nat} {p : Option Addr} {l c n sz : Nat} {old vs z : List Value} {B : Nat} (a : At A i (slE p l c sz old)) {K : Option Addr → Nat → Nat → H → Prop}
    (hl : vs.length = n * sz) (hz : z.length = sz) (hv : ∀ v, v ∈ vs → v.oneCell' = true) (hb : (l + n) * B ≤ 2 ^ 47)
    (k : ∀ p' c' h', Sat h0 (Vc.put A i (slE p' (l + n) c' sz (old ++ vs))) h' → K p' (l + n) c' h') : pApp h sz z B p l c n vs K := by
  obtain ⟨f, hp, _, hk⟩ := s.takeK a
  obtain ⟨bs, o, hf⟩ := slE_P.1 hp
  refine pApp_own o hl hz hv hb fun p' c' h' bs' hx ho hn => k _ _ _ ?_
  refine hk h' _ (fun x => x ∈ bs') (slE_P.2 ⟨bs', ho, fun _ => Iff.rfl⟩) (fun b hb => ?_) (hx.mono fun x _ hx => (hf x).2 hx)
  rcases hn b hb with h1 | h1
  · exact Or.inl ((hf b).2 h1)
  · exact Or.inr h1
/-- Cells appended to an empty slice without room. -/
theorem Sat.app_new {h0 h : H} {A : List Ent} (s : Sat h0 A h) {p : Option Addr} {n sz : Nat} {vs z : List Value} {B : Nat} {K : Option Addr → Nat → Nat → H → Prop}
    (hl : vs.length = n * sz) (hz : z.length = sz) (hv : ∀ v, v ∈ vs → v.oneCell' = true) (hb : n * B ≤ 2 ^ 47)
    (k : ∀ p' c' h', Sat h0 (slE p' n c' sz vs :: A) h' → K p' n c' h') : pApp h sz z B p 0 0 n vs K :=
  pApp_empty hl hz hv hb fun p' c' h' bs x o nb => k p' c' h' (s.own x o nb)
theorem At.app {A B : List Ent} {i : Nat} {e : Ent} (a : At A i e) : At (A ++ B) i e := by
  induction a with
  | z => exact .z
  | s _ ih => exact .s ih
theorem At.get {A : List Ent} {i : Nat} {e : Ent} (h : A[i]? = some e) : At A i e := by
  induction A generalizing i with
  | nil => simp at h
  | cons x A ih => cases i with
    | zero => simp at h; subst h; exact .z
    | succ i => exact .s (ih (by simpa using h))
theorem At.mem {A : List Ent} {e : Ent} (h : e ∈ A) : ∃ i, At A i e := by
  obtain ⟨i, hi⟩ := List.mem_iff_getElem?.1 h
  exact ⟨i, At.get hi⟩

end Go.Vc
end
