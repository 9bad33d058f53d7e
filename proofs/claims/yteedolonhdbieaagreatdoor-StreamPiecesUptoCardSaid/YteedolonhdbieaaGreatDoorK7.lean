/- StreamPieces: what is proved and its parts, laid together by a program of ours: F Hp Hs Lp Sl Mt -/
import Derived.Test.YteedolonhdbieaaGreatDoorK6
set_option autoImplicit false
set_option linter.all false
/- Denotations of functions of the program, printed by a program of ours, and that they are the model's. -/
section
set_option linter.unusedVariables false
set_option maxRecDepth 100000
namespace Go.Proofs.YteedolonhdbieaaGreatDoor
open Go Go.Vc
def G_portcullislaw26_fixed (c0 : Int → Int → Int → Int → Int → Int → Int → OA → Nat → Nat → (OA → Bool → H → Prop) → H → Prop) (c1 : Addr → OA → Nat → Nat → (Int → H → Prop) → H → Prop) (c2 : Addr → (Int → Int → Int → Int → Int → H → Prop) → H → Prop) (c3 : (Int → Int → Int → Int → Int → Int → Int → H → Prop) → H → Prop) (c4 : (OA → Nat → Nat → H → Prop) → H → Prop) (c5 : OA → Nat → Nat → Int → Int → Int → OA → Nat → Nat → List Int → (OA → Nat → Nat → Int → H → Prop) → H → Prop) (Q : Bool → H → Prop) (h : H) : Prop := c3 (fun i8 i9 i10 i11 i12 i13 i14 h15 => c4 (fun o16 n17 n18 h19 => c0 i8 i9 i10 i11 i12 i13 i14 o16 n17 n18 (fun o20 b21 h22 => ∀ (J23 : JT), (∀ (h24 : H), (∀ n25 h26, hnew h24 n25 [.int .u8 7] h26 → ∀ n28 h29, hnew h26 n28 [.int .u8 1, .int .u8 2, .int .u8 3] h29 → c5 (some (Addr.mk n25 0 none)) 1 1 0 0 5 (some (Addr.mk n28 0 none)) 3 3 (zeros 32) (fun o31 n32 n33 i34 h35 => ∃ p36, o20 = some p36 ∧ ∃ o37, hc h35 (p36.add 5) = some (.pointer o37) ∧ (0 : Int) ≤ 10 ∧ 10 ≤ (↑n33 : Int) ∧ ∃ p38, o37 = some p38 ∧ c1 p38 (subAddr o31 0 n33 1) 10 (n33 - 0) (fun i39 h40 => ∃ p41, o20 = some p41 ∧ ∃ o42, hc h40 (p41.add 5) = some (.pointer o42) ∧ ∃ p43, o42 = some p43 ∧ c2 p43 (fun i44 i45 i46 i47 i48 h49 => ∃ p50, o20 = some p50 ∧ ∃ o51, hc h49 (p50.add 5) = some (.pointer o51) ∧ (0 : Int) ≤ 10 ∧ 10 ≤ (↑n32 : Int) ∧ ∃ p52, o51 = some p52 ∧ c1 p52 (subAddr o31 10 n33 1) (n32 - 10) (n33 - 10) (fun i53 h54 => ∃ p55, o20 = some p55 ∧ ∃ o56, hc h54 (p55.add 5) = some (.pointer o56) ∧ ∃ p57, o56 = some p57 ∧ c2 p57 (fun i58 i59 i60 i61 i62 h63 => ∃ p64, o20 = some p64 ∧ ∃ o65, hc h63 (p64.add 5) = some (.pointer o65) ∧ ∀ n66 h67, hnew h63 n66 [.int .u8 1] h67 → ∃ p69, o65 = some p69 ∧ c1 p69 (some (Addr.mk n66 0 none)) 1 1 (fun i70 h71 => if (i39 == 0) = true then if (i48 == 6) = true then if (i53 == 0) = true then if (i62 == 0) = true then if (i58 == 0) = true then if (i59 == 0) = true then if (i60 == 5) = true then if (i61 == 3) = true then Q (i70 == 7) h71 else Q false h71 else Q false h71 else Q false h71 else Q false h71 else Q false h71 else Q false h71 else Q false h71 else Q false h71) h67) h54) h49) h40) h35) h29) → J23 [] h24) → if o20.isNone = true then Q false h22 else if (!b21) = true then Q false h22 else J23 [] h22) h19) h15) h
theorem E_portcullislaw26_fixed : ∀ c0 c1 c2 c3 c4 c5 Q h, G_portcullislaw26_fixed c0 c1 c2 c3 c4 c5 Q h = Dbody PP [(10, W [.ag [.int .i64, .int .i64, .int .i64, .int .i64, .int .i64, .int .i64, .int .i64], .slc] [.ptr, .bool] c0), (15, W [.addr, .slc] [.int .i64] c1), (17, W [.addr] [.int .i64, .int .i64, .int .i64, .int .i64, .int .i64] c2), (56, W [] [.ag [.int .i64, .int .i64, .int .i64, .int .i64, .int .i64, .int .i64, .int .i64]] c3), (57, W [] [.slc] c4), (58, W [.slc, .ag [.int .i64, .int .i64, .int .i64, .slc, .row .u8 32]] [.slc, .int .i64] c5)] [(7, [])] Tryz.f9 [] (decR [.bool] Q) h := by intros; kernel_rfl
def F_portcullislaw26_fixed := G_portcullislaw26_fixed F_portcullislaw26_begun F_stream_Gate_Write F_stream_Gate_Sum F_portcullislaw26_small F_portcullislaw26_secrets F_portcullisref11_Make
theorem R_portcullislaw26_fixed : RunOk PP 9 (W [] [.bool] F_portcullislaw26_fixed) := runOk_of (TblOk.cons R_portcullislaw26_begun (TblOk.cons R_stream_Gate_Write (TblOk.cons R_stream_Gate_Sum (TblOk.cons R_portcullislaw26_small (TblOk.cons R_portcullislaw26_secrets (TblOk.cons R_portcullisref11_Make (TblOk.nil))))))) Tryz.func9 (by kernel_rfl) (by kernel_rfl) (E_portcullislaw26_fixed _ _ _ _ _ _)
attribute [irreducible] F_portcullislaw26_fixed
def G_chip_Chip_begins (a0 : Addr) (Q : Value → Int → H → Prop) (h : H) : Prop := ∃ i3, hc h (a0.add 10) = some (.int .i64 i3) ∧ hcan h (a0.add 10) 1 ∧ ∀ h4, h4 = hwr h (a0.add 10) [.int .i64 (IntKind.i64.wrap (i3 + 1))] → ∃ i6, hc h4 (a0.add 12) = some (.int .i64 i6) ∧ if (i6 != 0) = true then ∃ i7, hc h4 (a0.add 12) = some (.int .i64 i7) ∧ hcan h4 (a0.add 12) 1 ∧ ∀ h8, h8 = hwr h4 (a0.add 12) [.int .i64 (if IntKind.i64.wrap (i7 - 1) > -1 then IntKind.i64.wrap (i7 - 1) else -1)] → Q (.func (Fn.func id_chip_Chip_begins_1) (Array.mk []) (Array.mk [])) 0 h8 else ∃ o10 n11 n12, hc h4 (a0.add 13) = some (.slice o10 n11 n12) ∧ ∀ n13 h14, hnew h4 n13 [.slice none 0 0] h14 → hcan h14 ⟨n13, 0, none⟩ 1 ∧ ∀ h16, h16 = hwr h14 ⟨n13, 0, none⟩ [.slice o10 n11 n12] → hcan h16 (a0.add 11) 1 ∧ ∀ h18, h18 = hwr h16 (a0.add 11) [.bool true] → hcan h18 (a0.add 12) 1 ∧ ∀ h20, h20 = hwr h18 (a0.add 12) [.int .i64 (-1)] → hcan h20 (a0.add 13) 1 ∧ ∀ h22, h22 = hwr h20 (a0.add 13) [.slice none 0 0] → Q (.func (Fn.func id_chip_Chip_begins_2) (Array.mk []) (Array.mk [.pointer (some (Addr.mk n13 0 none))])) 8 h22
theorem E_chip_Chip_begins : ∀ a0 Q h, G_chip_Chip_begins a0 Q h = Dbody PP [] [] Tryz.f223 [.addr a0] (decR [.fn, .int .i64] Q) h := by intros; kernel_rfl
def F_chip_Chip_begins := G_chip_Chip_begins
theorem R_chip_Chip_begins : RunOk PP 223 (W [.addr] [.fn, .int .i64] F_chip_Chip_begins) := runOk_of (TblOk.nil) Tryz.func223 (by kernel_rfl) (by kernel_rfl) (E_chip_Chip_begins)
attribute [irreducible] F_chip_Chip_begins
def G_chip_Chip_Blow (c0 : Addr → Int → Int → (Int → H → Prop) → H → Prop) (c1 : Addr → (Value → Int → H → Prop) → H → Prop) (a0 : Addr) (a1 : Int) (Q : Int → H → Prop) (h : H) : Prop := ∃ o6 n7 n8, hc h (a0.add 9) = some (.slice o6 n7 n8) ∧ c0 a0 a1 (↑n7 : Int) (fun i9 h10 => if (i9 != 0) = true then Q i9 h10 else c1 a0 (fun v11 i12 h13 => callFn PP v11 [DV.one (.int .i64 0)] (fun l14 h15 => ∃ (x16 : DV), ∃ (l17 : List DV), l14 = x16 :: l17 ∧ ∃ (i18 : Int), x16 = DV.one (.int .u8 i18) ∧ l17 = [] ∧ if (bits .and .u8 i18 1 == 1) = true then ∃ o19 n20 n21, hc h15 (a0.add 9) = some (.slice o19 n20 n21) ∧ ∃ p22, o19 = some p22 ∧ 0 ≤ a1 ∧ a1 < (↑n20 : Int) ∧ hcan h15 (p22.add (a1.toNat * 1)) 1 ∧ ∀ h23, h23 = hwr h15 (p22.add (a1.toNat * 1)) [.bool true] → Q i12 h23 else Q i12 h15) h13) h10) h
theorem E_chip_Chip_Blow : ∀ c0 c1 a0 a1 Q h, G_chip_Chip_Blow c0 c1 a0 a1 Q h = Dbody PP [(222, W [.addr, .int .i64, .int .i64] [.int .i64] c0), (223, W [.addr] [.fn, .int .i64] c1)] [] Tryz.f144 [.addr a0, .one (.int .i64 a1)] (decR [.int .i64] Q) h := by intros; kernel_rfl
def F_chip_Chip_Blow := G_chip_Chip_Blow F_chip_Chip_asked F_chip_Chip_begins
theorem R_chip_Chip_Blow : RunOk PP 144 (W [.addr, .int .i64] [.int .i64] F_chip_Chip_Blow) := runOk_of (TblOk.cons R_chip_Chip_asked (TblOk.cons R_chip_Chip_begins (TblOk.nil))) Tryz.func144 (by kernel_rfl) (by kernel_rfl) (E_chip_Chip_Blow _ _)
attribute [irreducible] F_chip_Chip_Blow
def G_fuse_Revoke (c0 : Addr → Int → (Bool → Int → H → Prop) → H → Prop) (c1 : Addr → Int → (Int → H → Prop) → H → Prop) (c2 : Addr → Int → (Int → H → Prop) → H → Prop) (a0 : Addr) (a1 : Int) (Q : Int → H → Prop) (h : H) : Prop := c0 a0 a1 (fun b7 i8 h9 => if (i8 != 0) = true then Q i8 h9 else if b7 = true then Q i8 h9 else c2 a0 a1 (fun i10 h11 => c1 a0 i10 (fun i12 h13 => Q i12 h13) h11) h9) h
theorem E_fuse_Revoke : ∀ c0 c1 c2 a0 a1 Q h, G_fuse_Revoke c0 c1 c2 a0 a1 Q h = Dbody PP [(143, W [.addr, .int .i64] [.bool, .int .i64] c0), (144, W [.addr, .int .i64] [.int .i64] c1), (145, W [.addr, .int .i64] [.int .i64] c2)] [] Tryz.f64 [.addr a0, .one (.int .i64 a1)] (decR [.int .i64] Q) h := by intros; kernel_rfl
def F_fuse_Revoke := G_fuse_Revoke F_fuse_Revoked F_chip_Chip_Blow F_fuse_of
theorem R_fuse_Revoke : RunOk PP 64 (W [.addr, .int .i64] [.int .i64] F_fuse_Revoke) := runOk_of (TblOk.cons R_fuse_Revoked (TblOk.cons R_chip_Chip_Blow (TblOk.cons R_fuse_of (TblOk.nil)))) Tryz.func64 (by kernel_rfl) (by kernel_rfl) (E_fuse_Revoke _ _ _)
attribute [irreducible] F_fuse_Revoke
def G_store_Store_Revoke (c0 : Addr → Int → Int → (Int → H → Prop) → H → Prop) (c1 : Addr → (Int → Int → Int → Int → Int → Int → Int → H → Prop) → H → Prop) (c2 : Addr → Int → (Int → H → Prop) → H → Prop) (a0 : Addr) (a1 : Int) (Q : Int → H → Prop) (h : H) : Prop := ∃ o7, hc h a0 = some (.pointer o7) ∧ ∃ p8, o7 = some p8 ∧ c1 p8 (fun i9 i10 i11 i12 i13 i14 i15 h16 => c0 a0 a1 i13 (fun i17 h18 => if (i17 != 0) = true then Q i17 h18 else ∃ o19, hc h18 a0 = some (.pointer o19) ∧ ∃ p20, o19 = some p20 ∧ c2 p20 a1 (fun i21 h22 => Q i21 h22) h18) h16) h
theorem E_store_Store_Revoke : ∀ c0 c1 c2 a0 a1 Q h, G_store_Store_Revoke c0 c1 c2 a0 a1 Q h = Dbody PP [(62, W [.addr, .int .i64, .int .i64] [.int .i64] c0), (63, W [.addr] [.ag [.int .i64, .int .i64, .int .i64, .int .i64, .int .i64, .int .i64, .int .i64]] c1), (64, W [.addr, .int .i64] [.int .i64] c2)] [] Tryz.f11 [.addr a0, .one (.int .i64 a1)] (decR [.int .i64] Q) h := by intros; kernel_rfl
def F_store_Store_Revoke := G_store_Store_Revoke F_store_Store_asked F_chip_Chip_Config F_fuse_Revoke
theorem R_store_Store_Revoke : RunOk PP 11 (W [.addr, .int .i64] [.int .i64] F_store_Store_Revoke) := runOk_of (TblOk.cons R_store_Store_asked (TblOk.cons R_chip_Chip_Config (TblOk.cons R_fuse_Revoke (TblOk.nil)))) Tryz.func11 (by kernel_rfl) (by kernel_rfl) (E_store_Store_Revoke _ _ _)
attribute [irreducible] F_store_Store_Revoke
def G_portcullislaw26_cut (a0p : OA) (a0l : Nat) (a0c : Nat) (a1p : OA) (a1l : Nat) (a1c : Nat) (Q : OA → Nat → Nat → H → Prop) (h : H) : Prop := ∀ n8 h9, hnew h n8 [] h9 → ∀ (J11 : JT), (∀ (o12 : OA) (n13 n14 : Nat) (o15 : OA) (n16 n17 : Nat) (i18 : Int) (h19 : H), (if ltI i18 a1l = true then if ltI 0 n13 = true then ∃ p20, a1p = some p20 ∧ 0 ≤ i18 ∧ i18 < a1l ∧ ∃ i21, hc h19 (p20.add (i18.toNat * 1)) = some (.int .i64 i21) ∧ (0 ≤ if (↑n13 : Int) < if i21 > 0 then i21 else 0 then (↑n13 : Int) else if i21 > 0 then i21 else 0) ∧ ((if (↑n13 : Int) < if i21 > 0 then i21 else 0 then (↑n13 : Int) else if i21 > 0 then i21 else 0) ≤ if (↑n13 : Int) < if i21 > 0 then i21 else 0 then (↑n13 : Int) else if i21 > 0 then i21 else 0) ∧ (if (↑n13 : Int) < if i21 > 0 then i21 else 0 then (↑n13 : Int) else if i21 > 0 then i21 else 0) ≤ (↑n14 : Int) ∧ ∀ n22 h23, hnew h19 n22 [.slice (subAddr o12 0 (if (↑n13 : Int) < if i21 > 0 then i21 else 0 then (↑n13 : Int) else if i21 > 0 then i21 else 0).toNat 1) ((if (↑n13 : Int) < if i21 > 0 then i21 else 0 then (↑n13 : Int) else if i21 > 0 then i21 else 0).toNat - 0) ((if (↑n13 : Int) < if i21 > 0 then i21 else 0 then (↑n13 : Int) else if i21 > 0 then i21 else 0).toNat - 0)] h23 → ∃ (l25 : List Value), hsv h23 (some (Addr.mk n22 0 none)) 1 1 l25 ∧ pApp h23 1 [.slice none 0 0] 24 o15 n16 n17 1 l25 fun o26 n27 n28 h29 => (0 ≤ if (↑n13 : Int) < if i21 > 0 then i21 else 0 then (↑n13 : Int) else if i21 > 0 then i21 else 0) ∧ (if (↑n13 : Int) < if i21 > 0 then i21 else 0 then (↑n13 : Int) else if i21 > 0 then i21 else 0) ≤ (↑n13 : Int) ∧ J11 [.dv (.one (.slice (subAddr o12 (if (↑n13 : Int) < if i21 > 0 then i21 else 0 then (↑n13 : Int) else if i21 > 0 then i21 else 0).toNat n14 1) (n13 - (if (↑n13 : Int) < if i21 > 0 then i21 else 0 then (↑n13 : Int) else if i21 > 0 then i21 else 0).toNat) (n14 - (if (↑n13 : Int) < if i21 > 0 then i21 else 0 then (↑n13 : Int) else if i21 > 0 then i21 else 0).toNat))), .dv (.one (.slice o26 n27 n28)), .dv (.one (.int .i64 (IntKind.i64.wrap (i18 + 1))))] h29 else ∀ n30 h31, hnew h19 n30 [.slice o12 n13 n14] h31 → ∃ (l33 : List Value), hsv h31 (some (Addr.mk n30 0 none)) 1 1 l33 ∧ pApp h31 1 [.slice none 0 0] 24 o15 n16 n17 1 l33 fun o34 n35 n36 h37 => Q o34 n35 n36 h37 else ∀ n38 h39, hnew h19 n38 [.slice o12 n13 n14] h39 → ∃ (l41 : List Value), hsv h39 (some (Addr.mk n38 0 none)) 1 1 l41 ∧ pApp h39 1 [.slice none 0 0] 24 o15 n16 n17 1 l41 fun o42 n43 n44 h45 => Q o42 n43 n44 h45) → J11 [.dv (.one (.slice o12 n13 n14)), .dv (.one (.slice o15 n16 n17)), .dv (.one (.int .i64 i18))] h19) → J11 [.dv (.one (.slice a0p a0l a0c)), .dv (.one (.slice (some (Addr.mk n8 0 none)) 0 0)), .dv (.one (.int .i64 0))] h9
theorem E_portcullislaw26_cut : ∀ a0p a0l a0c a1p a1l a1c Q h, G_portcullislaw26_cut a0p a0l a0c a1p a1l a1c Q h = Dbody PP [] [(58, [(0, .sc (.slc)), (5, .sc (.slc)), (6, .sc (.int .i64))])] Tryz.f14 [.one (.slice a0p a0l a0c), .one (.slice a1p a1l a1c)] (decR [.slc] Q) h := by intros; kernel_rfl
def F_portcullislaw26_cut := G_portcullislaw26_cut
theorem R_portcullislaw26_cut : RunOk PP 14 (W [.slc, .slc] [.slc] F_portcullislaw26_cut) := runOk_of (TblOk.nil) Tryz.func14 (by kernel_rfl) (by kernel_rfl) (E_portcullislaw26_cut)
attribute [irreducible] F_portcullislaw26_cut
def G_portcullisref11_must (a0 : Int) (a1 : Int) (Q : Bool → H → Prop) (h : H) : Prop := ∀ (J4 : JT), (∀ (b5 : Bool) (h6 : H), (if b5 = true then 0 ≤ a0 ∧ a0 < (↑4 : Int) ∧ Q (a1 == (↑((ByteArray.mk #[80, 67, 85, 76]).data.toList.getD a0.toNat 0).toNat : Int)) h6 else if (a0 == 4) = true then Q (a1 == 1) h6 else if (a0 == 5) = true then Q (ltI a1 8) h6 else if (a0 == 6) = true then Q (ltI a1 64) h6 else if (a0 == 7) = true then Q (a1 == 0) h6 else Q true h6) → J4 [.dv (.one (.bool b5))] h6) → if (a0 == 0) = true then J4 [.dv (.one (.bool (a0 == 0)))] h else if (a0 == 1) = true then J4 [.dv (.one (.bool (a0 == 1)))] h else if (a0 == 2) = true then J4 [.dv (.one (.bool (a0 == 2)))] h else J4 [.dv (.one (.bool (a0 == 3)))] h
theorem E_portcullisref11_must : ∀ a0 a1 Q h, G_portcullisref11_must a0 a1 Q h = Dbody PP [] [(26, [(6, .sc (.bool))])] Tryz.f83 [.one (.int .i64 a0), .one (.int .u8 a1)] (decR [.bool] Q) h := by intros; kernel_rfl
def F_portcullisref11_must := G_portcullisref11_must
theorem R_portcullisref11_must : RunOk PP 83 (W [.int .i64, .int .u8] [.bool] F_portcullisref11_must) := runOk_of (TblOk.nil) Tryz.func83 (by kernel_rfl) (by kernel_rfl) (E_portcullisref11_must)
attribute [irreducible] F_portcullisref11_must
def G_portcullisref11_number (a0p : OA) (a0l : Nat) (a0c : Nat) (Q : Int → H → Prop) (h : H) : Prop := ∀ (J5 : JT), (∀ (i6 i7 : Int) (h8 : H), (if ltI i7 4 = true then ∃ p9, a0p = some p9 ∧ 0 ≤ i7 ∧ i7 < a0l ∧ ∃ i10, hc h8 (p9.add (i7.toNat * 1)) = some (.int .u8 i10) ∧ 0 ≤ IntKind.i64.wrap (8 * i7) ∧ J5 [.dv (.one (.int .i64 (bits .or .i64 i6 (IntKind.i64.wrap (IntKind.i64.wrap i10 * 2 ^ min (IntKind.i64.wrap (8 * i7)).toNat 64))))), .dv (.one (.int .i64 (IntKind.i64.wrap (i7 + 1))))] h8 else Q i6 h8) → J5 [.dv (.one (.int .i64 i6)), .dv (.one (.int .i64 i7))] h8) → J5 [.dv (.one (.int .i64 0)), .dv (.one (.int .i64 0))] h
theorem E_portcullisref11_number : ∀ a0p a0l a0c Q h, G_portcullisref11_number a0p a0l a0c Q h = Dbody PP [] [(58, [(3, .sc (.int .i64)), (4, .sc (.int .i64))])] Tryz.f84 [.one (.slice a0p a0l a0c)] (decR [.int .i64] Q) h := by intros; kernel_rfl
def F_portcullisref11_number := G_portcullisref11_number
theorem R_portcullisref11_number : RunOk PP 84 (W [.slc] [.int .i64] F_portcullisref11_number) := runOk_of (TblOk.nil) Tryz.func84 (by kernel_rfl) (by kernel_rfl) (E_portcullisref11_number)
attribute [irreducible] F_portcullisref11_number
def G_portcullisref11_Parse (c0 : Int → Int → (Bool → H → Prop) → H → Prop) (c1 : OA → Nat → Nat → (Int → H → Prop) → H → Prop) (a0p : OA) (a0l : Nat) (a0c : Nat) (Q : Int → Int → Int → OA → Nat → Nat → List Int → Int → Int → H → Prop) (h : H) : Prop := ∀ n7 h8, hnew h n7 (.int .i64 0 :: .int .i64 0 :: .int .i64 0 :: .slice none 0 0 :: ints .u8 (zeros 32)) h8 → ∀ n10 h11, hnew h8 n10 [.int .i64 0, .int .i64 0] h11 → if ltI 524288 a0l = true then hcan h11 ⟨n7, 0, none⟩ 36 ∧ ∀ h13, h13 = hwr h11 ⟨n7, 0, none⟩ (.int .i64 0 :: .int .i64 0 :: .int .i64 0 :: .slice none 0 0 :: ints .u8 (zeros 32)) → hcan h13 ⟨n10, 0, none⟩ 2 ∧ ∀ h15, h15 = hwr h13 ⟨n10, 0, none⟩ [.int .i64 4, .int .i64 524288] → ∃ i17, hc h15 ⟨n7, 0, none⟩ = some (.int .i64 i17) ∧ ∃ i18, hc h15 ⟨n7, 1, none⟩ = some (.int .i64 i18) ∧ ∃ i19, hc h15 ⟨n7, 2, none⟩ = some (.int .i64 i19) ∧ ∃ o20 n21 n22, hc h15 ⟨n7, 3, none⟩ = some (.slice o20 n21 n22) ∧ ∃ (l23 : List Int), l23.length = 32 ∧ hrow h15 ⟨n7, 4, none⟩ .u8 l23 ∧ ∃ i24, hc h15 ⟨n10, 0, none⟩ = some (.int .i64 i24) ∧ ∃ i25, hc h15 ⟨n10, 1, none⟩ = some (.int .i64 i25) ∧ Q i17 i18 i19 o20 n21 n22 l23 i24 i25 h15 else ∀ (J26 : JT), (∀ (i27 : Int) (h28 : H), (if ltI i27 16 = true then if (i27 == (↑a0l : Int)) = true then hcan h28 ⟨n7, 0, none⟩ 36 ∧ ∀ h29, h29 = hwr h28 ⟨n7, 0, none⟩ (.int .i64 0 :: .int .i64 0 :: .int .i64 0 :: .slice none 0 0 :: ints .u8 (zeros 32)) → hcan h29 ⟨n10, 0, none⟩ 2 ∧ ∀ h31, h31 = hwr h29 ⟨n10, 0, none⟩ [.int .i64 6, .int .i64 i27] → ∃ i33, hc h31 ⟨n7, 0, none⟩ = some (.int .i64 i33) ∧ ∃ i34, hc h31 ⟨n7, 1, none⟩ = some (.int .i64 i34) ∧ ∃ i35, hc h31 ⟨n7, 2, none⟩ = some (.int .i64 i35) ∧ ∃ o36 n37 n38, hc h31 ⟨n7, 3, none⟩ = some (.slice o36 n37 n38) ∧ ∃ (l39 : List Int), l39.length = 32 ∧ hrow h31 ⟨n7, 4, none⟩ .u8 l39 ∧ ∃ i40, hc h31 ⟨n10, 0, none⟩ = some (.int .i64 i40) ∧ ∃ i41, hc h31 ⟨n10, 1, none⟩ = some (.int .i64 i41) ∧ Q i33 i34 i35 o36 n37 n38 l39 i40 i41 h31 else ∃ p42, a0p = some p42 ∧ 0 ≤ i27 ∧ i27 < a0l ∧ ∃ i43, hc h28 (p42.add (i27.toNat * 1)) = some (.int .u8 i43) ∧ c0 i27 i43 (fun b44 h45 => if (!b44) = true then hcan h45 ⟨n7, 0, none⟩ 36 ∧ ∀ h46, h46 = hwr h45 ⟨n7, 0, none⟩ (.int .i64 0 :: .int .i64 0 :: .int .i64 0 :: .slice none 0 0 :: ints .u8 (zeros 32)) → hcan h46 ⟨n10, 0, none⟩ 2 ∧ ∀ h48, h48 = hwr h46 ⟨n10, 0, none⟩ [.int .i64 5, .int .i64 i27] → ∃ i50, hc h48 ⟨n7, 0, none⟩ = some (.int .i64 i50) ∧ ∃ i51, hc h48 ⟨n7, 1, none⟩ = some (.int .i64 i51) ∧ ∃ i52, hc h48 ⟨n7, 2, none⟩ = some (.int .i64 i52) ∧ ∃ o53 n54 n55, hc h48 ⟨n7, 3, none⟩ = some (.slice o53 n54 n55) ∧ ∃ (l56 : List Int), l56.length = 32 ∧ hrow h48 ⟨n7, 4, none⟩ .u8 l56 ∧ ∃ i57, hc h48 ⟨n10, 0, none⟩ = some (.int .i64 i57) ∧ ∃ i58, hc h48 ⟨n10, 1, none⟩ = some (.int .i64 i58) ∧ Q i50 i51 i52 o53 n54 n55 l56 i57 i58 h48 else J26 [.dv (.one (.int .i64 (IntKind.i64.wrap (i27 + 1))))] h45) h28 else (0 : Int) ≤ 12 ∧ 12 ≤ (↑a0l : Int) ∧ c1 (subAddr a0p 12 a0c 1) (a0l - 12) (a0c - 12) (fun i59 h60 => if ltI 524240 i59 = true then hcan h60 ⟨n7, 0, none⟩ 36 ∧ ∀ h61, h61 = hwr h60 ⟨n7, 0, none⟩ (.int .i64 0 :: .int .i64 0 :: .int .i64 0 :: .slice none 0 0 :: ints .u8 (zeros 32)) → hcan h61 ⟨n10, 0, none⟩ 2 ∧ ∀ h63, h63 = hwr h61 ⟨n10, 0, none⟩ [.int .i64 5, .int .i64 12] → ∃ i65, hc h63 ⟨n7, 0, none⟩ = some (.int .i64 i65) ∧ ∃ i66, hc h63 ⟨n7, 1, none⟩ = some (.int .i64 i66) ∧ ∃ i67, hc h63 ⟨n7, 2, none⟩ = some (.int .i64 i67) ∧ ∃ o68 n69 n70, hc h63 ⟨n7, 3, none⟩ = some (.slice o68 n69 n70) ∧ ∃ (l71 : List Int), l71.length = 32 ∧ hrow h63 ⟨n7, 4, none⟩ .u8 l71 ∧ ∃ i72, hc h63 ⟨n10, 0, none⟩ = some (.int .i64 i72) ∧ ∃ i73, hc h63 ⟨n10, 1, none⟩ = some (.int .i64 i73) ∧ Q i65 i66 i67 o68 n69 n70 l71 i72 i73 h63 else if ltI (↑a0l : Int) (IntKind.i64.wrap (IntKind.i64.wrap (i59 + 16) + 32)) = true then hcan h60 ⟨n7, 0, none⟩ 36 ∧ ∀ h74, h74 = hwr h60 ⟨n7, 0, none⟩ (.int .i64 0 :: .int .i64 0 :: .int .i64 0 :: .slice none 0 0 :: ints .u8 (zeros 32)) → hcan h74 ⟨n10, 0, none⟩ 2 ∧ ∀ h76, h76 = hwr h74 ⟨n10, 0, none⟩ [.int .i64 6, .int .i64 (↑a0l : Int)] → ∃ i78, hc h76 ⟨n7, 0, none⟩ = some (.int .i64 i78) ∧ ∃ i79, hc h76 ⟨n7, 1, none⟩ = some (.int .i64 i79) ∧ ∃ i80, hc h76 ⟨n7, 2, none⟩ = some (.int .i64 i80) ∧ ∃ o81 n82 n83, hc h76 ⟨n7, 3, none⟩ = some (.slice o81 n82 n83) ∧ ∃ (l84 : List Int), l84.length = 32 ∧ hrow h76 ⟨n7, 4, none⟩ .u8 l84 ∧ ∃ i85, hc h76 ⟨n10, 0, none⟩ = some (.int .i64 i85) ∧ ∃ i86, hc h76 ⟨n10, 1, none⟩ = some (.int .i64 i86) ∧ Q i78 i79 i80 o81 n82 n83 l84 i85 i86 h76 else if ltI (IntKind.i64.wrap (IntKind.i64.wrap (i59 + 16) + 32)) (↑a0l : Int) = true then hcan h60 ⟨n7, 0, none⟩ 36 ∧ ∀ h87, h87 = hwr h60 ⟨n7, 0, none⟩ (.int .i64 0 :: .int .i64 0 :: .int .i64 0 :: .slice none 0 0 :: ints .u8 (zeros 32)) → hcan h87 ⟨n10, 0, none⟩ 2 ∧ ∀ h89, h89 = hwr h87 ⟨n10, 0, none⟩ [.int .i64 7, .int .i64 (IntKind.i64.wrap (IntKind.i64.wrap (i59 + 16) + 32))] → ∃ i91, hc h89 ⟨n7, 0, none⟩ = some (.int .i64 i91) ∧ ∃ i92, hc h89 ⟨n7, 1, none⟩ = some (.int .i64 i92) ∧ ∃ i93, hc h89 ⟨n7, 2, none⟩ = some (.int .i64 i93) ∧ ∃ o94 n95 n96, hc h89 ⟨n7, 3, none⟩ = some (.slice o94 n95 n96) ∧ ∃ (l97 : List Int), l97.length = 32 ∧ hrow h89 ⟨n7, 4, none⟩ .u8 l97 ∧ ∃ i98, hc h89 ⟨n10, 0, none⟩ = some (.int .i64 i98) ∧ ∃ i99, hc h89 ⟨n10, 1, none⟩ = some (.int .i64 i99) ∧ Q i91 i92 i93 o94 n95 n96 l97 i98 i99 h89 else ∀ (J100 : JT), (∀ (p101 : Addr) (h102 : H), (∀ n103 h104, hnew h102 n103 [] h104 → (0 : Int) ≤ 16 ∧ 16 ≤ IntKind.i64.wrap (IntKind.i64.wrap (IntKind.i64.wrap (i59 + 16) + 32) - 32) ∧ IntKind.i64.wrap (IntKind.i64.wrap (IntKind.i64.wrap (i59 + 16) + 32) - 32) ≤ (↑a0c : Int) ∧ ∃ (l106 : List Value), hsv h104 (subAddr a0p 16 a0c 1) 1 ((IntKind.i64.wrap (IntKind.i64.wrap (IntKind.i64.wrap (i59 + 16) + 32) - 32)).toNat - 16) l106 ∧ pApp h104 1 [.int .u8 0] 1 (some (Addr.mk n103 0 none)) 0 0 ((IntKind.i64.wrap (IntKind.i64.wrap (IntKind.i64.wrap (i59 + 16) + 32) - 32)).toNat - 16) l106 fun o107 n108 n109 h110 => hcan h110 (p101.add 3) 1 ∧ ∀ h111, h111 = hwr h110 (p101.add 3) [.slice o107 n108 n109] → ∀ (J113 : JT), (∀ (i114 : Int) (h115 : H), (if ltI i114 32 = true then ∃ p116, a0p = some p116 ∧ 0 ≤ IntKind.i64.wrap (IntKind.i64.wrap (IntKind.i64.wrap (IntKind.i64.wrap (i59 + 16) + 32) - 32) + i114) ∧ IntKind.i64.wrap (IntKind.i64.wrap (IntKind.i64.wrap (IntKind.i64.wrap (i59 + 16) + 32) - 32) + i114) < (↑a0l : Int) ∧ ∃ i117, hc h115 (p116.add ((IntKind.i64.wrap (IntKind.i64.wrap (IntKind.i64.wrap (IntKind.i64.wrap (i59 + 16) + 32) - 32) + i114)).toNat * 1)) = some (.int .u8 i117) ∧ 0 ≤ i114 ∧ i114 < (↑32 : Int) ∧ hcan h115 ((p101.add 4).add (i114.toNat * 1)) 1 ∧ ∀ h118, h118 = hwr h115 ((p101.add 4).add (i114.toNat * 1)) [.int .u8 i117] → J113 [.dv (.one (.int .i64 (IntKind.i64.wrap (i114 + 1))))] h118 else ∃ i120, hc h115 p101 = some (.int .i64 i120) ∧ ∃ i121, hc h115 (p101.add 1) = some (.int .i64 i121) ∧ ∃ i122, hc h115 (p101.add 2) = some (.int .i64 i122) ∧ ∃ o123 n124 n125, hc h115 (p101.add 3) = some (.slice o123 n124 n125) ∧ ∃ (l126 : List Int), l126.length = 32 ∧ hrow h115 (p101.add 4) .u8 l126 ∧ hcan h115 ⟨n7, 0, none⟩ 36 ∧ ∀ h127, h127 = hwr h115 ⟨n7, 0, none⟩ (.int .i64 i120 :: .int .i64 i121 :: .int .i64 i122 :: .slice o123 n124 n125 :: (ints .u8 l126 ++ [])) → hcan h127 ⟨n10, 0, none⟩ 2 ∧ ∀ h129, h129 = hwr h127 ⟨n10, 0, none⟩ [.int .i64 0, .int .i64 0] → ∃ i131, hc h129 ⟨n7, 0, none⟩ = some (.int .i64 i131) ∧ ∃ i132, hc h129 ⟨n7, 1, none⟩ = some (.int .i64 i132) ∧ ∃ i133, hc h129 ⟨n7, 2, none⟩ = some (.int .i64 i133) ∧ ∃ o134 n135 n136, hc h129 ⟨n7, 3, none⟩ = some (.slice o134 n135 n136) ∧ ∃ (l137 : List Int), l137.length = 32 ∧ hrow h129 ⟨n7, 4, none⟩ .u8 l137 ∧ ∃ i138, hc h129 ⟨n10, 0, none⟩ = some (.int .i64 i138) ∧ ∃ i139, hc h129 ⟨n10, 1, none⟩ = some (.int .i64 i139) ∧ Q i131 i132 i133 o134 n135 n136 l137 i138 i139 h129) → J113 [.dv (.one (.int .i64 i114))] h115) → J113 [.dv (.one (.int .i64 0))] h111) → J100 [SV.dv (DV.addr p101)] h102) → ∃ p144, a0p = some p144 ∧ (0 : Int) ≤ 5 ∧ 5 < (↑a0l : Int) ∧ ∃ i145, hc h60 (p144.add 5) = some (.int .u8 i145) ∧ ∃ p146, a0p = some p146 ∧ (0 : Int) ≤ 6 ∧ 6 < (↑a0l : Int) ∧ ∃ i147, hc h60 (p146.add 6) = some (.int .u8 i147) ∧ (0 : Int) ≤ 8 ∧ 8 ≤ (↑a0l : Int) ∧ c1 (subAddr a0p 8 a0c 1) (a0l - 8) (a0c - 8) (fun i148 h149 => hcs h149 (p146.add 6) [.int .u8 i147] ∧ hcs h149 (p144.add 5) [.int .u8 i145] ∧ ∀ n150 h151, hnew h149 n150 (.int .i64 0 :: .int .i64 0 :: .int .i64 0 :: .slice none 0 0 :: ints .u8 (zeros 32)) h151 → hcs h151 (p146.add 6) [.int .u8 i147] ∧ hcs h151 (p144.add 5) [.int .u8 i145] ∧ hcan h151 ⟨n150, 0, none⟩ 36 ∧ ∀ h153, h153 = hwr h151 ⟨n150, 0, none⟩ (.int .i64 (IntKind.i64.wrap i145) :: .int .i64 (IntKind.i64.wrap i147) :: .int .i64 i148 :: .slice none 0 0 :: ints .u8 [0, 0, 0, 0, 0, 0, 0, 0, 0, 0, 0, 0, 0, 0, 0, 0, 0, 0, 0, 0, 0, 0, 0, 0, 0, 0, 0, 0, 0, 0, 0, 0]) → J100 [SV.dv (DV.addr (Addr.mk n150 0 none))] h153) h60 ∧ ∀ n155 h156, hnew h60 n155 (.int .i64 0 :: .int .i64 0 :: .int .i64 0 :: .slice none 0 0 :: ints .u8 (zeros 32)) h156 → hcs h156 (p146.add 6) [.int .u8 i147] ∧ hcs h156 (p144.add 5) [.int .u8 i145] ∧ c1 (subAddr a0p 8 a0c 1) (a0l - 8) (a0c - 8) (fun i158 h159 => hcs h159 (p146.add 6) [.int .u8 i147] ∧ hcs h159 (p144.add 5) [.int .u8 i145] ∧ hcan h159 ⟨n155, 0, none⟩ 36 ∧ ∀ h160, h160 = hwr h159 ⟨n155, 0, none⟩ (.int .i64 (IntKind.i64.wrap i145) :: .int .i64 (IntKind.i64.wrap i147) :: .int .i64 i158 :: .slice none 0 0 :: ints .u8 [0, 0, 0, 0, 0, 0, 0, 0, 0, 0, 0, 0, 0, 0, 0, 0, 0, 0, 0, 0, 0, 0, 0, 0, 0, 0, 0, 0, 0, 0, 0, 0]) → J100 [SV.dv (DV.addr (Addr.mk n155 0 none))] h160) h156) h28) → J26 [.dv (.one (.int .i64 i27))] h28) → J26 [.dv (.one (.int .i64 0))] h11
theorem E_portcullisref11_Parse : ∀ c0 c1 a0p a0l a0c Q h, G_portcullisref11_Parse c0 c1 a0p a0l a0c Q h = Dbody PP [(83, W [.int .i64, .int .u8] [.bool] c0), (84, W [.slc] [.int .i64] c1)] [(58, [(4, .sc (.int .i64))]), (511, [(7, .addr)]), (32762, [(9, .sc (.int .i64))])] Tryz.f16 [.one (.slice a0p a0l a0c)] (decR [.ag [.int .i64, .int .i64, .int .i64, .slc, .row .u8 32], .ag [.int .i64, .int .i64]] Q) h := by intros; kernel_rfl
def F_portcullisref11_Parse := G_portcullisref11_Parse F_portcullisref11_must F_portcullisref11_number
theorem R_portcullisref11_Parse : RunOk PP 16 (W [.slc] [.ag [.int .i64, .int .i64, .int .i64, .slc, .row .u8 32], .ag [.int .i64, .int .i64]] F_portcullisref11_Parse) := runOk_of (TblOk.cons R_portcullisref11_must (TblOk.cons R_portcullisref11_number (TblOk.nil))) Tryz.func16 (by kernel_rfl) (by kernel_rfl) (E_portcullisref11_Parse _ _)
attribute [irreducible] F_portcullisref11_Parse
def G_stream_Gate_Digest (c0 : Addr → (List Int → H → Prop) → H → Prop) (a0 : Addr) (Q : List Int → H → Prop) (h : H) : Prop := ∀ n4 h5, hnew h n4 (ints .u8 (zeros 32)) h5 → ∃ o7, hc h5 (a0.add 3) = some (.pointer o7) ∧ ∃ p8, o7 = some p8 ∧ c0 p8 (fun l9 h10 => hcan h10 ⟨n4, 0, none⟩ 32 ∧ ∀ h11, h11 = hwr h10 ⟨n4, 0, none⟩ (ints .u8 l9 ++ []) → ∃ (l13 : List Int), l13.length = 32 ∧ hrow h11 ⟨n4, 0, none⟩ .u8 l13 ∧ Q l13 h11) h5
theorem E_stream_Gate_Digest : ∀ c0 a0 Q h, G_stream_Gate_Digest c0 a0 Q h = Dbody PP [(85, W [.addr] [.ag [.row .u8 32]] c0)] [] Tryz.f18 [.addr a0] (decR [.ag [.row .u8 32]] Q) h := by intros; kernel_rfl
def F_stream_Gate_Digest := G_stream_Gate_Digest F_sha_Digest_Sum
theorem R_stream_Gate_Digest : RunOk PP 18 (W [.addr] [.ag [.row .u8 32]] F_stream_Gate_Digest) := runOk_of (TblOk.cons R_sha_Digest_Sum (TblOk.nil)) Tryz.func18 (by kernel_rfl) (by kernel_rfl) (E_stream_Gate_Digest _)
attribute [irreducible] F_stream_Gate_Digest
def K1_portcullislaw26_StreamPieces (c0 : OA → Nat → Nat → (Int → Int → Int → OA → Nat → Nat → List Int → Value → H → Prop) → H → Prop) (c1 : OA → Nat → Nat → OA → Nat → Nat → (OA → Nat → Nat → H → Prop) → H → Prop) (c2 : Addr → OA → Nat → Nat → (Int → H → Prop) → H → Prop) (c3 : OA → Nat → Nat → (Int → Int → Int → OA → Nat → Nat → List Int → Int → Int → H → Prop) → H → Prop) (c4 : Addr → (Int → Int → Int → Int → Int → H → Prop) → H → Prop) (c5 : Addr → (List Int → H → Prop) → H → Prop) (c6 : OA → Nat → Nat → (List Int → H → Prop) → H → Prop) (a3p : OA) (a3l : Nat) (a3c : Nat) (a4p : OA) (a4l : Nat) (a4c : Nat) (a5p : OA) (a5l : Nat) (a5c : Nat) (Q : Bool → H → Prop) (h282 : H) (n269 : Nat) (i274 : Int) (i275 : Int) (i276 : Int) (o277 : OA) (n278 : Nat) (n279 : Nat) (l280 : List Int) (o47 : OA) (i281 : Int) (b38 : Bool) : Prop := ∀ h283, h283 = hwr h282 ⟨n269, 0, none⟩ (.int .i64 i274 :: .int .i64 i275 :: .int .i64 i276 :: .slice o277 n278 n279 :: (ints .u8 l280 ++ [])) → ∀ n285 h286, hnew h283 n285 [] h286 → ∃ (l288 : List Value), hsv h286 a3p 1 a3l l288 ∧ pApp h286 1 [.int .u8 0] 1 (some (Addr.mk n285 0 none)) 0 0 a3l l288 fun o289 n290 n291 h292 => c0 o289 n290 n291 (fun i293 i294 i295 o296 n297 n298 l299 v300 h301 => ∀ n302 h303, hnew h301 n302 (.int .i64 0 :: .int .i64 0 :: .int .i64 0 :: .slice none 0 0 :: ints .u8 (zeros 32)) h303 → hcan h303 ⟨n302, 0, none⟩ 36 ∧ ∀ h305, h305 = hwr h303 ⟨n302, 0, none⟩ (.int .i64 i293 :: .int .i64 i294 :: .int .i64 i295 :: .slice o296 n297 n298 :: (ints .u8 l299 ++ [])) → c1 a3p a3l a3c a4p a4l a4c (fun o307 n308 n309 h310 => ∀ n311 h312, hnew h310 n311 [] h312 → ∀ (J314 : JT), (∀ (o315 : OA) (n316 n317 : Nat) (i318 i319 : Int) (h320 : H), (if ltI i319 n308 = true then ∀ (J321 : JT), (∀ (o322 : OA) (n323 n324 : Nat) (i325 : Int) (h326 : H), J314 [.dv (.one (.slice o322 n323 n324)), .dv (.one (.int .i64 i325)), .dv (.one (.int .i64 (IntKind.i64.wrap (i319 + 1))))] h326 → J321 [.dv (.one (.slice o322 n323 n324)), .dv (.one (.int .i64 i325))] h326) → ∃ p329, o47 = some p329 ∧ ∃ o330, hc h320 (p329.add 5) = some (.pointer o330) ∧ ∃ p331, o307 = some p331 ∧ 0 ≤ i319 ∧ i319 < n308 ∧ ∃ o332 n333 n334, hc h320 (p331.add (i319.toNat * 1)) = some (.slice o332 n333 n334) ∧ ∀ n335 h336, hnew h320 n335 [] h336 → hcs h336 (p331.add (i319.toNat * 1)) [.slice o332 n333 n334] ∧ hcs h336 (p329.add 5) [.pointer o330] ∧ ∃ (l338 : List Value), hsv h336 o332 1 n333 l338 ∧ pApp h336 1 [.int .u8 0] 1 (some (Addr.mk n335 0 none)) 0 0 n333 l338 fun o339 n340 n341 h342 => hcs h342 (p329.add 5) [.pointer o330] ∧ ∃ p343, o330 = some p343 ∧ c2 p343 o339 n340 n341 (fun i344 h345 => ∃ p346, o307 = some p346 ∧ 0 ≤ i319 ∧ i319 < n308 ∧ ∃ o347 n348 n349, hc h345 (p346.add (i319.toNat * 1)) = some (.slice o347 n348 n349) ∧ ∃ (l350 : List Value), hsv h345 o347 1 n348 l350 ∧ pApp h345 1 [.int .u8 0] 1 o315 n316 n317 n348 l350 fun o351 n352 n353 h354 => c3 o351 n352 n353 (fun i355 i356 i357 o358 n359 n360 l361 i362 i363 h364 => ∀ n365 h366, hnew h364 n365 (.int .i64 0 :: .int .i64 0 :: .int .i64 0 :: .slice none 0 0 :: ints .u8 (zeros 32)) h366 → ∀ n368 h369, hnew h366 n368 [.int .i64 0, .int .i64 0] h369 → hcan h369 ⟨n365, 0, none⟩ 36 ∧ ∀ h371, h371 = hwr h369 ⟨n365, 0, none⟩ (.int .i64 i355 :: .int .i64 i356 :: .int .i64 i357 :: .slice o358 n359 n360 :: (ints .u8 l361 ++ [])) → hcan h371 ⟨n368, 0, none⟩ 2 ∧ ∀ h373, h373 = hwr h371 ⟨n368, 0, none⟩ [.int .i64 i362, .int .i64 i363] → ∃ i375, hc h373 ⟨n368, 0, none⟩ = some (.int .i64 i375) ∧ if (i375 != 0) = true then ∃ i376, hc h373 ⟨n368, 0, none⟩ = some (.int .i64 i376) ∧ if (i344 != 0) = true then if (i281 == 0) = true then Q false h373 else isIfc v300 = true ∧ if isNilI v300 = true then if (i281 != i344) = true then Q false h373 else if (i376 != 6) = true then if leI (↑a3l : Int) 524288 = true then if (i281 != i344) = true then Q false h373 else J321 [.dv (.one (.slice o351 n352 n353)), .dv (.one (.int .i64 i344))] h373 else J321 [.dv (.one (.slice o351 n352 n353)), .dv (.one (.int .i64 i344))] h373 else J321 [.dv (.one (.slice o351 n352 n353)), .dv (.one (.int .i64 i344))] h373 else if (i376 != 6) = true then if leI (↑a3l : Int) 524288 = true then if (i281 != i344) = true then Q false h373 else J321 [.dv (.one (.slice o351 n352 n353)), .dv (.one (.int .i64 i344))] h373 else J321 [.dv (.one (.slice o351 n352 n353)), .dv (.one (.int .i64 i344))] h373 else J321 [.dv (.one (.slice o351 n352 n353)), .dv (.one (.int .i64 i344))] h373 else J321 [.dv (.one (.slice o351 n352 n353)), .dv (.one (.int .i64 i344))] h373 else if (i344 != 0) = true then if (i281 == 0) = true then Q false h373 else isIfc v300 = true ∧ if isNilI v300 = true then if (i281 != i344) = true then Q false h373 else J321 [.dv (.one (.slice o351 n352 n353)), .dv (.one (.int .i64 i344))] h373 else J321 [.dv (.one (.slice o351 n352 n353)), .dv (.one (.int .i64 i344))] h373 else J321 [.dv (.one (.slice o351 n352 n353)), .dv (.one (.int .i64 i344))] h373) h354) h342 else ∃ p377, o47 = some p377 ∧ ∃ o378, hc h320 (p377.add 5) = some (.pointer o378) ∧ ∃ p379, o378 = some p379 ∧ c4 p379 (fun i380 i381 i382 i383 i384 h385 => ∀ (J386 : JT), (∀ (h387 : H), c1 a3p a3l a3c a5p a5l a5c (fun o388 n389 n390 h391 => ∀ (J392 : JT), (∀ (i393 i394 : Int) (h395 : H), (if ltI i394 n389 = true then ∃ p396, o47 = some p396 ∧ ∃ o397, hc h395 (p396.add 7) = some (.pointer o397) ∧ ∃ p398, o388 = some p398 ∧ 0 ≤ i394 ∧ i394 < n389 ∧ ∃ o399 n400 n401, hc h395 (p398.add (i394.toNat * 1)) = some (.slice o399 n400 n401) ∧ ∀ n402 h403, hnew h395 n402 [] h403 → hcs h403 (p398.add (i394.toNat * 1)) [.slice o399 n400 n401] ∧ hcs h403 (p396.add 7) [.pointer o397] ∧ ∃ (l405 : List Value), hsv h403 o399 1 n400 l405 ∧ pApp h403 1 [.int .u8 0] 1 (some (Addr.mk n402 0 none)) 0 0 n400 l405 fun o406 n407 n408 h409 => hcs h409 (p396.add 7) [.pointer o397] ∧ ∃ p410, o397 = some p410 ∧ c2 p410 o406 n407 n408 (fun i411 h412 => J392 [.dv (.one (.int .i64 i411)), .dv (.one (.int .i64 (IntKind.i64.wrap (i394 + 1))))] h412) h409 else ∃ p413, o47 = some p413 ∧ ∃ o414, hc h395 (p413.add 5) = some (.pointer o414) ∧ ∃ p415, o414 = some p415 ∧ c5 p415 (fun l416 h417 => ∀ n418 h419, hnew h417 n418 (ints .u8 (zeros 32)) h419 → hcan h419 ⟨n418, 0, none⟩ 32 ∧ ∀ h421, h421 = hwr h419 ⟨n418, 0, none⟩ (ints .u8 l416 ++ []) → ∃ p423, o47 = some p423 ∧ ∃ o424, hc h421 (p423.add 7) = some (.pointer o424) ∧ ∃ p425, o424 = some p425 ∧ c5 p425 (fun l426 h427 => ∀ n428 h429, hnew h427 n428 (ints .u8 (zeros 32)) h429 → hcan h429 ⟨n428, 0, none⟩ 32 ∧ ∀ h431, h431 = hwr h429 ⟨n428, 0, none⟩ (ints .u8 l426 ++ []) → ∀ n433 h434, hnew h431 n433 [] h434 → ∃ (l436 : List Value), hsv h434 a3p 1 a3l l436 ∧ pApp h434 1 [.int .u8 0] 1 (some (Addr.mk n433 0 none)) 0 0 a3l l436 fun o437 n438 n439 h440 => c6 o437 n438 n439 (fun l441 h442 => ∀ n443 h444, hnew h442 n443 (ints .u8 (zeros 32)) h444 → hcan h444 ⟨n443, 0, none⟩ 32 ∧ ∀ h446, h446 = hwr h444 ⟨n443, 0, none⟩ (ints .u8 l441 ++ []) → if b38 = true then if (i393 == i318) = true then ∃ (l448 : List Int), l448.length = 32 ∧ hrow h446 ⟨n418, 0, none⟩ .u8 l448 ∧ ∃ (l449 : List Int), l449.length = 32 ∧ hrow h446 ⟨n443, 0, none⟩ .u8 l449 ∧ if (l448 == l449) = true then ∃ (l450 : List Int), l450.length = 32 ∧ hrow h446 ⟨n428, 0, none⟩ .u8 l450 ∧ ∃ (l451 : List Int), l451.length = 32 ∧ hrow h446 ⟨n443, 0, none⟩ .u8 l451 ∧ Q (l450 == l451) h446 else Q false h446 else Q false h446 else Q false h446) h440) h421) h395) → J392 [.dv (.one (.int .i64 i393)), .dv (.one (.int .i64 i394))] h395) → J392 [.dv (.one (.int .i64 0)), .dv (.one (.int .i64 0))] h391) h387 → J386 [] h387) → if (i384 != i281) = true then Q false h385 else ∃ i456, hc h385 ⟨n269, 0, none⟩ = some (.int .i64 i456) ∧ if (i380 != i456) = true then Q false h385 else ∃ i457, hc h385 ⟨n269, 1, none⟩ = some (.int .i64 i457) ∧ if (i381 != i457) = true then Q false h385 else ∃ i458, hc h385 ⟨n269, 2, none⟩ = some (.int .i64 i458) ∧ if (i382 != i458) = true then Q false h385 else ∃ o459 n460 n461, hc h385 ⟨n269, 3, none⟩ = some (.slice o459 n460 n461) ∧ if (i383 != (↑n460 : Int)) = true then Q false h385 else J386 [] h385) h320) → J314 [.dv (.one (.slice o315 n316 n317)), .dv (.one (.int .i64 i318)), .dv (.one (.int .i64 i319))] h320) → J314 [.dv (.one (.slice (some (Addr.mk n311 0 none)) 0 0)), .dv (.one (.int .i64 0)), .dv (.one (.int .i64 0))] h312) h305) h292
def K2_portcullislaw26_StreamPieces (c0 : Addr → Addr → OA → Nat → Nat → (Int → Int → Int → OA → Nat → Nat → List Int → Int → H → Prop) → H → Prop) (c1 : OA → Nat → Nat → (Int → Int → Int → OA → Nat → Nat → List Int → Value → H → Prop) → H → Prop) (c2 : OA → Nat → Nat → OA → Nat → Nat → (OA → Nat → Nat → H → Prop) → H → Prop) (c3 : Addr → OA → Nat → Nat → (Int → H → Prop) → H → Prop) (c4 : OA → Nat → Nat → (Int → Int → Int → OA → Nat → Nat → List Int → Int → Int → H → Prop) → H → Prop) (c5 : Addr → (Int → Int → Int → Int → Int → H → Prop) → H → Prop) (c6 : Addr → (List Int → H → Prop) → H → Prop) (c7 : OA → Nat → Nat → (List Int → H → Prop) → H → Prop) (a3p : OA) (a3l : Nat) (a3c : Nat) (a4p : OA) (a4l : Nat) (a4c : Nat) (a5p : OA) (a5l : Nat) (a5c : Nat) (Q : Bool → H → Prop) (o63 : OA) (o65 : OA) (o468 : OA) (n469 : Nat) (n470 : Nat) (n464 : Nat) (o47 : OA) (b38 : Bool) (h471 : H) : Prop := ∃ p472, o63 = some p472 ∧ ∃ p473, o65 = some p473 ∧ c0 p472 p473 o468 n469 n470 (fun i474 i475 i476 o477 n478 n479 l480 i481 h482 => hcan h482 ⟨n464, 0, none⟩ 36 ∧ K1_portcullislaw26_StreamPieces c1 c2 c3 c4 c5 c6 c7 a3p a3l a3c a4p a4l a4c a5p a5l a5c Q h482 n464 i474 i475 i476 o477 n478 n479 l480 o47 i481 b38) h471
def K3_portcullislaw26_StreamPieces (c0 : Addr → Addr → OA → Nat → Nat → (Int → Int → Int → OA → Nat → Nat → List Int → Int → H → Prop) → H → Prop) (c1 : OA → Nat → Nat → (Int → Int → Int → OA → Nat → Nat → List Int → Value → H → Prop) → H → Prop) (c2 : OA → Nat → Nat → OA → Nat → Nat → (OA → Nat → Nat → H → Prop) → H → Prop) (c3 : Addr → OA → Nat → Nat → (Int → H → Prop) → H → Prop) (c4 : OA → Nat → Nat → (Int → Int → Int → OA → Nat → Nat → List Int → Int → Int → H → Prop) → H → Prop) (c5 : Addr → (Int → Int → Int → Int → Int → H → Prop) → H → Prop) (c6 : Addr → (List Int → H → Prop) → H → Prop) (c7 : OA → Nat → Nat → (List Int → H → Prop) → H → Prop) (a3p : OA) (a3l : Nat) (a3c : Nat) (a4p : OA) (a4l : Nat) (a4c : Nat) (a5p : OA) (a5l : Nat) (a5c : Nat) (Q : Bool → H → Prop) (h668 : H) (n667 : Nat) (p64 : Addr) (o65 : OA) (p62 : Addr) (o63 : OA) (n664 : Nat) (o47 : OA) (b38 : Bool) : Prop := ∃ (l670 : List Value), hsv h668 a3p 1 a3l l670 ∧ pApp h668 1 [.int .u8 0] 1 (some (Addr.mk n667 0 none)) 0 0 a3l l670 fun o671 n672 n673 h674 => hcs h674 (p64.add 2) [.pointer o65] ∧ hcs h674 (p62.add 1) [.pointer o63] ∧ K2_portcullislaw26_StreamPieces c0 c1 c2 c3 c4 c5 c6 c7 a3p a3l a3c a4p a4l a4c a5p a5l a5c Q o63 o65 o671 n672 n673 n664 o47 b38 h674
def G_portcullislaw26_StreamPieces (c0 : (Bool → H → Prop) → H → Prop) (c1 : Int → Int → Int → Int → Int → Int → Int → OA → Nat → Nat → (OA → Bool → H → Prop) → H → Prop) (c2 : Addr → Int → (Int → H → Prop) → H → Prop) (c3 : Addr → Addr → OA → Nat → Nat → (Int → Int → Int → OA → Nat → Nat → List Int → Int → H → Prop) → H → Prop) (c4 : OA → Nat → Nat → (Int → Int → Int → OA → Nat → Nat → List Int → Value → H → Prop) → H → Prop) (c5 : OA → Nat → Nat → OA → Nat → Nat → (OA → Nat → Nat → H → Prop) → H → Prop) (c6 : Addr → OA → Nat → Nat → (Int → H → Prop) → H → Prop) (c7 : OA → Nat → Nat → (Int → Int → Int → OA → Nat → Nat → List Int → Int → Int → H → Prop) → H → Prop) (c8 : Addr → (Int → Int → Int → Int → Int → H → Prop) → H → Prop) (c9 : Addr → (List Int → H → Prop) → H → Prop) (c10 : OA → Nat → Nat → (List Int → H → Prop) → H → Prop) (a0_0 : Int) (a0_1 : Int) (a0_2 : Int) (a0_3 : Int) (a0_4 : Int) (a0_5 : Int) (a0_6 : Int) (a1p : OA) (a1l : Nat) (a1c : Nat) (a2p : OA) (a2l : Nat) (a2c : Nat) (a3p : OA) (a3l : Nat) (a3c : Nat) (a4p : OA) (a4l : Nat) (a4c : Nat) (a5p : OA) (a5l : Nat) (a5c : Nat) (Q : Bool → H → Prop) (h : H) : Prop :=
∀ n35 h36, hnew h n35 [.int .i64 a0_0, .int .i64 a0_1, .int .i64 a0_2, .int .i64 a0_3, .int .i64 a0_4, .int .i64 a0_5, .int .i64 a0_6] h36 → c0 (fun b38 h39 => ∃ i40, hc h39 ⟨n35, 0, none⟩ = some (.int .i64 i40) ∧ ∃ i41, hc h39 ⟨n35, 1, none⟩ = some (.int .i64 i41) ∧ ∃ i42, hc h39 ⟨n35, 2, none⟩ = some (.int .i64 i42) ∧ ∃ i43, hc h39 ⟨n35, 3, none⟩ = some (.int .i64 i43) ∧ ∃ i44, hc h39 ⟨n35, 4, none⟩ = some (.int .i64 i44) ∧ ∃ i45, hc h39 ⟨n35, 5, none⟩ = some (.int .i64 i45) ∧ ∃ i46, hc h39 ⟨n35, 6, none⟩ = some (.int .i64 i46) ∧ c1 i40 i41 i42 i43 i44 i45 i46 a1p a1l a1c (fun o47 b48 h49 => ∀ (J50 : JT), (∀ (h51 : H), (∀ (J52 : JT), (∀ (i53 : Int) (h54 : H), (if ltI i53 a2l = true then ∃ p55, o47 = some p55 ∧ ∃ o56, hc h54 (p55.add 1) = some (.pointer o56) ∧ ∃ p57, a2p = some p57 ∧ 0 ≤ i53 ∧ i53 < a2l ∧ ∃ i58, hc h54 (p57.add (i53.toNat * 1)) = some (.int .i64 i58) ∧ ∃ p59, o56 = some p59 ∧ c2 p59 i58 (fun i60 h61 => J52 [.dv (.one (.int .i64 (IntKind.i64.wrap (i53 + 1))))] h61) h54 else ∃ p62, o47 = some p62 ∧ ∃ o63, hc h54 (p62.add 1) = some (.pointer o63) ∧ ∃ p64, o47 = some p64 ∧ ∃ o65, hc h54 (p64.add 2) = some (.pointer o65) ∧ (∀ n66 h67, hnew h54 n66 [] h67 → hcs h67 (p64.add 2) [.pointer o65] ∧ hcs h67 (p62.add 1) [.pointer o63] ∧ (∃ (l69 : List Value), hsv h67 a3p 1 a3l l69 ∧ pApp h67 1 [.int .u8 0] 1 (some (Addr.mk n66 0 none)) 0 0 a3l l69 fun o70 n71 n72 h73 => hcs h73 (p64.add 2) [.pointer o65] ∧ hcs h73 (p62.add 1) [.pointer o63] ∧ (∃ p74, o63 = some p74 ∧ ∃ p75, o65 = some p75 ∧ c3 p74 p75 o70 n71 n72 (fun i76 i77 i78 o79 n80 n81 l82 i83 h84 => ∀ n85 h86, hnew h84 n85 (.int .i64 0 :: .int .i64 0 :: .int .i64 0 :: .slice none 0 0 :: ints .u8 (zeros 32)) h86 → hcan h86 ⟨n85, 0, none⟩ 36 ∧ K1_portcullislaw26_StreamPieces c4 c5 c6 c7 c8 c9 c10 a3p a3l a3c a4p a4l a4c a5p a5l a5c Q h86 n85 i76 i77 i78 o79 n80 n81 l82 o47 i83 b38) h73) ∧ ∀ n269 h270, hnew h73 n269 (.int .i64 0 :: .int .i64 0 :: .int .i64 0 :: .slice none 0 0 :: ints .u8 (zeros 32)) h270 → hcs h270 (p64.add 2) [.pointer o65] ∧ hcs h270 (p62.add 1) [.pointer o63] ∧ K2_portcullislaw26_StreamPieces c3 c4 c5 c6 c7 c8 c9 c10 a3p a3l a3c a4p a4l a4c a5p a5l a5c Q o63 o65 o70 n71 n72 n269 o47 b38 h270) ∧ ∀ n464 h465, hnew h67 n464 (.int .i64 0 :: .int .i64 0 :: .int .i64 0 :: .slice none 0 0 :: ints .u8 (zeros 32)) h465 → hcs h465 (p64.add 2) [.pointer o65] ∧ hcs h465 (p62.add 1) [.pointer o63] ∧ K3_portcullislaw26_StreamPieces c3 c4 c5 c6 c7 c8 c9 c10 a3p a3l a3c a4p a4l a4c a5p a5l a5c Q h465 n66 p64 o65 p62 o63 n464 o47 b38) ∧ ∀ n664 h665, hnew h54 n664 (.int .i64 0 :: .int .i64 0 :: .int .i64 0 :: .slice none 0 0 :: ints .u8 (zeros 32)) h665 → hcs h665 (p64.add 2) [.pointer o65] ∧ hcs h665 (p62.add 1) [.pointer o63] ∧ ∀ n667 h668, hnew h665 n667 [] h668 → hcs h668 (p64.add 2) [.pointer o65] ∧ hcs h668 (p62.add 1) [.pointer o63] ∧ K3_portcullislaw26_StreamPieces c3 c4 c5 c6 c7 c8 c9 c10 a3p a3l a3c a4p a4l a4c a5p a5l a5c Q h668 n667 p64 o65 p62 o63 n664 o47 b38) → J52 [.dv (.one (.int .i64 i53))] h54) → J52 [.dv (.one (.int .i64 0))] h51) → J50 [] h51) → if o47.isNone = true then if b48 = true then Q b38 h49 else Q false h49 else if (!b48) = true then if b48 = true then Q b38 h49 else Q false h49 else J50 [] h49) h39) h36
theorem E_portcullislaw26_StreamPieces : ∀ c0 c1 c2 c3 c4 c5 c6 c7 c8 c9 c10 a0_0 a0_1 a0_2 a0_3 a0_4 a0_5 a0_6 a1p a1l a1c a2p a2l a2c a3p a3l a3c a4p a4l a4c a5p a5l a5c Q h, G_portcullislaw26_StreamPieces c0 c1 c2 c3 c4 c5 c6 c7 c8 c9 c10 a0_0 a0_1 a0_2 a0_3 a0_4 a0_5 a0_6 a1p a1l a1c a2p a2l a2c a3p a3l a3c a4p a4l a4c a5p a5l a5c Q h = Dbody PP [(9, W [] [.bool] c0), (10, W [.ag [.int .i64, .int .i64, .int .i64, .int .i64, .int .i64, .int .i64, .int .i64], .slc] [.ptr, .bool] c1), (11, W [.addr, .int .i64] [.int .i64] c2), (12, W [.addr, .addr, .slc] [.ag [.int .i64, .int .i64, .int .i64, .slc, .row .u8 32], .int .i64] c3), (13, W [.slc] [.ag [.int .i64, .int .i64, .int .i64, .slc, .row .u8 32], .fn] c4), (14, W [.slc, .slc] [.slc] c5), (15, W [.addr, .slc] [.int .i64] c6), (16, W [.slc] [.ag [.int .i64, .int .i64, .int .i64, .slc, .row .u8 32], .ag [.int .i64, .int .i64]] c7), (17, W [.addr] [.int .i64, .int .i64, .int .i64, .int .i64, .int .i64] c8), (18, W [.addr] [.ag [.row .u8 32]] c9), (19, W [.slc] [.ag [.row .u8 32]] c10)] [(15, []), (250, [(16, .sc (.int .i64))]), (8191, []), (16378, [(22, .sc (.slc)), (23, .sc (.int .i64)), (24, .sc (.int .i64))]), (65513, [(22, .sc (.slc)), (23, .sc (.int .i64))]), (524282, [(35, .sc (.int .i64)), (36, .sc (.int .i64))])] Tryz.f3 [.agg [.c (.int .i64 a0_0), .c (.int .i64 a0_1), .c (.int .i64 a0_2), .c (.int .i64 a0_3), .c (.int .i64 a0_4), .c (.int .i64 a0_5), .c (.int .i64 a0_6)], .one (.slice a1p a1l a1c), .one (.slice a2p a2l a2c), .one (.slice a3p a3l a3c), .one (.slice a4p a4l a4c), .one (.slice a5p a5l a5c)] (decR [.bool] Q) h := by intros; kernel_rfl
def F_portcullislaw26_StreamPieces := G_portcullislaw26_StreamPieces F_portcullislaw26_fixed F_portcullislaw26_begun F_store_Store_Revoke F_gate_Check F_image_Parse F_portcullislaw26_cut F_stream_Gate_Write F_portcullisref11_Parse F_stream_Gate_Sum F_stream_Gate_Digest F_sha_Of
theorem R_portcullislaw26_StreamPieces : RunOk PP 3 (W [.ag [.int .i64, .int .i64, .int .i64, .int .i64, .int .i64, .int .i64, .int .i64], .slc, .slc, .slc, .slc, .slc] [.bool] F_portcullislaw26_StreamPieces) := runOk_of (TblOk.cons R_portcullislaw26_fixed (TblOk.cons R_portcullislaw26_begun (TblOk.cons R_store_Store_Revoke (TblOk.cons R_gate_Check (TblOk.cons R_image_Parse (TblOk.cons R_portcullislaw26_cut (TblOk.cons R_stream_Gate_Write (TblOk.cons R_portcullisref11_Parse (TblOk.cons R_stream_Gate_Sum (TblOk.cons R_stream_Gate_Digest (TblOk.cons R_sha_Of (TblOk.nil)))))))))))) Tryz.func3 (by kernel_rfl) (by kernel_rfl) (E_portcullislaw26_StreamPieces _ _ _ _ _ _ _ _ _ _ _)
attribute [irreducible] F_portcullislaw26_StreamPieces
def G_chip_Chip_begins_1 (a0 : Int) (Q : Int → H → Prop) (h : H) : Prop := Q 255 h
theorem E_chip_Chip_begins_1 : ∀ a0 Q h, G_chip_Chip_begins_1 a0 Q h = Dbody PP [] [] Tryz.f266 [.one (.int .i64 a0)] (decR [.int .u8] Q) h := by intros; kernel_rfl
def F_chip_Chip_begins_1 := G_chip_Chip_begins_1
theorem R_chip_Chip_begins_1 : RunOk PP 266 (W [.int .i64] [.int .u8] F_chip_Chip_begins_1) := runOk_of (TblOk.nil) Tryz.func266 (by kernel_rfl) (by kernel_rfl) (E_chip_Chip_begins_1)
attribute [irreducible] F_chip_Chip_begins_1
def G_chip_Chip_begins_2 (a0 : Int) (a1 : Addr) (Q : Int → H → Prop) (h : H) : Prop := ∃ o4 n5 n6, hc h a1 = some (.slice o4 n5 n6) ∧ if ((↑n5 : Int) == 0) = true then Q 0 h else ∃ o7 n8 n9, hc h a1 = some (.slice o7 n8 n9) ∧ ∃ o10 n11 n12, hc h a1 = some (.slice o10 n11 n12) ∧ (↑n11 : Int) ≠ 0 ∧ ∃ p13, o7 = some p13 ∧ 0 ≤ a0.tmod (↑n11 : Int) ∧ a0.tmod (↑n11 : Int) < (↑n8 : Int) ∧ ∃ i14, hc h (p13.add ((a0.tmod (↑n11 : Int)).toNat * 1)) = some (.int .u8 i14) ∧ Q i14 h
theorem E_chip_Chip_begins_2 : ∀ a0 a1 Q h, G_chip_Chip_begins_2 a0 a1 Q h = Dbody PP [] [] Tryz.f267 [.one (.int .i64 a0), .addr a1] (decR [.int .u8] Q) h := by intros; kernel_rfl
def F_chip_Chip_begins_2 := G_chip_Chip_begins_2
theorem R_chip_Chip_begins_2 : RunOk PP 267 (W [.int .i64, .addr] [.int .u8] F_chip_Chip_begins_2) := runOk_of (TblOk.nil) Tryz.func267 (by kernel_rfl) (by kernel_rfl) (E_chip_Chip_begins_2)
attribute [irreducible] F_chip_Chip_begins_2
end Go.Proofs.YteedolonhdbieaaGreatDoor
end

/- Blocks of memory as lists of cells, and what loads, stores and allocations do to them. Own work; generic over any program. -/
section
set_option linter.unusedVariables false
namespace Go.Vc

def Blk (h : H) (b : Nat) (vs : List Value) : Prop :=
 ∃ t lo n, h[b]? = some (.cells vs.toArray t (lo, lo + n)) ∧ ∀ i, i < vs.length → ¬ (lo ≤ i ∧ i < lo + n)

abbrev at_ (b o : Nat) : Addr := ⟨b, o, none⟩

@[simp] theorem add_mk (b o n : Nat) : (Addr.mk b o none).add n = Addr.mk b (o + n) none := by
 unfold Addr.add; split
 ·rename_i h; subst h; rfl
 ·rfl

theorem Blk.lt {h : H} {b : Nat} {vs : List Value} (k : Blk h b vs) : b < h.size := by
 obtain ⟨t, lo, hi, hb, _⟩ := k
 exact (Array.getElem?_eq_some_iff.1 hb).1
theorem Blk.of_eq {h h' : H} {b : Nat} {vs : List Value} (k : Blk h b vs) (e : h'[b]? = h[b]?) : Blk h' b vs := by
 obtain ⟨t, lo, hi, hb, hf⟩ := k
 exact ⟨t, lo, hi, by rw [e]; exact hb, hf⟩

theorem Blk.hc {h : H} {b : Nat} {vs : List Value} (k : Blk h b vs) (o : Nat) : hc h ⟨b, o, none⟩ = vs[o]? := by
 obtain ⟨t, lo, hi, hb, _⟩ := k
 simp [Vc.hc, hb]
theorem Blk.hf {h : H} {b : Nat} {vs : List Value} (k : Blk h b vs) {o : Nat} (ho : o < vs.length) : hf h ⟨b, o, none⟩ = false := by
 obtain ⟨t, lo, hi, hb, hfz⟩ := k
 have := hfz o ho
 simp only [Vc.hf, hb]
 simp only [Bool.and_eq_false_imp, decide_eq_true_eq, decide_eq_false_iff_not]
 intro h1 h2; exact this ⟨h1, h2⟩
theorem Blk.can {h : H} {b : Nat} {vs : List Value} (k : Blk h b vs) {o n : Nat} (ho : o + n ≤ vs.length) : hcan h ⟨b, o, none⟩ n := by
 intro i hi
 have hl : o + i < vs.length := by omega
 rw [add_mk, k.hc, k.hf hl]
 simp [List.getElem?_eq_getElem hl]
theorem Blk.hcs {h : H} {b : Nat} {vs : List Value} (k : Blk h b vs) {o : Nat} {xs : List Value} (e : ∀ i, i < xs.length → vs[o + i]? = xs[i]?) : hcs h ⟨b, o, none⟩ xs := by
 intro i v hv
 rw [add_mk, k.hc, e i (List.getElem?_eq_some_iff.1 hv).1, hv]

/-! ### Writing -/
def splice (vs : List Value) : Nat → List Value → List Value
 | _, [] => vs
 | o, x :: r => splice (vs.set o x) (o + 1) r
@[simp] theorem splice_nil (vs : List Value) (o : Nat) : splice vs o [] = vs := rfl
@[simp] theorem splice_cons (vs : List Value) (o : Nat) (x : Value) (r : List Value) : splice vs o (x :: r) = splice (vs.set o x) (o + 1) r := rfl
@[simp] theorem splice_length (vs : List Value) (o : Nat) (xs : List Value) : (splice vs o xs).length = vs.length := by
 induction xs generalizing vs o with
 | nil => rfl
 | cons x r ih => simp [ih]
theorem splice_get (vs : List Value) (o : Nat) (xs : List Value) (i : Nat) : (splice vs o xs)[i]? = if o ≤ i ∧ i < o + xs.length ∧ i < vs.length then xs[i - o]? else vs[i]? := by
 induction xs generalizing vs o with
 | nil =>
  have : ¬ (o ≤ i ∧ i < o + ([] : List Value).length ∧ i < vs.length) := by simp; omega
  rw [if_neg this]; rfl
 | cons x r ih =>
  rw [splice_cons, ih]
  simp only [List.length_cons, List.length_set]
  by_cases h1 : o = i
  ·subst h1
   rw [if_neg (by omega)]
   by_cases h2 : o < vs.length
   ·rw [if_pos (by omega)]; simp [h2]
   ·rw [if_neg (by omega)]
    have : (vs.set o x) = vs := List.set_eq_of_length_le (by omega)
    rw [this]
  ·rw [List.getElem?_set_ne h1]
   by_cases h2 : o + 1 ≤ i ∧ i < o + 1 + r.length ∧ i < vs.length
   ·rw [if_pos h2, if_pos (by omega)]
    have : i - o = (i - (o + 1)) + 1 := by omega
    rw [this]; simp
   ·rw [if_neg h2, if_neg (by omega)]
theorem splice_all (vs xs : List Value) (h : xs.length = vs.length) : splice vs 0 xs = xs := by
 apply List.ext_getElem?
 intro i
 rw [splice_get]
 split
 ·simp
 ·rename_i hn
  rw [List.getElem?_eq_none (by omega), List.getElem?_eq_none (by omega)]
theorem splice_append (a b c xs : List Value) (h : xs.length = b.length) : splice (a ++ b ++ c) a.length xs = a ++ xs ++ c := by
 apply List.ext_getElem?
 intro i
 rw [splice_get]
 simp only [List.length_append]
 split
 ·rename_i hh
  rw [List.append_assoc, List.getElem?_append_right hh.1, List.getElem?_append_left (by omega)]
 ·rename_i hh
  rw [List.append_assoc, List.append_assoc]
  by_cases h1 : i < a.length
  ·rw [List.getElem?_append_left h1, List.getElem?_append_left h1]
  ·rw [List.getElem?_append_right (by omega), List.getElem?_append_right (by omega)]
   by_cases h2 : i - a.length < b.length
   ·omega
   ·rw [List.getElem?_append_right (by omega), List.getElem?_append_right (by omega), h]

theorem hs_eq {h : H} {b : Nat} {vs : List Value} (k : Blk h b vs) (o : Nat) (v : Value) : Blk (hs h ⟨b, o, none⟩ v) b (vs.set o v) := by
 obtain ⟨t, lo, hi, hb, hfz⟩ := k
 refine ⟨t, lo, hi, ?_, by simpa using hfz⟩
 simp only [hs, Array.getElem?_modify, hb]
 simp
theorem hs_ne (h : H) (a : Addr) (v : Value) {x : Nat} (hx : x ≠ a.block) : (hs h a v)[x]? = h[x]? := by
 simp only [hs, Array.getElem?_modify]
 rw [if_neg (by omega)]
theorem hs_size (h : H) (a : Addr) (v : Value) : (hs h a v).size = h.size := by simp [hs]
theorem hwrFrom_blk {h : H} {b : Nat} {vs : List Value} (k : Blk h b vs) (o : Nat) (xs : List Value) (j : Nat) : Blk (hwrFrom h ⟨b, o, none⟩ j xs) b (splice vs (o + j) xs) := by
 induction xs generalizing h vs j with
 | nil => exact k
 | cons x r ih =>
  simp only [hwrFrom, splice_cons, add_mk]
  exact ih (hs_eq k (o + j) x) (j + 1)
theorem add_block (a : Addr) (n : Nat) : (a.add n).block = a.block := by unfold Addr.add; split <;> rfl
theorem hwrFrom_ne (h : H) (a : Addr) (j : Nat) (xs : List Value) {x : Nat} (hx : x ≠ a.block) : (hwrFrom h a j xs)[x]? = h[x]? := by
 induction xs generalizing h j with
 | nil => rfl
 | cons y r ih => simp only [hwrFrom]; rw [ih, hs_ne]; rw [add_block]; exact hx
theorem hwrFrom_size (h : H) (a : Addr) (j : Nat) (xs : List Value) : (hwrFrom h a j xs).size = h.size := by
 induction xs generalizing h j with
 | nil => rfl
 | cons y r ih => simp only [hwrFrom]; rw [ih, hs_size]
theorem Blk.wr {h : H} {b : Nat} {vs : List Value} (k : Blk h b vs) (o : Nat) (xs : List Value) : Blk (hwr h ⟨b, o, none⟩ xs) b (splice vs o xs) := hwrFrom_blk k o xs 0
theorem hwr_ne (h : H) (a : Addr) (xs : List Value) {x : Nat} (hx : x ≠ a.block) : (hwr h a xs)[x]? = h[x]? := hwrFrom_ne h a 0 xs hx
theorem hwr_size (h : H) (a : Addr) (xs : List Value) : (hwr h a xs).size = h.size := hwrFrom_size h a 0 xs
theorem Blk.wr_ne {h : H} {b : Nat} {vs : List Value} (k : Blk h b vs) {a : Addr} {xs : List Value} (hx : b ≠ a.block) : Blk (hwr h a xs) b vs := k.of_eq (hwr_ne h a xs hx)

/-! ### What is left alone -/
structure Ext (S : Nat → Prop) (h h' : H) : Prop where
 size : h.size ≤ h'.size
 eq : ∀ b, b < h.size → ¬ S b → h'[b]? = h[b]?
abbrev none_ : Nat → Prop := fun _ => False
theorem Ext.refl (S : Nat → Prop) (h : H) : Ext S h h := ⟨Nat.le_refl _, fun _ _ _ => rfl⟩
theorem Ext.trans {S : Nat → Prop} {h h' h'' : H} (a : Ext S h h') (b : Ext S h' h'') : Ext S h h'' :=
 ⟨Nat.le_trans a.size b.size, fun x hx hs => by rw [b.eq x (Nat.lt_of_lt_of_le hx a.size) hs, a.eq x hx hs]⟩
theorem Ext.mono {S T : Nat → Prop} {h h' : H} (a : Ext S h h') (st : ∀ b, b < h.size → S b → T b) : Ext T h h' :=
 ⟨a.size, fun x hx hs => a.eq x hx fun h => hs (st x hx h)⟩
theorem Ext.comp {S T : Nat → Prop} {h h' h'' : H} (a : Ext S h h') (b : Ext T h' h'') (st : ∀ x, x < h.size → T x → S x) : Ext S h h'' :=
 ⟨Nat.le_trans a.size b.size, fun x hx hs => by rw [b.eq x (Nat.lt_of_lt_of_le hx a.size) (fun t => hs (st x hx t)), a.eq x hx hs]⟩
theorem Ext.blk {S : Nat → Prop} {h h' : H} (a : Ext S h h') {b : Nat} {vs : List Value} (k : Blk h b vs) (hb : ¬ S b) : Blk h' b vs := k.of_eq (a.eq b k.lt hb)
theorem Ext.wr (h : H) (b o : Nat) (xs : List Value) : Ext (fun x => x = b) h (hwr h ⟨b, o, none⟩ xs) :=
 ⟨by rw [hwr_size]; exact Nat.le_refl _, fun x _ hx => hwr_ne h _ xs hx⟩
theorem hnew.size {h h' : H} {b : Nat} {c : List Value} (n : hnew h b c h') : h'.size = h.size + 1 := by
 obtain ⟨_, t, lo, hi, _, rfl⟩ := n; simp
theorem hnew.b {h h' : H} {b : Nat} {c : List Value} (n : hnew h b c h') : b = h.size := n.1
theorem hnew.ext {h h' : H} {b : Nat} {c : List Value} (n : hnew h b c h') : Ext none_ h h' := by
 refine ⟨by rw [n.size]; omega, ?_⟩
 obtain ⟨_, t, lo, hi, _, rfl⟩ := n
 intro x hx _
 rw [Array.getElem?_push]; rw [if_neg (by omega)]
theorem hnew.blk {h h' : H} {b : Nat} {c : List Value} (n : hnew h b c h') : Blk h' b c := by
 obtain ⟨rfl, t, lo, hi, hf, rfl⟩ := n
 exact ⟨t, lo, hi, by simp, hf⟩
theorem Blk.ne {h : H} {b b' : Nat} {vs vs' : List Value} (k : Blk h b vs) (k' : ¬ b' < h.size) : b ≠ b' := fun e => k' (e ▸ k.lt)

/-! ### Rows of integers -/
@[simp] theorem ints_nil (k : IntKind) : ints k [] = [] := rfl
@[simp] theorem ints_cons (k : IntKind) (n : Int) (r : List Int) : ints k (n :: r) = .int k n :: ints k r := rfl
@[simp] theorem ints_length (k : IntKind) (ns : List Int) : (ints k ns).length = ns.length := by simp [ints]
@[simp] theorem ints_append (k : IntKind) (a b : List Int) : ints k (a ++ b) = ints k a ++ ints k b := by simp [ints]
theorem ints_get (k : IntKind) (ns : List Int) (i : Nat) : (ints k ns)[i]? = ns[i]?.map (Value.int k) := by simp [ints]
@[simp] theorem zeros_length (n : Nat) : (zeros n).length = n := by simp [zeros]
theorem Blk.hrow {h : H} {b : Nat} {vs : List Value} (k : Blk h b vs) {o : Nat} {kd : IntKind} {ns : List Int} (e : ∀ i, i < ns.length → vs[o + i]? = ns[i]?.map (Value.int kd)) : hrow h ⟨b, o, none⟩ kd ns := by
 apply k.hcs
 intro i hi
 rw [e i (by simpa using hi), ints_get]
@[simp] theorem oneCell_int (k : IntKind) (n : Int) : (Value.int k n).oneCell' = true := rfl
end Go.Vc
end

/- Slices: what they hold, who owns it, and appending. Own work; generic over any program. -/
section
set_option linter.unusedVariables false
namespace Go.Vc

theorem hc_congr {h h' : H} {a : Addr} (e : h'[a.block]? = h[a.block]?) : hc h' a = hc h a := by simp only [hc, e]
theorem hc_lt {h : H} {a : Addr} {v : Value} (e : hc h a = some v) : a.block < h.size := by
 rcases Nat.lt_or_ge a.block h.size with k | k
 ·exact k
 ·simp [hc, Array.getElem?_eq_none k] at e
theorem hc_ext {S : Nat → Prop} {h h' : H} (x : Ext S h h') {a : Addr} {v : Value} (e : hc h a = some v) (hs : ¬ S a.block) : hc h' a = some v := by
 rw [hc_congr (x.eq _ (hc_lt e) hs), e]
theorem hcs_ext {S : Nat → Prop} {h h' : H} (x : Ext S h h') {a : Addr} {vs : List Value} (e : hcs h a vs) (hs : ¬ S a.block) : hcs h' a vs := by
 intro i v hv
 exact hc_ext x (e i v hv) (by rw [add_block]; exact hs)
theorem hsv_ext {S : Nat → Prop} {h h' : H} (x : Ext S h h') {p : Option Addr} {sz l : Nat} {vs : List Value} (e : hsv h p sz l vs) (hs : ∀ q, p = some q → ¬ S q.block) : hsv h' p sz l vs := by
 obtain ⟨h1, h2, h3⟩ := e
 refine ⟨h1, h2, ?_⟩
 rcases h3 with h3 | ⟨q, hq, h3⟩
 ·exact Or.inl h3
 ·exact Or.inr ⟨q, hq, hcs_ext x h3 (hs q hq)⟩
theorem hsv_none {h : H} {sz l : Nat} {vs : List Value} (e : hsv h none sz l vs) : vs = [] := by
 obtain ⟨_, _, h3⟩ := e
 rcases h3 with h3 | ⟨q, hq, _⟩
 ·exact h3
 ·cases hq
theorem hsv_get {h : H} {p : Option Addr} {sz l : Nat} {vs : List Value} (e : hsv h p sz l vs) {i : Nat} {v : Value} (hi : vs[i]? = some v) : ∃ q, p = some q ∧ hc h (q.add i) = some v := by
 obtain ⟨_, _, h3⟩ := e
 rcases h3 with h3 | ⟨q, hq, h3⟩
 ·subst h3; simp at hi
 ·exact ⟨q, hq, h3 i v hi⟩
def OwnS (h : H) (p : Option Addr) (l c sz : Nat) (vs : List Value) (bs : List Nat) : Prop :=
 vs.length = l * sz ∧ l ≤ c ∧ (∀ v, v ∈ vs → v.oneCell' = true) ∧
  ((l = 0 ∧ c = 0 ∧ bs = []) ∨ ∃ b rest, p = some ⟨b, 0, none⟩ ∧ bs = [b] ∧ Blk h b (vs ++ rest) ∧ (c - l) * sz ≤ rest.length)
theorem OwnS.hsv {h : H} {p : Option Addr} {l c sz : Nat} {vs : List Value} {bs : List Nat} (o : OwnS h p l c sz vs bs) : hsv h p sz l vs := by
 obtain ⟨h1, h2, h3, h4⟩ := o
 refine ⟨h1, h3, ?_⟩
 rcases h4 with ⟨rfl, _, _⟩ | ⟨b, rest, rfl, _, k, _⟩
 ·left; apply List.eq_nil_of_length_eq_zero; simp [h1]
 ·right
  exact ⟨_, rfl, k.hcs fun i hi => by rw [Nat.zero_add, List.getElem?_append_left hi]⟩
theorem OwnS.lt {h : H} {p : Option Addr} {l c sz : Nat} {vs : List Value} {bs : List Nat} (o : OwnS h p l c sz vs bs) : ∀ b, b ∈ bs → b < h.size := by
 obtain ⟨_, _, _, h4⟩ := o
 rcases h4 with ⟨_, _, rfl⟩ | ⟨b, rest, _, rfl, k, _⟩
 ·intro b hb; simp at hb
 ·intro b' hb; simp at hb; subst hb; exact k.lt
theorem OwnS.ext {S : Nat → Prop} {h h' : H} (x : Ext S h h') {p : Option Addr} {l c sz : Nat} {vs : List Value} {bs : List Nat} (o : OwnS h p l c sz vs bs) (hs : ∀ b, b ∈ bs → ¬ S b) : OwnS h' p l c sz vs bs := by
 obtain ⟨h1, h2, h3, h4⟩ := o
 refine ⟨h1, h2, h3, ?_⟩
 rcases h4 with h4 | ⟨b, rest, hp, rfl, k, hr⟩
 ·exact Or.inl h4
 ·exact Or.inr ⟨b, rest, hp, rfl, x.blk k (hs b (by simp)), hr⟩
theorem OwnS.nil (h : H) (p : Option Addr) (sz : Nat) : OwnS h p 0 0 sz [] [] := ⟨by simp, Nat.le_refl _, by simp, Or.inl ⟨rfl, rfl, rfl⟩⟩

theorem flatten_replicate_length {α : Type} (n : Nat) (z : List α) : (List.replicate n z).flatten.length = n * z.length := by
 induction n with
 | zero => simp
 | succ n ih => simp [List.replicate_succ, Nat.succ_mul, ih]; omega

def newB (h : H) (bs : List Nat) : Prop := ∀ b, b ∈ bs → h.size ≤ b
theorem newB.ext {S : Nat → Prop} {h h' : H} (x : Ext S h h') {bs : List Nat} (n : newB h' bs) : newB h bs := fun b hb => Nat.le_trans x.size (n b hb)

theorem pApp_empty {h : H} {sz : Nat} {z : List Value} {B : Nat} {p : Option Addr} {n : Nat} {vs : List Value} {K : Option Addr → Nat → Nat → H → Prop}
  (hl : vs.length = n * sz) (hz : z.length = sz) (hv : ∀ v, v ∈ vs → v.oneCell' = true) (hb : n * B ≤ 2 ^ 47)
  (hk : ∀ p' c' h' bs, Ext none_ h h' → OwnS h' p' n c' sz vs bs → newB h bs → K p' n c' h') : pApp h sz z B p 0 0 n vs K := by
 unfold pApp
 by_cases hn : n = 0
 ·subst hn
  have hv0 : vs = [] := List.eq_nil_of_length_eq_zero (by simp [hl])
  subst hv0
  rw [if_pos (by simp)]
  refine ⟨Or.inl rfl, fun h' e => ?_⟩
  have e' : h' = h := by rw [e]; cases p <;> rfl
  subst e'
  exact hk _ _ _ [] (Ext.refl _ _) (OwnS.nil _ _ _) (by intro b hb; simp at hb)
 ·rw [if_neg (by omega)]
  refine ⟨by simpa using hb, [], ⟨by simp, by simp, Or.inl rfl⟩, fun c' b h' hc hw => ?_⟩
  have : (0 + n) = n := by omega
  rw [this] at hc ⊢
  refine hk _ _ _ [b] hw.ext ⟨hl, hc, hv, Or.inr ⟨b, (List.replicate (c' - (0 + n)) z).flatten, rfl, rfl, ?_, ?_⟩⟩ ?_
  ·simpa using hw.blk
  ·rw [flatten_replicate_length, hz, this]; exact Nat.le_refl _
  ·intro x hx; simp at hx; subst hx; rw [hw.b]; exact Nat.le_refl _

theorem pApp_own {h : H} {sz : Nat} {z : List Value} {B : Nat} {p : Option Addr} {l c n : Nat} {old vs : List Value} {bs : List Nat} {K : Option Addr → Nat → Nat → H → Prop}
  (o : OwnS h p l c sz old bs) (hl : vs.length = n * sz) (hz : z.length = sz) (hv : ∀ v, v ∈ vs → v.oneCell' = true) (hb : (l + n) * B ≤ 2 ^ 47)
  (hk : ∀ p' c' h' bs', Ext (fun b => b ∈ bs) h h' → OwnS h' p' (l + n) c' sz (old ++ vs) bs' → (∀ b, b ∈ bs' → b ∈ bs ∨ h.size ≤ b) → K p' (l + n) c' h') : pApp h sz z B p l c n vs K := by
 have ohs := o.hsv
 have olt := o.lt
 obtain ⟨h1, h2, h3, h4⟩ := o
 have hov : ∀ v, v ∈ old ++ vs → v.oneCell' = true := by
  intro v hm; rcases List.mem_append.1 hm with hm | hm
  ·exact h3 v hm
  ·exact hv v hm
 have hlen : (old ++ vs).length = (l + n) * sz := by simp [h1, hl, Nat.add_mul]
 unfold pApp
 split
 ·rename_i hroom
  rcases h4 with ⟨rfl, rfl, rfl⟩ | ⟨b, rest, rfl, rfl, k, hr⟩
  ·have hn : n = 0 := by omega
   subst hn
   have hv0 : vs = [] := List.eq_nil_of_length_eq_zero (by simp [hl])
   have ho0 : old = [] := List.eq_nil_of_length_eq_zero (by simp [h1])
   subst hv0; subst ho0
   refine ⟨Or.inl rfl, fun h' e => ?_⟩
   have e' : h' = h := by rw [e]; cases p <;> rfl
   subst e'
   exact hk _ _ _ [] (Ext.refl _ _) (OwnS.nil _ _ _) (by intro b hb; simp at hb)
  ·have hnr : n * sz ≤ rest.length := by
    have : n * sz ≤ (c - l) * sz := Nat.mul_le_mul_right _ (by omega)
    omega
   refine ⟨Or.inr ⟨_, rfl, ?_⟩, fun h' e => ?_⟩
   ·rw [add_mk]; apply k.can; simp [h1]; omega
   ·simp only [Option.map_some, hwrO, add_mk, Nat.zero_add] at e
    have hs : splice (old ++ rest) (l * sz) vs = (old ++ vs) ++ rest.drop (n * sz) := by
     have : old ++ rest = old ++ rest.take (n * sz) ++ rest.drop (n * sz) := by simp
     rw [this, ← h1, splice_append]
     simp [hl, Nat.min_eq_left hnr]
    have kb := k.wr (l * sz) vs
    rw [hs] at kb
    subst e
    refine hk _ _ _ [b] ⟨by rw [hwr_size]; exact Nat.le_refl _, fun x _ hx => hwr_ne _ _ _ (by simpa using hx)⟩ ⟨hlen, hroom, hov, Or.inr ⟨b, rest.drop (n * sz), rfl, rfl, kb, ?_⟩⟩ (fun x hx => Or.inl hx)
    simp
    have : c - (l + n) = (c - l) - n := by omega
    rw [this, Nat.sub_mul]; omega
 ·rename_i hroom
  refine ⟨hb, old, ohs, fun c' b h' hc hw => ?_⟩
  refine hk _ _ _ [b] (hw.ext.mono fun _ _ hf => hf.elim) ⟨hlen, hc, hov, Or.inr ⟨b, (List.replicate (c' - (l + n)) z).flatten, rfl, rfl, ?_, ?_⟩⟩ ?_
  ·exact hw.blk
  ·rw [flatten_replicate_length, hz]; exact Nat.le_refl _
  ·intro x hx; simp at hx; subst hx; right; rw [hw.b]; exact Nat.le_refl _
end Go.Vc
end

/- Loops that count up. Own work; generic over any program. -/
section
set_option linter.unusedVariables false
namespace Go.Vc
abbrev si (i : Nat) : SV := .dv (.one (.int .i64 (i : Int)))
theorem loop_up {J : List SV → H → Prop} (N : Nat) (Inv : Nat → H → Prop) (step : ∀ i h, i < N → Inv i h → (∀ h', Inv (i + 1) h' → J [si (i + 1)] h') → J [si i] h)
  (exit : ∀ h, Inv N h → J [si N] h) (i : Nat) (h : H) (hi : i ≤ N) (inv : Inv i h) : J [si i] h := by
 generalize e : N - i = n
 induction n generalizing i h with
 | zero =>
  have : i = N := by omega
  subst this; exact exit h inv
 | succ n ih => exact step i h (by omega) inv fun h' inv' => ih (i + 1) h' (by omega) inv' (by omega)
theorem wrap_succ {i : Nat} (h : i < 2 ^ 62) : IntKind.i64.wrap ((i : Int) + 1) = ((i + 1 : Nat) : Int) := by
 rw [IntKind.wrap_i64]; omega
theorem wrap_id {n : Int} (h : -(2 ^ 62) ≤ n ∧ n ≤ 2 ^ 62) : IntKind.i64.wrap n = n := by
 rw [IntKind.wrap_i64]; omega
def mapTo (g : Nat → Int → Int) (i : Nat) (ns : List Int) : List Int := ns.mapIdx fun j v => if j < i then g j v else v
@[simp] theorem mapTo_length (g : Nat → Int → Int) (i : Nat) (ns : List Int) : (mapTo g i ns).length = ns.length := by simp [mapTo]
theorem mapTo_get (g : Nat → Int → Int) (i : Nat) (ns : List Int) (j : Nat) : (mapTo g i ns)[j]? = ns[j]?.map fun v => if j < i then g j v else v := by simp [mapTo]
@[simp] theorem mapTo_zero (g : Nat → Int → Int) (ns : List Int) : mapTo g 0 ns = ns := by
 apply List.ext_getElem?; intro j; rw [mapTo_get]; simp
theorem mapTo_succ (g : Nat → Int → Int) (i : Nat) (ns : List Int) (hi : i < ns.length) : (mapTo g i ns).set i (g i ns[i]) = mapTo g (i + 1) ns := by
 apply List.ext_getElem?; intro j
 by_cases h : i = j
 ·subst h; rw [List.getElem?_set_self (by simpa using hi), mapTo_get]; simp [hi]
 ·rw [List.getElem?_set_ne h, mapTo_get, mapTo_get]
  congr 1; funext v
  by_cases h1 : j < i
  ·rw [if_pos h1, if_pos (by omega)]
  ·rw [if_neg h1, if_neg (by omega)]
theorem ints_set (k : IntKind) (ns : List Int) (i : Nat) (n : Int) : (ints k ns).set i (.int k n) = ints k (ns.set i n) := by simp [ints, List.map_set]
end Go.Vc
end

/- Assertions: a list of things that own blocks, none twice; all else is as it was in a base heap. Own work; generic over any program. -/
section
set_option linter.unusedVariables false
namespace Go.Vc

@[simp] theorem oneCell_slice (p : Option Addr) (l c : Nat) : (Value.slice p l c).oneCell' = true := rfl
@[simp] theorem oneCell_bool (b : Bool) : (Value.bool b).oneCell' = true := rfl
@[simp] theorem oneCell_ptr (p : Option Addr) : (Value.pointer p).oneCell' = true := rfl
@[simp] theorem oneCell_str (s : ByteArray) : (Value.string s).oneCell' = true := rfl

inductive Tag where
 | blk (b : Nat) (vs : List Value)
 | sl (p : Option Addr) (l c sz : Nat) (vs : List Value)
 | of (n : Nat)

structure Ent where
 tag : Tag
 P : H → (Nat → Prop) → Prop
 st : ∀ {h h' : H} {f : Nat → Prop}, P h f → (∀ b, f b → h'[b]? = h[b]?) → P h' f
 lt : ∀ {h : H} {f : Nat → Prop} {b : Nat}, P h f → f b → b < h.size

def SatX : List Ent → H → (Nat → Prop) → Prop
 | [], _, O => ∀ b, ¬ O b
 | e :: A, h, O => ∃ f g, e.P h f ∧ SatX A h g ∧ (∀ b, f b → ¬ g b) ∧ (∀ b, O b ↔ f b ∨ g b)

theorem SatX.st {A : List Ent} {h h' : H} {O : Nat → Prop} (s : SatX A h O) (e : ∀ b, O b → h'[b]? = h[b]?) : SatX A h' O := by
 induction A generalizing O with
 | nil => exact s
 | cons x A ih =>
  obtain ⟨f, g, hp, hg, hd, ho⟩ := s
  exact ⟨f, g, x.st hp fun b hb => e b ((ho b).2 (Or.inl hb)), ih hg fun b hb => e b ((ho b).2 (Or.inr hb)), hd, ho⟩
theorem SatX.lt {A : List Ent} {h : H} {O : Nat → Prop} (s : SatX A h O) {b : Nat} (hb : O b) : b < h.size := by
 induction A generalizing O with
 | nil => exact absurd hb (s b)
 | cons x A ih =>
  obtain ⟨f, g, hp, hg, hd, ho⟩ := s
  rcases (ho b).1 hb with k | k
  ·exact x.lt hp k
  ·exact ih hg k
theorem SatX.iff {A : List Ent} {h : H} {O O' : Nat → Prop} (s : SatX A h O) (e : ∀ b, O b ↔ O' b) : SatX A h O' := by
 have : O = O' := funext fun b => propext (e b)
 exact this ▸ s
theorem SatX.append {A B : List Ent} {h : H} {O : Nat → Prop} : SatX (A ++ B) h O ↔ ∃ f g, SatX A h f ∧ SatX B h g ∧ (∀ b, f b → ¬ g b) ∧ (∀ b, O b ↔ f b ∨ g b) := by
 induction A generalizing O with
 | nil =>
  constructor
  ·intro s; exact ⟨fun _ => False, O, fun _ x => x, s, fun _ x => x.elim, fun b => by simp⟩
  ·rintro ⟨f, g, hf, hg, _, ho⟩
   refine hg.iff fun b => ?_
   rw [ho]; constructor
   ·exact Or.inr
   ·rintro (k | k)
    ·exact absurd k (hf b)
    ·exact k
 | cons x A ih =>
  constructor
  ·rintro ⟨f, g, hp, hg, hd, ho⟩
   obtain ⟨f', g', h1, h2, h3, h4⟩ := ih.1 hg
   refine ⟨fun b => f b ∨ f' b, g', ⟨f, f', hp, h1, fun b k k' => hd b k ((h4 b).2 (Or.inl k')), fun b => Iff.rfl⟩, h2, ?_, ?_⟩
   ·rintro b (k | k) k'
    ·exact hd b k ((h4 b).2 (Or.inr k'))
    ·exact h3 b k k'
   ·intro b; rw [ho, h4, or_assoc]
  ·rintro ⟨f, g, ⟨f1, f2, hp, h1, h2, h3⟩, hg, hd, ho⟩
   refine ⟨f1, fun b => f2 b ∨ g b, hp, ih.2 ⟨f2, g, h1, hg, fun b k k' => hd b ((h3 b).2 (Or.inr k)) k', fun b => Iff.rfl⟩, ?_, ?_⟩
   ·rintro b k (k' | k')
    ·exact h2 b k k'
    ·exact hd b ((h3 b).2 (Or.inl k)) k'
   ·intro b; rw [ho, h3, or_assoc]

inductive At : List Ent → Nat → Ent → Prop where
 | z {A : List Ent} {e : Ent} : At (e :: A) 0 e
 | s {A : List Ent} {e x : Ent} {i : Nat} : At A i e → At (x :: A) (i + 1) e
def put : List Ent → Nat → Ent → List Ent
 | [], _, _ => []
 | _ :: A, 0, e => e :: A
 | x :: A, i + 1, e => x :: put A i e
@[simp] theorem put_zero (x e : Ent) (A : List Ent) : put (x :: A) 0 e = e :: A := rfl
@[simp] theorem put_succ (x e : Ent) (A : List Ent) (i : Nat) : put (x :: A) (i + 1) e = x :: put A i e := rfl
theorem At.put {A : List Ent} {i : Nat} {e : Ent} (a : At A i e) (x : Ent) : At (Vc.put A i x) i x := by
 induction a with
 | z => exact .z
 | s _ ih => exact .s ih
@[simp] theorem put_put (A : List Ent) (i : Nat) (x y : Ent) : put (put A i x) i y = put A i y := by
 induction A generalizing i with
 | nil => rfl
 | cons a A ih => cases i with
  | zero => rfl
  | succ i => simp [ih]
theorem At.put_self {A : List Ent} {i : Nat} {e : Ent} (a : At A i e) : Vc.put A i e = A := by
 induction a with
 | z => rfl
 | s _ ih => simp [ih]

theorem SatX.take {A : List Ent} {i : Nat} {e : Ent} (a : At A i e) {h : H} {O : Nat → Prop} (s : SatX A h O) :
  ∃ f g : Nat → Prop, e.P h f ∧ (∀ b, f b → ¬ g b) ∧ (∀ b, O b ↔ f b ∨ g b) ∧
   ∀ (e' : Ent) (h' : H) (f' : Nat → Prop), e'.P h' f' → (∀ b, g b → h'[b]? = h[b]?) → (∀ b, f' b → ¬ g b) → SatX (Vc.put A i e') h' (fun b => f' b ∨ g b) := by
 induction a generalizing O with
 | z =>
  obtain ⟨f, g, hp, hg, hd, ho⟩ := s
  exact ⟨f, g, hp, hd, ho, fun e' h' f' hp' hsame hd' => ⟨f', g, hp', hg.st hsame, hd', fun b => Iff.rfl⟩⟩
 | s a ih =>
  obtain ⟨f, g, hp, hg, hd, ho⟩ := s
  obtain ⟨f1, g1, h1, h2, h3, h4⟩ := ih hg
  refine ⟨f1, fun b => f b ∨ g1 b, h1, ?_, ?_, ?_⟩
  ·rintro b k (k' | k')
   ·exact hd b k' ((h3 b).2 (Or.inl k))
   ·exact h2 b k k'
  ·intro b; rw [ho, h3]; constructor
   ·rintro (k | k | k) <;> simp [k]
   ·rintro (k | k | k) <;> simp [k]
  ·intro e' h' f' hp' hsame hd'
   refine ⟨f, fun b => f' b ∨ g1 b, Ent.st _ hp fun b k => hsame b (Or.inl k), h4 e' h' f' hp' (fun b k => hsame b (Or.inr k)) (fun b k k' => hd' b k (Or.inr k')), ?_, ?_⟩
   ·rintro b k (k' | k')
    ·exact hd' b k' (Or.inl k)
    ·exact hd b k ((h3 b).2 (Or.inr k'))
   ·intro b; constructor
    ·rintro (k | k | k) <;> simp [k]
    ·rintro (k | k | k) <;> simp [k]

/-! ### With a base -/
def Sat (h0 : H) (A : List Ent) (h : H) : Prop := Ext none_ h0 h ∧ ∃ O, SatX A h O ∧ ∀ b, O b → h0.size ≤ b

theorem Sat.init (h : H) : Sat h [] h := ⟨Ext.refl _ _, fun _ => False, fun _ x => x, fun _ x => x.elim⟩
theorem Sat.ex {h0 h : H} {A : List Ent} (s : Sat h0 A h) : Ext none_ h0 h := s.1
theorem Sat.ext {h0 h h' : H} {A : List Ent} (s : Sat h0 A h) (x : Ext none_ h h') : Sat h0 A h' := by
 obtain ⟨s1, O, s2, s3⟩ := s
 exact ⟨s1.trans x, O, s2.st fun b hb => x.eq b (s2.lt hb) (fun y => y), s3⟩
theorem Sat.add {h0 h h' : H} {A : List Ent} (s : Sat h0 A h) (x : Ext none_ h h') {e : Ent} {f : Nat → Prop} (p : e.P h' f) (n : ∀ b, f b → h.size ≤ b) : Sat h0 (e :: A) h' := by
 obtain ⟨s1, O, s2, s3⟩ := s
 refine ⟨s1.trans x, fun b => f b ∨ O b, ⟨f, O, p, s2.st fun b hb => x.eq b (s2.lt hb) (fun y => y), ?_, fun b => Iff.rfl⟩, ?_⟩
 ·intro b k k'; have := n b k; have := s2.lt k'; omega
 ·rintro b (k | k)
  ·have := n b k; have := s1.size; omega
  ·exact s3 b k
theorem Sat.drop {h0 h : H} {A : List Ent} {e : Ent} (s : Sat h0 (e :: A) h) : Sat h0 A h := by
 obtain ⟨s1, O, ⟨f, g, _, hg, _, ho⟩, s3⟩ := s
 exact ⟨s1, g, hg, fun b hb => s3 b ((ho b).2 (Or.inr hb))⟩
theorem Sat.sub {h0 h : H} {A B : List Ent} (s : Sat h0 A h) (p : B.Sublist A) : Sat h0 B h := by
 obtain ⟨s1, O, s2, s3⟩ := s
 have : ∃ O', SatX B h O' ∧ ∀ b, O' b → O b := by
  clear s3
  induction p generalizing O with
  | slnil => exact ⟨O, s2, fun _ x => x⟩
  | cons a _ ih =>
   obtain ⟨f, g, hp, hg, hd, ho⟩ := s2
   obtain ⟨O', h1, h2⟩ := ih g hg
   exact ⟨O', h1, fun b hb => (ho b).2 (Or.inr (h2 b hb))⟩
  | cons_cons a _ ih =>
   obtain ⟨f, g, hp, hg, hd, ho⟩ := s2
   obtain ⟨O', h1, h2⟩ := ih g hg
   exact ⟨fun b => f b ∨ O' b, ⟨f, O', hp, h1, fun b k k' => hd b k (h2 b k'), fun b => Iff.rfl⟩, fun b hb => (ho b).2 (hb.imp id (h2 b))⟩
 obtain ⟨O', h1, h2⟩ := this
 exact ⟨s1, O', h1, fun b hb => s3 b (h2 b hb)⟩
theorem Sat.nil {h0 h : H} {A : List Ent} (s : Sat h0 A h) : Sat h0 [] h := ⟨s.1, fun _ => False, fun _ x => x, fun _ x => x.elim⟩
theorem Sat.perm {h0 h : H} {A B : List Ent} (s : Sat h0 A h) (p : A.Perm B) : Sat h0 B h := by
 obtain ⟨s1, O, s2, s3⟩ := s
 refine ⟨s1, O, ?_, s3⟩
 clear s3
 induction p generalizing O with
 | nil => exact s2
 | cons x _ ih =>
  obtain ⟨f, g, hp, hg, hd, ho⟩ := s2
  exact ⟨f, g, hp, ih g hg, hd, ho⟩
 | swap x y l =>
  obtain ⟨f, g, hp, ⟨f1, g1, hp1, hg1, hd1, ho1⟩, hd, ho⟩ := s2
  refine ⟨f1, fun b => f b ∨ g1 b, hp1, ⟨f, g1, hp, hg1, fun b k k' => hd b k ((ho1 b).2 (Or.inr k')), fun b => Iff.rfl⟩, ?_, ?_⟩
  ·rintro b k (k' | k')
   ·exact hd b k' ((ho1 b).2 (Or.inl k))
   ·exact hd1 b k k'
  ·intro b; rw [ho, ho1]; constructor
   ·rintro (k | k | k) <;> simp [k]
   ·rintro (k | k | k) <;> simp [k]
 | trans _ _ ih1 ih2 => exact ih2 O (ih1 O s2)
theorem Sat.takeK {h0 h : H} {A : List Ent} (s : Sat h0 A h) {i : Nat} {e : Ent} (a : At A i e) : ∃ f : Nat → Prop, e.P h f ∧ (∀ b, f b → h0.size ≤ b) ∧
  ∀ (h' : H) (e' : Ent) (f' : Nat → Prop), e'.P h' f' → (∀ b, f' b → f b ∨ h.size ≤ b) → Ext f h h' → Sat h0 (Vc.put A i e') h' := by
 obtain ⟨s1, O, s2, s3⟩ := s
 obtain ⟨f, g, hp, hd, ho, hk⟩ := s2.take a
 refine ⟨f, hp, fun b hb => s3 b ((ho b).2 (Or.inl hb)), fun h' e' f' hp' hn hx => ?_⟩
 have hg : ∀ b, g b → b < h.size := fun b hb => s2.lt ((ho b).2 (Or.inr hb))
 refine ⟨s1.comp hx (fun b hb hf => ?_), _, hk e' h' f' hp' (fun b hb => hx.eq b (hg b hb) (fun hf => hd b hf hb)) ?_, ?_⟩
 ·have := s3 b ((ho b).2 (Or.inl hf)); omega
 ·intro b k1 k2
  rcases hn b k1 with k | k
  ·exact hd b k k2
  ·have := hg b k2; omega
 ·rintro b (k1 | k1)
  ·rcases hn b k1 with k | k
   ·exact s3 b ((ho b).2 (Or.inl k))
   ·have := s1.size; omega
  ·exact s3 b ((ho b).2 (Or.inr k1))
theorem Sat.take {h0 h : H} {A : List Ent} (s : Sat h0 A h) {i : Nat} {e : Ent} (a : At A i e) : ∃ f, e.P h f ∧ ∀ b, f b → h0.size ≤ b := by
 obtain ⟨f, h1, h2, _⟩ := s.takeK a
 exact ⟨f, h1, h2⟩
theorem Sat.upd {h0 h h' : H} {A : List Ent} (s : Sat h0 A h) {i : Nat} {e e' : Ent} (a : At A i e)
  (k : ∀ f, e.P h f → ∃ f', e'.P h' f' ∧ (∀ b, f' b → f b ∨ h.size ≤ b) ∧ Ext f h h') : Sat h0 (Vc.put A i e') h' := by
 obtain ⟨f, hp, _, hk⟩ := s.takeK a
 obtain ⟨f', h1, h2, h3⟩ := k f hp
 exact hk h' e' f' h1 h2 h3
theorem Sat.as {h0 h : H} {A : List Ent} (s : Sat h0 A h) {i : Nat} {e e' : Ent} (a : At A i e) (k : ∀ f, e.P h f → e'.P h f) : Sat h0 (Vc.put A i e') h :=
 s.upd a fun f hp => ⟨f, k f hp, fun _ => Or.inl, Ext.refl _ _⟩

/-! ### A block; a slice -/
@[irreducible] def blkP (b : Nat) (vs : List Value) (h : H) (f : Nat → Prop) : Prop := Blk h b vs ∧ ∀ x, f x ↔ x = b
def blk (b : Nat) (vs : List Value) : Ent where
 tag := .blk b vs
 P := blkP b vs
 st := by unfold blkP; rintro h h' f ⟨k, e⟩ hs; exact ⟨k.of_eq (hs b ((e b).2 rfl)), e⟩
 lt := by unfold blkP; rintro h f x ⟨k, e⟩ hx; rw [(e x).1 hx]; exact k.lt
theorem blk_P {b : Nat} {vs : List Value} {h : H} {f : Nat → Prop} : (blk b vs).P h f ↔ Blk h b vs ∧ ∀ x, f x ↔ x = b := by
 show blkP b vs h f ↔ _; unfold blkP; rfl
@[irreducible] def slP (p : Option Addr) (l c sz : Nat) (vs : List Value) (h : H) (f : Nat → Prop) : Prop := ∃ bs, OwnS h p l c sz vs bs ∧ ∀ x, f x ↔ x ∈ bs
def slE (p : Option Addr) (l c sz : Nat) (vs : List Value) : Ent where
 tag := .sl p l c sz vs
 P := slP p l c sz vs
 st := by
  unfold slP; rintro h h' f ⟨bs, ⟨h1, h2, h3, h4⟩, e⟩ hs
  refine ⟨bs, ⟨h1, h2, h3, ?_⟩, e⟩
  rcases h4 with h4 | ⟨b, rest, e1, rfl, k, e2⟩
  ·exact Or.inl h4
  ·exact Or.inr ⟨b, rest, e1, rfl, k.of_eq (hs b ((e b).2 (by simp))), e2⟩
 lt := by unfold slP; rintro h f x ⟨bs, o, e⟩ hx; exact o.lt x ((e x).1 hx)
theorem slE_P {p : Option Addr} {l c sz : Nat} {vs : List Value} {h : H} {f : Nat → Prop} : (slE p l c sz vs).P h f ↔ ∃ bs, OwnS h p l c sz vs bs ∧ ∀ x, f x ↔ x ∈ bs := by
 show slP p l c sz vs h f ↔ _; unfold slP; rfl
@[irreducible] def exP {α : Type} (φ : α → Prop) (F : α → List Ent) (h : H) (f : Nat → Prop) : Prop := ∃ a, φ a ∧ SatX (F a) h f
def exE {α : Type} (n : Nat) (φ : α → Prop) (F : α → List Ent) : Ent where
 tag := .of n
 P := exP φ F
 st := by unfold exP; rintro h h' f ⟨a, ha, s⟩ hs; exact ⟨a, ha, s.st hs⟩
 lt := by unfold exP; rintro h f x ⟨a, ha, s⟩ hx; exact s.lt hx
theorem exE_P {α : Type} {n : Nat} {φ : α → Prop} {F : α → List Ent} {h : H} {f : Nat → Prop} : (exE n φ F).P h f ↔ ∃ a, φ a ∧ SatX (F a) h f := by
 show exP φ F h f ↔ _; unfold exP; rfl
theorem Sat.open_ {h0 h : H} {A : List Ent} {α : Type} {n : Nat} {φ : α → Prop} {F : α → List Ent} (s : Sat h0 (exE n φ F :: A) h) : ∃ a, φ a ∧ Sat h0 (F a ++ A) h := by
 obtain ⟨s1, O, ⟨f, g, hp, hg, hd, ho⟩, s3⟩ := s
 obtain ⟨a, ha, s⟩ := exE_P.1 hp
 exact ⟨a, ha, s1, O, SatX.append.2 ⟨f, g, s, hg, hd, ho⟩, s3⟩
theorem Sat.close {h0 h : H} {A : List Ent} {α : Type} {n : Nat} {φ : α → Prop} {F : α → List Ent} (a : α) (ha : φ a) (s : Sat h0 (F a ++ A) h) : Sat h0 (exE n φ F :: A) h := by
 obtain ⟨s1, O, s2, s3⟩ := s
 obtain ⟨f, g, hf, hg, hd, ho⟩ := SatX.append.1 s2
 exact ⟨s1, O, ⟨f, g, exE_P.2 ⟨a, ha, hf⟩, hg, hd, ho⟩, s3⟩
def del : List Ent → Nat → List Ent
 | [], _ => []
 | _ :: A, 0 => A
 | x :: A, i + 1 => x :: del A i
theorem At.perm {A : List Ent} {i : Nat} {e : Ent} (a : At A i e) : A.Perm (e :: del A i) := by
 induction a with
 | z => exact .refl _
 | s _ ih => exact (ih.cons _).trans (.swap _ _ _)
theorem At.perm_put {A : List Ent} {i : Nat} {e : Ent} (a : At A i e) (x : Ent) : (x :: del A i).Perm (Vc.put A i x) := by
 induction a with
 | z => exact .refl _
 | s _ ih => exact (List.Perm.swap _ _ _).trans (ih.cons _)
theorem Sat.front {h0 h : H} {A : List Ent} (s : Sat h0 A h) {i : Nat} {e : Ent} (a : At A i e) : Sat h0 (e :: del A i) h := s.perm a.perm
theorem Sat.back {h0 h : H} {A : List Ent} {i : Nat} {e x : Ent} (a : At A i e) (s : Sat h0 (x :: del A i) h) : Sat h0 (Vc.put A i x) h := s.perm (a.perm_put x)

/-! ### Steps -/
theorem Sat.new {h0 h h' : H} {A : List Ent} (s : Sat h0 A h) {b : Nat} {vs : List Value} (n : hnew h b vs h') : Sat h0 (blk b vs :: A) h' :=
 s.add n.ext (blk_P.2 ⟨n.blk, fun _ => Iff.rfl⟩) fun x hx => by rw [hx, n.b]; exact Nat.le_refl _
theorem Sat.blkOf {h0 h : H} {A : List Ent} (s : Sat h0 A h) {i b : Nat} {vs : List Value} (a : At A i (blk b vs)) : Blk h b vs := by
 obtain ⟨f, hp, _⟩ := s.take a
 exact (blk_P.1 hp).1
theorem Sat.old {h0 h : H} {A : List Ent} (s : Sat h0 A h) {i b : Nat} {vs : List Value} (a : At A i (blk b vs)) : h0.size ≤ b := by
 obtain ⟨f, hp, hl⟩ := s.take a
 exact hl b (((blk_P.1 hp).2 b).2 rfl)
theorem Sat.ld {h0 h : H} {A : List Ent} (s : Sat h0 A h) {i b : Nat} {vs : List Value} (a : At A i (blk b vs)) {o : Nat} {v : Value} (e : vs[o]? = some v) : hc h ⟨b, o, none⟩ = some v := by
 rw [(s.blkOf a).hc, e]
theorem Sat.cs1 {h0 h : H} {A : List Ent} (s : Sat h0 A h) {i b : Nat} {vs : List Value} (a : At A i (blk b vs)) {o : Nat} {xs : List Value} (e : ∀ i, i < xs.length → vs[o + i]? = xs[i]?) : hcs h ⟨b, o, none⟩ xs := (s.blkOf a).hcs e
theorem Sat.cs {h0 h : H} {A : List Ent} (s : Sat h0 A h) {i b : Nat} {vs : List Value} (a : At A i (blk b vs)) {o : Nat} {xs : List Value} (e : (vs.drop o).take xs.length = xs) : hcs h ⟨b, o, none⟩ xs := by
 refine s.cs1 a fun i hi => ?_
 have : ((vs.drop o).take xs.length)[i]? = xs[i]? := by rw [e]
 rw [List.getElem?_take_of_lt hi, List.getElem?_drop] at this
 exact this
theorem Sat.row {h0 h : H} {A : List Ent} (s : Sat h0 A h) {i b : Nat} {vs : List Value} (a : At A i (blk b vs)) {o : Nat} {k : IntKind} {ns : List Int} (e : ∀ i, i < ns.length → vs[o + i]? = ns[i]?.map (Value.int k)) : hrow h ⟨b, o, none⟩ k ns := (s.blkOf a).hrow e
theorem Sat.can {h0 h : H} {A : List Ent} (s : Sat h0 A h) {i b : Nat} {vs : List Value} (a : At A i (blk b vs)) {o n : Nat} (e : o + n ≤ vs.length) : hcan h ⟨b, o, none⟩ n := (s.blkOf a).can e
theorem Sat.wr {h0 h h' : H} {A : List Ent} (s : Sat h0 A h) {i b : Nat} {vs : List Value} (a : At A i (blk b vs)) {o : Nat} {xs : List Value} (e : h' = hwr h ⟨b, o, none⟩ xs) : Sat h0 (Vc.put A i (blk b (splice vs o xs))) h' := by
 subst e
 refine s.upd a fun f hp => ?_
 obtain ⟨k, hf⟩ := blk_P.1 hp
 refine ⟨f, blk_P.2 ⟨k.wr o xs, hf⟩, fun _ => Or.inl, (Ext.wr h b o xs).mono fun x _ hx => (hf x).2 hx⟩
theorem Sat.sv {h0 h : H} {A : List Ent} (s : Sat h0 A h) {i : Nat} {p : Option Addr} {l c sz : Nat} {vs : List Value} (a : At A i (slE p l c sz vs)) : hsv h p sz l vs := by
 obtain ⟨f, hp, _⟩ := s.take a
 obtain ⟨bs, o, _⟩ := slE_P.1 hp
 exact o.hsv
theorem Sat.base {h0 h : H} {A : List Ent} (s : Sat h0 A h) {p : Option Addr} {sz l : Nat} {vs : List Value} (e : hsv h0 p sz l vs) : hsv h p sz l vs := hsv_ext s.1 e fun _ _ x => x
theorem Sat.own {h0 h h' : H} {A : List Ent} (s : Sat h0 A h) (x : Ext none_ h h') {p : Option Addr} {l c sz : Nat} {vs : List Value} {bs : List Nat} (o : OwnS h' p l c sz vs bs) (n : newB h bs) : Sat h0 (slE p l c sz vs :: A) h' :=
 s.add x (f := fun x => x ∈ bs) (slE_P.2 ⟨bs, o, fun _ => Iff.rfl⟩) n
theorem Sat.app {h0 h : H} {A : List Ent} (s : Sat h0 A h) {i : Nat} {p : Option Addr} {l c n sz : Nat} {old vs z : List Value} {B : Nat} (a : At A i (slE p l c sz old)) {K : Option Addr → Nat → Nat → H → Prop}
  (hl : vs.length = n * sz) (hz : z.length = sz) (hv : ∀ v, v ∈ vs → v.oneCell' = true) (hb : (l + n) * B ≤ 2 ^ 47)
  (k : ∀ p' c' h', Sat h0 (Vc.put A i (slE p' (l + n) c' sz (old ++ vs))) h' → K p' (l + n) c' h') : pApp h sz z B p l c n vs K := by
 obtain ⟨f, hp, _, hk⟩ := s.takeK a
 obtain ⟨bs, o, hf⟩ := slE_P.1 hp
 refine pApp_own o hl hz hv hb fun p' c' h' bs' hx ho hn => k _ _ _ ?_
 refine hk h' _ (fun x => x ∈ bs') (slE_P.2 ⟨bs', ho, fun _ => Iff.rfl⟩) (fun b hb => ?_) (hx.mono fun x _ hx => (hf x).2 hx)
 rcases hn b hb with h1 | h1
 ·exact Or.inl ((hf b).2 h1)
 ·exact Or.inr h1
theorem Sat.app_new {h0 h : H} {A : List Ent} (s : Sat h0 A h) {p : Option Addr} {n sz : Nat} {vs z : List Value} {B : Nat} {K : Option Addr → Nat → Nat → H → Prop}
  (hl : vs.length = n * sz) (hz : z.length = sz) (hv : ∀ v, v ∈ vs → v.oneCell' = true) (hb : n * B ≤ 2 ^ 47)
  (k : ∀ p' c' h', Sat h0 (slE p' n c' sz vs :: A) h' → K p' n c' h') : pApp h sz z B p 0 0 n vs K :=
 pApp_empty hl hz hv hb fun p' c' h' bs x o nb => k p' c' h' (s.own x o nb)
theorem At.app {A B : List Ent} {i : Nat} {e : Ent} (a : At A i e) : At (A ++ B) i e := by
 induction a with
 | z => exact .z
 | s _ ih => exact .s ih
theorem At.get {A : List Ent} {i : Nat} {e : Ent} (h : A[i]? = some e) : At A i e := by
 induction A generalizing i with
 | nil => simp at h
 | cons x A ih => cases i with
  | zero => simp at h; subst h; exact .z
  | succ i => exact .s (ih (by simpa using h))
theorem At.mem {A : List Ent} {e : Ent} (h : e ∈ A) : ∃ i, At A i e := by
 obtain ⟨i, hi⟩ := List.mem_iff_getElem?.1 h
 exact ⟨i, At.get hi⟩

end Go.Vc
end

/- Slices of slices of bytes. Own work; generic over any program. -/
section
set_option linter.unusedVariables false
namespace Go.Vc

def bools (bs : List Bool) : List Value := bs.map Value.bool
@[simp] theorem bools_length (bs : List Bool) : (bools bs).length = bs.length := by simp [bools]
@[simp] theorem bools_get (bs : List Bool) (i : Nat) : (bools bs)[i]? = bs[i]?.map Value.bool := by simp [bools]
abbrev Sl := Option Addr × Nat × Nat
abbrev Sl.v (s : Sl) : Value := .slice s.1 s.2.1 s.2.2
abbrev sE (s : Sl) (sz : Nat) (vs : List Value) : Ent := slE s.1 s.2.1 s.2.2 sz vs

structure Pg where
 sl : Sl
 bytes : List Int
def Pg.rd (h : H) (sz : Nat) (x : Pg) : Prop := hsv h x.sl.1 sz x.sl.2.1 (ints .u8 x.bytes)
def pgSl (l : List Pg) : List Value := l.map fun x => x.sl.v
def pgBytes (l : List Pg) : List (List Int) := l.map Pg.bytes
def rowsE (sz : Nat) (l : List Pg) : List Ent := l.map fun x => sE x.sl sz (ints .u8 x.bytes)
@[simp] theorem pgSl_length (l : List Pg) : (pgSl l).length = l.length := by simp [pgSl]
@[simp] theorem pgBytes_length (l : List Pg) : (pgBytes l).length = l.length := by simp [pgBytes]

def RdM (h : H) (sz : Nat) (a : Sl) (rows : List (List Int)) : Prop := ∃ pgs, rows = pgBytes pgs ∧ hsv h a.1 1 a.2.1 (pgSl pgs) ∧ ∀ x, x ∈ pgs → x.rd h sz
def matL (sz : Nat) (a : Sl) (pgs : List Pg) : List Ent := sE a 1 (pgSl pgs) :: rowsE sz pgs
def matE (sz : Nat) (a : Sl) (rows : List (List Int)) : Ent := exE 1 (fun pgs => rows = pgBytes pgs) (matL sz a)
theorem RdM.ext {h h' : H} (x : Ext none_ h h') {sz : Nat} {a : Sl} {rows : List (List Int)} (r : RdM h sz a rows) : RdM h' sz a rows := by
 obtain ⟨pgs, h1, h2, h3⟩ := r
 exact ⟨pgs, h1, hsv_ext x h2 (fun _ _ y => y), fun y hy => hsv_ext x (h3 y hy) (fun _ _ y => y)⟩
theorem RdM.len {h : H} {sz : Nat} {a : Sl} {rows : List (List Int)} (r : RdM h sz a rows) : rows.length = a.2.1 := by
 obtain ⟨pgs, rfl, h2, _⟩ := r
 have := h2.1; simpa using this
theorem RdM.at {h : H} {sz : Nat} {a : Sl} {rows : List (List Int)} (r : RdM h sz a rows) {j : Nat} (hj : j < rows.length) :
  ∃ q x, a.1 = some q ∧ hc h (q.add (j * 1)) = some (Sl.v x) ∧ hsv h x.1 sz x.2.1 (ints .u8 rows[j]) := by
 obtain ⟨pgs, rfl, h2, h3⟩ := r
 have hj' : j < pgs.length := by simpa using hj
 have e : (pgSl pgs)[j]? = some (pgs[j].sl.v) := by simp [pgSl, hj']
 obtain ⟨q, hq, g⟩ := hsv_get h2 e
 refine ⟨q, pgs[j].sl, hq, by simpa using g, ?_⟩
 have := h3 pgs[j] (List.getElem_mem hj')
 simpa [Pg.rd, pgBytes] using this
theorem Sat.rdM {h0 h : H} {A : List Ent} (hs : Sat h0 A h) {i sz : Nat} {a : Sl} {rows : List (List Int)} (m : At A i (matE sz a rows)) : RdM h sz a rows := by
 obtain ⟨pgs, he, hs⟩ := (hs.front m).open_
 refine ⟨pgs, he, hs.sv (.z), ?_⟩
 intro x hx
 obtain ⟨j, hj⟩ := At.mem (A := rowsE sz pgs) (e := sE x.sl sz (ints .u8 x.bytes)) (List.mem_map_of_mem hx)
 exact hs.sv (.s hj.app)
theorem Sat.app_row {h0 h : H} {A : List Ent} {i sz : Nat} {p : Option Addr} {l c : Nat} {r : Sl} {rows : List (List Int)} {bs : List Int} {K : Option Addr → Nat → Nat → H → Prop}
  (hs : Sat h0 (sE r sz (ints .u8 bs) :: A) h) (m : At A i (matE sz (p, l, c) rows)) (hb : (l + 1) * 24 ≤ 2 ^ 47)
  (k : ∀ p' c' h', Sat h0 (Vc.put A i (matE sz (p', l + 1, c') (rows ++ [bs]))) h' → K p' (l + 1) c' h') : pApp h 1 [.slice none 0 0] 24 p l c 1 [r.v] K := by
 obtain ⟨pgs, he, hs⟩ := (hs.front (m.s)).open_
 have hs : Sat h0 (sE (p, l, c) 1 (pgSl pgs) :: (rowsE sz pgs ++ (sE r sz (ints .u8 bs) :: del A i))) h := hs
 refine hs.app (.z) (by simp) rfl (by intro v hv; simp at hv; subst hv; rfl) hb ?_
 intro p' c' h' hs
 refine k p' c' h' (Sat.back m ?_)
 refine Sat.close (pgs ++ [⟨r, bs⟩]) (by simp [he, pgBytes]) ?_
 refine hs.perm ?_
 simp only [Vc.put, matL, rowsE, pgSl, List.map_append, List.map_cons, List.map_nil, List.cons_append, List.append_assoc, List.nil_append]
 exact .refl _
theorem Sat.mat_nil {h0 h : H} {A : List Ent} (hs : Sat h0 A h) (sz : Nat) (p : Option Addr) : Sat h0 (matE sz (p, 0, 0) [] :: A) h := by
 refine Sat.close [] rfl ?_
 refine hs.own (Ext.refl _ _) (bs := []) (OwnS.nil _ _ _) (by intro b hb; simp at hb)
theorem Sat.sl_nil {h0 h : H} {A : List Ent} (hs : Sat h0 A h) (sz : Nat) (p : Option Addr) : Sat h0 (sE (p, 0, 0) sz [] :: A) h :=
 hs.own (Ext.refl _ _) (bs := []) (OwnS.nil _ _ _) (by intro b hb; simp at hb)
theorem Sat.as_sl {h0 h : H} {A : List Ent} (hs : Sat h0 A h) {i b l sz : Nat} {vs : List Value} (m : At A i (blk b vs)) (hl : vs.length = l * sz) (hv : ∀ v, v ∈ vs → v.oneCell' = true) :
  Sat h0 (Vc.put A i (slE (some ⟨b, 0, none⟩) l l sz vs)) h := by
 refine hs.as m fun f hp => ?_
 obtain ⟨k, hf⟩ := blk_P.1 hp
 refine slE_P.2 ⟨[b], ⟨hl, Nat.le_refl _, hv, Or.inr ⟨b, [], rfl, rfl, by simpa using k, by simp⟩⟩, fun x => ?_⟩
 rw [hf]; simp
theorem Sat.bv {h0 h : H} {A : List Ent} (hs : Sat h0 A h) {i b l sz : Nat} {vs : List Value} (m : At A i (blk b vs)) (hl : vs.length = l * sz) (hv : ∀ v, v ∈ vs → v.oneCell' = true) :
  hsv h (some ⟨b, 0, none⟩) sz l vs := (hs.as_sl m hl hv).sv (m.put _)
theorem ints_one (k : IntKind) (ns : List Int) : ∀ v, v ∈ ints k ns → v.oneCell' = true := by
 intro v hv
 simp only [ints, List.mem_map] at hv
 obtain ⟨n, _, rfl⟩ := hv; rfl
theorem bools_one (ns : List Bool) : ∀ v, v ∈ bools ns → v.oneCell' = true := by
 intro v hv
 simp only [bools, List.mem_map] at hv
 obtain ⟨n, _, rfl⟩ := hv; rfl
theorem Sat.ofBlk {h0 h h' : H} {A : List Ent} (hs : Sat h0 A h) (x : Ext none_ h h') {b : Nat} {vs : List Value} (k : Blk h' b vs) (n : h.size ≤ b) : Sat h0 (blk b vs :: A) h' :=
 hs.add x (blk_P.2 ⟨k, fun _ => Iff.rfl⟩) fun y hy => by rw [hy]; exact n

/-! ### Slices whose first cell is known -/
theorem Sat.sl_some {h0 h : H} {A : List Ent} (hs : Sat h0 A h) {i : Nat} {p : Option Addr} {l c sz : Nat} {vs : List Value} (m : At A i (slE p l c sz vs)) (hl : 0 < l) : ∃ b, p = some ⟨b, 0, none⟩ := by
 obtain ⟨f, hp, _⟩ := hs.take m
 obtain ⟨bs, ⟨_, _, _, h4⟩, _⟩ := slE_P.1 hp
 rcases h4 with ⟨h1, _, _⟩ | ⟨b, _, h1, _⟩
 ·omega
 ·exact ⟨b, h1⟩
theorem Sat.sl_len {h0 h : H} {A : List Ent} (hs : Sat h0 A h) {i : Nat} {p : Option Addr} {l c sz : Nat} {vs : List Value} (m : At A i (slE p l c sz vs)) : vs.length = l * sz := (hs.sv m).1
theorem Sat.sld {h0 h : H} {A : List Ent} (hs : Sat h0 A h) {i b l c sz : Nat} {vs : List Value} (m : At A i (slE (some ⟨b, 0, none⟩) l c sz vs)) {o : Nat} {v : Value} (e : vs[o]? = some v) : hc h ⟨b, o, none⟩ = some v := by
 obtain ⟨q, hq, g⟩ := hsv_get (hs.sv m) e
 injection hq with hq; subst hq
 rwa [add_mk, Nat.zero_add] at g
theorem OwnS.blk' {h : H} {b l c sz : Nat} {vs : List Value} {bs : List Nat} (o : OwnS h (some ⟨b, 0, none⟩) l c sz vs bs) (hv : 0 < l) : bs = [b] ∧ ∃ rest, Blk h b (vs ++ rest) ∧ (c - l) * sz ≤ rest.length := by
 obtain ⟨h1, _, _, h4⟩ := o
 rcases h4 with ⟨r, _, _⟩ | ⟨b', rest, e, h5, k, h6⟩
 ·omega
 ·injection e with e; injection e with e; subst e
  exact ⟨h5, rest, k, h6⟩
theorem Sat.scan {h0 h : H} {A : List Ent} (hs : Sat h0 A h) {i b l c sz : Nat} {vs : List Value} (m : At A i (slE (some ⟨b, 0, none⟩) l c sz vs)) {o n : Nat} (hl : 0 < l) (e : o + n ≤ vs.length) : hcan h ⟨b, o, none⟩ n := by
 obtain ⟨f, hp, _⟩ := hs.take m
 obtain ⟨bs, o', _⟩ := slE_P.1 hp
 obtain ⟨_, rest, k, _⟩ := o'.blk' hl
 exact k.can (by simp; omega)
theorem splice_left (vs rest : List Value) (o : Nat) (xs : List Value) (h : o + xs.length ≤ vs.length) : splice (vs ++ rest) o xs = splice vs o xs ++ rest := by
 induction xs generalizing vs o with
 | nil => rfl
 | cons x r ih =>
  simp only [List.length_cons] at h
  rw [splice_cons, splice_cons, List.set_append_left _ _ (by omega), ih _ _ (by simp; omega)]
theorem splice_mem {vs xs : List Value} {o : Nat} {v : Value} (h : v ∈ splice vs o xs) : v ∈ vs ∨ v ∈ xs := by
 induction xs generalizing vs o with
 | nil => exact Or.inl h
 | cons x r ih =>
  rw [splice_cons] at h
  rcases ih h with h | h
  ·rcases List.mem_or_eq_of_mem_set h with h | h
   ·exact Or.inl h
   ·exact Or.inr (by simp [h])
  ·exact Or.inr (by simp [h])
theorem Sat.swr {h0 h h' : H} {A : List Ent} (hs : Sat h0 A h) {i b l c sz : Nat} {vs : List Value} (m : At A i (slE (some ⟨b, 0, none⟩) l c sz vs)) {o : Nat} {xs : List Value} (e : h' = hwr h ⟨b, o, none⟩ xs) (hl : 0 < l) (hx : o + xs.length ≤ vs.length)
  (h1 : ∀ v, v ∈ xs → v.oneCell' = true) : Sat h0 (Vc.put A i (slE (some ⟨b, 0, none⟩) l c sz (splice vs o xs))) h' := by
 subst e
 refine hs.upd m fun f hp => ?_
 obtain ⟨bs, o', hf⟩ := slE_P.1 hp
 obtain ⟨e, rest, k, hr⟩ := o'.blk' hl
 subst e
 refine ⟨f, slE_P.2 ⟨[b], ⟨by rw [splice_length]; exact o'.1, o'.2.1, ?_, Or.inr ⟨b, rest, rfl, rfl, ?_, hr⟩⟩, hf⟩, fun _ => Or.inl, (Ext.wr h b o xs).mono fun x _ hx => (hf x).2 (by simp [hx])⟩
 ·intro v hv
  rcases splice_mem hv with hv | hv
  ·exact o'.2.2.1 v hv
  ·exact h1 v hv
 ·rw [← splice_left _ _ _ _ hx]; exact k.wr o xs

/-! ### Whole blocks -/
theorem Sat.wra {h0 h h' : H} {A : List Ent} (s : Sat h0 A h) {i b : Nat} {vs xs : List Value} (a : At A i (blk b vs)) (e : h' = hwr h ⟨b, 0, none⟩ xs) (hl : xs.length = vs.length) : Sat h0 (Vc.put A i (blk b xs)) h' := by
 have := s.wr a e
 rwa [splice_all _ _ hl] at this
theorem Sat.row0 {h0 h : H} {A : List Ent} (s : Sat h0 A h) {i b : Nat} {k : IntKind} {ns : List Int} (a : At A i (blk b (ints k ns))) : hrow h ⟨b, 0, none⟩ k ns :=
 s.row a fun i _ => by rw [Nat.zero_add, ints_get]

/-! ### Cells of a slice of slices -/
def cellAt (row : List Int) (k : Nat) : List Int := (row.drop (k * 32)).take 32
theorem cellAt_length {row : List Int} {k : Nat} (h : (k + 1) * 32 ≤ row.length) : (cellAt row k).length = 32 := by simp [cellAt]; omega
theorem cellAt_get (row : List Int) (k i : Nat) (hi : i < 32) : (cellAt row k)[i]? = row[k * 32 + i]? := by
 simp only [cellAt]
 rw [List.getElem?_take_of_lt hi, List.getElem?_drop]
theorem RdM.cell {h : H} {a : Sl} {rows : List (List Int)} (r : RdM h 32 a rows) {j k : Nat} (hj : j < rows.length) (hk : (k + 1) * 32 ≤ rows[j].length) :
  ∃ q x q', a.1 = some q ∧ hc h (q.add (j * 1)) = some (Sl.v x) ∧ x.2.1 * 32 = rows[j].length ∧ x.1 = some q' ∧ hrow h (q'.add (k * 32)) .u8 (cellAt rows[j] k) := by
 obtain ⟨q, x, h1, h2, h3⟩ := r.at hj
 have hl : x.2.1 * 32 = rows[j].length := by have := h3.1; simp at this; omega
 obtain ⟨e1, e2, e3⟩ := h3
 rcases e3 with e3 | ⟨q', hq, g⟩
 ·have : rows[j].length = 0 := by have := congrArg List.length e3; simpa using this
  omega
 ·refine ⟨q, x, q', h1, h2, hl, hq, ?_⟩
  intro i v hv
  have hi : i < 32 := by
   have := (List.getElem?_eq_some_iff.1 hv).1
   rw [ints_length, cellAt_length hk] at this; exact this
  rw [ints_get, cellAt_get _ _ _ hi] at hv
  have : (q'.add (k * 32)).add i = q'.add (k * 32 + i) := by
   cases q' with | mk b o s => unfold Addr.add; by_cases h1 : k * 32 = 0 <;> by_cases h2 : i = 0 <;> simp [h1, h2, Nat.add_assoc]
  rw [this]
  exact g _ _ (by rw [ints_get]; exact hv)

def rowSet (row : List Int) (k : Nat) (c : List Int) : List Int := row.take (k * 32) ++ c ++ row.drop (k * 32 + 32)
theorem rowSet_length {row c : List Int} {k : Nat} (hk : (k + 1) * 32 ≤ row.length) (hc : c.length = 32) : (rowSet row k c).length = row.length := by
 simp [rowSet, hc]; omega
/-! ### A row taken out of a slice of slices -/
end Go.Vc
end
