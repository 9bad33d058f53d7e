/- RomGate: what is proved and its parts, laid together by a program of ours: F F Hp Hs Lp -/
import Derived.Test.YteedolonhdbieaaGreatDoorK6
set_option autoImplicit false
set_option linter.all false
/- Denotations of functions of the program, printed by a program of ours, and that they are the model's. -/
section
set_option linter.unusedVariables false
set_option maxRecDepth 100000
namespace Go.Proofs.YteedolonhdbieaaGreatDoor
open Go Go.Vc
def G_rom_Rom_Boot (c0 : Addr → Addr → OA → Nat → Nat → (Int → Int → Int → OA → Nat → Nat → List Int → Int → H → Prop) → H → Prop) (c1 : OA → Nat → Nat → (List Int → H → Prop) → H → Prop) (c2 : Addr → (Int → H → Prop) → H → Prop) (c3 : Addr → List Int → Int → Int → Int → OA → Nat → Nat → List Int → Int → (H → Prop) → H → Prop) (a0 : Addr) (a1p : OA) (a1l : Nat) (a1c : Nat) (Q : Int → Int → Int → OA → Nat → Nat → List Int → Int → H → Prop) (h : H) : Prop := ∀ n10 h11, hnew h n10 (.int .i64 0 :: .int .i64 0 :: .int .i64 0 :: .slice none 0 0 :: ints .u8 (zeros 32)) h11 → c2 a0 (fun i13 h14 => if (i13 != 0) = true then hcan h14 ⟨n10, 0, none⟩ 36 ∧ ∀ h15, h15 = hwr h14 ⟨n10, 0, none⟩ (.int .i64 0 :: .int .i64 0 :: .int .i64 0 :: .slice none 0 0 :: ints .u8 (zeros 32)) → ∃ i17, hc h15 ⟨n10, 0, none⟩ = some (.int .i64 i17) ∧ ∃ i18, hc h15 ⟨n10, 1, none⟩ = some (.int .i64 i18) ∧ ∃ i19, hc h15 ⟨n10, 2, none⟩ = some (.int .i64 i19) ∧ ∃ o20 n21 n22, hc h15 ⟨n10, 3, none⟩ = some (.slice o20 n21 n22) ∧ ∃ (l23 : List Int), l23.length = 32 ∧ hrow h15 ⟨n10, 4, none⟩ .u8 l23 ∧ Q i17 i18 i19 o20 n21 n22 l23 i13 h15 else ∃ o24, hc h14 a0 = some (.pointer o24) ∧ ∃ o25, hc h14 (a0.add 2) = some (.pointer o25) ∧ (∃ p26, o24 = some p26 ∧ ∃ p27, o25 = some p27 ∧ c0 p26 p27 a1p a1l a1c (fun i28 i29 i30 o31 n32 n33 l34 i35 h36 => ∀ n37 h38, hnew h36 n37 (.int .i64 0 :: .int .i64 0 :: .int .i64 0 :: .slice none 0 0 :: ints .u8 (zeros 32)) h38 → hcan h38 ⟨n37, 0, none⟩ 36 ∧ ∀ h40, h40 = hwr h38 ⟨n37, 0, none⟩ (.int .i64 i28 :: .int .i64 i29 :: .int .i64 i30 :: .slice o31 n32 n33 :: (ints .u8 l34 ++ [])) → ∃ i42, hc h40 ⟨n37, 0, none⟩ = some (.int .i64 i42) ∧ ∃ i43, hc h40 ⟨n37, 1, none⟩ = some (.int .i64 i43) ∧ ∃ i44, hc h40 ⟨n37, 2, none⟩ = some (.int .i64 i44) ∧ ∃ o45 n46 n47, hc h40 ⟨n37, 3, none⟩ = some (.slice o45 n46 n47) ∧ ∃ (l48 : List Int), l48.length = 32 ∧ hrow h40 ⟨n37, 4, none⟩ .u8 l48 ∧ c1 a1p a1l a1c (fun l49 h50 => hcs h50 ⟨n37, 0, none⟩ (.int .i64 i42 :: .int .i64 i43 :: .int .i64 i44 :: .slice o45 n46 n47 :: (ints .u8 l48 ++ [])) ∧ c3 a0 l49 i42 i43 i44 o45 n46 n47 l48 i35 (fun h51 => ∃ i52, hc h51 ⟨n37, 0, none⟩ = some (.int .i64 i52) ∧ ∃ i53, hc h51 ⟨n37, 1, none⟩ = some (.int .i64 i53) ∧ ∃ i54, hc h51 ⟨n37, 2, none⟩ = some (.int .i64 i54) ∧ ∃ o55 n56 n57, hc h51 ⟨n37, 3, none⟩ = some (.slice o55 n56 n57) ∧ ∃ (l58 : List Int), l58.length = 32 ∧ hrow h51 ⟨n37, 4, none⟩ .u8 l58 ∧ hcan h51 ⟨n10, 0, none⟩ 36 ∧ ∀ h59, h59 = hwr h51 ⟨n10, 0, none⟩ (.int .i64 i52 :: .int .i64 i53 :: .int .i64 i54 :: .slice o55 n56 n57 :: (ints .u8 l58 ++ [])) → ∃ i61, hc h59 ⟨n10, 0, none⟩ = some (.int .i64 i61) ∧ ∃ i62, hc h59 ⟨n10, 1, none⟩ = some (.int .i64 i62) ∧ ∃ i63, hc h59 ⟨n10, 2, none⟩ = some (.int .i64 i63) ∧ ∃ o64 n65 n66, hc h59 ⟨n10, 3, none⟩ = some (.slice o64 n65 n66) ∧ ∃ (l67 : List Int), l67.length = 32 ∧ hrow h59 ⟨n10, 4, none⟩ .u8 l67 ∧ Q i61 i62 i63 o64 n65 n66 l67 i35 h59) h50) h40) h14) ∧ ∀ n68 h69, hnew h14 n68 (.int .i64 0 :: .int .i64 0 :: .int .i64 0 :: .slice none 0 0 :: ints .u8 (zeros 32)) h69 → hcs h69 (a0.add 2) [.pointer o25] ∧ hcs h69 a0 [.pointer o24] ∧ ∃ p71, o24 = some p71 ∧ ∃ p72, o25 = some p72 ∧ c0 p71 p72 a1p a1l a1c (fun i73 i74 i75 o76 n77 n78 l79 i80 h81 => hcan h81 ⟨n68, 0, none⟩ 36 ∧ ∀ h82, h82 = hwr h81 ⟨n68, 0, none⟩ (.int .i64 i73 :: .int .i64 i74 :: .int .i64 i75 :: .slice o76 n77 n78 :: (ints .u8 l79 ++ [])) → ∃ i84, hc h82 ⟨n68, 0, none⟩ = some (.int .i64 i84) ∧ ∃ i85, hc h82 ⟨n68, 1, none⟩ = some (.int .i64 i85) ∧ ∃ i86, hc h82 ⟨n68, 2, none⟩ = some (.int .i64 i86) ∧ ∃ o87 n88 n89, hc h82 ⟨n68, 3, none⟩ = some (.slice o87 n88 n89) ∧ ∃ (l90 : List Int), l90.length = 32 ∧ hrow h82 ⟨n68, 4, none⟩ .u8 l90 ∧ c1 a1p a1l a1c (fun l91 h92 => hcs h92 ⟨n68, 0, none⟩ (.int .i64 i84 :: .int .i64 i85 :: .int .i64 i86 :: .slice o87 n88 n89 :: (ints .u8 l90 ++ [])) ∧ c3 a0 l91 i84 i85 i86 o87 n88 n89 l90 i80 (fun h93 => ∃ i94, hc h93 ⟨n68, 0, none⟩ = some (.int .i64 i94) ∧ ∃ i95, hc h93 ⟨n68, 1, none⟩ = some (.int .i64 i95) ∧ ∃ i96, hc h93 ⟨n68, 2, none⟩ = some (.int .i64 i96) ∧ ∃ o97 n98 n99, hc h93 ⟨n68, 3, none⟩ = some (.slice o97 n98 n99) ∧ ∃ (l100 : List Int), l100.length = 32 ∧ hrow h93 ⟨n68, 4, none⟩ .u8 l100 ∧ hcan h93 ⟨n10, 0, none⟩ 36 ∧ ∀ h101, h101 = hwr h93 ⟨n10, 0, none⟩ (.int .i64 i94 :: .int .i64 i95 :: .int .i64 i96 :: .slice o97 n98 n99 :: (ints .u8 l100 ++ [])) → ∃ i103, hc h101 ⟨n10, 0, none⟩ = some (.int .i64 i103) ∧ ∃ i104, hc h101 ⟨n10, 1, none⟩ = some (.int .i64 i104) ∧ ∃ i105, hc h101 ⟨n10, 2, none⟩ = some (.int .i64 i105) ∧ ∃ o106 n107 n108, hc h101 ⟨n10, 3, none⟩ = some (.slice o106 n107 n108) ∧ ∃ (l109 : List Int), l109.length = 32 ∧ hrow h101 ⟨n10, 4, none⟩ .u8 l109 ∧ Q i103 i104 i105 o106 n107 n108 l109 i80 h101) h92) h82) h69) h11
theorem E_rom_Rom_Boot : ∀ c0 c1 c2 c3 a0 a1p a1l a1c Q h, G_rom_Rom_Boot c0 c1 c2 c3 a0 a1p a1l a1c Q h = Dbody PP [(12, W [.addr, .addr, .slc] [.ag [.int .i64, .int .i64, .int .i64, .slc, .row .u8 32], .int .i64] c0), (19, W [.slc] [.ag [.row .u8 32]] c1), (102, W [.addr] [.int .i64] c2), (103, W [.addr, .ag [.row .u8 32], .ag [.int .i64, .int .i64, .int .i64, .slc, .row .u8 32], .int .i64] [] c3)] [] Tryz.f27 [.addr a0, .one (.slice a1p a1l a1c)] (decR [.ag [.int .i64, .int .i64, .int .i64, .slc, .row .u8 32], .int .i64] Q) h := by intros; kernel_rfl
def F_rom_Rom_Boot := G_rom_Rom_Boot F_gate_Check F_sha_Of F_rom_Rom_begun F_rom_Rom_tried
theorem R_rom_Rom_Boot : RunOk PP 27 (W [.addr, .slc] [.ag [.int .i64, .int .i64, .int .i64, .slc, .row .u8 32], .int .i64] F_rom_Rom_Boot) := runOk_of (TblOk.cons R_gate_Check (TblOk.cons R_sha_Of (TblOk.cons R_rom_Rom_begun (TblOk.cons R_rom_Rom_tried (TblOk.nil))))) Tryz.func27 (by kernel_rfl) (by kernel_rfl) (E_rom_Rom_Boot _ _ _ _)
attribute [irreducible] F_rom_Rom_Boot
def G_store_Store_BumpTo_1 (c0 : Addr → (Int → H → Prop) → H → Prop) (a0 : Int) (a1 : Addr) (a2 : Addr) (Q : Int → H → Prop) (h : H) : Prop := if ltI a0 0 = true then Q 2 h else ∃ i6, hc h a1 = some (.int .i64 i6) ∧ if ltI i6 a0 = true then ∃ o7, hc h a2 = some (.pointer o7) ∧ ∃ p8, o7 = some p8 ∧ c0 p8 (fun i9 h10 => if ltI i9 a0 = true then Q 10 h10 else Q 0 h10) h else Q 0 h
theorem E_store_Store_BumpTo_1 : ∀ c0 a0 a1 a2 Q h, G_store_Store_BumpTo_1 c0 a0 a1 a2 Q h = Dbody PP [(78, W [.addr] [.int .i64] c0)] [] Tryz.f99 [.one (.int .i64 a0), .addr a1, .addr a2] (decR [.int .i64] Q) h := by intros; kernel_rfl
def F_store_Store_BumpTo_1 := G_store_Store_BumpTo_1 F_store_Store_Last
theorem R_store_Store_BumpTo_1 : RunOk PP 99 (W [.int .i64, .addr, .addr] [.int .i64] F_store_Store_BumpTo_1) := runOk_of (TblOk.cons R_store_Store_Last (TblOk.nil)) Tryz.func99 (by kernel_rfl) (by kernel_rfl) (E_store_Store_BumpTo_1 _)
attribute [irreducible] F_store_Store_BumpTo_1
def G_cell_Value (c0 : Int → Int → Int → (List Int → H → Prop) → H → Prop) (a0 : Int) (a1 : Int) (Q : List Int → Int → H → Prop) (h : H) : Prop := ∀ n5 h6, hnew h n5 (ints .u8 (zeros 32)) h6 → if ltI a0 0 = true then hcan h6 ⟨n5, 0, none⟩ 32 ∧ ∀ h8, h8 = hwr h6 ⟨n5, 0, none⟩ (ints .u8 (zeros 32)) → ∃ (l10 : List Int), l10.length = 32 ∧ hrow h8 ⟨n5, 0, none⟩ .u8 l10 ∧ Q l10 2 h8 else if ltI 8 a0 = true then hcan h6 ⟨n5, 0, none⟩ 32 ∧ ∀ h11, h11 = hwr h6 ⟨n5, 0, none⟩ (ints .u8 (zeros 32)) → ∃ (l13 : List Int), l13.length = 32 ∧ hrow h11 ⟨n5, 0, none⟩ .u8 l13 ∧ Q l13 2 h11 else if ltI a1 1 = true then hcan h6 ⟨n5, 0, none⟩ 32 ∧ ∀ h14, h14 = hwr h6 ⟨n5, 0, none⟩ (ints .u8 (zeros 32)) → ∃ (l16 : List Int), l16.length = 32 ∧ hrow h14 ⟨n5, 0, none⟩ .u8 l16 ∧ Q l16 2 h14 else ∀ (i17 : Int), i17 = 4611686018427387904 → if ltI i17 a1 = true then hcan h6 ⟨n5, 0, none⟩ 32 ∧ ∀ h19, h19 = hwr h6 ⟨n5, 0, none⟩ (ints .u8 (zeros 32)) → ∃ (l21 : List Int), l21.length = 32 ∧ hrow h19 ⟨n5, 0, none⟩ .u8 l21 ∧ Q l21 2 h19 else c0 2 a0 a1 (fun l22 h23 => hcan h23 ⟨n5, 0, none⟩ 32 ∧ ∀ h24, h24 = hwr h23 ⟨n5, 0, none⟩ (ints .u8 l22 ++ []) → ∃ (l26 : List Int), l26.length = 32 ∧ hrow h24 ⟨n5, 0, none⟩ .u8 l26 ∧ Q l26 0 h24) h6
theorem E_cell_Value : ∀ c0 a0 a1 Q h, G_cell_Value c0 a0 a1 Q h = Dbody PP [(235, W [.int .u8, .int .i64, .int .i64] [.ag [.row .u8 32]] c0)] [] Tryz.f168 [.one (.int .i64 a0), .one (.int .i64 a1)] (decR [.ag [.row .u8 32], .int .i64] Q) h := by intros; kernel_rfl
def F_cell_Value := G_cell_Value F_cell_laid
theorem R_cell_Value : RunOk PP 168 (W [.int .i64, .int .i64] [.ag [.row .u8 32], .int .i64] F_cell_Value) := runOk_of (TblOk.cons R_cell_laid (TblOk.nil)) Tryz.func168 (by kernel_rfl) (by kernel_rfl) (E_cell_Value _)
attribute [irreducible] F_cell_Value
def G_chip_Chip_Program (c0 : Addr → (Value → Int → H → Prop) → H → Prop) (c1 : Addr → Int → Int → (Int → H → Prop) → H → Prop) (a0 : Addr) (a1 : Int) (a2 : Int) (a3_0 : List Int) (Q : Int → H → Prop) (h : H) : Prop := ∀ n8 h9, hnew h n8 (ints .u8 a3_0 ++ []) h9 → c1 a0 a1 a2 (fun i11 h12 => if (i11 != 0) = true then Q i11 h12 else c0 a0 (fun v13 i14 h15 => ∃ o16 n17 n18, hc h15 (a0.add 7) = some (.slice o16 n17 n18) ∧ ∃ p19, o16 = some p19 ∧ 0 ≤ a1 ∧ a1 < (↑n17 : Int) ∧ ∃ o20 n21 n22, hc h15 (p19.add (a1.toNat * 1)) = some (.slice o20 n21 n22) ∧ ∃ p23, o20 = some p23 ∧ 0 ≤ a2 ∧ a2 < (↑n21 : Int) ∧ ∃ (l24 : List Int), l24.length = 32 ∧ hrow h15 (p23.add (a2.toNat * 32)) .u8 l24 ∧ ∀ n25 h26, hnew h15 n25 (ints .u8 (zeros 32)) h26 → hcan h26 ⟨n25, 0, none⟩ 32 ∧ ∀ h28, h28 = hwr h26 ⟨n25, 0, none⟩ (ints .u8 l24 ++ []) → ∃ (l30 : List Int), l30.length = 32 ∧ hrow h28 ⟨n25, 0, none⟩ .u8 l30 ∧ ∀ n31 h32, hnew h28 n31 (ints .u8 (zeros 32)) h32 → hcan h32 ⟨n31, 0, none⟩ 32 ∧ ∀ h34, h34 = hwr h32 ⟨n31, 0, none⟩ (ints .u8 l30 ++ []) → ∀ (J36 : JT), (∀ (i37 : Int) (h38 : H), (if ltI i37 32 = true then 0 ≤ i37 ∧ i37 < (↑32 : Int) ∧ ∃ i39, hc h38 ((Addr.mk n31 0 none).add (i37.toNat * 1)) = some (.int .u8 i39) ∧ 0 ≤ i37 ∧ i37 < (↑32 : Int) ∧ ∃ i40, hc h38 ((Addr.mk n8 0 none).add (i37.toNat * 1)) = some (.int .u8 i40) ∧ callFn PP v13 [DV.one (.int .i64 i37)] (fun l41 h42 => ∃ (x43 : DV), ∃ (l44 : List DV), l41 = x43 :: l44 ∧ ∃ (i45 : Int), x43 = DV.one (.int .u8 i45) ∧ l44 = [] ∧ hcs h42 ((Addr.mk n8 0 none).add (i37.toNat * 1)) [.int .u8 i40] ∧ hcs h42 ((Addr.mk n31 0 none).add (i37.toNat * 1)) [.int .u8 i39] ∧ 0 ≤ i37 ∧ i37 < (↑32 : Int) ∧ hcan h42 ((Addr.mk n31 0 none).add (i37.toNat * 1)) 1 ∧ ∀ h46, h46 = hwr h42 ((Addr.mk n31 0 none).add (i37.toNat * 1)) [.int .u8 (bits .andNot .u8 i39 (bits .andNot .u8 i45 i40))] → J36 [.dv (.one (.int .i64 (IntKind.i64.wrap (i37 + 1))))] h46) h38 else ∃ (l48 : List Int), l48.length = 32 ∧ hrow h38 ⟨n31, 0, none⟩ .u8 l48 ∧ ∃ (l49 : List Int), l49.length = 32 ∧ hrow h38 ⟨n25, 0, none⟩ .u8 l49 ∧ if (!l48 == l49) = true then ∃ o50 n51 n52, hc h38 (a0.add 7) = some (.slice o50 n51 n52) ∧ ∃ p53, o50 = some p53 ∧ 0 ≤ a1 ∧ a1 < (↑n51 : Int) ∧ ∃ o54 n55 n56, hc h38 (p53.add (a1.toNat * 1)) = some (.slice o54 n55 n56) ∧ ∃ (l57 : List Int), l57.length = 32 ∧ hrow h38 ⟨n31, 0, none⟩ .u8 l57 ∧ ∃ p58, o54 = some p58 ∧ 0 ≤ a2 ∧ a2 < (↑n55 : Int) ∧ hcan h38 (p58.add (a2.toNat * 32)) 32 ∧ ∀ h59, h59 = hwr h38 (p58.add (a2.toNat * 32)) (ints .u8 l57 ++ []) → Q i14 h59 else Q i14 h38) → J36 [.dv (.one (.int .i64 i37))] h38) → J36 [.dv (.one (.int .i64 0))] h34) h12) h9
theorem E_chip_Chip_Program : ∀ c0 c1 a0 a1 a2 a3_0 Q h, G_chip_Chip_Program c0 c1 a0 a1 a2 a3_0 Q h = Dbody PP [(223, W [.addr] [.fn, .int .i64] c0), (236, W [.addr, .int .i64, .int .i64] [.int .i64] c1)] [(506, [(39, .sc (.int .i64))])] Tryz.f169 [.addr a0, .one (.int .i64 a1), .one (.int .i64 a2), .agg [.row .u8 32 a3_0]] (decR [.int .i64] Q) h := by intros; kernel_rfl
def F_chip_Chip_Program := G_chip_Chip_Program F_chip_Chip_begins F_chip_Chip_asksCell
theorem R_chip_Chip_Program : RunOk PP 169 (W [.addr, .int .i64, .int .i64, .ag [.row .u8 32]] [.int .i64] F_chip_Chip_Program) := runOk_of (TblOk.cons R_chip_Chip_begins (TblOk.cons R_chip_Chip_asksCell (TblOk.nil))) Tryz.func169 (by kernel_rfl) (by kernel_rfl) (E_chip_Chip_Program _ _)
attribute [irreducible] F_chip_Chip_Program
def G_log_found_target (a0_0 : Int) (a0_1 : List Int) (a0_2 : Int) (a0_3 : Bool) (a0_4 : Int) (a0_5 : Int) (a0_6 : List Int) (a0_7 : Int) (a0_8 : Bool) (a0_9 : Int) (a0_10 : Int) (Q : Int → H → Prop) (h : H) : Prop := ∀ n13 h14, hnew h n13 (.int .i64 a0_0 :: (ints .i64 a0_1 ++ .int .i64 a0_2 :: .bool a0_3 :: .int .i64 a0_4 :: .int .i64 a0_5 :: (ints .i64 a0_6 ++ [.int .i64 a0_7, .bool a0_8, .int .i64 a0_9, .int .i64 a0_10]))) h14 → ∃ i16, hc h14 ⟨n13, 26, none⟩ = some (.int .i64 i16) ∧ if (i16 == 0) = true then Q 1 h14 else Q 0 h14
theorem E_log_found_target : ∀ a0_0 a0_1 a0_2 a0_3 a0_4 a0_5 a0_6 a0_7 a0_8 a0_9 a0_10 Q h, G_log_found_target a0_0 a0_1 a0_2 a0_3 a0_4 a0_5 a0_6 a0_7 a0_8 a0_9 a0_10 Q h = Dbody PP [] [] Tryz.f237 [.agg [.c (.int .i64 a0_0), .row .i64 9 a0_1, .c (.int .i64 a0_2), .c (.bool a0_3), .c (.int .i64 a0_4), .c (.int .i64 a0_5), .row .i64 9 a0_6, .c (.int .i64 a0_7), .c (.bool a0_8), .c (.int .i64 a0_9), .c (.int .i64 a0_10)]] (decR [.int .i64] Q) h := by intros; kernel_rfl
def F_log_found_target := G_log_found_target
theorem R_log_found_target : RunOk PP 237 (W [.ag [.int .i64, .row .i64 9, .int .i64, .bool, .int .i64, .int .i64, .row .i64 9, .int .i64, .bool, .int .i64, .int .i64]] [.int .i64] F_log_found_target) := runOk_of (TblOk.nil) Tryz.func237 (by kernel_rfl) (by kernel_rfl) (E_log_found_target)
attribute [irreducible] F_log_found_target
def G_log_Log_worn (c0 : Addr → (Int → Int → Int → Int → Int → Int → Int → H → Prop) → H → Prop) (c1 : Int → List Int → Int → Bool → Int → Int → List Int → Int → Bool → Int → Int → (Int → List Int → Int → Bool → Int → H → Prop) → H → Prop) (c2 : Addr → Int → (Int → Int → H → Prop) → H → Prop) (c3 : Int → List Int → Int → Bool → Int → Int → List Int → Int → Bool → Int → Int → (Int → H → Prop) → H → Prop) (a0 : Addr) (a1_0 : Int) (a1_1 : List Int) (a1_2 : Int) (a1_3 : Bool) (a1_4 : Int) (a1_5 : Int) (a1_6 : List Int) (a1_7 : Int) (a1_8 : Bool) (a1_9 : Int) (a1_10 : Int) (Q : Bool → H → Prop) (h : H) : Prop := ∀ n18 h19, hnew h n18 (.int .i64 a1_0 :: (ints .i64 a1_1 ++ .int .i64 a1_2 :: .bool a1_3 :: .int .i64 a1_4 :: .int .i64 a1_5 :: (ints .i64 a1_6 ++ [.int .i64 a1_7, .bool a1_8, .int .i64 a1_9, .int .i64 a1_10]))) h19 → ∃ o21, hc h19 a0 = some (.pointer o21) ∧ ∃ i22, hc h19 ⟨n18, 0, none⟩ = some (.int .i64 i22) ∧ ∃ (l23 : List Int), l23.length = 9 ∧ hrow h19 ⟨n18, 1, none⟩ .i64 l23 ∧ ∃ i24, hc h19 ⟨n18, 10, none⟩ = some (.int .i64 i24) ∧ ∃ b25, hc h19 ⟨n18, 11, none⟩ = some (.bool b25) ∧ ∃ i26, hc h19 ⟨n18, 12, none⟩ = some (.int .i64 i26) ∧ ∃ i27, hc h19 ⟨n18, 13, none⟩ = some (.int .i64 i27) ∧ ∃ (l28 : List Int), l28.length = 9 ∧ hrow h19 ⟨n18, 14, none⟩ .i64 l28 ∧ ∃ i29, hc h19 ⟨n18, 23, none⟩ = some (.int .i64 i29) ∧ ∃ b30, hc h19 ⟨n18, 24, none⟩ = some (.bool b30) ∧ ∃ i31, hc h19 ⟨n18, 25, none⟩ = some (.int .i64 i31) ∧ ∃ i32, hc h19 ⟨n18, 26, none⟩ = some (.int .i64 i32) ∧ c3 i22 l23 i24 b25 i26 i27 l28 i29 b30 i31 i32 (fun i33 h34 => hcs h34 a0 [.pointer o21] ∧ ∃ p35, o21 = some p35 ∧ c2 p35 i33 (fun i36 i37 h38 => ∃ i39, hc h38 ⟨n18, 0, none⟩ = some (.int .i64 i39) ∧ ∃ (l40 : List Int), l40.length = 9 ∧ hrow h38 ⟨n18, 1, none⟩ .i64 l40 ∧ ∃ i41, hc h38 ⟨n18, 10, none⟩ = some (.int .i64 i41) ∧ ∃ b42, hc h38 ⟨n18, 11, none⟩ = some (.bool b42) ∧ ∃ i43, hc h38 ⟨n18, 12, none⟩ = some (.int .i64 i43) ∧ ∃ i44, hc h38 ⟨n18, 13, none⟩ = some (.int .i64 i44) ∧ ∃ (l45 : List Int), l45.length = 9 ∧ hrow h38 ⟨n18, 14, none⟩ .i64 l45 ∧ ∃ i46, hc h38 ⟨n18, 23, none⟩ = some (.int .i64 i46) ∧ ∃ b47, hc h38 ⟨n18, 24, none⟩ = some (.bool b47) ∧ ∃ i48, hc h38 ⟨n18, 25, none⟩ = some (.int .i64 i48) ∧ ∃ i49, hc h38 ⟨n18, 26, none⟩ = some (.int .i64 i49) ∧ c3 i39 l40 i41 b42 i43 i44 l45 i46 b47 i48 i49 (fun i50 h51 => 0 ≤ i50 ∧ i50 < (↑2 : Int) ∧ ∃ b52, hc h51 (((Addr.mk n18 0 none).add (i50.toNat * 13)).add 11) = some (.bool b52) ∧ if (!b52) = true then ∃ o53, hc h51 a0 = some (.pointer o53) ∧ ∃ p54, o53 = some p54 ∧ c0 p54 (fun i55 i56 i57 i58 i59 i60 i61 h62 => if leI i60 i36 = true then Q true h62 else ∃ i63, hc h62 ⟨n18, 0, none⟩ = some (.int .i64 i63) ∧ ∃ (l64 : List Int), l64.length = 9 ∧ hrow h62 ⟨n18, 1, none⟩ .i64 l64 ∧ ∃ i65, hc h62 ⟨n18, 10, none⟩ = some (.int .i64 i65) ∧ ∃ b66, hc h62 ⟨n18, 11, none⟩ = some (.bool b66) ∧ ∃ i67, hc h62 ⟨n18, 12, none⟩ = some (.int .i64 i67) ∧ ∃ i68, hc h62 ⟨n18, 13, none⟩ = some (.int .i64 i68) ∧ ∃ (l69 : List Int), l69.length = 9 ∧ hrow h62 ⟨n18, 14, none⟩ .i64 l69 ∧ ∃ i70, hc h62 ⟨n18, 23, none⟩ = some (.int .i64 i70) ∧ ∃ b71, hc h62 ⟨n18, 24, none⟩ = some (.bool b71) ∧ ∃ i72, hc h62 ⟨n18, 25, none⟩ = some (.int .i64 i72) ∧ ∃ i73, hc h62 ⟨n18, 26, none⟩ = some (.int .i64 i73) ∧ c1 i63 l64 i65 b66 i67 i68 l69 i70 b71 i72 i73 (fun i74 l75 i76 b77 i78 h79 => ∀ (i80 : Int), i80 = 4611686018427387904 → Q (leI i80 i74) h79) h62) h51 else ∃ i82, hc h51 ⟨n18, 0, none⟩ = some (.int .i64 i82) ∧ ∃ (l83 : List Int), l83.length = 9 ∧ hrow h51 ⟨n18, 1, none⟩ .i64 l83 ∧ ∃ i84, hc h51 ⟨n18, 10, none⟩ = some (.int .i64 i84) ∧ ∃ b85, hc h51 ⟨n18, 11, none⟩ = some (.bool b85) ∧ ∃ i86, hc h51 ⟨n18, 12, none⟩ = some (.int .i64 i86) ∧ ∃ i87, hc h51 ⟨n18, 13, none⟩ = some (.int .i64 i87) ∧ ∃ (l88 : List Int), l88.length = 9 ∧ hrow h51 ⟨n18, 14, none⟩ .i64 l88 ∧ ∃ i89, hc h51 ⟨n18, 23, none⟩ = some (.int .i64 i89) ∧ ∃ b90, hc h51 ⟨n18, 24, none⟩ = some (.bool b90) ∧ ∃ i91, hc h51 ⟨n18, 25, none⟩ = some (.int .i64 i91) ∧ ∃ i92, hc h51 ⟨n18, 26, none⟩ = some (.int .i64 i92) ∧ c1 i82 l83 i84 b85 i86 i87 l88 i89 b90 i91 i92 (fun i93 l94 i95 b96 i97 h98 => ∀ (i99 : Int), i99 = 4611686018427387904 → Q (leI i99 i93) h98) h51) h38) h34) h19
theorem E_log_Log_worn : ∀ c0 c1 c2 c3 a0 a1_0 a1_1 a1_2 a1_3 a1_4 a1_5 a1_6 a1_7 a1_8 a1_9 a1_10 Q h, G_log_Log_worn c0 c1 c2 c3 a0 a1_0 a1_1 a1_2 a1_3 a1_4 a1_5 a1_6 a1_7 a1_8 a1_9 a1_10 Q h = Dbody PP [(63, W [.addr] [.ag [.int .i64, .int .i64, .int .i64, .int .i64, .int .i64, .int .i64, .int .i64]] c0), (167, W [.ag [.int .i64, .row .i64 9, .int .i64, .bool, .int .i64, .int .i64, .row .i64 9, .int .i64, .bool, .int .i64, .int .i64]] [.ag [.int .i64, .row .i64 9, .int .i64, .bool, .int .i64]] c1), (195, W [.addr, .int .i64] [.int .i64, .int .i64] c2), (237, W [.ag [.int .i64, .row .i64 9, .int .i64, .bool, .int .i64, .int .i64, .row .i64 9, .int .i64, .bool, .int .i64, .int .i64]] [.int .i64] c3)] [] Tryz.f170 [.addr a0, .agg [.c (.int .i64 a1_0), .row .i64 9 a1_1, .c (.int .i64 a1_2), .c (.bool a1_3), .c (.int .i64 a1_4), .c (.int .i64 a1_5), .row .i64 9 a1_6, .c (.int .i64 a1_7), .c (.bool a1_8), .c (.int .i64 a1_9), .c (.int .i64 a1_10)]] (decR [.bool] Q) h := by intros; kernel_rfl
def F_log_Log_worn := G_log_Log_worn F_chip_Chip_Config F_log_found_info F_chip_Chip_Erases F_log_found_target
theorem R_log_Log_worn : RunOk PP 170 (W [.addr, .ag [.int .i64, .row .i64 9, .int .i64, .bool, .int .i64, .int .i64, .row .i64 9, .int .i64, .bool, .int .i64, .int .i64]] [.bool] F_log_Log_worn) := runOk_of (TblOk.cons R_chip_Chip_Config (TblOk.cons R_log_found_info (TblOk.cons R_chip_Chip_Erases (TblOk.cons R_log_found_target (TblOk.nil))))) Tryz.func170 (by kernel_rfl) (by kernel_rfl) (E_log_Log_worn _ _ _ _)
attribute [irreducible] F_log_Log_worn
def G_chip_Chip_Erase (c0 : Addr → Int → Int → (Int → H → Prop) → H → Prop) (c1 : Addr → (Value → Int → H → Prop) → H → Prop) (a0 : Addr) (a1 : Int) (Q : Int → H → Prop) (h : H) : Prop := ∃ o6 n7 n8, hc h (a0.add 7) = some (.slice o6 n7 n8) ∧ c0 a0 a1 (↑n7 : Int) (fun i9 h10 => if (i9 != 0) = true then Q i9 h10 else ∃ o11 n12 n13, hc h10 (a0.add 8) = some (.slice o11 n12 n13) ∧ ∃ p14, o11 = some p14 ∧ 0 ≤ a1 ∧ a1 < (↑n12 : Int) ∧ ∃ i15, hc h10 (p14.add (a1.toNat * 1)) = some (.int .i64 i15) ∧ ∃ i16, hc h10 (a0.add 5) = some (.int .i64 i16) ∧ if leI i16 i15 = true then Q 9 h10 else c1 a0 (fun v17 i18 h19 => ∃ o20 n21 n22, hc h19 (a0.add 8) = some (.slice o20 n21 n22) ∧ ∃ p23, o20 = some p23 ∧ 0 ≤ a1 ∧ a1 < (↑n21 : Int) ∧ ∃ i24, hc h19 (p23.add (a1.toNat * 1)) = some (.int .i64 i24) ∧ ∃ p25, o20 = some p25 ∧ 0 ≤ a1 ∧ a1 < (↑n21 : Int) ∧ hcan h19 (p25.add (a1.toNat * 1)) 1 ∧ ∀ h26, h26 = hwr h19 (p25.add (a1.toNat * 1)) [.int .i64 (IntKind.i64.wrap (i24 + 1))] → ∃ o28 n29 n30, hc h26 (a0.add 7) = some (.slice o28 n29 n30) ∧ ∃ p31, o28 = some p31 ∧ 0 ≤ a1 ∧ a1 < (↑n29 : Int) ∧ ∃ o32 n33 n34, hc h26 (p31.add (a1.toNat * 1)) = some (.slice o32 n33 n34) ∧ ∀ (J35 : JT), (∀ (i36 : Int) (h37 : H), (if ltI i36 n33 = true then ∃ o38 n39 n40, hc h37 (a0.add 7) = some (.slice o38 n39 n40) ∧ ∃ p41, o38 = some p41 ∧ 0 ≤ a1 ∧ a1 < (↑n39 : Int) ∧ ∃ o42 n43 n44, hc h37 (p41.add (a1.toNat * 1)) = some (.slice o42 n43 n44) ∧ ∃ p45, o42 = some p45 ∧ 0 ≤ i36 ∧ i36 < n43 ∧ ∀ (J46 : JT), (∀ (i47 : Int) (h48 : H), (if ltI i47 32 = true then 0 ≤ i47 ∧ i47 < (↑32 : Int) ∧ ∃ i49, hc h48 ((p45.add (i36.toNat * 32)).add (i47.toNat * 1)) = some (.int .u8 i49) ∧ callFn PP v17 [DV.one (.int .i64 (IntKind.i64.wrap (IntKind.i64.wrap (i36 * 32) + i47)))] (fun l50 h51 => ∃ (x52 : DV), ∃ (l53 : List DV), l50 = x52 :: l53 ∧ ∃ (i54 : Int), x52 = DV.one (.int .u8 i54) ∧ l53 = [] ∧ hcs h51 ((p45.add (i36.toNat * 32)).add (i47.toNat * 1)) [.int .u8 i49] ∧ 0 ≤ i47 ∧ i47 < (↑32 : Int) ∧ hcan h51 ((p45.add (i36.toNat * 32)).add (i47.toNat * 1)) 1 ∧ ∀ h55, h55 = hwr h51 ((p45.add (i36.toNat * 32)).add (i47.toNat * 1)) [.int .u8 (bits .or .u8 i49 i54)] → J46 [.dv (.one (.int .i64 (IntKind.i64.wrap (i47 + 1))))] h55) h48 else J35 [.dv (.one (.int .i64 (IntKind.i64.wrap (i36 + 1))))] h48) → J46 [.dv (.one (.int .i64 i47))] h48) → J46 [.dv (.one (.int .i64 0))] h37 else Q i18 h37) → J35 [.dv (.one (.int .i64 i36))] h37) → J35 [.dv (.one (.int .i64 0))] h26) h10) h
theorem E_chip_Chip_Erase : ∀ c0 c1 a0 a1 Q h, G_chip_Chip_Erase c0 c1 a0 a1 Q h = Dbody PP [(222, W [.addr, .int .i64, .int .i64] [.int .i64] c0), (223, W [.addr] [.fn, .int .i64] c1)] [(506, [(61, .sc (.int .i64))]), (259278, [(74, .sc (.int .i64))])] Tryz.f199 [.addr a0, .one (.int .i64 a1)] (decR [.int .i64] Q) h := by intros; kernel_rfl
def F_chip_Chip_Erase := G_chip_Chip_Erase F_chip_Chip_asked F_chip_Chip_begins
theorem R_chip_Chip_Erase : RunOk PP 199 (W [.addr, .int .i64] [.int .i64] F_chip_Chip_Erase) := runOk_of (TblOk.cons R_chip_Chip_asked (TblOk.cons R_chip_Chip_begins (TblOk.nil))) Tryz.func199 (by kernel_rfl) (by kernel_rfl) (E_chip_Chip_Erase _ _)
attribute [irreducible] F_chip_Chip_Erase
def G_log_Log_turn_1 (c0 : Int → Int → (List Int → Int → H → Prop) → H → Prop) (c1 : Addr → Int → Int → List Int → (Int → H → Prop) → H → Prop) (a0 : Int) (a1 : Int) (a2 : Addr) (a3 : Addr) (a4 : Addr) (Q : Int → H → Prop) (h : H) : Prop := c0 a0 a1 (fun l9 i10 h11 => ∀ n12 h13, hnew h11 n12 (ints .u8 (zeros 32)) h13 → hcan h13 ⟨n12, 0, none⟩ 32 ∧ ∀ h15, h15 = hwr h13 ⟨n12, 0, none⟩ (ints .u8 l9 ++ []) → if (i10 != 0) = true then Q i10 h15 else ∃ i17, hc h15 a2 = some (.int .i64 i17) ∧ hcan h15 a2 1 ∧ ∀ h18, h18 = hwr h15 a2 [.int .i64 (IntKind.i64.wrap (i17 + 1))] → ∃ o20, hc h18 a3 = some (.pointer o20) ∧ ∃ p21, o20 = some p21 ∧ ∃ o22, hc h18 p21 = some (.pointer o22) ∧ ∃ i23, hc h18 a4 = some (.int .i64 i23) ∧ ∃ i24, hc h18 a2 = some (.int .i64 i24) ∧ ∃ (l25 : List Int), l25.length = 32 ∧ hrow h18 ⟨n12, 0, none⟩ .u8 l25 ∧ ∃ p26, o22 = some p26 ∧ c1 p26 i23 (IntKind.i64.wrap (i24 - 1)) l25 (fun i27 h28 => Q i27 h28) h18) h
theorem E_log_Log_turn_1 : ∀ c0 c1 a0 a1 a2 a3 a4 Q h, G_log_Log_turn_1 c0 c1 a0 a1 a2 a3 a4 Q h = Dbody PP [(168, W [.int .i64, .int .i64] [.ag [.row .u8 32], .int .i64] c0), (169, W [.addr, .int .i64, .int .i64, .ag [.row .u8 32]] [.int .i64] c1)] [] Tryz.f238 [.one (.int .i64 a0), .one (.int .i64 a1), .addr a2, .addr a3, .addr a4] (decR [.int .i64] Q) h := by intros; kernel_rfl
def F_log_Log_turn_1 := G_log_Log_turn_1 F_cell_Value F_chip_Chip_Program
theorem R_log_Log_turn_1 : RunOk PP 238 (W [.int .i64, .int .i64, .addr, .addr, .addr] [.int .i64] F_log_Log_turn_1) := runOk_of (TblOk.cons R_cell_Value (TblOk.cons R_chip_Chip_Program (TblOk.nil))) Tryz.func238 (by kernel_rfl) (by kernel_rfl) (E_log_Log_turn_1 _ _)
attribute [irreducible] F_log_Log_turn_1
def G_cell_Head (c0 : Int → Int → Int → (List Int → H → Prop) → H → Prop) (a0 : Int) (Q : List Int → Int → H → Prop) (h : H) : Prop := ∀ n4 h5, hnew h n4 (ints .u8 (zeros 32)) h5 → if ltI a0 1 = true then hcan h5 ⟨n4, 0, none⟩ 32 ∧ ∀ h7, h7 = hwr h5 ⟨n4, 0, none⟩ (ints .u8 (zeros 32)) → ∃ (l9 : List Int), l9.length = 32 ∧ hrow h7 ⟨n4, 0, none⟩ .u8 l9 ∧ Q l9 2 h7 else ∀ (i10 : Int), i10 = 4611686018427387904 → if ltI i10 a0 = true then hcan h5 ⟨n4, 0, none⟩ 32 ∧ ∀ h12, h12 = hwr h5 ⟨n4, 0, none⟩ (ints .u8 (zeros 32)) → ∃ (l14 : List Int), l14.length = 32 ∧ hrow h12 ⟨n4, 0, none⟩ .u8 l14 ∧ Q l14 2 h12 else c0 1 0 a0 (fun l15 h16 => hcan h16 ⟨n4, 0, none⟩ 32 ∧ ∀ h17, h17 = hwr h16 ⟨n4, 0, none⟩ (ints .u8 l15 ++ []) → ∃ (l19 : List Int), l19.length = 32 ∧ hrow h17 ⟨n4, 0, none⟩ .u8 l19 ∧ Q l19 0 h17) h5
theorem E_cell_Head : ∀ c0 a0 Q h, G_cell_Head c0 a0 Q h = Dbody PP [(235, W [.int .u8, .int .i64, .int .i64] [.ag [.row .u8 32]] c0)] [] Tryz.f239 [.one (.int .i64 a0)] (decR [.ag [.row .u8 32], .int .i64] Q) h := by intros; kernel_rfl
def F_cell_Head := G_cell_Head F_cell_laid
theorem R_cell_Head : RunOk PP 239 (W [.int .i64] [.ag [.row .u8 32], .int .i64] F_cell_Head) := runOk_of (TblOk.cons R_cell_laid (TblOk.nil)) Tryz.func239 (by kernel_rfl) (by kernel_rfl) (E_cell_Head _)
attribute [irreducible] F_cell_Head
def G_log_Log_turn (c0 : Addr → (Int → Int → Int → Int → Int → Int → Int → H → Prop) → H → Prop) (c1 : Int → List Int → Int → Bool → Int → Int → List Int → Int → Bool → Int → Int → (Int → List Int → Int → Bool → Int → H → Prop) → H → Prop) (c2 : Addr → Int → Int → List Int → (Int → H → Prop) → H → Prop) (c3 : Addr → Int → (Int → H → Prop) → H → Prop) (c4 : Int → List Int → Int → Bool → Int → Int → List Int → Int → Bool → Int → Int → (Int → H → Prop) → H → Prop) (c5 : Int → Int → Addr → Addr → Addr → (Int → H → Prop) → H → Prop) (c6 : Int → (List Int → Int → H → Prop) → H → Prop) (a0 : Addr) (a1_0 : Int) (a1_1 : List Int) (a1_2 : Int) (a1_3 : Bool) (a1_4 : Int) (a1_5 : Int) (a1_6 : List Int) (a1_7 : Int) (a1_8 : Bool) (a1_9 : Int) (a1_10 : Int) (a2 : Int) (a3 : Int) (Q : Int → H → Prop) (h : H) : Prop := ∀ n23 h24, hnew h n23 [.pointer (some a0)] h24 → ∀ n26 h27, hnew h24 n26 (.int .i64 a1_0 :: (ints .i64 a1_1 ++ .int .i64 a1_2 :: .bool a1_3 :: .int .i64 a1_4 :: .int .i64 a1_5 :: (ints .i64 a1_6 ++ [.int .i64 a1_7, .bool a1_8, .int .i64 a1_9, .int .i64 a1_10]))) h27 → ∃ i29, hc h27 ⟨n26, 0, none⟩ = some (.int .i64 i29) ∧ ∃ (l30 : List Int), l30.length = 9 ∧ hrow h27 ⟨n26, 1, none⟩ .i64 l30 ∧ ∃ i31, hc h27 ⟨n26, 10, none⟩ = some (.int .i64 i31) ∧ ∃ b32, hc h27 ⟨n26, 11, none⟩ = some (.bool b32) ∧ ∃ i33, hc h27 ⟨n26, 12, none⟩ = some (.int .i64 i33) ∧ ∃ i34, hc h27 ⟨n26, 13, none⟩ = some (.int .i64 i34) ∧ ∃ (l35 : List Int), l35.length = 9 ∧ hrow h27 ⟨n26, 14, none⟩ .i64 l35 ∧ ∃ i36, hc h27 ⟨n26, 23, none⟩ = some (.int .i64 i36) ∧ ∃ b37, hc h27 ⟨n26, 24, none⟩ = some (.bool b37) ∧ ∃ i38, hc h27 ⟨n26, 25, none⟩ = some (.int .i64 i38) ∧ ∃ i39, hc h27 ⟨n26, 26, none⟩ = some (.int .i64 i39) ∧ c4 i29 l30 i31 b32 i33 i34 l35 i36 b37 i38 i39 (fun i40 h41 => ∀ n42 h43, hnew h41 n42 [.int .i64 0] h43 → hcan h43 ⟨n42, 0, none⟩ 1 ∧ ∀ h45, h45 = hwr h43 ⟨n42, 0, none⟩ [.int .i64 i40] → ∀ (J47 : JT), (∀ (h48 : H), (∀ n49 h50, hnew h48 n49 [.int .i64 0] h50 → hcan h50 ⟨n49, 0, none⟩ 1 ∧ ∀ h52, h52 = hwr h50 ⟨n49, 0, none⟩ [.int .i64 1] → ∃ i54, hc h52 ⟨n26, 0, none⟩ = some (.int .i64 i54) ∧ ∃ (l55 : List Int), l55.length = 9 ∧ hrow h52 ⟨n26, 1, none⟩ .i64 l55 ∧ ∃ i56, hc h52 ⟨n26, 10, none⟩ = some (.int .i64 i56) ∧ ∃ b57, hc h52 ⟨n26, 11, none⟩ = some (.bool b57) ∧ ∃ i58, hc h52 ⟨n26, 12, none⟩ = some (.int .i64 i58) ∧ ∃ i59, hc h52 ⟨n26, 13, none⟩ = some (.int .i64 i59) ∧ ∃ (l60 : List Int), l60.length = 9 ∧ hrow h52 ⟨n26, 14, none⟩ .i64 l60 ∧ ∃ i61, hc h52 ⟨n26, 23, none⟩ = some (.int .i64 i61) ∧ ∃ b62, hc h52 ⟨n26, 24, none⟩ = some (.bool b62) ∧ ∃ i63, hc h52 ⟨n26, 25, none⟩ = some (.int .i64 i63) ∧ ∃ i64, hc h52 ⟨n26, 26, none⟩ = some (.int .i64 i64) ∧ c1 i54 l55 i56 b57 i58 i59 l60 i61 b62 i63 i64 (fun i65 l66 i67 b68 i69 h70 => ∀ n71 h72, hnew h70 n71 (ints .i64 (zeros 9)) h72 → hcan h72 ⟨n71, 0, none⟩ 9 ∧ ∀ h74, h74 = hwr h72 ⟨n71, 0, none⟩ (ints .i64 l66 ++ []) → 0 ≤ a2 ∧ a2 < (↑9 : Int) ∧ hcan h74 ((Addr.mk n71 0 none).add (a2.toNat * 1)) 1 ∧ ∀ h76, h76 = hwr h74 ((Addr.mk n71 0 none).add (a2.toNat * 1)) [.int .i64 a3] → ∃ o78, hc h76 ⟨n23, 0, none⟩ = some (.pointer o78) ∧ ∃ p79, o78 = some p79 ∧ ∃ o80, hc h76 p79 = some (.pointer o80) ∧ ∃ p81, o80 = some p81 ∧ c0 p81 (fun i82 i83 i84 i85 i86 i87 i88 h89 => ∀ (J90 : JT), (∀ (i91 : Int) (h92 : H), (if ltI i91 (IntKind.i64.wrap (i83 + 1)) = true then 0 ≤ i91 ∧ i91 < (↑9 : Int) ∧ ∃ i93, hc h92 ((Addr.mk n71 0 none).add (i91.toNat * 1)) = some (.int .i64 i93) ∧ if (i93 == 0) = true then J90 [.dv (.one (.int .i64 (IntKind.i64.wrap (i91 + 1))))] h92 else 0 ≤ i91 ∧ i91 < (↑9 : Int) ∧ ∃ i94, hc h92 ((Addr.mk n71 0 none).add (i91.toNat * 1)) = some (.int .i64 i94) ∧ c5 i91 i94 (Addr.mk n49 0 none) (Addr.mk n23 0 none) (Addr.mk n42 0 none) (fun i95 h96 => if (i95 != 0) = true then Q i95 h96 else J90 [.dv (.one (.int .i64 (IntKind.i64.wrap (i91 + 1))))] h96) h92 else ∃ i97, hc h92 ⟨n26, 0, none⟩ = some (.int .i64 i97) ∧ ∃ (l98 : List Int), l98.length = 9 ∧ hrow h92 ⟨n26, 1, none⟩ .i64 l98 ∧ ∃ i99, hc h92 ⟨n26, 10, none⟩ = some (.int .i64 i99) ∧ ∃ b100, hc h92 ⟨n26, 11, none⟩ = some (.bool b100) ∧ ∃ i101, hc h92 ⟨n26, 12, none⟩ = some (.int .i64 i101) ∧ ∃ i102, hc h92 ⟨n26, 13, none⟩ = some (.int .i64 i102) ∧ ∃ (l103 : List Int), l103.length = 9 ∧ hrow h92 ⟨n26, 14, none⟩ .i64 l103 ∧ ∃ i104, hc h92 ⟨n26, 23, none⟩ = some (.int .i64 i104) ∧ ∃ b105, hc h92 ⟨n26, 24, none⟩ = some (.bool b105) ∧ ∃ i106, hc h92 ⟨n26, 25, none⟩ = some (.int .i64 i106) ∧ ∃ i107, hc h92 ⟨n26, 26, none⟩ = some (.int .i64 i107) ∧ c1 i97 l98 i99 b100 i101 i102 l103 i104 b105 i106 i107 (fun i108 l109 i110 b111 i112 h113 => c6 (IntKind.i64.wrap (i108 + 1)) (fun l114 i115 h116 => ∀ n117 h118, hnew h116 n117 (ints .u8 (zeros 32)) h118 → hcan h118 ⟨n117, 0, none⟩ 32 ∧ ∀ h120, h120 = hwr h118 ⟨n117, 0, none⟩ (ints .u8 l114 ++ []) → if (i115 != 0) = true then Q i115 h120 else ∃ o122, hc h120 ⟨n23, 0, none⟩ = some (.pointer o122) ∧ ∃ p123, o122 = some p123 ∧ ∃ o124, hc h120 p123 = some (.pointer o124) ∧ ∃ i125, hc h120 ⟨n42, 0, none⟩ = some (.int .i64 i125) ∧ ∃ (l126 : List Int), l126.length = 32 ∧ hrow h120 ⟨n117, 0, none⟩ .u8 l126 ∧ ∃ p127, o124 = some p127 ∧ c2 p127 i125 0 l126 (fun i128 h129 => Q i128 h129) h120) h113) h92) → J90 [.dv (.one (.int .i64 i91))] h92) → J90 [.dv (.one (.int .i64 0))] h89) h76) h52) → J47 [] h48) → ∃ i134, hc h45 ⟨n42, 0, none⟩ = some (.int .i64 i134) ∧ 0 ≤ i134 ∧ i134 < (↑2 : Int) ∧ ∃ b135, hc h45 (((Addr.mk n26 0 none).add (i134.toNat * 13)).add 11) = some (.bool b135) ∧ if (!b135) = true then ∃ o136, hc h45 ⟨n23, 0, none⟩ = some (.pointer o136) ∧ ∃ p137, o136 = some p137 ∧ ∃ o138, hc h45 p137 = some (.pointer o138) ∧ ∃ i139, hc h45 ⟨n42, 0, none⟩ = some (.int .i64 i139) ∧ ∃ p140, o138 = some p140 ∧ c3 p140 i139 (fun i141 h142 => if (i141 != 0) = true then Q i141 h142 else J47 [] h142) h45 else J47 [] h45) h27
theorem E_log_Log_turn : ∀ c0 c1 c2 c3 c4 c5 c6 a0 a1_0 a1_1 a1_2 a1_3 a1_4 a1_5 a1_6 a1_7 a1_8 a1_9 a1_10 a2 a3 Q h, G_log_Log_turn c0 c1 c2 c3 c4 c5 c6 a0 a1_0 a1_1 a1_2 a1_3 a1_4 a1_5 a1_6 a1_7 a1_8 a1_9 a1_10 a2 a3 Q h = Dbody PP [(63, W [.addr] [.ag [.int .i64, .int .i64, .int .i64, .int .i64, .int .i64, .int .i64, .int .i64]] c0), (167, W [.ag [.int .i64, .row .i64 9, .int .i64, .bool, .int .i64, .int .i64, .row .i64 9, .int .i64, .bool, .int .i64, .int .i64]] [.ag [.int .i64, .row .i64 9, .int .i64, .bool, .int .i64]] c1), (169, W [.addr, .int .i64, .int .i64, .ag [.row .u8 32]] [.int .i64] c2), (199, W [.addr, .int .i64] [.int .i64] c3), (237, W [.ag [.int .i64, .row .i64 9, .int .i64, .bool, .int .i64, .int .i64, .row .i64 9, .int .i64, .bool, .int .i64, .int .i64]] [.int .i64] c4), (238, W [.int .i64, .int .i64, .addr, .addr, .addr] [.int .i64] c5), (239, W [.int .i64] [.ag [.row .u8 32], .int .i64] c6)] [(7, []), (2042, [(49, .sc (.int .i64))])] Tryz.f171 [.addr a0, .agg [.c (.int .i64 a1_0), .row .i64 9 a1_1, .c (.int .i64 a1_2), .c (.bool a1_3), .c (.int .i64 a1_4), .c (.int .i64 a1_5), .row .i64 9 a1_6, .c (.int .i64 a1_7), .c (.bool a1_8), .c (.int .i64 a1_9), .c (.int .i64 a1_10)], .one (.int .i64 a2), .one (.int .i64 a3)] (decR [.int .i64] Q) h := by intros; kernel_rfl
def F_log_Log_turn := G_log_Log_turn F_chip_Chip_Config F_log_found_info F_chip_Chip_Program F_chip_Chip_Erase F_log_found_target F_log_Log_turn_1 F_cell_Head
theorem R_log_Log_turn : RunOk PP 171 (W [.addr, .ag [.int .i64, .row .i64 9, .int .i64, .bool, .int .i64, .int .i64, .row .i64 9, .int .i64, .bool, .int .i64, .int .i64], .int .i64, .int .i64] [.int .i64] F_log_Log_turn) := runOk_of (TblOk.cons R_chip_Chip_Config (TblOk.cons R_log_found_info (TblOk.cons R_chip_Chip_Program (TblOk.cons R_chip_Chip_Erase (TblOk.cons R_log_found_target (TblOk.cons R_log_Log_turn_1 (TblOk.cons R_cell_Head (TblOk.nil)))))))) Tryz.func171 (by kernel_rfl) (by kernel_rfl) (E_log_Log_turn _ _ _ _ _ _ _)
attribute [irreducible] F_log_Log_turn
def G_log_Log_Lay (c0 : Addr → (Int → Int → Int → Int → Int → Int → Int → H → Prop) → H → Prop) (c1 : Addr → (Int → List Int → Int → Bool → Int → Int → List Int → Int → Bool → Int → Int → Int → H → Prop) → H → Prop) (c2 : Addr → Int → (Bool → H → Prop) → H → Prop) (c3 : Int → List Int → Int → Bool → Int → Int → List Int → Int → Bool → Int → Int → (Int → List Int → Int → Bool → Int → H → Prop) → H → Prop) (c4 : Int → Int → (List Int → Int → H → Prop) → H → Prop) (c5 : Addr → Int → Int → List Int → (Int → H → Prop) → H → Prop) (c6 : Addr → Int → List Int → Int → Bool → Int → Int → List Int → Int → Bool → Int → Int → (Bool → H → Prop) → H → Prop) (c7 : Addr → Int → List Int → Int → Bool → Int → Int → List Int → Int → Bool → Int → Int → Int → Int → (Int → H → Prop) → H → Prop) (a0 : Addr) (a1 : Int) (a2 : Int) (Q : Int → H → Prop) (h : H) : Prop := c1 a0 (fun i13 l14 i15 b16 i17 i18 l19 i20 b21 i22 i23 i24 h25 => ∀ n26 h27, hnew h25 n26 (.int .i64 0 :: (ints .i64 (zeros 9) ++ .int .i64 0 :: .bool false :: .int .i64 0 :: .int .i64 0 :: (ints .i64 (zeros 9) ++ [.int .i64 0, .bool false, .int .i64 0, .int .i64 0]))) h27 → hcan h27 ⟨n26, 0, none⟩ 27 ∧ ∀ h29, h29 = hwr h27 ⟨n26, 0, none⟩ (.int .i64 i13 :: (ints .i64 l14 ++ .int .i64 i15 :: .bool b16 :: .int .i64 i17 :: .int .i64 i18 :: (ints .i64 l19 ++ [.int .i64 i20, .bool b21, .int .i64 i22, .int .i64 i23]))) → if (i24 != 0) = true then Q i24 h29 else ∀ (J31 : JT), (∀ (b32 : Bool) (h33 : H), (if b32 = true then Q 2 h33 else ∃ i34, hc h33 ⟨n26, 0, none⟩ = some (.int .i64 i34) ∧ ∃ (l35 : List Int), l35.length = 9 ∧ hrow h33 ⟨n26, 1, none⟩ .i64 l35 ∧ ∃ i36, hc h33 ⟨n26, 10, none⟩ = some (.int .i64 i36) ∧ ∃ b37, hc h33 ⟨n26, 11, none⟩ = some (.bool b37) ∧ ∃ i38, hc h33 ⟨n26, 12, none⟩ = some (.int .i64 i38) ∧ ∃ i39, hc h33 ⟨n26, 13, none⟩ = some (.int .i64 i39) ∧ ∃ (l40 : List Int), l40.length = 9 ∧ hrow h33 ⟨n26, 14, none⟩ .i64 l40 ∧ ∃ i41, hc h33 ⟨n26, 23, none⟩ = some (.int .i64 i41) ∧ ∃ b42, hc h33 ⟨n26, 24, none⟩ = some (.bool b42) ∧ ∃ i43, hc h33 ⟨n26, 25, none⟩ = some (.int .i64 i43) ∧ ∃ i44, hc h33 ⟨n26, 26, none⟩ = some (.int .i64 i44) ∧ c3 i34 l35 i36 b37 i38 i39 l40 i41 b42 i43 i44 (fun i45 l46 i47 b48 i49 h50 => 0 ≤ a1 ∧ a1 < (↑9 : Int) ∧ if leI a2 (l46.getD a1.toNat 0) = true then Q 11 h50 else ∃ i51, hc h50 ⟨n26, 0, none⟩ = some (.int .i64 i51) ∧ ∃ (l52 : List Int), l52.length = 9 ∧ hrow h50 ⟨n26, 1, none⟩ .i64 l52 ∧ ∃ i53, hc h50 ⟨n26, 10, none⟩ = some (.int .i64 i53) ∧ ∃ b54, hc h50 ⟨n26, 11, none⟩ = some (.bool b54) ∧ ∃ i55, hc h50 ⟨n26, 12, none⟩ = some (.int .i64 i55) ∧ ∃ i56, hc h50 ⟨n26, 13, none⟩ = some (.int .i64 i56) ∧ ∃ (l57 : List Int), l57.length = 9 ∧ hrow h50 ⟨n26, 14, none⟩ .i64 l57 ∧ ∃ i58, hc h50 ⟨n26, 23, none⟩ = some (.int .i64 i58) ∧ ∃ b59, hc h50 ⟨n26, 24, none⟩ = some (.bool b59) ∧ ∃ i60, hc h50 ⟨n26, 25, none⟩ = some (.int .i64 i60) ∧ ∃ i61, hc h50 ⟨n26, 26, none⟩ = some (.int .i64 i61) ∧ c3 i51 l52 i53 b54 i55 i56 l57 i58 b59 i60 i61 (fun i62 l63 i64 b65 i66 h67 => ∀ n68 h69, hnew h67 n68 (.int .i64 0 :: (ints .i64 (zeros 9) ++ [.int .i64 0, .bool false, .int .i64 0])) h69 → hcan h69 ⟨n68, 0, none⟩ 13 ∧ ∀ h71, h71 = hwr h69 ⟨n68, 0, none⟩ (.int .i64 i62 :: (ints .i64 l63 ++ [.int .i64 i64, .bool b65, .int .i64 i66])) → ∀ (J73 : JT), (∀ (b74 : Bool) (h75 : H), (if b74 = true then c4 a1 a2 (fun l76 i77 h78 => ∀ n79 h80, hnew h78 n79 (ints .u8 (zeros 32)) h80 → hcan h80 ⟨n79, 0, none⟩ 32 ∧ ∀ h82, h82 = hwr h80 ⟨n79, 0, none⟩ (ints .u8 l76 ++ []) → if (i77 != 0) = true then Q i77 h82 else ∃ o84, hc h82 a0 = some (.pointer o84) ∧ ∃ i85, hc h82 ⟨n26, 26, none⟩ = some (.int .i64 i85) ∧ ∃ i86, hc h82 ⟨n68, 10, none⟩ = some (.int .i64 i86) ∧ ∃ (l87 : List Int), l87.length = 32 ∧ hrow h82 ⟨n79, 0, none⟩ .u8 l87 ∧ ∃ p88, o84 = some p88 ∧ c5 p88 i85 i86 l87 (fun i89 h90 => Q i89 h90) h82) h75 else ∃ i91, hc h75 ⟨n26, 0, none⟩ = some (.int .i64 i91) ∧ ∃ (l92 : List Int), l92.length = 9 ∧ hrow h75 ⟨n26, 1, none⟩ .i64 l92 ∧ ∃ i93, hc h75 ⟨n26, 10, none⟩ = some (.int .i64 i93) ∧ ∃ b94, hc h75 ⟨n26, 11, none⟩ = some (.bool b94) ∧ ∃ i95, hc h75 ⟨n26, 12, none⟩ = some (.int .i64 i95) ∧ ∃ i96, hc h75 ⟨n26, 13, none⟩ = some (.int .i64 i96) ∧ ∃ (l97 : List Int), l97.length = 9 ∧ hrow h75 ⟨n26, 14, none⟩ .i64 l97 ∧ ∃ i98, hc h75 ⟨n26, 23, none⟩ = some (.int .i64 i98) ∧ ∃ b99, hc h75 ⟨n26, 24, none⟩ = some (.bool b99) ∧ ∃ i100, hc h75 ⟨n26, 25, none⟩ = some (.int .i64 i100) ∧ ∃ i101, hc h75 ⟨n26, 26, none⟩ = some (.int .i64 i101) ∧ c6 a0 i91 l92 i93 b94 i95 i96 l97 i98 b99 i100 i101 (fun b102 h103 => if b102 = true then Q 9 h103 else ∃ i104, hc h103 ⟨n26, 0, none⟩ = some (.int .i64 i104) ∧ ∃ (l105 : List Int), l105.length = 9 ∧ hrow h103 ⟨n26, 1, none⟩ .i64 l105 ∧ ∃ i106, hc h103 ⟨n26, 10, none⟩ = some (.int .i64 i106) ∧ ∃ b107, hc h103 ⟨n26, 11, none⟩ = some (.bool b107) ∧ ∃ i108, hc h103 ⟨n26, 12, none⟩ = some (.int .i64 i108) ∧ ∃ i109, hc h103 ⟨n26, 13, none⟩ = some (.int .i64 i109) ∧ ∃ (l110 : List Int), l110.length = 9 ∧ hrow h103 ⟨n26, 14, none⟩ .i64 l110 ∧ ∃ i111, hc h103 ⟨n26, 23, none⟩ = some (.int .i64 i111) ∧ ∃ b112, hc h103 ⟨n26, 24, none⟩ = some (.bool b112) ∧ ∃ i113, hc h103 ⟨n26, 25, none⟩ = some (.int .i64 i113) ∧ ∃ i114, hc h103 ⟨n26, 26, none⟩ = some (.int .i64 i114) ∧ c7 a0 i104 l105 i106 b107 i108 i109 l110 i111 b112 i113 i114 a1 a2 (fun i115 h116 => Q i115 h116) h103) h75) → J73 [.dv (.one (.bool b74))] h75) → ∃ i119, hc h71 ⟨n26, 26, none⟩ = some (.int .i64 i119) ∧ if leI 0 i119 = true then ∃ i120, hc h71 ⟨n68, 10, none⟩ = some (.int .i64 i120) ∧ ∃ o121, hc h71 a0 = some (.pointer o121) ∧ ∃ p122, o121 = some p122 ∧ c0 p122 (fun i123 i124 i125 i126 i127 i128 i129 h130 => hcs h130 ⟨n68, 10, none⟩ [.int .i64 i120] ∧ J73 [.dv (.one (.bool (ltI i120 i123)))] h130) h71 else J73 [.dv (.one (.bool false))] h71) h50) h33) → J31 [.dv (.one (.bool b32))] h33) → c2 a0 a1 (fun b133 h134 => if (!b133) = true then J31 [.dv (.one (.bool true))] h134 else if ltI a2 1 = true then J31 [.dv (.one (.bool true))] h134 else ∀ (i135 : Int), i135 = 4611686018427387904 → J31 [.dv (.one (.bool (ltI i135 a2)))] h134) h29) h
theorem E_log_Log_Lay : ∀ c0 c1 c2 c3 c4 c5 c6 c7 a0 a1 a2 Q h, G_log_Log_Lay c0 c1 c2 c3 c4 c5 c6 c7 a0 a1 a2 Q h = Dbody PP [(63, W [.addr] [.ag [.int .i64, .int .i64, .int .i64, .int .i64, .int .i64, .int .i64, .int .i64]] c0), (165, W [.addr] [.ag [.int .i64, .row .i64 9, .int .i64, .bool, .int .i64, .int .i64, .row .i64 9, .int .i64, .bool, .int .i64, .int .i64], .int .i64] c1), (166, W [.addr, .int .i64] [.bool] c2), (167, W [.ag [.int .i64, .row .i64 9, .int .i64, .bool, .int .i64, .int .i64, .row .i64 9, .int .i64, .bool, .int .i64, .int .i64]] [.ag [.int .i64, .row .i64 9, .int .i64, .bool, .int .i64]] c3), (168, W [.int .i64, .int .i64] [.ag [.row .u8 32], .int .i64] c4), (169, W [.addr, .int .i64, .int .i64, .ag [.row .u8 32]] [.int .i64] c5), (170, W [.addr, .ag [.int .i64, .row .i64 9, .int .i64, .bool, .int .i64, .int .i64, .row .i64 9, .int .i64, .bool, .int .i64, .int .i64]] [.bool] c6), (171, W [.addr, .ag [.int .i64, .row .i64 9, .int .i64, .bool, .int .i64, .int .i64, .row .i64 9, .int .i64, .bool, .int .i64, .int .i64], .int .i64, .int .i64] [.int .i64] c7)] [(61, [(57, .sc (.bool))]), (115, [(21, .sc (.bool))])] Tryz.f100 [.addr a0, .one (.int .i64 a1), .one (.int .i64 a2)] (decR [.int .i64] Q) h := by intros; kernel_rfl
def F_log_Log_Lay := G_log_Log_Lay F_chip_Chip_Config F_log_Log_look F_log_Log_slot F_log_found_info F_cell_Value F_chip_Chip_Program F_log_Log_worn F_log_Log_turn
theorem R_log_Log_Lay : RunOk PP 100 (W [.addr, .int .i64, .int .i64] [.int .i64] F_log_Log_Lay) := runOk_of (TblOk.cons R_chip_Chip_Config (TblOk.cons R_log_Log_look (TblOk.cons R_log_Log_slot (TblOk.cons R_log_found_info (TblOk.cons R_cell_Value (TblOk.cons R_chip_Chip_Program (TblOk.cons R_log_Log_worn (TblOk.cons R_log_Log_turn (TblOk.nil))))))))) Tryz.func100 (by kernel_rfl) (by kernel_rfl) (E_log_Log_Lay _ _ _ _ _ _ _ _)
attribute [irreducible] F_log_Log_Lay
def G_fuse_Raise (c0 : Addr → (Int → Int → Int → Int → Int → Int → Int → H → Prop) → H → Prop) (c1 : Addr → Int → (Int → H → Prop) → H → Prop) (c2 : Addr → Int → Int → (Int → H → Prop) → H → Prop) (c3 : Addr → Int → (Int → Int → Int → H → Prop) → H → Prop) (a0 : Addr) (a1 : Int) (a2 : Int) (Q : Int → H → Prop) (h : H) : Prop := c0 a0 (fun i9 i10 i11 i12 i13 i14 i15 h16 => c2 a0 a1 i10 (fun i17 h18 => if (i17 != 0) = true then Q i17 h18 else ∀ (J19 : JT), (∀ (h20 : H), (∀ (J21 : JT), (∀ (h22 : H), c3 a0 a1 (fun i23 i24 i25 h26 => if (i25 != 0) = true then Q i25 h26 else if leI a2 i23 = true then Q i25 h26 else c1 a0 i24 (fun i27 h28 => if (i27 != 0) = true then Q i27 h28 else J21 [] h28) h26) h22 → J21 [] h22) → J21 [] h20) → J19 [] h20) → if ltI a2 0 = true then Q 2 h18 else c0 a0 (fun i33 i34 i35 i36 i37 i38 i39 h40 => if ltI i35 a2 = true then Q 2 h40 else J19 [] h40) h18) h16) h
theorem E_fuse_Raise : ∀ c0 c1 c2 c3 a0 a1 a2 Q h, G_fuse_Raise c0 c1 c2 c3 a0 a1 a2 Q h = Dbody PP [(63, W [.addr] [.ag [.int .i64, .int .i64, .int .i64, .int .i64, .int .i64, .int .i64, .int .i64]] c0), (144, W [.addr, .int .i64] [.int .i64] c1), (172, W [.addr, .int .i64, .int .i64] [.int .i64] c2), (173, W [.addr, .int .i64] [.int .i64, .int .i64, .int .i64] c3)] [(7, []), (30, [])] Tryz.f101 [.addr a0, .one (.int .i64 a1), .one (.int .i64 a2)] (decR [.int .i64] Q) h := by intros; kernel_rfl
def F_fuse_Raise := G_fuse_Raise F_chip_Chip_Config F_chip_Chip_Blow F_fuse_asked F_fuse_row
theorem R_fuse_Raise : RunOk PP 101 (W [.addr, .int .i64, .int .i64] [.int .i64] F_fuse_Raise) := runOk_of (TblOk.cons R_chip_Chip_Config (TblOk.cons R_chip_Chip_Blow (TblOk.cons R_fuse_asked (TblOk.cons R_fuse_row (TblOk.nil))))) Tryz.func101 (by kernel_rfl) (by kernel_rfl) (E_fuse_Raise _ _ _ _)
attribute [irreducible] F_fuse_Raise
def G_store_Store_BumpTo (c0 : Addr → (Int → Int → Int → Int → Int → Int → Int → H → Prop) → H → Prop) (c1 : Addr → Int → (Int → Int → H → Prop) → H → Prop) (c2 : Int → Addr → Addr → (Int → H → Prop) → H → Prop) (c3 : Addr → Int → Int → (Int → H → Prop) → H → Prop) (c4 : Addr → Int → Int → (Int → H → Prop) → H → Prop) (a0 : Addr) (a1 : Int) (a2 : Int) (Q : Int → H → Prop) (h : H) : Prop := ∀ n10 h11, hnew h n10 [.pointer (some a0)] h11 → ∃ o13, hc h11 ⟨n10, 0, none⟩ = some (.pointer o13) ∧ ∃ p14, o13 = some p14 ∧ c1 p14 a1 (fun i15 i16 h17 => ∀ n18 h19, hnew h17 n18 [.int .i64 0] h19 → hcan h19 ⟨n18, 0, none⟩ 1 ∧ ∀ h21, h21 = hwr h19 ⟨n18, 0, none⟩ [.int .i64 i15] → if (i16 != 0) = true then Q i16 h21 else ∀ (J23 : JT), (∀ (h24 : H), (∃ o25, hc h24 ⟨n10, 0, none⟩ = some (.pointer o25) ∧ ∃ p26, o25 = some p26 ∧ ∃ o27, hc h24 (p26.add 1) = some (.pointer o27) ∧ ∃ p28, o27 = some p28 ∧ c3 p28 a1 a2 (fun i29 h30 => if (i29 != 0) = true then Q i29 h30 else ∃ o31, hc h30 ⟨n10, 0, none⟩ = some (.pointer o31) ∧ ∃ p32, o31 = some p32 ∧ ∃ o33, hc h30 p32 = some (.pointer o33) ∧ ∃ o34, hc h30 ⟨n10, 0, none⟩ = some (.pointer o34) ∧ ∃ p35, o34 = some p35 ∧ ∃ o36, hc h30 p35 = some (.pointer o36) ∧ ∃ p37, o36 = some p37 ∧ c0 p37 (fun i38 i39 i40 i41 i42 i43 i44 h45 => hcs h45 p32 [.pointer o33] ∧ hcs h45 ⟨n10, 0, none⟩ [.pointer o31] ∧ i41 ≠ 0 ∧ ∃ p46, o33 = some p46 ∧ c4 p46 a1 (IntKind.i64.wrap (a2.tdiv i41)) (fun i47 h48 => Q i47 h48) h45) h30) h24) → J23 [] h24) → c2 a2 (Addr.mk n18 0 none) (Addr.mk n10 0 none) (fun i51 h52 => if (i51 != 0) = true then Q i51 h52 else ∃ i53, hc h52 ⟨n18, 0, none⟩ = some (.int .i64 i53) ∧ if leI a2 i53 = true then Q i51 h52 else J23 [] h52) h21) h11
theorem E_store_Store_BumpTo : ∀ c0 c1 c2 c3 c4 a0 a1 a2 Q h, G_store_Store_BumpTo c0 c1 c2 c3 c4 a0 a1 a2 Q h = Dbody PP [(63, W [.addr] [.ag [.int .i64, .int .i64, .int .i64, .int .i64, .int .i64, .int .i64, .int .i64]] c0), (70, W [.addr, .int .i64] [.int .i64, .int .i64] c1), (99, W [.int .i64, .addr, .addr] [.int .i64] c2), (100, W [.addr, .int .i64, .int .i64] [.int .i64] c3), (101, W [.addr, .int .i64, .int .i64] [.int .i64] c4)] [(31, [])] Tryz.f25 [.addr a0, .one (.int .i64 a1), .one (.int .i64 a2)] (decR [.int .i64] Q) h := by intros; kernel_rfl
def F_store_Store_BumpTo := G_store_Store_BumpTo F_chip_Chip_Config F_store_Store_Read F_store_Store_BumpTo_1 F_log_Log_Lay F_fuse_Raise
theorem R_store_Store_BumpTo : RunOk PP 25 (W [.addr, .int .i64, .int .i64] [.int .i64] F_store_Store_BumpTo) := runOk_of (TblOk.cons R_chip_Chip_Config (TblOk.cons R_store_Store_Read (TblOk.cons R_store_Store_BumpTo_1 (TblOk.cons R_log_Log_Lay (TblOk.cons R_fuse_Raise (TblOk.nil)))))) Tryz.func25 (by kernel_rfl) (by kernel_rfl) (E_store_Store_BumpTo _ _ _ _ _)
attribute [irreducible] F_store_Store_BumpTo
def G_rom_Rom_Confirm (c0 : Addr → Int → Int → (Int → H → Prop) → H → Prop) (c1 : Addr → (Bool → H → Prop) → H → Prop) (a0 : Addr) (Q : Int → H → Prop) (h : H) : Prop := ∃ o5, hc h (a0.add 1) = some (.pointer o5) ∧ ∃ p6, o5 = some p6 ∧ c1 p6 (fun b7 h8 => if b7 = true then Q 8 h8 else ∃ b9, hc h8 (a0.add 6) = some (.bool b9) ∧ if (!b9) = true then Q 11 h8 else ∃ o10, hc h8 a0 = some (.pointer o10) ∧ ∃ i11, hc h8 (a0.add 7) = some (.int .i64 i11) ∧ ∃ i12, hc h8 (a0.add 9) = some (.int .i64 i12) ∧ ∃ p13, o10 = some p13 ∧ c0 p13 i11 i12 (fun i14 h15 => Q i14 h15) h8) h
theorem E_rom_Rom_Confirm : ∀ c0 c1 a0 Q h, G_rom_Rom_Confirm c0 c1 a0 Q h = Dbody PP [(25, W [.addr, .int .i64, .int .i64] [.int .i64] c0), (42, W [.addr] [.bool] c1)] [] Tryz.f87 [.addr a0] (decR [.int .i64] Q) h := by intros; kernel_rfl
def F_rom_Rom_Confirm := G_rom_Rom_Confirm F_store_Store_BumpTo F_chip_Chip_Out
theorem R_rom_Rom_Confirm : RunOk PP 87 (W [.addr] [.int .i64] F_rom_Rom_Confirm) := runOk_of (TblOk.cons R_store_Store_BumpTo (TblOk.cons R_chip_Chip_Out (TblOk.nil))) Tryz.func87 (by kernel_rfl) (by kernel_rfl) (E_rom_Rom_Confirm _ _)
attribute [irreducible] F_rom_Rom_Confirm
def G_rom_Rom_Events (c0 : Addr → (OA → Nat → Nat → H → Prop) → H → Prop) (a0 : Addr) (Q : OA → Nat → Nat → H → Prop) (h : H) : Prop := ∃ o4, hc h (a0.add 4) = some (.pointer o4) ∧ ∃ p5, o4 = some p5 ∧ c0 p5 (fun o6 n7 n8 h9 => Q o6 n7 n8 h9) h
theorem E_rom_Rom_Events : ∀ c0 a0 Q h, G_rom_Rom_Events c0 a0 Q h = Dbody PP [(161, W [.addr] [.slc] c0)] [] Tryz.f88 [.addr a0] (decR [.slc] Q) h := by intros; kernel_rfl
def F_rom_Rom_Events := G_rom_Rom_Events F_chain_Log_Events
theorem R_rom_Rom_Events : RunOk PP 88 (W [.addr] [.slc] F_rom_Rom_Events) := runOk_of (TblOk.cons R_chain_Log_Events (TblOk.nil)) Tryz.func88 (by kernel_rfl) (by kernel_rfl) (E_rom_Rom_Events _)
attribute [irreducible] F_rom_Rom_Events
def G_portcullislaw17_awake (c0 : Int → Int → Int → Int → Int → Int → Int → (OA → Int → H → Prop) → H → Prop) (c1 : Addr → OA → Nat → Nat → OA → Nat → Nat → (OA → Int → H → Prop) → H → Prop) (c2 : Addr → OA → Nat → Nat → (Int → Int → Int → OA → Nat → Nat → List Int → Int → H → Prop) → H → Prop) (c3 : OA → Nat → Nat → Int → Int → Int → OA → Nat → Nat → List Int → (OA → Nat → Nat → Int → H → Prop) → H → Prop) (c4 : Addr → Int → (Int → Int → H → Prop) → H → Prop) (c5 : Addr → (Int → H → Prop) → H → Prop) (c6 : Addr → (OA → Nat → Nat → H → Prop) → H → Prop) (Q : Bool → H → Prop) (h : H) : Prop := c0 8 1 2 3 1 0 0 (fun o9 i10 h11 => ∀ (J12 : JT), (∀ (h13 : H), (∀ n14 h15, hnew h13 n14 [.int .u8 107] h15 → ∃ p17, some (Addr.mk n14 0 none) = some p17 ∧ ∀ (h18 : H), h18 = hmark h15 p17 → ∀ n20 h21, hnew h18 n20 [.int .i64 0, .slice (some (Addr.mk n14 0 none)) 1 1] h21 → ∀ n23 h24, hnew h21 n23 [.int .u8 111] h24 → ∃ p26, some (Addr.mk n23 0 none) = some p26 ∧ ∀ (h27 : H), h27 = hmark h24 p26 → ∃ p29, o9 = some p29 ∧ c1 p29 (some (Addr.mk n20 0 none)) 1 1 (some (Addr.mk n23 0 none)) 1 1 (fun o30 i31 h32 => ∀ (J33 : JT), (∀ (h34 : H), (∀ n35 h36, hnew h34 n35 [.int .u8 107] h36 → ∃ p38, some (Addr.mk n35 0 none) = some p38 ∧ ∀ (h39 : H), h39 = hmark h36 p38 → c3 (some (Addr.mk n35 0 none)) 1 1 0 0 1 none 0 0 (zeros 32) (fun o41 n42 n43 i44 h45 => ∀ n46 h47, hnew h45 n46 [.int .u8 107] h47 → ∃ p49, some (Addr.mk n46 0 none) = some p49 ∧ ∀ (h50 : H), h50 = hmark h47 p49 → c3 (some (Addr.mk n46 0 none)) 1 1 0 0 2 none 0 0 (zeros 32) (fun o52 n53 n54 i55 h56 => ∃ p57, o30 = some p57 ∧ c2 p57 o52 n53 n54 (fun i58 i59 i60 o61 n62 n63 l64 i65 h66 => ∀ n67 h68, hnew h66 n67 (.int .i64 0 :: .int .i64 0 :: .int .i64 0 :: .slice none 0 0 :: ints .u8 (zeros 32)) h68 → hcan h68 ⟨n67, 0, none⟩ 36 ∧ ∀ h70, h70 = hwr h68 ⟨n67, 0, none⟩ (.int .i64 i58 :: .int .i64 i59 :: .int .i64 i60 :: .slice o61 n62 n63 :: (ints .u8 l64 ++ [])) → ∃ p72, o30 = some p72 ∧ c5 p72 (fun i73 h74 => ∃ p75, o30 = some p75 ∧ ∃ o76, hc h74 p75 = some (.pointer o76) ∧ ∃ p77, o76 = some p77 ∧ c4 p77 0 (fun i78 i79 h80 => ∃ p81, o30 = some p81 ∧ c2 p81 o41 n42 n43 (fun i82 i83 i84 o85 n86 n87 l88 i89 h90 => ∀ n91 h92, hnew h90 n91 (.int .i64 0 :: .int .i64 0 :: .int .i64 0 :: .slice none 0 0 :: ints .u8 (zeros 32)) h92 → hcan h92 ⟨n91, 0, none⟩ 36 ∧ ∀ h94, h94 = hwr h92 ⟨n91, 0, none⟩ (.int .i64 i82 :: .int .i64 i83 :: .int .i64 i84 :: .slice o85 n86 n87 :: (ints .u8 l88 ++ [])) → if (i65 == 0) = true then ∃ i96, hc h94 ⟨n67, 2, none⟩ = some (.int .i64 i96) ∧ if (i96 == 2) = true then if (i73 == 0) = true then if (i78 == 2) = true then if (i79 == 0) = true then if (i89 == 16) = true then ∃ p97, o30 = some p97 ∧ c5 p97 (fun i98 h99 => if (i98 == 11) = true then ∃ p100, o30 = some p100 ∧ c6 p100 (fun o101 n102 n103 h104 => Q ((↑n102 : Int) == 2) h104) h99 else Q false h99) h94 else Q false h94 else Q false h94 else Q false h94 else Q false h94 else Q false h94 else Q false h94) h80) h74) h70) h56) h50) h39) → J33 [] h34) → if o30.isNone = true then Q false h32 else if (i31 != 0) = true then Q false h32 else J33 [] h32) h27) → J12 [] h13) → if o9.isNone = true then Q false h11 else if (i10 != 0) = true then Q false h11 else J12 [] h11) h
theorem E_portcullislaw17_awake : ∀ c0 c1 c2 c3 c4 c5 c6 Q h, G_portcullislaw17_awake c0 c1 c2 c3 c4 c5 c6 Q h = Dbody PP [(22, W [.ag [.int .i64, .int .i64, .int .i64, .int .i64, .int .i64, .int .i64, .int .i64]] [.ptr, .int .i64] c0), (24, W [.addr, .slc, .slc] [.ptr, .int .i64] c1), (27, W [.addr, .slc] [.ag [.int .i64, .int .i64, .int .i64, .slc, .row .u8 32], .int .i64] c2), (58, W [.slc, .ag [.int .i64, .int .i64, .int .i64, .slc, .row .u8 32]] [.slc, .int .i64] c3), (70, W [.addr, .int .i64] [.int .i64, .int .i64] c4), (87, W [.addr] [.int .i64] c5), (88, W [.addr] [.slc] c6)] [(7, []), (31, [])] Tryz.f20 [] (decR [.bool] Q) h := by intros; kernel_rfl
def F_portcullislaw17_awake := G_portcullislaw17_awake F_chip_New F_rom_Mount F_rom_Rom_Boot F_portcullisref11_Make F_store_Store_Read F_rom_Rom_Confirm F_rom_Rom_Events
theorem R_portcullislaw17_awake : RunOk PP 20 (W [] [.bool] F_portcullislaw17_awake) := runOk_of (TblOk.cons R_chip_New (TblOk.cons R_rom_Mount (TblOk.cons R_rom_Rom_Boot (TblOk.cons R_portcullisref11_Make (TblOk.cons R_store_Store_Read (TblOk.cons R_rom_Rom_Confirm (TblOk.cons R_rom_Rom_Events (TblOk.nil)))))))) Tryz.func20 (by kernel_rfl) (by kernel_rfl) (E_portcullislaw17_awake _ _ _ _ _ _ _)
attribute [irreducible] F_portcullislaw17_awake
def G_chip_Chip_Acts (a0 : Addr) (Q : Int → H → Prop) (h : H) : Prop := ∃ i3, hc h (a0.add 10) = some (.int .i64 i3) ∧ Q i3 h
theorem E_chip_Chip_Acts : ∀ a0 Q h, G_chip_Chip_Acts a0 Q h = Dbody PP [] [] Tryz.f26 [.addr a0] (decR [.int .i64] Q) h := by intros; kernel_rfl
def F_chip_Chip_Acts := G_chip_Chip_Acts
theorem R_chip_Chip_Acts : RunOk PP 26 (W [.addr] [.int .i64] F_chip_Chip_Acts) := runOk_of (TblOk.nil) Tryz.func26 (by kernel_rfl) (by kernel_rfl) (E_chip_Chip_Acts)
attribute [irreducible] F_chip_Chip_Acts
def G_portcullisref12_Ring_Sign (c0 : OA → Nat → Nat → OA → Nat → Nat → (List Int → H → Prop) → H → Prop) (c1 : Addr → Int → (Int → H → Prop) → H → Prop) (a0 : Addr) (a1 : Int) (a2p : OA) (a2l : Nat) (a2c : Nat) (Q : List Int → Int → H → Prop) (h : H) : Prop := ∀ n9 h10, hnew h n9 (ints .u8 (zeros 32)) h10 → c1 a0 a1 (fun i12 h13 => if ltI i12 0 = true then hcan h13 ⟨n9, 0, none⟩ 32 ∧ ∀ h14, h14 = hwr h13 ⟨n9, 0, none⟩ (ints .u8 (zeros 32)) → ∃ (l16 : List Int), l16.length = 32 ∧ hrow h14 ⟨n9, 0, none⟩ .u8 l16 ∧ Q l16 13 h14 else ∃ o17 n18 n19, hc h13 a0 = some (.slice o17 n18 n19) ∧ ∃ p20, o17 = some p20 ∧ 0 ≤ i12 ∧ i12 < n18 ∧ ∃ o21 n22 n23, hc h13 ((p20.add (i12.toNat * 2)).add 1) = some (.slice o21 n22 n23) ∧ c0 o21 n22 n23 a2p a2l a2c (fun l24 h25 => hcan h25 ⟨n9, 0, none⟩ 32 ∧ ∀ h26, h26 = hwr h25 ⟨n9, 0, none⟩ (ints .u8 l24 ++ []) → ∃ (l28 : List Int), l28.length = 32 ∧ hrow h26 ⟨n9, 0, none⟩ .u8 l28 ∧ Q l28 0 h26) h13) h10
theorem E_portcullisref12_Ring_Sign : ∀ c0 c1 a0 a1 a2p a2l a2c Q h, G_portcullisref12_Ring_Sign c0 c1 a0 a1 a2p a2l a2c Q h = Dbody PP [(141, W [.slc, .slc] [.ag [.row .u8 32]] c0), (162, W [.addr, .int .i64] [.int .i64] c1)] [] Tryz.f175 [.addr a0, .one (.int .i64 a1), .one (.slice a2p a2l a2c)] (decR [.ag [.row .u8 32], .int .i64] Q) h := by intros; kernel_rfl
def F_portcullisref12_Ring_Sign := G_portcullisref12_Ring_Sign F_portcullisref03_Of F_portcullisref12_Ring_find
theorem R_portcullisref12_Ring_Sign : RunOk PP 175 (W [.addr, .int .i64, .slc] [.ag [.row .u8 32], .int .i64] F_portcullisref12_Ring_Sign) := runOk_of (TblOk.cons R_portcullisref03_Of (TblOk.cons R_portcullisref12_Ring_find (TblOk.nil))) Tryz.func175 (by kernel_rfl) (by kernel_rfl) (E_portcullisref12_Ring_Sign _ _)
attribute [irreducible] F_portcullisref12_Ring_Sign
def G_portcullisref12_Ring_Check (c0 : Addr → Int → OA → Nat → Nat → (List Int → Int → H → Prop) → H → Prop) (a0 : Addr) (a1 : Int) (a2p : OA) (a2l : Nat) (a2c : Nat) (a3_0 : List Int) (Q : Bool → Int → H → Prop) (h : H) : Prop := ∀ n9 h10, hnew h n9 (ints .u8 a3_0 ++ []) h10 → c0 a0 a1 a2p a2l a2c (fun l12 i13 h14 => ∀ n15 h16, hnew h14 n15 (ints .u8 (zeros 32)) h16 → hcan h16 ⟨n15, 0, none⟩ 32 ∧ ∀ h18, h18 = hwr h16 ⟨n15, 0, none⟩ (ints .u8 l12 ++ []) → if (i13 == 0) = true then ∃ (l20 : List Int), l20.length = 32 ∧ hrow h18 ⟨n15, 0, none⟩ .u8 l20 ∧ ∃ (l21 : List Int), l21.length = 32 ∧ hrow h18 ⟨n9, 0, none⟩ .u8 l21 ∧ Q (l20 == l21) i13 h18 else Q false i13 h18) h10
theorem E_portcullisref12_Ring_Check : ∀ c0 a0 a1 a2p a2l a2c a3_0 Q h, G_portcullisref12_Ring_Check c0 a0 a1 a2p a2l a2c a3_0 Q h = Dbody PP [(175, W [.addr, .int .i64, .slc] [.ag [.row .u8 32], .int .i64] c0)] [] Tryz.f104 [.addr a0, .one (.int .i64 a1), .one (.slice a2p a2l a2c), .agg [.row .u8 32 a3_0]] (decR [.bool, .int .i64] Q) h := by intros; kernel_rfl
def F_portcullisref12_Ring_Check := G_portcullisref12_Ring_Check F_portcullisref12_Ring_Sign
theorem R_portcullisref12_Ring_Check : RunOk PP 104 (W [.addr, .int .i64, .slc, .ag [.row .u8 32]] [.bool, .int .i64] F_portcullisref12_Ring_Check) := runOk_of (TblOk.cons R_portcullisref12_Ring_Sign (TblOk.nil)) Tryz.func104 (by kernel_rfl) (by kernel_rfl) (E_portcullisref12_Ring_Check _)
attribute [irreducible] F_portcullisref12_Ring_Check
def G_portcullisref11_Body (a0p : OA) (a0l : Nat) (a0c : Nat) (Q : OA → Nat → Nat → H → Prop) (h : H) : Prop := if ltI (↑a0l : Int) 32 = true then Q none 0 0 h else ∀ n5 h6, hnew h n5 [] h6 → 0 ≤ IntKind.i64.wrap ((↑a0l : Int) - 32) ∧ IntKind.i64.wrap ((↑a0l : Int) - 32) ≤ (↑a0c : Int) ∧ ∃ (l8 : List Value), hsv h6 (subAddr a0p 0 a0c 1) 1 ((IntKind.i64.wrap ((↑a0l : Int) - 32)).toNat - 0) l8 ∧ pApp h6 1 [.int .u8 0] 1 (some (Addr.mk n5 0 none)) 0 0 ((IntKind.i64.wrap ((↑a0l : Int) - 32)).toNat - 0) l8 fun o9 n10 n11 h12 => Q o9 n10 n11 h12
theorem E_portcullisref11_Body : ∀ a0p a0l a0c Q h, G_portcullisref11_Body a0p a0l a0c Q h = Dbody PP [] [] Tryz.f105 [.one (.slice a0p a0l a0c)] (decR [.slc] Q) h := by intros; kernel_rfl
def F_portcullisref11_Body := G_portcullisref11_Body
theorem R_portcullisref11_Body : RunOk PP 105 (W [.slc] [.slc] F_portcullisref11_Body) := runOk_of (TblOk.nil) Tryz.func105 (by kernel_rfl) (by kernel_rfl) (E_portcullisref11_Body)
attribute [irreducible] F_portcullisref11_Body
def G_portcullisref10_Last (a0_0 : Int) (a0_1 : Int) (a0_2 : Int) (a0_3 : Int) (a0_4 : Int) (a0_5 : Int) (a0_6 : Int) (Q : Int → H → Prop) (h : H) : Prop := ∀ n9 h10, hnew h n9 [.int .i64 a0_0, .int .i64 a0_1, .int .i64 a0_2, .int .i64 a0_3, .int .i64 a0_4, .int .i64 a0_5, .int .i64 a0_6] h10 → ∃ i12, hc h10 ⟨n9, 3, none⟩ = some (.int .i64 i12) ∧ ∃ i13, hc h10 ⟨n9, 2, none⟩ = some (.int .i64 i13) ∧ ∃ i14, hc h10 ⟨n9, 3, none⟩ = some (.int .i64 i14) ∧ Q (IntKind.i64.wrap (IntKind.i64.wrap (IntKind.i64.wrap (i12 * i13) + i14) - 1)) h10
theorem E_portcullisref10_Last : ∀ a0_0 a0_1 a0_2 a0_3 a0_4 a0_5 a0_6 Q h, G_portcullisref10_Last a0_0 a0_1 a0_2 a0_3 a0_4 a0_5 a0_6 Q h = Dbody PP [] [] Tryz.f106 [.agg [.c (.int .i64 a0_0), .c (.int .i64 a0_1), .c (.int .i64 a0_2), .c (.int .i64 a0_3), .c (.int .i64 a0_4), .c (.int .i64 a0_5), .c (.int .i64 a0_6)]] (decR [.int .i64] Q) h := by intros; kernel_rfl
def F_portcullisref10_Last := G_portcullisref10_Last
theorem R_portcullisref10_Last : RunOk PP 106 (W [.ag [.int .i64, .int .i64, .int .i64, .int .i64, .int .i64, .int .i64, .int .i64]] [.int .i64] F_portcullisref10_Last) := runOk_of (TblOk.nil) Tryz.func106 (by kernel_rfl) (by kernel_rfl) (E_portcullisref10_Last)
attribute [irreducible] F_portcullisref10_Last
end Go.Proofs.YteedolonhdbieaaGreatDoor
end

/- Denotations of functions of the program, printed by a program of ours, and that they are the model's. -/
section
set_option linter.unusedVariables false
set_option maxRecDepth 100000
namespace Go.Proofs.YteedolonhdbieaaGreatDoor
open Go Go.Vc
def G_portcullislaw17_gate (c0 : OA → Nat → Nat → (Int → Int → Int → OA → Nat → Nat → List Int → Int → Int → H → Prop) → H → Prop) (c1 : Addr → Int → (Int → Int → H → Prop) → H → Prop) (c2 : Addr → Int → (Bool → Int → H → Prop) → H → Prop) (c3 : Addr → Int → (Bool → H → Prop) → H → Prop) (c4 : Addr → Int → OA → Nat → Nat → List Int → (Bool → Int → H → Prop) → H → Prop) (c5 : OA → Nat → Nat → (OA → Nat → Nat → H → Prop) → H → Prop) (c6 : Int → Int → Int → Int → Int → Int → Int → (Int → H → Prop) → H → Prop) (a0_0 : Int) (a0_1 : Int) (a0_2 : Int) (a0_3 : Int) (a0_4 : Int) (a0_5 : Int) (a0_6 : Int) (a1 : Addr) (a2 : Addr) (a3p : OA) (a3l : Nat) (a3c : Nat) (Q : Int → H → Prop) (h : H) : Prop := ∀ n21 h22, hnew h n21 [.int .i64 a0_0, .int .i64 a0_1, .int .i64 a0_2, .int .i64 a0_3, .int .i64 a0_4, .int .i64 a0_5, .int .i64 a0_6] h22 → c0 a3p a3l a3c (fun i24 i25 i26 o27 n28 n29 l30 i31 i32 h33 => ∀ n34 h35, hnew h33 n34 (.int .i64 0 :: .int .i64 0 :: .int .i64 0 :: .slice none 0 0 :: ints .u8 (zeros 32)) h35 → ∀ n37 h38, hnew h35 n37 [.int .i64 0, .int .i64 0] h38 → hcan h38 ⟨n34, 0, none⟩ 36 ∧ ∀ h40, h40 = hwr h38 ⟨n34, 0, none⟩ (.int .i64 i24 :: .int .i64 i25 :: .int .i64 i26 :: .slice o27 n28 n29 :: (ints .u8 l30 ++ [])) → hcan h40 ⟨n37, 0, none⟩ 2 ∧ ∀ h42, h42 = hwr h40 ⟨n37, 0, none⟩ [.int .i64 i31, .int .i64 i32] → ∃ i44, hc h42 ⟨n37, 0, none⟩ = some (.int .i64 i44) ∧ if (i44 != 0) = true then ∃ i45, hc h42 ⟨n37, 0, none⟩ = some (.int .i64 i45) ∧ Q i45 h42 else ∃ i46, hc h42 ⟨n34, 0, none⟩ = some (.int .i64 i46) ∧ ∃ i47, hc h42 ⟨n21, 1, none⟩ = some (.int .i64 i47) ∧ if leI i47 i46 = true then Q 5 h42 else ∃ i48, hc h42 ⟨n34, 1, none⟩ = some (.int .i64 i48) ∧ c3 a1 i48 (fun b49 h50 => ∀ (J51 : JT), (∀ (h52 : H), (∃ o53, hc h52 a2 = some (.pointer o53) ∧ ∃ i54, hc h52 ⟨n34, 1, none⟩ = some (.int .i64 i54) ∧ ∃ p55, o53 = some p55 ∧ c2 p55 i54 (fun b56 i57 h58 => ∀ (J59 : JT), (∀ (h60 : H), (∃ i61, hc h60 ⟨n34, 1, none⟩ = some (.int .i64 i61) ∧ ∃ (l62 : List Int), l62.length = 32 ∧ hrow h60 ⟨n34, 4, none⟩ .u8 l62 ∧ c5 a3p a3l a3c (fun o63 n64 n65 h66 => hcs h66 ⟨n34, 4, none⟩ (ints .u8 l62 ++ []) ∧ hcs h66 ⟨n34, 1, none⟩ [.int .i64 i61] ∧ c4 a1 i61 o63 n64 n65 l62 (fun b67 i68 h69 => if (!b67) = true then Q 15 h69 else ∃ o70, hc h69 a2 = some (.pointer o70) ∧ ∃ i71, hc h69 ⟨n34, 0, none⟩ = some (.int .i64 i71) ∧ ∃ p72, o70 = some p72 ∧ c1 p72 i71 (fun i73 i74 h75 => if (i74 != 0) = true then Q 16 h75 else ∃ i76, hc h75 ⟨n34, 2, none⟩ = some (.int .i64 i76) ∧ if ltI i76 i73 = true then Q 16 h75 else ∃ i77, hc h75 ⟨n34, 2, none⟩ = some (.int .i64 i77) ∧ ∃ i78, hc h75 ⟨n21, 0, none⟩ = some (.int .i64 i78) ∧ ∃ i79, hc h75 ⟨n21, 1, none⟩ = some (.int .i64 i79) ∧ ∃ i80, hc h75 ⟨n21, 2, none⟩ = some (.int .i64 i80) ∧ ∃ i81, hc h75 ⟨n21, 3, none⟩ = some (.int .i64 i81) ∧ ∃ i82, hc h75 ⟨n21, 4, none⟩ = some (.int .i64 i82) ∧ ∃ i83, hc h75 ⟨n21, 5, none⟩ = some (.int .i64 i83) ∧ ∃ i84, hc h75 ⟨n21, 6, none⟩ = some (.int .i64 i84) ∧ c6 i78 i79 i80 i81 i82 i83 i84 (fun i85 h86 => hcs h86 ⟨n34, 2, none⟩ [.int .i64 i77] ∧ if ltI i85 i77 = true then Q 16 h86 else Q 0 h86) h75) h69) h66) h60) → J59 [] h60) → if (i57 != 0) = true then Q 14 h58 else if b56 = true then Q 14 h58 else J59 [] h58) h52) → J51 [] h52) → if (!b49) = true then Q 13 h50 else ∃ i91, hc h50 ⟨n34, 1, none⟩ = some (.int .i64 i91) ∧ ∃ i92, hc h50 ⟨n21, 4, none⟩ = some (.int .i64 i92) ∧ if leI i92 i91 = true then Q 13 h50 else J51 [] h50) h42) h22
theorem E_portcullislaw17_gate : ∀ c0 c1 c2 c3 c4 c5 c6 a0_0 a0_1 a0_2 a0_3 a0_4 a0_5 a0_6 a1 a2 a3p a3l a3c Q h, G_portcullislaw17_gate c0 c1 c2 c3 c4 c5 c6 a0_0 a0_1 a0_2 a0_3 a0_4 a0_5 a0_6 a1 a2 a3p a3l a3c Q h = Dbody PP [(16, W [.slc] [.ag [.int .i64, .int .i64, .int .i64, .slc, .row .u8 32], .ag [.int .i64, .int .i64]] c0), (70, W [.addr, .int .i64] [.int .i64, .int .i64] c1), (72, W [.addr, .int .i64] [.bool, .int .i64] c2), (89, W [.addr, .int .i64] [.bool] c3), (104, W [.addr, .int .i64, .slc, .ag [.row .u8 32]] [.bool, .int .i64] c4), (105, W [.slc] [.slc] c5), (106, W [.ag [.int .i64, .int .i64, .int .i64, .int .i64, .int .i64, .int .i64, .int .i64]] [.int .i64] c6)] [(63, []), (255, [])] Tryz.f28 [.agg [.c (.int .i64 a0_0), .c (.int .i64 a0_1), .c (.int .i64 a0_2), .c (.int .i64 a0_3), .c (.int .i64 a0_4), .c (.int .i64 a0_5), .c (.int .i64 a0_6)], .addr a1, .addr a2, .one (.slice a3p a3l a3c)] (decR [.int .i64] Q) h := by intros; kernel_rfl
def F_portcullislaw17_gate := G_portcullislaw17_gate F_portcullisref11_Parse F_store_Store_Read F_store_Store_Revoked F_portcullisref12_Ring_Has F_portcullisref12_Ring_Check F_portcullisref11_Body F_portcullisref10_Last
theorem R_portcullislaw17_gate : RunOk PP 28 (W [.ag [.int .i64, .int .i64, .int .i64, .int .i64, .int .i64, .int .i64, .int .i64], .addr, .addr, .slc] [.int .i64] F_portcullislaw17_gate) := runOk_of (TblOk.cons R_portcullisref11_Parse (TblOk.cons R_store_Store_Read (TblOk.cons R_store_Store_Revoked (TblOk.cons R_portcullisref12_Ring_Has (TblOk.cons R_portcullisref12_Ring_Check (TblOk.cons R_portcullisref11_Body (TblOk.cons R_portcullisref10_Last (TblOk.nil)))))))) Tryz.func28 (by kernel_rfl) (by kernel_rfl) (E_portcullislaw17_gate _ _ _ _ _ _ _)
attribute [irreducible] F_portcullislaw17_gate
def G_portcullisref11_Same (a0_0 : Int) (a0_1 : Int) (a0_2 : Int) (a0_3p : OA) (a0_3l : Nat) (a0_3c : Nat) (a0_4 : List Int) (a1_0 : Int) (a1_1 : Int) (a1_2 : Int) (a1_3p : OA) (a1_3l : Nat) (a1_3c : Nat) (a1_4 : List Int) (Q : Bool → H → Prop) (h : H) : Prop := ∀ n16 h17, hnew h n16 (.int .i64 a0_0 :: .int .i64 a0_1 :: .int .i64 a0_2 :: .slice a0_3p a0_3l a0_3c :: (ints .u8 a0_4 ++ [])) h17 → ∀ n19 h20, hnew h17 n19 (.int .i64 a1_0 :: .int .i64 a1_1 :: .int .i64 a1_2 :: .slice a1_3p a1_3l a1_3c :: (ints .u8 a1_4 ++ [])) h20 → ∃ i22, hc h20 ⟨n16, 0, none⟩ = some (.int .i64 i22) ∧ ∃ i23, hc h20 ⟨n19, 0, none⟩ = some (.int .i64 i23) ∧ if (i22 == i23) = true then ∃ i24, hc h20 ⟨n16, 1, none⟩ = some (.int .i64 i24) ∧ ∃ i25, hc h20 ⟨n19, 1, none⟩ = some (.int .i64 i25) ∧ if (i24 == i25) = true then ∃ i26, hc h20 ⟨n16, 2, none⟩ = some (.int .i64 i26) ∧ ∃ i27, hc h20 ⟨n19, 2, none⟩ = some (.int .i64 i27) ∧ if (i26 == i27) = true then ∃ o28 n29 n30, hc h20 ⟨n16, 3, none⟩ = some (.slice o28 n29 n30) ∧ ∃ (l31 : List Int), hsv h20 o28 1 n29 (ints .u8 l31) ∧ ∃ o32 n33 n34, hc h20 ⟨n19, 3, none⟩ = some (.slice o32 n33 n34) ∧ ∃ (l35 : List Int), hsv h20 o32 1 n33 (ints .u8 l35) ∧ if ((bytesOf l31).toList == (bytesOf l35).toList) = true then ∃ (l36 : List Int), l36.length = 32 ∧ hrow h20 ⟨n16, 4, none⟩ .u8 l36 ∧ ∃ (l37 : List Int), l37.length = 32 ∧ hrow h20 ⟨n19, 4, none⟩ .u8 l37 ∧ Q (l36 == l37) h20 else Q false h20 else Q false h20 else Q false h20 else Q false h20
theorem E_portcullisref11_Same : ∀ a0_0 a0_1 a0_2 a0_3p a0_3l a0_3c a0_4 a1_0 a1_1 a1_2 a1_3p a1_3l a1_3c a1_4 Q h, G_portcullisref11_Same a0_0 a0_1 a0_2 a0_3p a0_3l a0_3c a0_4 a1_0 a1_1 a1_2 a1_3p a1_3l a1_3c a1_4 Q h = Dbody PP [] [] Tryz.f29 [.agg [.c (.int .i64 a0_0), .c (.int .i64 a0_1), .c (.int .i64 a0_2), .c (.slice a0_3p a0_3l a0_3c), .row .u8 32 a0_4], .agg [.c (.int .i64 a1_0), .c (.int .i64 a1_1), .c (.int .i64 a1_2), .c (.slice a1_3p a1_3l a1_3c), .row .u8 32 a1_4]] (decR [.bool] Q) h := by intros; kernel_rfl
def F_portcullisref11_Same := G_portcullisref11_Same
theorem R_portcullisref11_Same : RunOk PP 29 (W [.ag [.int .i64, .int .i64, .int .i64, .slc, .row .u8 32], .ag [.int .i64, .int .i64, .int .i64, .slc, .row .u8 32]] [.bool] F_portcullisref11_Same) := runOk_of (TblOk.nil) Tryz.func29 (by kernel_rfl) (by kernel_rfl) (E_portcullisref11_Same)
attribute [irreducible] F_portcullisref11_Same
def G_portcullislaw17_RomGate (c0 : Addr → Int → (Int → H → Prop) → H → Prop) (c1 : (Bool → H → Prop) → H → Prop) (c2 : OA → Nat → Nat → (OA → Int → Int → H → Prop) → H → Prop) (c3 : Int → Int → Int → Int → Int → Int → Int → (OA → Int → H → Prop) → H → Prop) (c4 : Int → Int → Int → Int → Int → Int → Int → (Int → H → Prop) → H → Prop) (c5 : Addr → OA → Nat → Nat → OA → Nat → Nat → (OA → Int → H → Prop) → H → Prop) (c6 : Addr → Int → Int → (Int → H → Prop) → H → Prop) (c7 : Addr → (Int → H → Prop) → H → Prop) (c8 : Addr → OA → Nat → Nat → (Int → Int → Int → OA → Nat → Nat → List Int → Int → H → Prop) → H → Prop) (c9 : Int → Int → Int → Int → Int → Int → Int → Addr → Addr → OA → Nat → Nat → (Int → H → Prop) → H → Prop) (c10 : Int → Int → Int → OA → Nat → Nat → List Int → Int → Int → Int → OA → Nat → Nat → List Int → (Bool → H → Prop) → H → Prop) (c11 : Int → Int → Int → OA → Nat → Nat → List Int → (OA → Nat → Nat → H → Prop) → H → Prop) (a0_0 : Int) (a0_1 : Int) (a0_2 : Int) (a0_3 : Int) (a0_4 : Int) (a0_5 : Int) (a0_6 : Int) (a1p : OA) (a1l : Nat) (a1c : Nat) (a2p : OA) (a2l : Nat) (a2c : Nat) (a3p : OA) (a3l : Nat) (a3c : Nat) (a4p : OA) (a4l : Nat) (a4c : Nat) (Q : Bool → H → Prop) (h : H) : Prop := ∀ n33 h34, hnew h n33 [.int .i64 a0_0, .int .i64 a0_1, .int .i64 a0_2, .int .i64 a0_3, .int .i64 a0_4, .int .i64 a0_5, .int .i64 a0_6] h34 → c1 (fun b36 h37 => if (!b36) = true then Q false h37 else c2 a1p a1l a1c (fun o38 i39 i40 h41 => ∃ i42, hc h41 ⟨n33, 0, none⟩ = some (.int .i64 i42) ∧ ∃ i43, hc h41 ⟨n33, 1, none⟩ = some (.int .i64 i43) ∧ ∃ i44, hc h41 ⟨n33, 2, none⟩ = some (.int .i64 i44) ∧ ∃ i45, hc h41 ⟨n33, 3, none⟩ = some (.int .i64 i45) ∧ ∃ i46, hc h41 ⟨n33, 4, none⟩ = some (.int .i64 i46) ∧ ∃ i47, hc h41 ⟨n33, 5, none⟩ = some (.int .i64 i47) ∧ ∃ i48, hc h41 ⟨n33, 6, none⟩ = some (.int .i64 i48) ∧ c3 i42 i43 i44 i45 i46 i47 i48 (fun o49 i50 h51 => ∃ i52, hc h51 ⟨n33, 0, none⟩ = some (.int .i64 i52) ∧ ∃ i53, hc h51 ⟨n33, 1, none⟩ = some (.int .i64 i53) ∧ ∃ i54, hc h51 ⟨n33, 2, none⟩ = some (.int .i64 i54) ∧ ∃ i55, hc h51 ⟨n33, 3, none⟩ = some (.int .i64 i55) ∧ ∃ i56, hc h51 ⟨n33, 4, none⟩ = some (.int .i64 i56) ∧ ∃ i57, hc h51 ⟨n33, 5, none⟩ = some (.int .i64 i57) ∧ ∃ i58, hc h51 ⟨n33, 6, none⟩ = some (.int .i64 i58) ∧ c4 i52 i53 i54 i55 i56 i57 i58 (fun i59 h60 => if (i59 != 0) = true then if o49.isNone = true then Q (i50 == 1) h60 else Q false h60 else ∀ (J61 : JT), (∀ (h62 : H), (∀ n63 h64, hnew h62 n63 [.int .u8 111, .int .u8 119, .int .u8 110] h64 → ∃ p66, some (Addr.mk n63 0 none) = some p66 ∧ ∀ (h67 : H), h67 = hmark h64 p66 → ∃ p69, o49 = some p69 ∧ c5 p69 a1p a1l a1c (some (Addr.mk n63 0 none)) 3 3 (fun o70 i71 h72 => if (i39 != 0) = true then if o70.isNone = true then Q (i71 == i39) h72 else Q false h72 else ∀ (J73 : JT), (∀ (h74 : H), (∀ (J75 : JT), (∀ (i76 : Int) (h77 : H), (if ltI i76 a2l = true then ∃ p78, o70 = some p78 ∧ ∃ o79, hc h77 p78 = some (.pointer o79) ∧ ∃ i80, hc h77 ⟨n33, 1, none⟩ = some (.int .i64 i80) ∧ i80 ≠ 0 ∧ ∃ p81, a2p = some p81 ∧ 0 ≤ i76 ∧ i76 < a2l ∧ ∃ i82, hc h77 (p81.add (i76.toNat * 1)) = some (.int .i64 i82) ∧ ∃ p83, o79 = some p83 ∧ c6 p83 (i76.tmod i80) i82 (fun i84 h85 => J75 [.dv (.one (.int .i64 (IntKind.i64.wrap (i76 + 1))))] h85) h77 else ∀ (J86 : JT), (∀ (i87 : Int) (h88 : H), (if ltI i87 a3l = true then ∃ p89, o70 = some p89 ∧ ∃ o90, hc h88 p89 = some (.pointer o90) ∧ ∃ p91, a3p = some p91 ∧ 0 ≤ i87 ∧ i87 < a3l ∧ ∃ i92, hc h88 (p91.add (i87.toNat * 1)) = some (.int .i64 i92) ∧ ∃ p93, o90 = some p93 ∧ c0 p93 i92 (fun i94 h95 => J86 [.dv (.one (.int .i64 (IntKind.i64.wrap (i87 + 1))))] h95) h88 else ∃ p96, o49 = some p96 ∧ c7 p96 (fun i97 h98 => ∀ n99 h100, hnew h98 n99 [] h100 → ∃ (l102 : List Value), hsv h100 a4p 1 a4l l102 ∧ pApp h100 1 [.int .u8 0] 1 (some (Addr.mk n99 0 none)) 0 0 a4l l102 fun o103 n104 n105 h106 => ∃ p107, o70 = some p107 ∧ c8 p107 o103 n104 n105 (fun i108 i109 i110 o111 n112 n113 l114 i115 h116 => ∀ n117 h118, hnew h116 n117 (.int .i64 0 :: .int .i64 0 :: .int .i64 0 :: .slice none 0 0 :: ints .u8 (zeros 32)) h118 → hcan h118 ⟨n117, 0, none⟩ 36 ∧ ∀ h120, h120 = hwr h118 ⟨n117, 0, none⟩ (.int .i64 i108 :: .int .i64 i109 :: .int .i64 i110 :: .slice o111 n112 n113 :: (ints .u8 l114 ++ [])) → if (i115 != 0) = true then ∃ p122, o49 = some p122 ∧ c7 p122 (fun i123 h124 => if (i123 == i97) = true then ∃ i125, hc h124 ⟨n33, 0, none⟩ = some (.int .i64 i125) ∧ ∃ i126, hc h124 ⟨n33, 1, none⟩ = some (.int .i64 i126) ∧ ∃ i127, hc h124 ⟨n33, 2, none⟩ = some (.int .i64 i127) ∧ ∃ i128, hc h124 ⟨n33, 3, none⟩ = some (.int .i64 i128) ∧ ∃ i129, hc h124 ⟨n33, 4, none⟩ = some (.int .i64 i129) ∧ ∃ i130, hc h124 ⟨n33, 5, none⟩ = some (.int .i64 i130) ∧ ∃ i131, hc h124 ⟨n33, 6, none⟩ = some (.int .i64 i131) ∧ ∃ p132, o38 = some p132 ∧ ∃ p133, o70 = some p133 ∧ c9 i125 i126 i127 i128 i129 i130 i131 p132 p133 a4p a4l a4c (fun i134 h135 => if (i115 == i134) = true then ∃ i136, hc h135 ⟨n117, 0, none⟩ = some (.int .i64 i136) ∧ ∃ i137, hc h135 ⟨n117, 1, none⟩ = some (.int .i64 i137) ∧ ∃ i138, hc h135 ⟨n117, 2, none⟩ = some (.int .i64 i138) ∧ ∃ o139 n140 n141, hc h135 ⟨n117, 3, none⟩ = some (.slice o139 n140 n141) ∧ ∃ (l142 : List Int), l142.length = 32 ∧ hrow h135 ⟨n117, 4, none⟩ .u8 l142 ∧ c10 i136 i137 i138 o139 n140 n141 l142 0 0 0 none 0 0 (zeros 32) (fun b143 h144 => Q b143 h144) h135 else Q false h135) h124 else Q false h124) h120 else ∃ p145, o49 = some p145 ∧ c7 p145 (fun i146 h147 => if (i146 == i97) = true then ∃ i148, hc h147 ⟨n33, 0, none⟩ = some (.int .i64 i148) ∧ ∃ i149, hc h147 ⟨n33, 1, none⟩ = some (.int .i64 i149) ∧ ∃ i150, hc h147 ⟨n33, 2, none⟩ = some (.int .i64 i150) ∧ ∃ i151, hc h147 ⟨n33, 3, none⟩ = some (.int .i64 i151) ∧ ∃ i152, hc h147 ⟨n33, 4, none⟩ = some (.int .i64 i152) ∧ ∃ i153, hc h147 ⟨n33, 5, none⟩ = some (.int .i64 i153) ∧ ∃ i154, hc h147 ⟨n33, 6, none⟩ = some (.int .i64 i154) ∧ ∃ p155, o38 = some p155 ∧ ∃ p156, o70 = some p156 ∧ c9 i148 i149 i150 i151 i152 i153 i154 p155 p156 a4p a4l a4c (fun i157 h158 => if (i157 == 0) = true then ∃ i159, hc h158 ⟨n117, 0, none⟩ = some (.int .i64 i159) ∧ ∃ i160, hc h158 ⟨n117, 1, none⟩ = some (.int .i64 i160) ∧ ∃ i161, hc h158 ⟨n117, 2, none⟩ = some (.int .i64 i161) ∧ ∃ o162 n163 n164, hc h158 ⟨n117, 3, none⟩ = some (.slice o162 n163 n164) ∧ ∃ (l165 : List Int), l165.length = 32 ∧ hrow h158 ⟨n117, 4, none⟩ .u8 l165 ∧ c11 i159 i160 i161 o162 n163 n164 l165 (fun o166 n167 n168 h169 => (∃ (l170 : List Int), hsv h169 o166 1 n167 (ints .u8 l170) ∧ ∃ (l171 : List Int), hsv h169 a4p 1 a4l (ints .u8 l171) ∧ Q ((bytesOf l170).toList == (bytesOf l171).toList) h169) ∧ ∃ (l172 : List Int), hsv h169 a4p 1 a4l (ints .u8 l172) ∧ ∃ (l173 : List Int), hsv h169 o166 1 n167 (ints .u8 l173) ∧ Q ((bytesOf l173).toList == (bytesOf l172).toList) h169) h158 ∧ ∃ (l174 : List Int), hsv h158 a4p 1 a4l (ints .u8 l174) ∧ hcs h158 ⟨n117, 0, none⟩ (.int .i64 i159 :: .int .i64 i160 :: .int .i64 i161 :: .slice o162 n163 n164 :: (ints .u8 l165 ++ [])) ∧ c11 i159 i160 i161 o162 n163 n164 l165 (fun o175 n176 n177 h178 => ∃ (l179 : List Int), hsv h178 o175 1 n176 (ints .u8 l179) ∧ Q ((bytesOf l179).toList == (bytesOf l174).toList) h178) h158 else (Q false h158 ∧ Q false h158) ∧ Q false h158) h147 else (Q false h147 ∧ Q false h147) ∧ Q false h147) h120) h106) h88) → J86 [.dv (.one (.int .i64 i87))] h88) → J86 [.dv (.one (.int .i64 0))] h77) → J75 [.dv (.one (.int .i64 i76))] h77) → J75 [.dv (.one (.int .i64 0))] h74) → J73 [] h74) → if o70.isNone = true then Q false h72 else if (i71 != 0) = true then Q false h72 else J73 [] h72) h67) → J61 [] h62) → if o49.isNone = true then Q false h60 else if (i50 != 0) = true then Q false h60 else J61 [] h60) h51) h41) h37) h34
theorem E_portcullislaw17_RomGate : ∀ c0 c1 c2 c3 c4 c5 c6 c7 c8 c9 c10 c11 a0_0 a0_1 a0_2 a0_3 a0_4 a0_5 a0_6 a1p a1l a1c a2p a2l a2c a3p a3l a3c a4p a4l a4c Q h, G_portcullislaw17_RomGate c0 c1 c2 c3 c4 c5 c6 c7 c8 c9 c10 c11 a0_0 a0_1 a0_2 a0_3 a0_4 a0_5 a0_6 a1p a1l a1c a2p a2l a2c a3p a3l a3c a4p a4l a4c Q h = Dbody PP [(11, W [.addr, .int .i64] [.int .i64] c0), (20, W [] [.bool] c1), (21, W [.slc] [.ptr, .int .i64, .int .i64] c2), (22, W [.ag [.int .i64, .int .i64, .int .i64, .int .i64, .int .i64, .int .i64, .int .i64]] [.ptr, .int .i64] c3), (23, W [.ag [.int .i64, .int .i64, .int .i64, .int .i64, .int .i64, .int .i64, .int .i64]] [.int .i64] c4), (24, W [.addr, .slc, .slc] [.ptr, .int .i64] c5), (25, W [.addr, .int .i64, .int .i64] [.int .i64] c6), (26, W [.addr] [.int .i64] c7), (27, W [.addr, .slc] [.ag [.int .i64, .int .i64, .int .i64, .slc, .row .u8 32], .int .i64] c8), (28, W [.ag [.int .i64, .int .i64, .int .i64, .int .i64, .int .i64, .int .i64, .int .i64], .addr, .addr, .slc] [.int .i64] c9), (29, W [.ag [.int .i64, .int .i64, .int .i64, .slc, .row .u8 32], .ag [.int .i64, .int .i64, .int .i64, .slc, .row .u8 32]] [.bool] c10), (30, W [.ag [.int .i64, .int .i64, .int .i64, .slc, .row .u8 32]] [.slc] c11)] [(63, []), (511, []), (8186, [(18, .sc (.int .i64))]), (16378, [(19, .sc (.int .i64))])] Tryz.f4 [.agg [.c (.int .i64 a0_0), .c (.int .i64 a0_1), .c (.int .i64 a0_2), .c (.int .i64 a0_3), .c (.int .i64 a0_4), .c (.int .i64 a0_5), .c (.int .i64 a0_6)], .one (.slice a1p a1l a1c), .one (.slice a2p a2l a2c), .one (.slice a3p a3l a3c), .one (.slice a4p a4l a4c)] (decR [.bool] Q) h := by intros; kernel_rfl
def F_portcullislaw17_RomGate := G_portcullislaw17_RomGate F_store_Store_Revoke F_portcullislaw17_awake F_portcullisref12_New F_chip_New F_portcullisref04_May F_rom_Mount F_store_Store_BumpTo F_chip_Chip_Acts F_rom_Rom_Boot F_portcullislaw17_gate F_portcullisref11_Same F_portcullisref11_Tagged
theorem R_portcullislaw17_RomGate : RunOk PP 4 (W [.ag [.int .i64, .int .i64, .int .i64, .int .i64, .int .i64, .int .i64, .int .i64], .slc, .slc, .slc, .slc] [.bool] F_portcullislaw17_RomGate) := runOk_of (TblOk.cons R_store_Store_Revoke (TblOk.cons R_portcullislaw17_awake (TblOk.cons R_portcullisref12_New (TblOk.cons R_chip_New (TblOk.cons R_portcullisref04_May (TblOk.cons R_rom_Mount (TblOk.cons R_store_Store_BumpTo (TblOk.cons R_chip_Chip_Acts (TblOk.cons R_rom_Rom_Boot (TblOk.cons R_portcullislaw17_gate (TblOk.cons R_portcullisref11_Same (TblOk.cons R_portcullisref11_Tagged (TblOk.nil))))))))))))) Tryz.func4 (by kernel_rfl) (by kernel_rfl) (E_portcullislaw17_RomGate _ _ _ _ _ _ _ _ _ _ _ _)
attribute [irreducible] F_portcullislaw17_RomGate
def G_chip_Chip_begins_1 (a0 : Int) (Q : Int → H → Prop) (h : H) : Prop := Q 255 h
theorem E_chip_Chip_begins_1 : ∀ a0 Q h, G_chip_Chip_begins_1 a0 Q h = Dbody PP [] [] Tryz.f266 [.one (.int .i64 a0)] (decR [.int .u8] Q) h := by intros; kernel_rfl
def F_chip_Chip_begins_1 := G_chip_Chip_begins_1
theorem R_chip_Chip_begins_1 : RunOk PP 266 (W [.int .i64] [.int .u8] F_chip_Chip_begins_1) := runOk_of (TblOk.nil) Tryz.func266 (by kernel_rfl) (by kernel_rfl) (E_chip_Chip_begins_1)
attribute [irreducible] F_chip_Chip_begins_1
def G_chip_Chip_begins_2 (a0 : Int) (a1 : Addr) (Q : Int → H → Prop) (h : H) : Prop := ∃ o4 n5 n6, hc h a1 = some (.slice o4 n5 n6) ∧ if ((↑n5 : Int) == 0) = true then Q 0 h else ∃ o7 n8 n9, hc h a1 = some (.slice o7 n8 n9) ∧ ∃ o10 n11 n12, hc h a1 = some (.slice o10 n11 n12) ∧ (↑n11 : Int) ≠ 0 ∧ ∃ p13, o7 = some p13 ∧ 0 ≤ a0.tmod (↑n11 : Int) ∧ a0.tmod (↑n11 : Int) < (↑n8 : Int) ∧ ∃ i14, hc h (p13.add ((a0.tmod (↑n11 : Int)).toNat * 1)) = some (.int .u8 i14) ∧ Q i14 h
theorem E_chip_Chip_begins_2 : ∀ a0 a1 Q h, G_chip_Chip_begins_2 a0 a1 Q h = Dbody PP [] [] Tryz.f267 [.one (.int .i64 a0), .addr a1] (decR [.int .u8] Q) h := by intros; kernel_rfl
def F_chip_Chip_begins_2 := G_chip_Chip_begins_2
theorem R_chip_Chip_begins_2 : RunOk PP 267 (W [.int .i64, .addr] [.int .u8] F_chip_Chip_begins_2) := runOk_of (TblOk.nil) Tryz.func267 (by kernel_rfl) (by kernel_rfl) (E_chip_Chip_begins_2)
attribute [irreducible] F_chip_Chip_begins_2
end Go.Proofs.YteedolonhdbieaaGreatDoor
end

/- Blocks of memory as lists of cells, and what loads, stores and allocations do to them. Own work; generic over any program. -/
section
set_option linter.unusedVariables false
namespace Go.Vc

def Blk (h : H) (b : Nat) (vs : List Value) : Prop :=
 ∃ t lo n, h[b]? = some (.cells vs.toArray t (lo, lo + n)) ∧ ∀ i, i < vs.length → ¬ (lo ≤ i ∧ i < lo + n)

abbrev at_ (b o : Nat) : Addr := ⟨b, o, none⟩

@[simp] theorem add_mk (b o n : Nat) : (Addr.mk b o none).add n = Addr.mk b (o + n) none := by
 unfold Addr.add; split
 ·rename_i h; subst h; rfl
 ·rfl

theorem Blk.lt {h : H} {b : Nat} {vs : List Value} (k : Blk h b vs) : b < h.size := by
 obtain ⟨t, lo, hi, hb, _⟩ := k
 exact (Array.getElem?_eq_some_iff.1 hb).1
theorem Blk.of_eq {h h' : H} {b : Nat} {vs : List Value} (k : Blk h b vs) (e : h'[b]? = h[b]?) : Blk h' b vs := by
 obtain ⟨t, lo, hi, hb, hf⟩ := k
 exact ⟨t, lo, hi, by rw [e]; exact hb, hf⟩

theorem Blk.hc {h : H} {b : Nat} {vs : List Value} (k : Blk h b vs) (o : Nat) : hc h ⟨b, o, none⟩ = vs[o]? := by
 obtain ⟨t, lo, hi, hb, _⟩ := k
 simp [Vc.hc, hb]
theorem Blk.hf {h : H} {b : Nat} {vs : List Value} (k : Blk h b vs) {o : Nat} (ho : o < vs.length) : hf h ⟨b, o, none⟩ = false := by
 obtain ⟨t, lo, hi, hb, hfz⟩ := k
 have := hfz o ho
 simp only [Vc.hf, hb]
 simp only [Bool.and_eq_false_imp, decide_eq_true_eq, decide_eq_false_iff_not]
 intro h1 h2; exact this ⟨h1, h2⟩
theorem Blk.can {h : H} {b : Nat} {vs : List Value} (k : Blk h b vs) {o n : Nat} (ho : o + n ≤ vs.length) : hcan h ⟨b, o, none⟩ n := by
 intro i hi
 have hl : o + i < vs.length := by omega
 rw [add_mk, k.hc, k.hf hl]
 simp [List.getElem?_eq_getElem hl]
theorem Blk.hcs {h : H} {b : Nat} {vs : List Value} (k : Blk h b vs) {o : Nat} {xs : List Value} (e : ∀ i, i < xs.length → vs[o + i]? = xs[i]?) : hcs h ⟨b, o, none⟩ xs := by
 intro i v hv
 rw [add_mk, k.hc, e i (List.getElem?_eq_some_iff.1 hv).1, hv]

/-! ### Writing -/
def splice (vs : List Value) : Nat → List Value → List Value
 | _, [] => vs
 | o, x :: r => splice (vs.set o x) (o + 1) r
@[simp] theorem splice_nil (vs : List Value) (o : Nat) : splice vs o [] = vs := rfl
@[simp] theorem splice_cons (vs : List Value) (o : Nat) (x : Value) (r : List Value) : splice vs o (x :: r) = splice (vs.set o x) (o + 1) r := rfl
@[simp] theorem splice_length (vs : List Value) (o : Nat) (xs : List Value) : (splice vs o xs).length = vs.length := by
 induction xs generalizing vs o with
 | nil => rfl
 | cons x r ih => simp [ih]
theorem splice_get (vs : List Value) (o : Nat) (xs : List Value) (i : Nat) : (splice vs o xs)[i]? = if o ≤ i ∧ i < o + xs.length ∧ i < vs.length then xs[i - o]? else vs[i]? := by
 induction xs generalizing vs o with
 | nil =>
  have : ¬ (o ≤ i ∧ i < o + ([] : List Value).length ∧ i < vs.length) := by simp; omega
  rw [if_neg this]; rfl
 | cons x r ih =>
  rw [splice_cons, ih]
  simp only [List.length_cons, List.length_set]
  by_cases h1 : o = i
  ·subst h1
   rw [if_neg (by omega)]
   by_cases h2 : o < vs.length
   ·rw [if_pos (by omega)]; simp [h2]
   ·rw [if_neg (by omega)]
    have : (vs.set o x) = vs := List.set_eq_of_length_le (by omega)
    rw [this]
  ·rw [List.getElem?_set_ne h1]
   by_cases h2 : o + 1 ≤ i ∧ i < o + 1 + r.length ∧ i < vs.length
   ·rw [if_pos h2, if_pos (by omega)]
    have : i - o = (i - (o + 1)) + 1 := by omega
    rw [this]; simp
   ·rw [if_neg h2, if_neg (by omega)]
theorem splice_all (vs xs : List Value) (h : xs.length = vs.length) : splice vs 0 xs = xs := by
 apply List.ext_getElem?
 intro i
 rw [splice_get]
 split
 ·simp
 ·rename_i hn
  rw [List.getElem?_eq_none (by omega), List.getElem?_eq_none (by omega)]
theorem splice_append (a b c xs : List Value) (h : xs.length = b.length) : splice (a ++ b ++ c) a.length xs = a ++ xs ++ c := by
 apply List.ext_getElem?
 intro i
 rw [splice_get]
 simp only [List.length_append]
 split
 ·rename_i hh
  rw [List.append_assoc, List.getElem?_append_right hh.1, List.getElem?_append_left (by omega)]
 ·rename_i hh
  rw [List.append_assoc, List.append_assoc]
  by_cases h1 : i < a.length
  ·rw [List.getElem?_append_left h1, List.getElem?_append_left h1]
  ·rw [List.getElem?_append_right (by omega), List.getElem?_append_right (by omega)]
   by_cases h2 : i - a.length < b.length
   ·omega
   ·rw [List.getElem?_append_right (by omega), List.getElem?_append_right (by omega), h]

theorem hs_eq {h : H} {b : Nat} {vs : List Value} (k : Blk h b vs) (o : Nat) (v : Value) : Blk (hs h ⟨b, o, none⟩ v) b (vs.set o v) := by
 obtain ⟨t, lo, hi, hb, hfz⟩ := k
 refine ⟨t, lo, hi, ?_, by simpa using hfz⟩
 simp only [hs, Array.getElem?_modify, hb]
 simp
theorem hs_ne (h : H) (a : Addr) (v : Value) {x : Nat} (hx : x ≠ a.block) : (hs h a v)[x]? = h[x]? := by
 simp only [hs, Array.getElem?_modify]
 rw [if_neg (by omega)]
theorem hs_size (h : H) (a : Addr) (v : Value) : (hs h a v).size = h.size := by simp [hs]
theorem hwrFrom_blk {h : H} {b : Nat} {vs : List Value} (k : Blk h b vs) (o : Nat) (xs : List Value) (j : Nat) : Blk (hwrFrom h ⟨b, o, none⟩ j xs) b (splice vs (o + j) xs) := by
 induction xs generalizing h vs j with
 | nil => exact k
 | cons x r ih =>
  simp only [hwrFrom, splice_cons, add_mk]
  exact ih (hs_eq k (o + j) x) (j + 1)
theorem add_block (a : Addr) (n : Nat) : (a.add n).block = a.block := by unfold Addr.add; split <;> rfl
theorem hwrFrom_ne (h : H) (a : Addr) (j : Nat) (xs : List Value) {x : Nat} (hx : x ≠ a.block) : (hwrFrom h a j xs)[x]? = h[x]? := by
 induction xs generalizing h j with
 | nil => rfl
 | cons y r ih => simp only [hwrFrom]; rw [ih, hs_ne]; rw [add_block]; exact hx
theorem hwrFrom_size (h : H) (a : Addr) (j : Nat) (xs : List Value) : (hwrFrom h a j xs).size = h.size := by
 induction xs generalizing h j with
 | nil => rfl
 | cons y r ih => simp only [hwrFrom]; rw [ih, hs_size]
theorem Blk.wr {h : H} {b : Nat} {vs : List Value} (k : Blk h b vs) (o : Nat) (xs : List Value) : Blk (hwr h ⟨b, o, none⟩ xs) b (splice vs o xs) := hwrFrom_blk k o xs 0
theorem hwr_ne (h : H) (a : Addr) (xs : List Value) {x : Nat} (hx : x ≠ a.block) : (hwr h a xs)[x]? = h[x]? := hwrFrom_ne h a 0 xs hx
theorem hwr_size (h : H) (a : Addr) (xs : List Value) : (hwr h a xs).size = h.size := hwrFrom_size h a 0 xs
theorem Blk.wr_ne {h : H} {b : Nat} {vs : List Value} (k : Blk h b vs) {a : Addr} {xs : List Value} (hx : b ≠ a.block) : Blk (hwr h a xs) b vs := k.of_eq (hwr_ne h a xs hx)

/-! ### What is left alone -/
structure Ext (S : Nat → Prop) (h h' : H) : Prop where
 size : h.size ≤ h'.size
 eq : ∀ b, b < h.size → ¬ S b → h'[b]? = h[b]?
abbrev none_ : Nat → Prop := fun _ => False
theorem Ext.refl (S : Nat → Prop) (h : H) : Ext S h h := ⟨Nat.le_refl _, fun _ _ _ => rfl⟩
theorem Ext.trans {S : Nat → Prop} {h h' h'' : H} (a : Ext S h h') (b : Ext S h' h'') : Ext S h h'' :=
 ⟨Nat.le_trans a.size b.size, fun x hx hs => by rw [b.eq x (Nat.lt_of_lt_of_le hx a.size) hs, a.eq x hx hs]⟩
theorem Ext.mono {S T : Nat → Prop} {h h' : H} (a : Ext S h h') (st : ∀ b, b < h.size → S b → T b) : Ext T h h' :=
 ⟨a.size, fun x hx hs => a.eq x hx fun h => hs (st x hx h)⟩
theorem Ext.comp {S T : Nat → Prop} {h h' h'' : H} (a : Ext S h h') (b : Ext T h' h'') (st : ∀ x, x < h.size → T x → S x) : Ext S h h'' :=
 ⟨Nat.le_trans a.size b.size, fun x hx hs => by rw [b.eq x (Nat.lt_of_lt_of_le hx a.size) (fun t => hs (st x hx t)), a.eq x hx hs]⟩
theorem Ext.blk {S : Nat → Prop} {h h' : H} (a : Ext S h h') {b : Nat} {vs : List Value} (k : Blk h b vs) (hb : ¬ S b) : Blk h' b vs := k.of_eq (a.eq b k.lt hb)
theorem Ext.wr (h : H) (b o : Nat) (xs : List Value) : Ext (fun x => x = b) h (hwr h ⟨b, o, none⟩ xs) :=
 ⟨by rw [hwr_size]; exact Nat.le_refl _, fun x _ hx => hwr_ne h _ xs hx⟩
theorem hnew.size {h h' : H} {b : Nat} {c : List Value} (n : hnew h b c h') : h'.size = h.size + 1 := by
 obtain ⟨_, t, lo, hi, _, rfl⟩ := n; simp
theorem hnew.b {h h' : H} {b : Nat} {c : List Value} (n : hnew h b c h') : b = h.size := n.1
theorem hnew.ext {h h' : H} {b : Nat} {c : List Value} (n : hnew h b c h') : Ext none_ h h' := by
 refine ⟨by rw [n.size]; omega, ?_⟩
 obtain ⟨_, t, lo, hi, _, rfl⟩ := n
 intro x hx _
 rw [Array.getElem?_push]; rw [if_neg (by omega)]
theorem hnew.blk {h h' : H} {b : Nat} {c : List Value} (n : hnew h b c h') : Blk h' b c := by
 obtain ⟨rfl, t, lo, hi, hf, rfl⟩ := n
 exact ⟨t, lo, hi, by simp, hf⟩
theorem Blk.ne {h : H} {b b' : Nat} {vs vs' : List Value} (k : Blk h b vs) (k' : ¬ b' < h.size) : b ≠ b' := fun e => k' (e ▸ k.lt)

/-! ### Rows of integers -/
@[simp] theorem ints_nil (k : IntKind) : ints k [] = [] := rfl
@[simp] theorem ints_cons (k : IntKind) (n : Int) (r : List Int) : ints k (n :: r) = .int k n :: ints k r := rfl
@[simp] theorem ints_length (k : IntKind) (ns : List Int) : (ints k ns).length = ns.length := by simp [ints]
@[simp] theorem ints_append (k : IntKind) (a b : List Int) : ints k (a ++ b) = ints k a ++ ints k b := by simp [ints]
theorem ints_get (k : IntKind) (ns : List Int) (i : Nat) : (ints k ns)[i]? = ns[i]?.map (Value.int k) := by simp [ints]
@[simp] theorem zeros_length (n : Nat) : (zeros n).length = n := by simp [zeros]
theorem Blk.hrow {h : H} {b : Nat} {vs : List Value} (k : Blk h b vs) {o : Nat} {kd : IntKind} {ns : List Int} (e : ∀ i, i < ns.length → vs[o + i]? = ns[i]?.map (Value.int kd)) : hrow h ⟨b, o, none⟩ kd ns := by
 apply k.hcs
 intro i hi
 rw [e i (by simpa using hi), ints_get]
@[simp] theorem oneCell_int (k : IntKind) (n : Int) : (Value.int k n).oneCell' = true := rfl
end Go.Vc
end

/- Slices: what they hold, who owns it, and appending. Own work; generic over any program. -/
section
set_option linter.unusedVariables false
namespace Go.Vc

theorem hc_congr {h h' : H} {a : Addr} (e : h'[a.block]? = h[a.block]?) : hc h' a = hc h a := by simp only [hc, e]
theorem hc_lt {h : H} {a : Addr} {v : Value} (e : hc h a = some v) : a.block < h.size := by
 rcases Nat.lt_or_ge a.block h.size with k | k
 ·exact k
 ·simp [hc, Array.getElem?_eq_none k] at e
theorem hc_ext {S : Nat → Prop} {h h' : H} (x : Ext S h h') {a : Addr} {v : Value} (e : hc h a = some v) (hs : ¬ S a.block) : hc h' a = some v := by
 rw [hc_congr (x.eq _ (hc_lt e) hs), e]
theorem hcs_ext {S : Nat → Prop} {h h' : H} (x : Ext S h h') {a : Addr} {vs : List Value} (e : hcs h a vs) (hs : ¬ S a.block) : hcs h' a vs := by
 intro i v hv
 exact hc_ext x (e i v hv) (by rw [add_block]; exact hs)
theorem hsv_ext {S : Nat → Prop} {h h' : H} (x : Ext S h h') {p : Option Addr} {sz l : Nat} {vs : List Value} (e : hsv h p sz l vs) (hs : ∀ q, p = some q → ¬ S q.block) : hsv h' p sz l vs := by
 obtain ⟨h1, h2, h3⟩ := e
 refine ⟨h1, h2, ?_⟩
 rcases h3 with h3 | ⟨q, hq, h3⟩
 ·exact Or.inl h3
 ·exact Or.inr ⟨q, hq, hcs_ext x h3 (hs q hq)⟩
theorem hsv_none {h : H} {sz l : Nat} {vs : List Value} (e : hsv h none sz l vs) : vs = [] := by
 obtain ⟨_, _, h3⟩ := e
 rcases h3 with h3 | ⟨q, hq, _⟩
 ·exact h3
 ·cases hq
theorem hsv_get {h : H} {p : Option Addr} {sz l : Nat} {vs : List Value} (e : hsv h p sz l vs) {i : Nat} {v : Value} (hi : vs[i]? = some v) : ∃ q, p = some q ∧ hc h (q.add i) = some v := by
 obtain ⟨_, _, h3⟩ := e
 rcases h3 with h3 | ⟨q, hq, h3⟩
 ·subst h3; simp at hi
 ·exact ⟨q, hq, h3 i v hi⟩
def OwnS (h : H) (p : Option Addr) (l c sz : Nat) (vs : List Value) (bs : List Nat) : Prop :=
 vs.length = l * sz ∧ l ≤ c ∧ (∀ v, v ∈ vs → v.oneCell' = true) ∧
  ((l = 0 ∧ c = 0 ∧ bs = []) ∨ ∃ b rest, p = some ⟨b, 0, none⟩ ∧ bs = [b] ∧ Blk h b (vs ++ rest) ∧ (c - l) * sz ≤ rest.length)
theorem OwnS.hsv {h : H} {p : Option Addr} {l c sz : Nat} {vs : List Value} {bs : List Nat} (o : OwnS h p l c sz vs bs) : hsv h p sz l vs := by
 obtain ⟨h1, h2, h3, h4⟩ := o
 refine ⟨h1, h3, ?_⟩
 rcases h4 with ⟨rfl, _, _⟩ | ⟨b, rest, rfl, _, k, _⟩
 ·left; apply List.eq_nil_of_length_eq_zero; simp [h1]
 ·right
  exact ⟨_, rfl, k.hcs fun i hi => by rw [Nat.zero_add, List.getElem?_append_left hi]⟩
theorem OwnS.lt {h : H} {p : Option Addr} {l c sz : Nat} {vs : List Value} {bs : List Nat} (o : OwnS h p l c sz vs bs) : ∀ b, b ∈ bs → b < h.size := by
 obtain ⟨_, _, _, h4⟩ := o
 rcases h4 with ⟨_, _, rfl⟩ | ⟨b, rest, _, rfl, k, _⟩
 ·intro b hb; simp at hb
 ·intro b' hb; simp at hb; subst hb; exact k.lt
theorem OwnS.ext {S : Nat → Prop} {h h' : H} (x : Ext S h h') {p : Option Addr} {l c sz : Nat} {vs : List Value} {bs : List Nat} (o : OwnS h p l c sz vs bs) (hs : ∀ b, b ∈ bs → ¬ S b) : OwnS h' p l c sz vs bs := by
 obtain ⟨h1, h2, h3, h4⟩ := o
 refine ⟨h1, h2, h3, ?_⟩
 rcases h4 with h4 | ⟨b, rest, hp, rfl, k, hr⟩
 ·exact Or.inl h4
 ·exact Or.inr ⟨b, rest, hp, rfl, x.blk k (hs b (by simp)), hr⟩
theorem OwnS.nil (h : H) (p : Option Addr) (sz : Nat) : OwnS h p 0 0 sz [] [] := ⟨by simp, Nat.le_refl _, by simp, Or.inl ⟨rfl, rfl, rfl⟩⟩

theorem flatten_replicate_length {α : Type} (n : Nat) (z : List α) : (List.replicate n z).flatten.length = n * z.length := by
 induction n with
 | zero => simp
 | succ n ih => simp [List.replicate_succ, Nat.succ_mul, ih]; omega

def newB (h : H) (bs : List Nat) : Prop := ∀ b, b ∈ bs → h.size ≤ b
theorem newB.ext {S : Nat → Prop} {h h' : H} (x : Ext S h h') {bs : List Nat} (n : newB h' bs) : newB h bs := fun b hb => Nat.le_trans x.size (n b hb)

theorem pApp_empty {h : H} {sz : Nat} {z : List Value} {B : Nat} {p : Option Addr} {n : Nat} {vs : List Value} {K : Option Addr → Nat → Nat → H → Prop}
  (hl : vs.length = n * sz) (hz : z.length = sz) (hv : ∀ v, v ∈ vs → v.oneCell' = true) (hb : n * B ≤ 2 ^ 47)
  (hk : ∀ p' c' h' bs, Ext none_ h h' → OwnS h' p' n c' sz vs bs → newB h bs → K p' n c' h') : pApp h sz z B p 0 0 n vs K := by
 unfold pApp
 by_cases hn : n = 0
 ·subst hn
  have hv0 : vs = [] := List.eq_nil_of_length_eq_zero (by simp [hl])
  subst hv0
  rw [if_pos (by simp)]
  refine ⟨Or.inl rfl, fun h' e => ?_⟩
  have e' : h' = h := by rw [e]; cases p <;> rfl
  subst e'
  exact hk _ _ _ [] (Ext.refl _ _) (OwnS.nil _ _ _) (by intro b hb; simp at hb)
 ·rw [if_neg (by omega)]
  refine ⟨by simpa using hb, [], ⟨by simp, by simp, Or.inl rfl⟩, fun c' b h' hc hw => ?_⟩
  have : (0 + n) = n := by omega
  rw [this] at hc ⊢
  refine hk _ _ _ [b] hw.ext ⟨hl, hc, hv, Or.inr ⟨b, (List.replicate (c' - (0 + n)) z).flatten, rfl, rfl, ?_, ?_⟩⟩ ?_
  ·simpa using hw.blk
  ·rw [flatten_replicate_length, hz, this]; exact Nat.le_refl _
  ·intro x hx; simp at hx; subst hx; rw [hw.b]; exact Nat.le_refl _

theorem pApp_own {h : H} {sz : Nat} {z : List Value} {B : Nat} {p : Option Addr} {l c n : Nat} {old vs : List Value} {bs : List Nat} {K : Option Addr → Nat → Nat → H → Prop}
  (o : OwnS h p l c sz old bs) (hl : vs.length = n * sz) (hz : z.length = sz) (hv : ∀ v, v ∈ vs → v.oneCell' = true) (hb : (l + n) * B ≤ 2 ^ 47)
  (hk : ∀ p' c' h' bs', Ext (fun b => b ∈ bs) h h' → OwnS h' p' (l + n) c' sz (old ++ vs) bs' → (∀ b, b ∈ bs' → b ∈ bs ∨ h.size ≤ b) → K p' (l + n) c' h') : pApp h sz z B p l c n vs K := by
 have ohs := o.hsv
 have olt := o.lt
 obtain ⟨h1, h2, h3, h4⟩ := o
 have hov : ∀ v, v ∈ old ++ vs → v.oneCell' = true := by
  intro v hm; rcases List.mem_append.1 hm with hm | hm
  ·exact h3 v hm
  ·exact hv v hm
 have hlen : (old ++ vs).length = (l + n) * sz := by simp [h1, hl, Nat.add_mul]
 unfold pApp
 split
 ·rename_i hroom
  rcases h4 with ⟨rfl, rfl, rfl⟩ | ⟨b, rest, rfl, rfl, k, hr⟩
  ·have hn : n = 0 := by omega
   subst hn
   have hv0 : vs = [] := List.eq_nil_of_length_eq_zero (by simp [hl])
   have ho0 : old = [] := List.eq_nil_of_length_eq_zero (by simp [h1])
   subst hv0; subst ho0
   refine ⟨Or.inl rfl, fun h' e => ?_⟩
   have e' : h' = h := by rw [e]; cases p <;> rfl
   subst e'
   exact hk _ _ _ [] (Ext.refl _ _) (OwnS.nil _ _ _) (by intro b hb; simp at hb)
  ·have hnr : n * sz ≤ rest.length := by
    have : n * sz ≤ (c - l) * sz := Nat.mul_le_mul_right _ (by omega)
    omega
   refine ⟨Or.inr ⟨_, rfl, ?_⟩, fun h' e => ?_⟩
   ·rw [add_mk]; apply k.can; simp [h1]; omega
   ·simp only [Option.map_some, hwrO, add_mk, Nat.zero_add] at e
    have hs : splice (old ++ rest) (l * sz) vs = (old ++ vs) ++ rest.drop (n * sz) := by
     have : old ++ rest = old ++ rest.take (n * sz) ++ rest.drop (n * sz) := by simp
     rw [this, ← h1, splice_append]
     simp [hl, Nat.min_eq_left hnr]
    have kb := k.wr (l * sz) vs
    rw [hs] at kb
    subst e
    refine hk _ _ _ [b] ⟨by rw [hwr_size]; exact Nat.le_refl _, fun x _ hx => hwr_ne _ _ _ (by simpa using hx)⟩ ⟨hlen, hroom, hov, Or.inr ⟨b, rest.drop (n * sz), rfl, rfl, kb, ?_⟩⟩ (fun x hx => Or.inl hx)
    simp
    have : c - (l + n) = (c - l) - n := by omega
    rw [this, Nat.sub_mul]; omega
 ·rename_i hroom
  refine ⟨hb, old, ohs, fun c' b h' hc hw => ?_⟩
  refine hk _ _ _ [b] (hw.ext.mono fun _ _ hf => hf.elim) ⟨hlen, hc, hov, Or.inr ⟨b, (List.replicate (c' - (l + n)) z).flatten, rfl, rfl, ?_, ?_⟩⟩ ?_
  ·exact hw.blk
  ·rw [flatten_replicate_length, hz]; exact Nat.le_refl _
  ·intro x hx; simp at hx; subst hx; right; rw [hw.b]; exact Nat.le_refl _
end Go.Vc
end

/- Loops that count up. Own work; generic over any program. -/
section
set_option linter.unusedVariables false
namespace Go.Vc
abbrev si (i : Nat) : SV := .dv (.one (.int .i64 (i : Int)))
theorem loop_up {J : List SV → H → Prop} (N : Nat) (Inv : Nat → H → Prop) (step : ∀ i h, i < N → Inv i h → (∀ h', Inv (i + 1) h' → J [si (i + 1)] h') → J [si i] h)
  (exit : ∀ h, Inv N h → J [si N] h) (i : Nat) (h : H) (hi : i ≤ N) (inv : Inv i h) : J [si i] h := by
 generalize e : N - i = n
 induction n generalizing i h with
 | zero =>
  have : i = N := by omega
  subst this; exact exit h inv
 | succ n ih => exact step i h (by omega) inv fun h' inv' => ih (i + 1) h' (by omega) inv' (by omega)
theorem wrap_succ {i : Nat} (h : i < 2 ^ 62) : IntKind.i64.wrap ((i : Int) + 1) = ((i + 1 : Nat) : Int) := by
 rw [IntKind.wrap_i64]; omega
theorem wrap_id {n : Int} (h : -(2 ^ 62) ≤ n ∧ n ≤ 2 ^ 62) : IntKind.i64.wrap n = n := by
 rw [IntKind.wrap_i64]; omega
theorem wrap_u8_id {n : Int} (h : 0 ≤ n ∧ n < 256) : IntKind.u8.wrap n = n := by
 rw [IntKind.wrap_u8]; omega

def mapTo (g : Nat → Int → Int) (i : Nat) (ns : List Int) : List Int := ns.mapIdx fun j v => if j < i then g j v else v
@[simp] theorem mapTo_length (g : Nat → Int → Int) (i : Nat) (ns : List Int) : (mapTo g i ns).length = ns.length := by simp [mapTo]
theorem mapTo_get (g : Nat → Int → Int) (i : Nat) (ns : List Int) (j : Nat) : (mapTo g i ns)[j]? = ns[j]?.map fun v => if j < i then g j v else v := by simp [mapTo]
@[simp] theorem mapTo_zero (g : Nat → Int → Int) (ns : List Int) : mapTo g 0 ns = ns := by
 apply List.ext_getElem?; intro j; rw [mapTo_get]; simp
theorem mapTo_succ (g : Nat → Int → Int) (i : Nat) (ns : List Int) (hi : i < ns.length) : (mapTo g i ns).set i (g i ns[i]) = mapTo g (i + 1) ns := by
 apply List.ext_getElem?; intro j
 by_cases h : i = j
 ·subst h; rw [List.getElem?_set_self (by simpa using hi), mapTo_get]; simp [hi]
 ·rw [List.getElem?_set_ne h, mapTo_get, mapTo_get]
  congr 1; funext v
  by_cases h1 : j < i
  ·rw [if_pos h1, if_pos (by omega)]
  ·rw [if_neg h1, if_neg (by omega)]
theorem ints_set (k : IntKind) (ns : List Int) (i : Nat) (n : Int) : (ints k ns).set i (.int k n) = ints k (ns.set i n) := by simp [ints, List.map_set]
end Go.Vc
end
