/- GateNames: what is proved and its parts, laid together by a program of ours: F F Hp Hs Lp -/
import Derived.Test.YtaglicdidpgkpaaGreatDoorK4
set_option autoImplicit false
set_option linter.all false
/- Denotations of functions of the program, printed by a program of ours, and that they are the model's. -/
section
set_option linter.unusedVariables false
set_option maxRecDepth 100000
namespace Go.Proofs.YtaglicdidpgkpaaGreatDoor
open Go Go.Vc
def G_portcullisref02_Of (c0 : OA → Nat → Nat → (OA → Nat → Nat → H → Prop) → H → Prop) (c1 : (List Int → H → Prop) → H → Prop) (c2 : (List Int → H → Prop) → H → Prop) (c3 : List Int → OA → Nat → Nat → List Int → (List Int → H → Prop) → H → Prop) (a0p : OA) (a0l : Nat) (a0c : Nat) (Q : List Int → H → Prop) (h : H) : Prop := ∀ n9 h10, hnew h n9 (ints .u8 (zeros 32)) h10 → c0 a0p a0l a0c (fun o12 n13 n14 h15 => c1 (fun l16 h17 => ∀ n18 h19, hnew h17 n18 (ints .u32 (zeros 8)) h19 → hcan h19 ⟨n18, 0, none⟩ 8 ∧ ∀ h21, h21 = hwr h19 ⟨n18, 0, none⟩ (ints .u32 l16 ++ []) → c2 (fun l23 h24 => ∀ n25 h26, hnew h24 n25 (ints .u32 (zeros 64)) h26 → hcan h26 ⟨n25, 0, none⟩ 64 ∧ ∀ h28, h28 = hwr h26 ⟨n25, 0, none⟩ (ints .u32 l23 ++ []) → ∀ (J30 : JT), (∀ (i31 : Int) (h32 : H), (if ltI i31 n13 = true then ∃ (l33 : List Int), l33.length = 8 ∧ hrow h32 ⟨n18, 0, none⟩ .u32 l33 ∧ 0 ≤ i31 ∧ i31 ≤ IntKind.i64.wrap (i31 + 64) ∧ IntKind.i64.wrap (i31 + 64) ≤ (↑n14 : Int) ∧ ∃ (l34 : List Int), l34.length = 64 ∧ hrow h32 ⟨n25, 0, none⟩ .u32 l34 ∧ c3 l33 (subAddr o12 i31.toNat n14 1) ((IntKind.i64.wrap (i31 + 64)).toNat - i31.toNat) (n14 - i31.toNat) l34 (fun l35 h36 => hcan h36 ⟨n18, 0, none⟩ 8 ∧ ∀ h37, h37 = hwr h36 ⟨n18, 0, none⟩ (ints .u32 l35 ++ []) → J30 [.dv (.one (.int .i64 (IntKind.i64.wrap (i31 + 64))))] h37) h32 else ∀ n39 h40, hnew h32 n39 (ints .u8 (zeros 32)) h40 → hcan h40 ⟨n39, 0, none⟩ 32 ∧ ∀ h42, h42 = hwr h40 ⟨n39, 0, none⟩ (ints .u8 (zeros 32)) → ∀ (J44 : JT), (∀ (i45 : Int) (h46 : H), (if ltI i45 32 = true then (4 : Int) ≠ 0 ∧ 0 ≤ IntKind.i64.wrap (i45.tdiv 4) ∧ IntKind.i64.wrap (i45.tdiv 4) < (↑8 : Int) ∧ ∃ i47, hc h46 ((Addr.mk n18 0 none).add ((IntKind.i64.wrap (i45.tdiv 4)).toNat * 1)) = some (.int .u32 i47) ∧ (4 : Int) ≠ 0 ∧ 0 ≤ IntKind.i64.wrap (24 - IntKind.i64.wrap (8 * i45.tmod 4)) ∧ 0 ≤ i45 ∧ i45 < (↑32 : Int) ∧ hcan h46 ((Addr.mk n39 0 none).add (i45.toNat * 1)) 1 ∧ ∀ h48, h48 = hwr h46 ((Addr.mk n39 0 none).add (i45.toNat * 1)) [.int .u8 (IntKind.u8.wrap (i47.fdiv (2 ^ min (IntKind.i64.wrap (24 - IntKind.i64.wrap (8 * i45.tmod 4))).toNat 32)))] → J44 [.dv (.one (.int .i64 (IntKind.i64.wrap (i45 + 1))))] h48 else ∃ (l50 : List Int), l50.length = 32 ∧ hrow h46 ⟨n39, 0, none⟩ .u8 l50 ∧ hcan h46 ⟨n9, 0, none⟩ 32 ∧ ∀ h51, h51 = hwr h46 ⟨n9, 0, none⟩ (ints .u8 l50 ++ []) → ∃ (l53 : List Int), l53.length = 32 ∧ hrow h51 ⟨n9, 0, none⟩ .u8 l53 ∧ Q l53 h51) → J44 [.dv (.one (.int .i64 i45))] h46) → J44 [.dv (.one (.int .i64 0))] h42) → J30 [.dv (.one (.int .i64 i31))] h32) → J30 [.dv (.one (.int .i64 0))] h28) h21) h15) h10
theorem E_portcullisref02_Of : ∀ c0 c1 c2 c3 a0p a0l a0c Q h, G_portcullisref02_Of c0 c1 c2 c3 a0p a0l a0c Q h = Dbody PP [(177, W [.slc] [.slc] c0), (178, W [] [.ag [.row .u32 8]] c1), (179, W [] [.ag [.row .u32 64]] c2), (180, W [.ag [.row .u32 8], .slc, .ag [.row .u32 64]] [.ag [.row .u32 8]] c3)] [(250, [(6, .sc (.int .i64))]), (1018, [(8, .sc (.int .i64))])] Tryz.f111 [.one (.slice a0p a0l a0c)] (decR [.ag [.row .u8 32]] Q) h := by intros; kernel_rfl
def F_portcullisref02_Of := G_portcullisref02_Of F_portcullisref02_padded F_portcullisref02_begins F_portcullisref02_rounds F_portcullisref02_piece
theorem R_portcullisref02_Of : RunOk PP 111 (W [.slc] [.ag [.row .u8 32]] F_portcullisref02_Of) := runOk_of (TblOk.cons R_portcullisref02_padded (TblOk.cons R_portcullisref02_begins (TblOk.cons R_portcullisref02_rounds (TblOk.cons R_portcullisref02_piece (TblOk.nil))))) Tryz.func111 (by kernel_rfl) (by kernel_rfl) (E_portcullisref02_Of _ _ _ _)
attribute [irreducible] F_portcullisref02_Of
def G_portcullisref03_block (c0 : OA → Nat → Nat → (List Int → H → Prop) → H → Prop) (a0p : OA) (a0l : Nat) (a0c : Nat) (Q : OA → Nat → Nat → H → Prop) (h : H) : Prop := ∀ n6 h7, hnew h n6 [] h7 → if ltI 64 a0l = true then c0 a0p a0l a0c (fun l9 h10 => ∀ n11 h12, hnew h10 n11 (ints .u8 (zeros 32)) h12 → hcan h12 ⟨n11, 0, none⟩ 32 ∧ ∀ h14, h14 = hwr h12 ⟨n11, 0, none⟩ (ints .u8 l9 ++ []) → ∃ (l16 : List Value), hsv h14 (subAddr (some (Addr.mk n11 0 none)) 0 32 1) 1 32 l16 ∧ pApp h14 1 [.int .u8 0] 1 (some (Addr.mk n6 0 none)) 0 0 32 l16 fun o17 n18 n19 h20 => ∀ (J21 : JT), (∀ (o22 : OA) (n23 n24 : Nat) (h25 : H), (if ltI (↑n23 : Int) 64 = true then ∀ n26 h27, hnew h25 n26 [.int .u8 0] h27 → ∃ (l29 : List Value), hsv h27 (some (Addr.mk n26 0 none)) 1 1 l29 ∧ pApp h27 1 [.int .u8 0] 1 o22 n23 n24 1 l29 fun o30 n31 n32 h33 => J21 [.dv (.one (.slice o30 n31 n32))] h33 else Q o22 n23 n24 h25) → J21 [.dv (.one (.slice o22 n23 n24))] h25) → J21 [.dv (.one (.slice o17 n18 n19))] h20) h7 else ∃ (l36 : List Value), hsv h7 a0p 1 a0l l36 ∧ pApp h7 1 [.int .u8 0] 1 (some (Addr.mk n6 0 none)) 0 0 a0l l36 fun o37 n38 n39 h40 => ∀ (J41 : JT), (∀ (o42 : OA) (n43 n44 : Nat) (h45 : H), (if ltI (↑n43 : Int) 64 = true then ∀ n46 h47, hnew h45 n46 [.int .u8 0] h47 → ∃ (l49 : List Value), hsv h47 (some (Addr.mk n46 0 none)) 1 1 l49 ∧ pApp h47 1 [.int .u8 0] 1 o42 n43 n44 1 l49 fun o50 n51 n52 h53 => J41 [.dv (.one (.slice o50 n51 n52))] h53 else Q o42 n43 n44 h45) → J41 [.dv (.one (.slice o42 n43 n44))] h45) → J41 [.dv (.one (.slice o37 n38 n39))] h40
theorem E_portcullisref03_block : ∀ c0 a0p a0l a0c Q h, G_portcullisref03_block c0 a0p a0l a0c Q h = Dbody PP [(111, W [.slc] [.ag [.row .u8 32]] c0)] [(60, [(3, .sc (.slc))])] Tryz.f109 [.one (.slice a0p a0l a0c)] (decR [.slc] Q) h := by intros; kernel_rfl
def F_portcullisref03_block := G_portcullisref03_block F_portcullisref02_Of
theorem R_portcullisref03_block : RunOk PP 109 (W [.slc] [.slc] F_portcullisref03_block) := runOk_of (TblOk.cons R_portcullisref02_Of (TblOk.nil)) Tryz.func109 (by kernel_rfl) (by kernel_rfl) (E_portcullisref03_block _)
attribute [irreducible] F_portcullisref03_block
def G_portcullisref03_over (a0p : OA) (a0l : Nat) (a0c : Nat) (a1 : Int) (Q : OA → Nat → Nat → H → Prop) (h : H) : Prop := ∀ n6 h7, hnew h n6 [] h7 → ∀ (J9 : JT), (∀ (o10 : OA) (n11 n12 : Nat) (i13 : Int) (h14 : H), (if ltI i13 a0l = true then ∃ p15, a0p = some p15 ∧ 0 ≤ i13 ∧ i13 < a0l ∧ ∃ i16, hc h14 (p15.add (i13.toNat * 1)) = some (.int .u8 i16) ∧ ∀ n17 h18, hnew h14 n17 [.int .u8 (bits .xor .u8 i16 a1)] h18 → ∃ (l20 : List Value), hsv h18 (some (Addr.mk n17 0 none)) 1 1 l20 ∧ pApp h18 1 [.int .u8 0] 1 o10 n11 n12 1 l20 fun o21 n22 n23 h24 => J9 [.dv (.one (.slice o21 n22 n23)), .dv (.one (.int .i64 (IntKind.i64.wrap (i13 + 1))))] h24 else Q o10 n11 n12 h14) → J9 [.dv (.one (.slice o10 n11 n12)), .dv (.one (.int .i64 i13))] h14) → J9 [.dv (.one (.slice (some (Addr.mk n6 0 none)) 0 0)), .dv (.one (.int .i64 0))] h7
theorem E_portcullisref03_over : ∀ a0p a0l a0c a1 Q h, G_portcullisref03_over a0p a0l a0c a1 Q h = Dbody PP [] [(58, [(5, .sc (.slc)), (6, .sc (.int .i64))])] Tryz.f110 [.one (.slice a0p a0l a0c), .one (.int .u8 a1)] (decR [.slc] Q) h := by intros; kernel_rfl
def F_portcullisref03_over := G_portcullisref03_over
theorem R_portcullisref03_over : RunOk PP 110 (W [.slc, .int .u8] [.slc] F_portcullisref03_over) := runOk_of (TblOk.nil) Tryz.func110 (by kernel_rfl) (by kernel_rfl) (E_portcullisref03_over)
attribute [irreducible] F_portcullisref03_over
def G_portcullisref03_Of (c0 : OA → Nat → Nat → (OA → Nat → Nat → H → Prop) → H → Prop) (c1 : OA → Nat → Nat → Int → (OA → Nat → Nat → H → Prop) → H → Prop) (c2 : OA → Nat → Nat → (List Int → H → Prop) → H → Prop) (a0p : OA) (a0l : Nat) (a0c : Nat) (a1p : OA) (a1l : Nat) (a1c : Nat) (Q : List Int → H → Prop) (h : H) : Prop := ∀ n11 h12, hnew h n11 (ints .u8 (zeros 32)) h12 → c0 a0p a0l a0c (fun o14 n15 n16 h17 => c1 o14 n15 n16 54 (fun o18 n19 n20 h21 => ∃ (l22 : List Value), hsv h21 a1p 1 a1l l22 ∧ pApp h21 1 [.int .u8 0] 1 o18 n19 n20 a1l l22 fun o23 n24 n25 h26 => c2 o23 n24 n25 (fun l27 h28 => ∀ n29 h30, hnew h28 n29 (ints .u8 (zeros 32)) h30 → hcan h30 ⟨n29, 0, none⟩ 32 ∧ ∀ h32, h32 = hwr h30 ⟨n29, 0, none⟩ (ints .u8 l27 ++ []) → c1 o14 n15 n16 92 (fun o34 n35 n36 h37 => ∃ (l38 : List Value), hsv h37 (some (Addr.mk n29 0 none)) 1 32 l38 ∧ pApp h37 1 [.int .u8 0] 1 o34 n35 n36 32 l38 fun o39 n40 n41 h42 => c2 o39 n40 n41 (fun l43 h44 => hcan h44 ⟨n11, 0, none⟩ 32 ∧ ∀ h45, h45 = hwr h44 ⟨n11, 0, none⟩ (ints .u8 l43 ++ []) → ∃ (l47 : List Int), l47.length = 32 ∧ hrow h45 ⟨n11, 0, none⟩ .u8 l47 ∧ Q l47 h45) h42) h32) h26) h17) h12
theorem E_portcullisref03_Of : ∀ c0 c1 c2 a0p a0l a0c a1p a1l a1c Q h, G_portcullisref03_Of c0 c1 c2 a0p a0l a0c a1p a1l a1c Q h = Dbody PP [(109, W [.slc] [.slc] c0), (110, W [.slc, .int .u8] [.slc] c1), (111, W [.slc] [.ag [.row .u8 32]] c2)] [] Tryz.f41 [.one (.slice a0p a0l a0c), .one (.slice a1p a1l a1c)] (decR [.ag [.row .u8 32]] Q) h := by intros; kernel_rfl
def F_portcullisref03_Of := G_portcullisref03_Of F_portcullisref03_block F_portcullisref03_over F_portcullisref02_Of
theorem R_portcullisref03_Of : RunOk PP 41 (W [.slc, .slc] [.ag [.row .u8 32]] F_portcullisref03_Of) := runOk_of (TblOk.cons R_portcullisref03_block (TblOk.cons R_portcullisref03_over (TblOk.cons R_portcullisref02_Of (TblOk.nil)))) Tryz.func41 (by kernel_rfl) (by kernel_rfl) (E_portcullisref03_Of _ _ _)
attribute [irreducible] F_portcullisref03_Of
def G_gate_Check_1 (c0 : Addr → (Int → Int → H → Prop) → H → Prop) (a0 : Addr) (Q : Int → H → Prop) (h : H) : Prop := ∃ o4, hc h a0 = some (.pointer o4) ∧ ∃ p5, o4 = some p5 ∧ c0 p5 (fun i6 i7 h8 => Q i7 h8) h
theorem E_gate_Check_1 : ∀ c0 a0 Q h, G_gate_Check_1 c0 a0 Q h = Dbody PP [(70, W [.addr] [.int .i64, .int .i64] c0)] [] Tryz.f94 [.addr a0] (decR [.int .i64] Q) h := by intros; kernel_rfl
def F_gate_Check_1 := G_gate_Check_1 F_store_Store_Active
theorem R_gate_Check_1 : RunOk PP 94 (W [.addr] [.int .i64] F_gate_Check_1) := runOk_of (TblOk.cons R_store_Store_Active (TblOk.nil)) Tryz.func94 (by kernel_rfl) (by kernel_rfl) (E_gate_Check_1 _)
attribute [irreducible] F_gate_Check_1
def G_image_may (a0 : Int) (a1 : Int) (Q : Bool → H → Prop) (h : H) : Prop := if ltI a0 4 = true then 0 ≤ a0 ∧ a0 < (↑4 : Int) ∧ Q (a1 == (↑((ByteArray.mk #[80, 67, 85, 76]).data.toList.getD a0.toNat 0).toNat : Int)) h else if (a0 == 4) = true then Q (a1 == 1) h else if (a0 == 5) = true then Q (ltI a1 8) h else if (a0 == 6) = true then Q (ltI a1 64) h else if (a0 == 7) = true then Q (a1 == 0) h else Q true h
theorem E_image_may : ∀ a0 a1 Q h, G_image_may a0 a1 Q h = Dbody PP [] [] Tryz.f120 [.one (.int .i64 a0), .one (.int .u8 a1)] (decR [.bool] Q) h := by intros; kernel_rfl
def F_image_may := G_image_may
theorem R_image_may : RunOk PP 120 (W [.int .i64, .int .u8] [.bool] F_image_may) := runOk_of (TblOk.nil) Tryz.func120 (by kernel_rfl) (by kernel_rfl) (E_image_may)
attribute [irreducible] F_image_may
def G_image_number (a0p : OA) (a0l : Nat) (a0c : Nat) (Q : Int → H → Prop) (h : H) : Prop := ∃ p5, a0p = some p5 ∧ (0 : Int) ≤ 0 ∧ 0 < (↑a0l : Int) ∧ ∃ i6, hc h p5 = some (.int .u8 i6) ∧ ∃ p7, a0p = some p7 ∧ (0 : Int) ≤ 1 ∧ 1 < (↑a0l : Int) ∧ ∃ i8, hc h (p7.add 1) = some (.int .u8 i8) ∧ (0 : Int) ≤ 8 ∧ ∃ p9, a0p = some p9 ∧ (0 : Int) ≤ 2 ∧ 2 < (↑a0l : Int) ∧ ∃ i10, hc h (p9.add 2) = some (.int .u8 i10) ∧ (0 : Int) ≤ 16 ∧ ∃ p11, a0p = some p11 ∧ (0 : Int) ≤ 3 ∧ 3 < (↑a0l : Int) ∧ ∃ i12, hc h (p11.add 3) = some (.int .u8 i12) ∧ (0 : Int) ≤ 24 ∧ Q (bits .or .i64 (bits .or .i64 (bits .or .i64 (IntKind.i64.wrap i6) (IntKind.i64.wrap (IntKind.i64.wrap i8 * 2 ^ 8))) (IntKind.i64.wrap (IntKind.i64.wrap i10 * 2 ^ 16))) (IntKind.i64.wrap (IntKind.i64.wrap i12 * 2 ^ 24))) h
theorem E_image_number : ∀ a0p a0l a0c Q h, G_image_number a0p a0l a0c Q h = Dbody PP [] [] Tryz.f121 [.one (.slice a0p a0l a0c)] (decR [.int .i64] Q) h := by intros; kernel_rfl
def F_image_number := G_image_number
theorem R_image_number : RunOk PP 121 (W [.slc] [.int .i64] F_image_number) := runOk_of (TblOk.nil) Tryz.func121 (by kernel_rfl) (by kernel_rfl) (E_image_number)
attribute [irreducible] F_image_number
def G_image_Parse (c0 : Int → Int → (Bool → H → Prop) → H → Prop) (c1 : OA → Nat → Nat → (Int → H → Prop) → H → Prop) (a0p : OA) (a0l : Nat) (a0c : Nat) (Q : Int → Int → Int → OA → Nat → Nat → List Int → Value → H → Prop) (h : H) : Prop := ∀ n7 h8, hnew h n7 (.int .i64 0 :: .int .i64 0 :: .int .i64 0 :: .slice none 0 0 :: ints .u8 (zeros 32)) h8 → if ltI 524288 a0l = true then ∀ n10 h11, hnew h8 n10 [.int .i64 4, .int .i64 524288] h11 → hcan h11 ⟨n7, 0, none⟩ 36 ∧ ∀ h13, h13 = hwr h11 ⟨n7, 0, none⟩ (.int .i64 0 :: .int .i64 0 :: .int .i64 0 :: .slice none 0 0 :: ints .u8 (zeros 32)) → ∃ i15, hc h13 ⟨n7, 0, none⟩ = some (.int .i64 i15) ∧ ∃ i16, hc h13 ⟨n7, 1, none⟩ = some (.int .i64 i16) ∧ ∃ i17, hc h13 ⟨n7, 2, none⟩ = some (.int .i64 i17) ∧ ∃ o18 n19 n20, hc h13 ⟨n7, 3, none⟩ = some (.slice o18 n19 n20) ∧ ∃ (l21 : List Int), l21.length = 32 ∧ hrow h13 ⟨n7, 4, none⟩ .u8 l21 ∧ Q i15 i16 i17 o18 n19 n20 l21 (.iface 200 (.pointer (some (Addr.mk n10 0 none)))) h13 else ∀ (J22 : JT), (∀ (i23 : Int) (h24 : H), (if ltI i23 16 = true then if (i23 == (↑a0l : Int)) = true then ∀ n25 h26, hnew h24 n25 [.int .i64 6, .int .i64 i23] h26 → hcan h26 ⟨n7, 0, none⟩ 36 ∧ ∀ h28, h28 = hwr h26 ⟨n7, 0, none⟩ (.int .i64 0 :: .int .i64 0 :: .int .i64 0 :: .slice none 0 0 :: ints .u8 (zeros 32)) → ∃ i30, hc h28 ⟨n7, 0, none⟩ = some (.int .i64 i30) ∧ ∃ i31, hc h28 ⟨n7, 1, none⟩ = some (.int .i64 i31) ∧ ∃ i32, hc h28 ⟨n7, 2, none⟩ = some (.int .i64 i32) ∧ ∃ o33 n34 n35, hc h28 ⟨n7, 3, none⟩ = some (.slice o33 n34 n35) ∧ ∃ (l36 : List Int), l36.length = 32 ∧ hrow h28 ⟨n7, 4, none⟩ .u8 l36 ∧ Q i30 i31 i32 o33 n34 n35 l36 (.iface 200 (.pointer (some (Addr.mk n25 0 none)))) h28 else ∃ p37, a0p = some p37 ∧ 0 ≤ i23 ∧ i23 < a0l ∧ ∃ i38, hc h24 (p37.add (i23.toNat * 1)) = some (.int .u8 i38) ∧ c0 i23 i38 (fun b39 h40 => if (!b39) = true then ∀ n41 h42, hnew h40 n41 [.int .i64 5, .int .i64 i23] h42 → hcan h42 ⟨n7, 0, none⟩ 36 ∧ ∀ h44, h44 = hwr h42 ⟨n7, 0, none⟩ (.int .i64 0 :: .int .i64 0 :: .int .i64 0 :: .slice none 0 0 :: ints .u8 (zeros 32)) → ∃ i46, hc h44 ⟨n7, 0, none⟩ = some (.int .i64 i46) ∧ ∃ i47, hc h44 ⟨n7, 1, none⟩ = some (.int .i64 i47) ∧ ∃ i48, hc h44 ⟨n7, 2, none⟩ = some (.int .i64 i48) ∧ ∃ o49 n50 n51, hc h44 ⟨n7, 3, none⟩ = some (.slice o49 n50 n51) ∧ ∃ (l52 : List Int), l52.length = 32 ∧ hrow h44 ⟨n7, 4, none⟩ .u8 l52 ∧ Q i46 i47 i48 o49 n50 n51 l52 (.iface 200 (.pointer (some (Addr.mk n41 0 none)))) h44 else J22 [.dv (.one (.int .i64 (IntKind.i64.wrap (i23 + 1))))] h40) h24 else (0 : Int) ≤ 12 ∧ 12 ≤ (↑a0l : Int) ∧ c1 (subAddr a0p 12 a0c 1) (a0l - 12) (a0c - 12) (fun i53 h54 => if ltI 524288 (IntKind.i64.wrap (IntKind.i64.wrap (16 + i53) + 32)) = true then ∀ n55 h56, hnew h54 n55 [.int .i64 5, .int .i64 12] h56 → hcan h56 ⟨n7, 0, none⟩ 36 ∧ ∀ h58, h58 = hwr h56 ⟨n7, 0, none⟩ (.int .i64 0 :: .int .i64 0 :: .int .i64 0 :: .slice none 0 0 :: ints .u8 (zeros 32)) → ∃ i60, hc h58 ⟨n7, 0, none⟩ = some (.int .i64 i60) ∧ ∃ i61, hc h58 ⟨n7, 1, none⟩ = some (.int .i64 i61) ∧ ∃ i62, hc h58 ⟨n7, 2, none⟩ = some (.int .i64 i62) ∧ ∃ o63 n64 n65, hc h58 ⟨n7, 3, none⟩ = some (.slice o63 n64 n65) ∧ ∃ (l66 : List Int), l66.length = 32 ∧ hrow h58 ⟨n7, 4, none⟩ .u8 l66 ∧ Q i60 i61 i62 o63 n64 n65 l66 (.iface 200 (.pointer (some (Addr.mk n55 0 none)))) h58 else if ltI (↑a0l : Int) (IntKind.i64.wrap (IntKind.i64.wrap (16 + i53) + 32)) = true then ∀ n67 h68, hnew h54 n67 [.int .i64 6, .int .i64 (↑a0l : Int)] h68 → hcan h68 ⟨n7, 0, none⟩ 36 ∧ ∀ h70, h70 = hwr h68 ⟨n7, 0, none⟩ (.int .i64 0 :: .int .i64 0 :: .int .i64 0 :: .slice none 0 0 :: ints .u8 (zeros 32)) → ∃ i72, hc h70 ⟨n7, 0, none⟩ = some (.int .i64 i72) ∧ ∃ i73, hc h70 ⟨n7, 1, none⟩ = some (.int .i64 i73) ∧ ∃ i74, hc h70 ⟨n7, 2, none⟩ = some (.int .i64 i74) ∧ ∃ o75 n76 n77, hc h70 ⟨n7, 3, none⟩ = some (.slice o75 n76 n77) ∧ ∃ (l78 : List Int), l78.length = 32 ∧ hrow h70 ⟨n7, 4, none⟩ .u8 l78 ∧ Q i72 i73 i74 o75 n76 n77 l78 (.iface 200 (.pointer (some (Addr.mk n67 0 none)))) h70 else if ltI (IntKind.i64.wrap (IntKind.i64.wrap (16 + i53) + 32)) (↑a0l : Int) = true then ∀ n79 h80, hnew h54 n79 [.int .i64 7, .int .i64 (IntKind.i64.wrap (IntKind.i64.wrap (16 + i53) + 32))] h80 → hcan h80 ⟨n7, 0, none⟩ 36 ∧ ∀ h82, h82 = hwr h80 ⟨n7, 0, none⟩ (.int .i64 0 :: .int .i64 0 :: .int .i64 0 :: .slice none 0 0 :: ints .u8 (zeros 32)) → ∃ i84, hc h82 ⟨n7, 0, none⟩ = some (.int .i64 i84) ∧ ∃ i85, hc h82 ⟨n7, 1, none⟩ = some (.int .i64 i85) ∧ ∃ i86, hc h82 ⟨n7, 2, none⟩ = some (.int .i64 i86) ∧ ∃ o87 n88 n89, hc h82 ⟨n7, 3, none⟩ = some (.slice o87 n88 n89) ∧ ∃ (l90 : List Int), l90.length = 32 ∧ hrow h82 ⟨n7, 4, none⟩ .u8 l90 ∧ Q i84 i85 i86 o87 n88 n89 l90 (.iface 200 (.pointer (some (Addr.mk n79 0 none)))) h82 else ∃ (l91 : List Value), hsv h54 a0p 1 a0l l91 ∧ pApp h54 1 [.int .u8 0] 1 none 0 0 a0l l91 fun o92 n93 n94 h95 => ∃ p96, a0p = some p96 ∧ (0 : Int) ≤ 5 ∧ 5 < (↑a0l : Int) ∧ ∃ i97, hc h95 (p96.add 5) = some (.int .u8 i97) ∧ ∃ p98, a0p = some p98 ∧ (0 : Int) ≤ 6 ∧ 6 < (↑a0l : Int) ∧ ∃ i99, hc h95 (p98.add 6) = some (.int .u8 i99) ∧ (0 : Int) ≤ 8 ∧ 8 ≤ (↑a0l : Int) ∧ (0 : Int) ≤ 16 ∧ 16 ≤ IntKind.i64.wrap (16 + i53) ∧ IntKind.i64.wrap (16 + i53) ≤ IntKind.i64.wrap (16 + i53) ∧ IntKind.i64.wrap (16 + i53) ≤ (↑n94 : Int) ∧ c1 (subAddr a0p 8 a0c 1) (a0l - 8) (a0c - 8) (fun i100 h101 => hcs h101 (p98.add 6) [.int .u8 i99] ∧ hcs h101 (p96.add 5) [.int .u8 i97] ∧ ∀ n102 h103, hnew h101 n102 (.int .i64 0 :: .int .i64 0 :: .int .i64 0 :: .slice none 0 0 :: ints .u8 (zeros 32)) h103 → hcs h103 (p98.add 6) [.int .u8 i99] ∧ hcs h103 (p96.add 5) [.int .u8 i97] ∧ hcan h103 ⟨n102, 0, none⟩ 36 ∧ ∀ h105, h105 = hwr h103 ⟨n102, 0, none⟩ (.int .i64 (IntKind.i64.wrap i97) :: .int .i64 (IntKind.i64.wrap i99) :: .int .i64 i100 :: .slice (subAddr o92 16 (IntKind.i64.wrap (16 + i53)).toNat 1) ((IntKind.i64.wrap (16 + i53)).toNat - 16) ((IntKind.i64.wrap (16 + i53)).toNat - 16) :: ints .u8 [0, 0, 0, 0, 0, 0, 0, 0, 0, 0, 0, 0, 0, 0, 0, 0, 0, 0, 0, 0, 0, 0, 0, 0, 0, 0, 0, 0, 0, 0, 0, 0]) → 0 ≤ IntKind.i64.wrap (16 + i53) ∧ IntKind.i64.wrap (16 + i53) ≤ (↑n93 : Int) ∧ ∃ (l107 : List Value), hsv h105 (subAddr o92 (IntKind.i64.wrap (16 + i53)).toNat n94 1) 1 ((n93 - (IntKind.i64.wrap (16 + i53)).toNat).min 32) l107 ∧ (l107 = [] ∨ ∃ p108, some ((Addr.mk n102 0 none).add 4) = some p108 ∧ hcan h105 p108 ((n93 - (IntKind.i64.wrap (16 + i53)).toNat).min 32 * 1)) ∧ ∀ (h109 : H), h109 = hwrO h105 (some ((Addr.mk n102 0 none).add 4)) l107 → ∃ i111, hc h109 ⟨n102, 0, none⟩ = some (.int .i64 i111) ∧ ∃ i112, hc h109 ⟨n102, 1, none⟩ = some (.int .i64 i112) ∧ ∃ i113, hc h109 ⟨n102, 2, none⟩ = some (.int .i64 i113) ∧ ∃ o114 n115 n116, hc h109 ⟨n102, 3, none⟩ = some (.slice o114 n115 n116) ∧ ∃ (l117 : List Int), l117.length = 32 ∧ hrow h109 ⟨n102, 4, none⟩ .u8 l117 ∧ hcan h109 ⟨n7, 0, none⟩ 36 ∧ ∀ h118, h118 = hwr h109 ⟨n7, 0, none⟩ (.int .i64 i111 :: .int .i64 i112 :: .int .i64 i113 :: .slice o114 n115 n116 :: (ints .u8 l117 ++ [])) → ∃ i120, hc h118 ⟨n7, 0, none⟩ = some (.int .i64 i120) ∧ ∃ i121, hc h118 ⟨n7, 1, none⟩ = some (.int .i64 i121) ∧ ∃ i122, hc h118 ⟨n7, 2, none⟩ = some (.int .i64 i122) ∧ ∃ o123 n124 n125, hc h118 ⟨n7, 3, none⟩ = some (.slice o123 n124 n125) ∧ ∃ (l126 : List Int), l126.length = 32 ∧ hrow h118 ⟨n7, 4, none⟩ .u8 l126 ∧ Q i120 i121 i122 o123 n124 n125 l126 .nilIface h118) h95 ∧ ∀ n127 h128, hnew h95 n127 (.int .i64 0 :: .int .i64 0 :: .int .i64 0 :: .slice none 0 0 :: ints .u8 (zeros 32)) h128 → hcs h128 (p98.add 6) [.int .u8 i99] ∧ hcs h128 (p96.add 5) [.int .u8 i97] ∧ c1 (subAddr a0p 8 a0c 1) (a0l - 8) (a0c - 8) (fun i130 h131 => hcs h131 (p98.add 6) [.int .u8 i99] ∧ hcs h131 (p96.add 5) [.int .u8 i97] ∧ hcan h131 ⟨n127, 0, none⟩ 36 ∧ ∀ h132, h132 = hwr h131 ⟨n127, 0, none⟩ (.int .i64 (IntKind.i64.wrap i97) :: .int .i64 (IntKind.i64.wrap i99) :: .int .i64 i130 :: .slice (subAddr o92 16 (IntKind.i64.wrap (16 + i53)).toNat 1) ((IntKind.i64.wrap (16 + i53)).toNat - 16) ((IntKind.i64.wrap (16 + i53)).toNat - 16) :: ints .u8 [0, 0, 0, 0, 0, 0, 0, 0, 0, 0, 0, 0, 0, 0, 0, 0, 0, 0, 0, 0, 0, 0, 0, 0, 0, 0, 0, 0, 0, 0, 0, 0]) → 0 ≤ IntKind.i64.wrap (16 + i53) ∧ IntKind.i64.wrap (16 + i53) ≤ (↑n93 : Int) ∧ ∃ (l134 : List Value), hsv h132 (subAddr o92 (IntKind.i64.wrap (16 + i53)).toNat n94 1) 1 ((n93 - (IntKind.i64.wrap (16 + i53)).toNat).min 32) l134 ∧ (l134 = [] ∨ ∃ p135, some ((Addr.mk n127 0 none).add 4) = some p135 ∧ hcan h132 p135 ((n93 - (IntKind.i64.wrap (16 + i53)).toNat).min 32 * 1)) ∧ ∀ (h136 : H), h136 = hwrO h132 (some ((Addr.mk n127 0 none).add 4)) l134 → ∃ i138, hc h136 ⟨n127, 0, none⟩ = some (.int .i64 i138) ∧ ∃ i139, hc h136 ⟨n127, 1, none⟩ = some (.int .i64 i139) ∧ ∃ i140, hc h136 ⟨n127, 2, none⟩ = some (.int .i64 i140) ∧ ∃ o141 n142 n143, hc h136 ⟨n127, 3, none⟩ = some (.slice o141 n142 n143) ∧ ∃ (l144 : List Int), l144.length = 32 ∧ hrow h136 ⟨n127, 4, none⟩ .u8 l144 ∧ hcan h136 ⟨n7, 0, none⟩ 36 ∧ ∀ h145, h145 = hwr h136 ⟨n7, 0, none⟩ (.int .i64 i138 :: .int .i64 i139 :: .int .i64 i140 :: .slice o141 n142 n143 :: (ints .u8 l144 ++ [])) → ∃ i147, hc h145 ⟨n7, 0, none⟩ = some (.int .i64 i147) ∧ ∃ i148, hc h145 ⟨n7, 1, none⟩ = some (.int .i64 i148) ∧ ∃ i149, hc h145 ⟨n7, 2, none⟩ = some (.int .i64 i149) ∧ ∃ o150 n151 n152, hc h145 ⟨n7, 3, none⟩ = some (.slice o150 n151 n152) ∧ ∃ (l153 : List Int), l153.length = 32 ∧ hrow h145 ⟨n7, 4, none⟩ .u8 l153 ∧ Q i147 i148 i149 o150 n151 n152 l153 .nilIface h145) h128) h24) → J22 [.dv (.one (.int .i64 i23))] h24) → J22 [.dv (.one (.int .i64 0))] h8
theorem E_image_Parse : ∀ c0 c1 a0p a0l a0c Q h, G_image_Parse c0 c1 a0p a0l a0c Q h = Dbody PP [(120, W [.int .i64, .int .u8] [.bool] c0), (121, W [.slc] [.int .i64] c1)] [(58, [(16, .sc (.int .i64))])] Tryz.f48 [.one (.slice a0p a0l a0c)] (decR [.ag [.int .i64, .int .i64, .int .i64, .slc, .row .u8 32], .fn] Q) h := by intros; kernel_rfl
def F_image_Parse := G_image_Parse F_image_may F_image_number
theorem R_image_Parse : RunOk PP 48 (W [.slc] [.ag [.int .i64, .int .i64, .int .i64, .slc, .row .u8 32], .fn] F_image_Parse) := runOk_of (TblOk.cons R_image_may (TblOk.cons R_image_number (TblOk.nil))) Tryz.func48 (by kernel_rfl) (by kernel_rfl) (E_image_Parse _ _)
attribute [irreducible] F_image_Parse
def G_gate_Check_2 (c0 : OA → Nat → Nat → (Int → Int → Int → OA → Nat → Nat → List Int → Value → H → Prop) → H → Prop) (c1 : Value → Value → (Bool → H → Prop) → H → Prop) (a0 : Addr) (a1 : Addr) (Q : Int → H → Prop) (h : H) : Prop := ∃ o6 n7 n8, hc h a0 = some (.slice o6 n7 n8) ∧ c0 o6 n7 n8 (fun i9 i10 i11 o12 n13 n14 l15 v16 h17 => hcan h17 a1 36 ∧ ∀ h18, h18 = hwr h17 a1 (.int .i64 i9 :: .int .i64 i10 :: .int .i64 i11 :: .slice o12 n13 n14 :: (ints .u8 l15 ++ [])) → isIfc v16 = true ∧ if isNilI v16 = true then Q 0 h18 else ∀ n20 h21, hnew h18 n20 [.int .i64 0] h21 → hcan h21 ⟨n20, 0, none⟩ 1 ∧ ∀ h23, h23 = hwr h21 ⟨n20, 0, none⟩ [.int .i64 5] → c1 v16 (.iface 179 (.pointer (some (Addr.mk n20 0 none)))) (fun b25 h26 => ∃ i27, hc h26 ⟨n20, 0, none⟩ = some (.int .i64 i27) ∧ Q i27 h26) h23) h
theorem E_gate_Check_2 : ∀ c0 c1 a0 a1 Q h, G_gate_Check_2 c0 c1 a0 a1 Q h = Dbody PP [(48, W [.slc] [.ag [.int .i64, .int .i64, .int .i64, .slc, .row .u8 32], .fn] c0), (96, W [.fn, .fn] [.bool] c1)] [] Tryz.f95 [.addr a0, .addr a1] (decR [.int .i64] Q) h := by intros; kernel_rfl
def F_gate_Check_2 := G_gate_Check_2 F_image_Parse F_errors_As
theorem R_gate_Check_2 : RunOk PP 95 (W [.addr, .addr] [.int .i64] F_gate_Check_2) := runOk_of (TblOk.cons R_image_Parse (TblOk.cons R_errors_As (TblOk.nil))) Tryz.func95 (by kernel_rfl) (by kernel_rfl) (E_gate_Check_2 _ _)
attribute [irreducible] F_gate_Check_2
def G_fuse_row (c0 : Addr → (Int → Int → Int → Int → Int → Int → Int → H → Prop) → H → Prop) (c1 : Addr → Int → (Bool → Int → H → Prop) → H → Prop) (a0 : Addr) (a1 : Int) (Q : Int → Int → Int → H → Prop) (h : H) : Prop := c0 a0 (fun i6 i7 i8 i9 i10 i11 i12 h13 => ∀ (J14 : JT), (∀ (i15 i16 i17 : Int) (h18 : H), (if ltI i17 i8 = true then c1 a0 (IntKind.i64.wrap (IntKind.i64.wrap (a1 * i8) + i17)) (fun b19 i20 h21 => if (i20 != 0) = true then Q 0 0 i20 h21 else if b19 = true then J14 [.dv (.one (.int .i64 (IntKind.i64.wrap (i15 + 1)))), .dv (.one (.int .i64 i16)), .dv (.one (.int .i64 (IntKind.i64.wrap (i17 + 1))))] h21 else if ltI i16 0 = true then J14 [.dv (.one (.int .i64 i15)), .dv (.one (.int .i64 (IntKind.i64.wrap (IntKind.i64.wrap (a1 * i8) + i17)))), .dv (.one (.int .i64 (IntKind.i64.wrap (i17 + 1))))] h21 else J14 [.dv (.one (.int .i64 i15)), .dv (.one (.int .i64 i16)), .dv (.one (.int .i64 (IntKind.i64.wrap (i17 + 1))))] h21) h18 else Q i15 i16 0 h18) → J14 [.dv (.one (.int .i64 i15)), .dv (.one (.int .i64 i16)), .dv (.one (.int .i64 i17))] h18) → J14 [.dv (.one (.int .i64 0)), .dv (.one (.int .i64 (-1))), .dv (.one (.int .i64 0))] h13) h
theorem E_fuse_row : ∀ c0 c1 a0 a1 Q h, G_fuse_row c0 c1 a0 a1 Q h = Dbody PP [(105, W [.addr] [.ag [.int .i64, .int .i64, .int .i64, .int .i64, .int .i64, .int .i64, .int .i64]] c0), (175, W [.addr, .int .i64] [.bool, .int .i64] c1)] [(122, [(4, .sc (.int .i64)), (5, .sc (.int .i64)), (15, .sc (.int .i64))])] Tryz.f171 [.addr a0, .one (.int .i64 a1)] (decR [.int .i64, .int .i64, .int .i64] Q) h := by intros; kernel_rfl
def F_fuse_row := G_fuse_row F_chip_Chip_Config F_chip_Chip_Blown
theorem R_fuse_row : RunOk PP 171 (W [.addr, .int .i64] [.int .i64, .int .i64, .int .i64] F_fuse_row) := runOk_of (TblOk.cons R_chip_Chip_Config (TblOk.cons R_chip_Chip_Blown (TblOk.nil))) Tryz.func171 (by kernel_rfl) (by kernel_rfl) (E_fuse_row _ _)
attribute [irreducible] F_fuse_row
def G_fuse_Count (c0 : Addr → (Int → Int → Int → Int → Int → Int → Int → H → Prop) → H → Prop) (c1 : Addr → Int → Int → (Int → H → Prop) → H → Prop) (c2 : Addr → Int → (Int → Int → Int → H → Prop) → H → Prop) (a0 : Addr) (a1 : Int) (Q : Int → Int → H → Prop) (h : H) : Prop := c0 a0 (fun i7 i8 i9 i10 i11 i12 i13 h14 => c1 a0 a1 i8 (fun i15 h16 => if (i15 != 0) = true then Q 0 i15 h16 else c2 a0 a1 (fun i17 i18 i19 h20 => Q i17 i19 h20) h16) h14) h
theorem E_fuse_Count : ∀ c0 c1 c2 a0 a1 Q h, G_fuse_Count c0 c1 c2 a0 a1 Q h = Dbody PP [(105, W [.addr] [.ag [.int .i64, .int .i64, .int .i64, .int .i64, .int .i64, .int .i64, .int .i64]] c0), (170, W [.addr, .int .i64, .int .i64] [.int .i64] c1), (171, W [.addr, .int .i64] [.int .i64, .int .i64, .int .i64] c2)] [] Tryz.f106 [.addr a0, .one (.int .i64 a1)] (decR [.int .i64, .int .i64] Q) h := by intros; kernel_rfl
def F_fuse_Count := G_fuse_Count F_chip_Chip_Config F_fuse_asked F_fuse_row
theorem R_fuse_Count : RunOk PP 106 (W [.addr, .int .i64] [.int .i64, .int .i64] F_fuse_Count) := runOk_of (TblOk.cons R_chip_Chip_Config (TblOk.cons R_fuse_asked (TblOk.cons R_fuse_row (TblOk.nil)))) Tryz.func106 (by kernel_rfl) (by kernel_rfl) (E_fuse_Count _ _ _)
attribute [irreducible] F_fuse_Count
def G_store_Store_Read (c0 : Addr → Int → Int → (Int → H → Prop) → H → Prop) (c1 : Addr → (Int → Int → Int → Int → Int → Int → Int → H → Prop) → H → Prop) (c2 : Addr → Int → (Int → Int → H → Prop) → H → Prop) (c3 : Addr → Int → (Int → Int → H → Prop) → H → Prop) (a0 : Addr) (a1 : Int) (Q : Int → Int → H → Prop) (h : H) : Prop := ∃ o8, hc h a0 = some (.pointer o8) ∧ ∃ p9, o8 = some p9 ∧ c1 p9 (fun i10 i11 i12 i13 i14 i15 i16 h17 => c0 a0 a1 i11 (fun i18 h19 => if (i18 != 0) = true then Q 0 i18 h19 else ∃ o20, hc h19 a0 = some (.pointer o20) ∧ ∃ p21, o20 = some p21 ∧ c2 p21 a1 (fun i22 i23 h24 => if (i23 != 0) = true then Q 0 i23 h24 else ∃ o25, hc h24 (a0.add 1) = some (.pointer o25) ∧ ∃ p26, o25 = some p26 ∧ c3 p26 a1 (fun i27 i28 h29 => if (i28 != 0) = true then Q 0 i28 h29 else ∃ o30, hc h29 a0 = some (.pointer o30) ∧ ∃ p31, o30 = some p31 ∧ c1 p31 (fun i32 i33 i34 i35 i36 i37 i38 h39 => ∀ n40 h41, hnew h39 n40 (ints .i64 (zeros 2)) h41 → hcan h41 ⟨n40, 0, none⟩ 2 ∧ ∀ h43, h43 = hwr h41 ⟨n40, 0, none⟩ (ints .i64 [IntKind.i64.wrap (i22 * i35), i27] ++ []) → (0 : Int) ≤ 0 ∧ (0 : Int) < (↑2 : Int) ∧ ∃ i45, hc h43 ⟨n40, 0, none⟩ = some (.int .i64 i45) ∧ (0 : Int) ≤ 1 ∧ (1 : Int) < (↑2 : Int) ∧ ∃ i46, hc h43 ⟨n40, 1, none⟩ = some (.int .i64 i46) ∧ Q (if i46 > i45 then i46 else i45) 0 h43) h29) h24) h19) h17) h
theorem E_store_Store_Read : ∀ c0 c1 c2 c3 a0 a1 Q h, G_store_Store_Read c0 c1 c2 c3 a0 a1 Q h = Dbody PP [(104, W [.addr, .int .i64, .int .i64] [.int .i64] c0), (105, W [.addr] [.ag [.int .i64, .int .i64, .int .i64, .int .i64, .int .i64, .int .i64, .int .i64]] c1), (106, W [.addr, .int .i64] [.int .i64, .int .i64] c2), (107, W [.addr, .int .i64] [.int .i64, .int .i64] c3)] [] Tryz.f38 [.addr a0, .one (.int .i64 a1)] (decR [.int .i64, .int .i64] Q) h := by intros; kernel_rfl
def F_store_Store_Read := G_store_Store_Read F_store_Store_asked F_chip_Chip_Config F_fuse_Count F_log_Log_Number
theorem R_store_Store_Read : RunOk PP 38 (W [.addr, .int .i64] [.int .i64, .int .i64] F_store_Store_Read) := runOk_of (TblOk.cons R_store_Store_asked (TblOk.cons R_chip_Chip_Config (TblOk.cons R_fuse_Count (TblOk.cons R_log_Log_Number (TblOk.nil))))) Tryz.func38 (by kernel_rfl) (by kernel_rfl) (E_store_Store_Read _ _ _ _)
attribute [irreducible] F_store_Store_Read
def G_gate_Check_3 (c0 : Addr → Int → (Int → Int → H → Prop) → H → Prop) (a0 : Addr) (a1 : Addr) (Q : Int → H → Prop) (h : H) : Prop := ∃ o5, hc h a0 = some (.pointer o5) ∧ ∃ i6, hc h a1 = some (.int .i64 i6) ∧ ∃ p7, o5 = some p7 ∧ c0 p7 i6 (fun i8 i9 h10 => if (i9 != 0) = true then Q 5 h10 else Q 0 h10) h
theorem E_gate_Check_3 : ∀ c0 a0 a1 Q h, G_gate_Check_3 c0 a0 a1 Q h = Dbody PP [(38, W [.addr, .int .i64] [.int .i64, .int .i64] c0)] [] Tryz.f97 [.addr a0, .addr a1] (decR [.int .i64] Q) h := by intros; kernel_rfl
def F_gate_Check_3 := G_gate_Check_3 F_store_Store_Read
theorem R_gate_Check_3 : RunOk PP 97 (W [.addr, .addr] [.int .i64] F_gate_Check_3) := runOk_of (TblOk.cons R_store_Store_Read (TblOk.nil)) Tryz.func97 (by kernel_rfl) (by kernel_rfl) (E_gate_Check_3 _)
attribute [irreducible] F_gate_Check_3
def G_gate_Check_4 (c0 : Addr → Int → (Bool → Int → H → Prop) → H → Prop) (c1 : Addr → Int → (Bool → H → Prop) → H → Prop) (a0 : Addr) (a1 : Addr) (a2 : Addr) (Q : Int → H → Prop) (h : H) : Prop := ∃ o7, hc h a0 = some (.pointer o7) ∧ ∃ i8, hc h (a1.add 1) = some (.int .i64 i8) ∧ ∃ p9, o7 = some p9 ∧ c0 p9 i8 (fun b10 i11 h12 => ∃ o13, hc h12 a2 = some (.pointer o13) ∧ ∃ i14, hc h12 (a1.add 1) = some (.int .i64 i14) ∧ ∃ p15, o13 = some p15 ∧ c1 p15 i14 (fun b16 h17 => if (!b16) = true then Q 13 h17 else if (i11 != 0) = true then Q 13 h17 else if b10 = true then Q 14 h17 else Q 0 h17) h12) h
theorem E_gate_Check_4 : ∀ c0 c1 a0 a1 a2 Q h, G_gate_Check_4 c0 c1 a0 a1 a2 Q h = Dbody PP [(39, W [.addr, .int .i64] [.bool, .int .i64] c0), (72, W [.addr, .int .i64] [.bool] c1)] [] Tryz.f98 [.addr a0, .addr a1, .addr a2] (decR [.int .i64] Q) h := by intros; kernel_rfl
def F_gate_Check_4 := G_gate_Check_4 F_store_Store_Revoked F_keys_Ring_Has
theorem R_gate_Check_4 : RunOk PP 98 (W [.addr, .addr, .addr] [.int .i64] F_gate_Check_4) := runOk_of (TblOk.cons R_store_Store_Revoked (TblOk.cons R_keys_Ring_Has (TblOk.nil))) Tryz.func98 (by kernel_rfl) (by kernel_rfl) (E_gate_Check_4 _ _)
attribute [irreducible] F_gate_Check_4
def G_image_Body (a0p : OA) (a0l : Nat) (a0c : Nat) (Q : OA → Nat → Nat → H → Prop) (h : H) : Prop := if ltI (↑a0l : Int) 32 = true then Q none 0 0 h else 0 ≤ IntKind.i64.wrap ((↑a0l : Int) - 32) ∧ IntKind.i64.wrap ((↑a0l : Int) - 32) ≤ (↑a0c : Int) ∧ ∃ (l5 : List Value), hsv h (subAddr a0p 0 a0c 1) 1 ((IntKind.i64.wrap ((↑a0l : Int) - 32)).toNat - 0) l5 ∧ pApp h 1 [.int .u8 0] 1 none 0 0 ((IntKind.i64.wrap ((↑a0l : Int) - 32)).toNat - 0) l5 fun o6 n7 n8 h9 => Q o6 n7 n8 h9
theorem E_image_Body : ∀ a0p a0l a0c Q h, G_image_Body a0p a0l a0c Q h = Dbody PP [] [] Tryz.f42 [.one (.slice a0p a0l a0c)] (decR [.slc] Q) h := by intros; kernel_rfl
def F_image_Body := G_image_Body
theorem R_image_Body : RunOk PP 42 (W [.slc] [.slc] F_image_Body) := runOk_of (TblOk.nil) Tryz.func42 (by kernel_rfl) (by kernel_rfl) (E_image_Body)
attribute [irreducible] F_image_Body
def G_keys_Ring_Check (c0 : Addr → Int → OA → Nat → Nat → (List Int → Int → H → Prop) → H → Prop) (c1 : OA → Nat → Nat → OA → Nat → Nat → (Bool → H → Prop) → H → Prop) (a0 : Addr) (a1 : Int) (a2p : OA) (a2l : Nat) (a2c : Nat) (a3_0 : List Int) (Q : Bool → Int → H → Prop) (h : H) : Prop := ∀ n10 h11, hnew h n10 (ints .u8 a3_0 ++ []) h11 → c0 a0 a1 a2p a2l a2c (fun l13 i14 h15 => ∀ n16 h17, hnew h15 n16 (ints .u8 (zeros 32)) h17 → hcan h17 ⟨n16, 0, none⟩ 32 ∧ ∀ h19, h19 = hwr h17 ⟨n16, 0, none⟩ (ints .u8 l13 ++ []) → if (i14 != 0) = true then Q false i14 h19 else c1 (some (Addr.mk n16 0 none)) 32 32 (some (Addr.mk n10 0 none)) 32 32 (fun b21 h22 => Q b21 0 h22) h19) h11
theorem E_keys_Ring_Check : ∀ c0 c1 a0 a1 a2p a2l a2c a3_0 Q h, G_keys_Ring_Check c0 c1 a0 a1 a2p a2l a2c a3_0 Q h = Dbody PP [(128, W [.addr, .int .i64, .slc] [.ag [.row .u8 32], .int .i64] c0), (148, W [.slc, .slc] [.bool] c1)] [] Tryz.f100 [.addr a0, .one (.int .i64 a1), .one (.slice a2p a2l a2c), .agg [.row .u8 32 a3_0]] (decR [.bool, .int .i64] Q) h := by intros; kernel_rfl
def F_keys_Ring_Check := G_keys_Ring_Check F_keys_Ring_Sign F_mac_Equal
theorem R_keys_Ring_Check : RunOk PP 100 (W [.addr, .int .i64, .slc, .ag [.row .u8 32]] [.bool, .int .i64] F_keys_Ring_Check) := runOk_of (TblOk.cons R_keys_Ring_Sign (TblOk.cons R_mac_Equal (TblOk.nil))) Tryz.func100 (by kernel_rfl) (by kernel_rfl) (E_keys_Ring_Check _ _)
attribute [irreducible] F_keys_Ring_Check
def G_gate_Check_5 (c0 : OA → Nat → Nat → (OA → Nat → Nat → H → Prop) → H → Prop) (c1 : Addr → Int → OA → Nat → Nat → List Int → (Bool → Int → H → Prop) → H → Prop) (a0 : Addr) (a1 : Addr) (a2 : Addr) (Q : Int → H → Prop) (h : H) : Prop := ∃ o7, hc h a0 = some (.pointer o7) ∧ ∃ i8, hc h (a1.add 1) = some (.int .i64 i8) ∧ ∃ o9 n10 n11, hc h a2 = some (.slice o9 n10 n11) ∧ ∃ (l12 : List Int), l12.length = 32 ∧ hrow h (a1.add 4) .u8 l12 ∧ c0 o9 n10 n11 (fun o13 n14 n15 h16 => hcs h16 (a1.add 4) (ints .u8 l12 ++ []) ∧ hcs h16 (a1.add 1) [.int .i64 i8] ∧ hcs h16 a0 [.pointer o7] ∧ ∃ p17, o7 = some p17 ∧ c1 p17 i8 o13 n14 n15 l12 (fun b18 i19 h20 => if (!b18) = true then Q 15 h20 else if (i19 != 0) = true then Q 15 h20 else Q 0 h20) h16) h
theorem E_gate_Check_5 : ∀ c0 c1 a0 a1 a2 Q h, G_gate_Check_5 c0 c1 a0 a1 a2 Q h = Dbody PP [(42, W [.slc] [.slc] c0), (100, W [.addr, .int .i64, .slc, .ag [.row .u8 32]] [.bool, .int .i64] c1)] [] Tryz.f99 [.addr a0, .addr a1, .addr a2] (decR [.int .i64] Q) h := by intros; kernel_rfl
def F_gate_Check_5 := G_gate_Check_5 F_image_Body F_keys_Ring_Check
theorem R_gate_Check_5 : RunOk PP 99 (W [.addr, .addr, .addr] [.int .i64] F_gate_Check_5) := runOk_of (TblOk.cons R_image_Body (TblOk.cons R_keys_Ring_Check (TblOk.nil))) Tryz.func99 (by kernel_rfl) (by kernel_rfl) (E_gate_Check_5 _ _)
attribute [irreducible] F_gate_Check_5
def G_store_Store_Last (c0 : Addr → (Int → Int → Int → Int → Int → Int → Int → H → Prop) → H → Prop) (a0 : Addr) (Q : Int → H → Prop) (h : H) : Prop := ∃ o4, hc h a0 = some (.pointer o4) ∧ ∃ p5, o4 = some p5 ∧ c0 p5 (fun i6 i7 i8 i9 i10 i11 i12 h13 => ∀ n14 h15, hnew h13 n14 [.int .i64 0, .int .i64 0, .int .i64 0, .int .i64 0, .int .i64 0, .int .i64 0, .int .i64 0] h15 → hcan h15 ⟨n14, 0, none⟩ 7 ∧ ∀ h17, h17 = hwr h15 ⟨n14, 0, none⟩ [.int .i64 i6, .int .i64 i7, .int .i64 i8, .int .i64 i9, .int .i64 i10, .int .i64 i11, .int .i64 i12] → ∃ i19, hc h17 ⟨n14, 3, none⟩ = some (.int .i64 i19) ∧ ∃ i20, hc h17 ⟨n14, 2, none⟩ = some (.int .i64 i20) ∧ ∃ i21, hc h17 ⟨n14, 3, none⟩ = some (.int .i64 i21) ∧ Q (IntKind.i64.wrap (IntKind.i64.wrap (IntKind.i64.wrap (i19 * i20) + i21) - 1)) h17) h
theorem E_store_Store_Last : ∀ c0 a0 Q h, G_store_Store_Last c0 a0 Q h = Dbody PP [(105, W [.addr] [.ag [.int .i64, .int .i64, .int .i64, .int .i64, .int .i64, .int .i64, .int .i64]] c0)] [] Tryz.f40 [.addr a0] (decR [.int .i64] Q) h := by intros; kernel_rfl
def F_store_Store_Last := G_store_Store_Last F_chip_Chip_Config
theorem R_store_Store_Last : RunOk PP 40 (W [.addr] [.int .i64] F_store_Store_Last) := runOk_of (TblOk.cons R_chip_Chip_Config (TblOk.nil)) Tryz.func40 (by kernel_rfl) (by kernel_rfl) (E_store_Store_Last _)
attribute [irreducible] F_store_Store_Last
def G_gate_Check_6 (c0 : Addr → Int → (Int → Int → H → Prop) → H → Prop) (c1 : Addr → (Int → H → Prop) → H → Prop) (a0 : Addr) (a1 : Addr) (Q : Int → H → Prop) (h : H) : Prop := ∃ o6, hc h a0 = some (.pointer o6) ∧ ∃ i7, hc h a1 = some (.int .i64 i7) ∧ ∃ p8, o6 = some p8 ∧ c0 p8 i7 (fun i9 i10 h11 => if (i10 != 0) = true then Q 16 h11 else ∃ i12, hc h11 (a1.add 2) = some (.int .i64 i12) ∧ if ltI i12 i9 = true then Q 16 h11 else ∃ i13, hc h11 (a1.add 2) = some (.int .i64 i13) ∧ ∃ o14, hc h11 a0 = some (.pointer o14) ∧ ∃ p15, o14 = some p15 ∧ c1 p15 (fun i16 h17 => hcs h17 (a1.add 2) [.int .i64 i13] ∧ if ltI i16 i13 = true then Q 16 h17 else Q 0 h17) h11) h
theorem E_gate_Check_6 : ∀ c0 c1 a0 a1 Q h, G_gate_Check_6 c0 c1 a0 a1 Q h = Dbody PP [(38, W [.addr, .int .i64] [.int .i64, .int .i64] c0), (40, W [.addr] [.int .i64] c1)] [] Tryz.f101 [.addr a0, .addr a1] (decR [.int .i64] Q) h := by intros; kernel_rfl
def F_gate_Check_6 := G_gate_Check_6 F_store_Store_Read F_store_Store_Last
theorem R_gate_Check_6 : RunOk PP 101 (W [.addr, .addr] [.int .i64] F_gate_Check_6) := runOk_of (TblOk.cons R_store_Store_Read (TblOk.cons R_store_Store_Last (TblOk.nil))) Tryz.func101 (by kernel_rfl) (by kernel_rfl) (E_gate_Check_6 _ _)
attribute [irreducible] F_gate_Check_6
def G_gate_Check (c0 : Addr → (Int → H → Prop) → H → Prop) (c1 : Addr → Addr → (Int → H → Prop) → H → Prop) (c2 : Addr → Addr → (Int → H → Prop) → H → Prop) (c3 : Addr → Addr → Addr → (Int → H → Prop) → H → Prop) (c4 : Addr → Addr → Addr → (Int → H → Prop) → H → Prop) (c5 : Addr → Addr → (Int → H → Prop) → H → Prop) (a0 : Addr) (a1 : Addr) (a2p : OA) (a2l : Nat) (a2c : Nat) (Q : Int → Int → Int → OA → Nat → Nat → List Int → Int → H → Prop) (h : H) : Prop := ∀ n13 h14, hnew h n13 [.pointer (some a0)] h14 → ∀ n16 h17, hnew h14 n16 [.pointer (some a1)] h17 → ∀ n19 h20, hnew h17 n19 [.slice a2p a2l a2c] h20 → ∀ n22 h23, hnew h20 n22 (.int .i64 0 :: .int .i64 0 :: .int .i64 0 :: .slice none 0 0 :: ints .u8 (zeros 32)) h23 → ∀ n25 h26, hnew h23 n25 (.int .i64 0 :: .int .i64 0 :: .int .i64 0 :: .slice none 0 0 :: ints .u8 (zeros 32)) h26 → ∀ n28 h29, hnew h26 n28 [.func (Fn.func id_gate_Check_1) (Array.mk []) (Array.mk [.pointer (some (Addr.mk n13 0 none))]), .func (Fn.func id_gate_Check_2) (Array.mk []) (Array.mk [.pointer (some (Addr.mk n19 0 none)), .pointer (some (Addr.mk n25 0 none))]), .func (Fn.func id_gate_Check_3) (Array.mk []) (Array.mk [.pointer (some (Addr.mk n13 0 none)), .pointer (some (Addr.mk n25 0 none))]), .func (Fn.func id_gate_Check_4) (Array.mk []) (Array.mk [.pointer (some (Addr.mk n13 0 none)), .pointer (some (Addr.mk n25 0 none)), .pointer (some (Addr.mk n16 0 none))]), .func (Fn.func id_gate_Check_5) (Array.mk []) (Array.mk [.pointer (some (Addr.mk n16 0 none)), .pointer (some (Addr.mk n25 0 none)), .pointer (some (Addr.mk n19 0 none))]), .func (Fn.func id_gate_Check_6) (Array.mk []) (Array.mk [.pointer (some (Addr.mk n13 0 none)), .pointer (some (Addr.mk n25 0 none))])] h29 → ∀ (J31 : JT), (∀ (i32 : Int) (h33 : H), (if ltI i32 6 = true then ∃ p34, some (Addr.mk n28 0 none) = some p34 ∧ 0 ≤ i32 ∧ i32 < (↑6 : Int) ∧ ∃ (v35 : Value), hc h33 (p34.add (i32.toNat * 1)) = some v35 ∧ v35.oneCell' = true ∧ callFn PP v35 [] (fun l36 h37 => ∃ (x38 : DV), ∃ (l39 : List DV), l36 = x38 :: l39 ∧ ∃ (i40 : Int), x38 = DV.one (.int .i64 i40) ∧ l39 = [] ∧ if (i40 != 0) = true then hcan h37 ⟨n22, 0, none⟩ 36 ∧ ∀ h41, h41 = hwr h37 ⟨n22, 0, none⟩ (.int .i64 0 :: .int .i64 0 :: .int .i64 0 :: .slice none 0 0 :: ints .u8 (zeros 32)) → ∃ i43, hc h41 ⟨n22, 0, none⟩ = some (.int .i64 i43) ∧ ∃ i44, hc h41 ⟨n22, 1, none⟩ = some (.int .i64 i44) ∧ ∃ i45, hc h41 ⟨n22, 2, none⟩ = some (.int .i64 i45) ∧ ∃ o46 n47 n48, hc h41 ⟨n22, 3, none⟩ = some (.slice o46 n47 n48) ∧ ∃ (l49 : List Int), l49.length = 32 ∧ hrow h41 ⟨n22, 4, none⟩ .u8 l49 ∧ Q i43 i44 i45 o46 n47 n48 l49 i40 h41 else J31 [.dv (.one (.int .i64 (IntKind.i64.wrap (i32 + 1))))] h37) h33 else ∃ i50, hc h33 ⟨n25, 0, none⟩ = some (.int .i64 i50) ∧ ∃ i51, hc h33 ⟨n25, 1, none⟩ = some (.int .i64 i51) ∧ ∃ i52, hc h33 ⟨n25, 2, none⟩ = some (.int .i64 i52) ∧ ∃ o53 n54 n55, hc h33 ⟨n25, 3, none⟩ = some (.slice o53 n54 n55) ∧ ∃ (l56 : List Int), l56.length = 32 ∧ hrow h33 ⟨n25, 4, none⟩ .u8 l56 ∧ hcan h33 ⟨n22, 0, none⟩ 36 ∧ ∀ h57, h57 = hwr h33 ⟨n22, 0, none⟩ (.int .i64 i50 :: .int .i64 i51 :: .int .i64 i52 :: .slice o53 n54 n55 :: (ints .u8 l56 ++ [])) → ∃ i59, hc h57 ⟨n22, 0, none⟩ = some (.int .i64 i59) ∧ ∃ i60, hc h57 ⟨n22, 1, none⟩ = some (.int .i64 i60) ∧ ∃ i61, hc h57 ⟨n22, 2, none⟩ = some (.int .i64 i61) ∧ ∃ o62 n63 n64, hc h57 ⟨n22, 3, none⟩ = some (.slice o62 n63 n64) ∧ ∃ (l65 : List Int), l65.length = 32 ∧ hrow h57 ⟨n22, 4, none⟩ .u8 l65 ∧ Q i59 i60 i61 o62 n63 n64 l65 0 h57) → J31 [.dv (.one (.int .i64 i32))] h33) → J31 [.dv (.one (.int .i64 0))] h29
theorem E_gate_Check : ∀ c0 c1 c2 c3 c4 c5 a0 a1 a2p a2l a2c Q h, G_gate_Check c0 c1 c2 c3 c4 c5 a0 a1 a2p a2l a2c Q h = Dbody PP [(94, W [.addr] [.int .i64] c0), (95, W [.addr, .addr] [.int .i64] c1), (97, W [.addr, .addr] [.int .i64] c2), (98, W [.addr, .addr, .addr] [.int .i64] c3), (99, W [.addr, .addr, .addr] [.int .i64] c4), (101, W [.addr, .addr] [.int .i64] c5)] [(58, [(20, .sc (.int .i64))])] Tryz.f34 [.addr a0, .addr a1, .one (.slice a2p a2l a2c)] (decR [.ag [.int .i64, .int .i64, .int .i64, .slc, .row .u8 32], .int .i64] Q) h := by intros; kernel_rfl
def F_gate_Check := G_gate_Check F_gate_Check_1 F_gate_Check_2 F_gate_Check_3 F_gate_Check_4 F_gate_Check_5 F_gate_Check_6
theorem R_gate_Check : RunOk PP 34 (W [.addr, .addr, .slc] [.ag [.int .i64, .int .i64, .int .i64, .slc, .row .u8 32], .int .i64] F_gate_Check) := runOk_of (TblOk.cons R_gate_Check_1 (TblOk.cons R_gate_Check_2 (TblOk.cons R_gate_Check_3 (TblOk.cons R_gate_Check_4 (TblOk.cons R_gate_Check_5 (TblOk.cons R_gate_Check_6 (TblOk.nil))))))) Tryz.func34 (by kernel_rfl) (by kernel_rfl) (E_gate_Check _ _ _ _ _ _)
attribute [irreducible] F_gate_Check
def G_math_bits_Mul32 (a0 : Int) (a1 : Int) (Q : Int → Int → H → Prop) (h : H) : Prop := (0 : Int) ≤ 32 ∧ Q (IntKind.u32.wrap ((IntKind.u64.wrap (IntKind.u64.wrap a0 * IntKind.u64.wrap a1)).fdiv (2 ^ 32))) (IntKind.u32.wrap (IntKind.u64.wrap (IntKind.u64.wrap a0 * IntKind.u64.wrap a1))) h
theorem E_math_bits_Mul32 : ∀ a0 a1 Q h, G_math_bits_Mul32 a0 a1 Q h = Dbody PP [] [] Tryz.f221 [.one (.int .u32 a0), .one (.int .u32 a1)] (decR [.int .u32, .int .u32] Q) h := by intros; kernel_rfl
def F_math_bits_Mul32 := G_math_bits_Mul32
theorem R_math_bits_Mul32 : RunOk PP 221 (W [.int .u32, .int .u32] [.int .u32, .int .u32] F_math_bits_Mul32) := runOk_of (TblOk.nil) Tryz.func221 (by kernel_rfl) (by kernel_rfl) (E_math_bits_Mul32)
attribute [irreducible] F_math_bits_Mul32
def G_math_bits_Mul64 (a0 : Int) (a1 : Int) (Q : Int → Int → H → Prop) (h : H) : Prop := ∀ (i4 : Int), i4 = 4294967295 → (0 : Int) ≤ 32 ∧ ∀ (i6 : Int), i6 = 4294967295 → (0 : Int) ≤ 32 ∧ (0 : Int) ≤ 32 ∧ ∀ (i8 : Int), i8 = 4294967295 → (0 : Int) ≤ 32 ∧ (0 : Int) ≤ 32 ∧ Q (IntKind.u64.wrap (IntKind.u64.wrap (IntKind.u64.wrap (a0.fdiv (2 ^ 32) * a1.fdiv (2 ^ 32)) + (IntKind.u64.wrap (IntKind.u64.wrap (a0.fdiv (2 ^ 32) * bits .and .u64 a1 i6) + (IntKind.u64.wrap (bits .and .u64 a0 i4 * bits .and .u64 a1 i6)).fdiv (2 ^ 32))).fdiv (2 ^ 32)) + (IntKind.u64.wrap (bits .and .u64 (IntKind.u64.wrap (IntKind.u64.wrap (a0.fdiv (2 ^ 32) * bits .and .u64 a1 i6) + (IntKind.u64.wrap (bits .and .u64 a0 i4 * bits .and .u64 a1 i6)).fdiv (2 ^ 32))) i8 + IntKind.u64.wrap (bits .and .u64 a0 i4 * a1.fdiv (2 ^ 32)))).fdiv (2 ^ 32))) (IntKind.u64.wrap (a0 * a1)) h
theorem E_math_bits_Mul64 : ∀ a0 a1 Q h, G_math_bits_Mul64 a0 a1 Q h = Dbody PP [] [] Tryz.f222 [.one (.int .u64 a0), .one (.int .u64 a1)] (decR [.int .u64, .int .u64] Q) h := by intros; kernel_rfl
def F_math_bits_Mul64 := G_math_bits_Mul64
theorem R_math_bits_Mul64 : RunOk PP 222 (W [.int .u64, .int .u64] [.int .u64, .int .u64] F_math_bits_Mul64) := runOk_of (TblOk.nil) Tryz.func222 (by kernel_rfl) (by kernel_rfl) (E_math_bits_Mul64)
attribute [irreducible] F_math_bits_Mul64
def G_math_bits_Mul (c0 : Int → Int → (Int → Int → H → Prop) → H → Prop) (c1 : Int → Int → (Int → Int → H → Prop) → H → Prop) (a0 : Int) (a1 : Int) (Q : Int → Int → H → Prop) (h : H) : Prop := c1 a0 a1 (fun i6 i7 h8 => Q i6 i7 h8) h
theorem E_math_bits_Mul : ∀ c0 c1 a0 a1 Q h, G_math_bits_Mul c0 c1 a0 a1 Q h = Dbody PP [(221, W [.int .u32, .int .u32] [.int .u32, .int .u32] c0), (222, W [.int .u64, .int .u64] [.int .u64, .int .u64] c1)] [] Tryz.f202 [.one (.int .u64 a0), .one (.int .u64 a1)] (decR [.int .u64, .int .u64] Q) h := by intros; kernel_rfl
def F_math_bits_Mul := G_math_bits_Mul F_math_bits_Mul32 F_math_bits_Mul64
theorem R_math_bits_Mul : RunOk PP 202 (W [.int .u64, .int .u64] [.int .u64, .int .u64] F_math_bits_Mul) := runOk_of (TblOk.cons R_math_bits_Mul32 (TblOk.cons R_math_bits_Mul64 (TblOk.nil))) Tryz.func202 (by kernel_rfl) (by kernel_rfl) (E_math_bits_Mul _ _)
attribute [irreducible] F_math_bits_Mul
def G_slices_Repeat_api_Cell_api_Cell (c0 : Int → Int → (Int → Int → H → Prop) → H → Prop) (a0p : OA) (a0l : Nat) (a0c : Nat) (a1 : Int) (Q : OA → Nat → Nat → H → Prop) (h : H) : Prop := ∀ (J7 : JT), (∀ (h8 : H), c0 (IntKind.u64.wrap (↑a0l : Int)) (IntKind.u64.wrap a1) (fun i9 i10 h11 => ∀ (J12 : JT), (∀ (h13 : H), (0 ≤ IntKind.i64.wrap i10 ∧ IntKind.i64.wrap i10 ≤ IntKind.i64.wrap i10 ∧ (↑32 : Int) * IntKind.i64.wrap i10 ≤ 2 ^ 48 ∧ IntKind.i64.wrap i10 ≤ 2 ^ 48 ∧ ∀ n14 h15, hnew h13 n14 (List.replicate (IntKind.i64.wrap i10).toNat (ints .u8 (zeros 32))).flatten h15 → ∃ (l17 : List Value), hsv h15 a0p 32 (a0l.min (IntKind.i64.wrap i10).toNat) l17 ∧ (l17 = [] ∨ ∃ p18, some (Addr.mk n14 0 none) = some p18 ∧ hcan h15 p18 (a0l.min (IntKind.i64.wrap i10).toNat * 32)) ∧ ∀ (h19 : H), h19 = hwrO h15 (some (Addr.mk n14 0 none)) l17 → ∀ (J21 : JT), (∀ (i22 : Int) (h23 : H), (if ltI i22 (↑(IntKind.i64.wrap i10).toNat : Int) = true then 0 ≤ i22 ∧ i22 ≤ (↑(IntKind.i64.wrap i10).toNat : Int) ∧ 0 ≤ i22 ∧ i22 ≤ (↑(IntKind.i64.wrap i10).toNat : Int) ∧ ∃ (l24 : List Value), hsv h23 (subAddr (some (Addr.mk n14 0 none)) 0 (IntKind.i64.wrap i10).toNat 32) 32 ((i22.toNat - 0).min ((IntKind.i64.wrap i10).toNat - i22.toNat)) l24 ∧ (l24 = [] ∨ ∃ (p25 : Addr), subAddr (some (Addr.mk n14 0 none)) i22.toNat (IntKind.i64.wrap i10).toNat 32 = some p25 ∧ hcan h23 p25 ((i22.toNat - 0).min ((IntKind.i64.wrap i10).toNat - i22.toNat) * 32)) ∧ ∀ (h26 : H), h26 = hwrO h23 (subAddr (some (Addr.mk n14 0 none)) i22.toNat (IntKind.i64.wrap i10).toNat 32) l24 → J21 [.dv (.one (.int .i64 (IntKind.i64.wrap (i22 + (↑((i22.toNat - 0).min ((IntKind.i64.wrap i10).toNat - i22.toNat)) : Int)))))] h26 else Q (some (Addr.mk n14 0 none)) (IntKind.i64.wrap i10).toNat (IntKind.i64.wrap i10).toNat h23) → J21 [.dv (.one (.int .i64 i22))] h23) → J21 [.dv (.one (.int .i64 (↑(a0l.min (IntKind.i64.wrap i10).toNat) : Int)))] h19) → J12 [] h13) → if ltI 0 i9 = true then False else ∀ (i32 : Int), i32 = 9223372036854775807 → if ltI i32 i10 = true then False else J12 [] h11) h8 → J7 [] h8) → if ltI a1 0 = true then False else J7 [] h
theorem E_slices_Repeat_api_Cell_api_Cell : ∀ c0 a0p a0l a0c a1 Q h, G_slices_Repeat_api_Cell_api_Cell c0 a0p a0l a0c a1 Q h = Dbody PP [(202, W [.int .u64, .int .u64] [.int .u64, .int .u64] c0)] [(3, []), (15, []), (508, [(8, .sc (.int .i64))])] Tryz.f161 [.one (.slice a0p a0l a0c), .one (.int .i64 a1)] (decR [.slc] Q) h := by intros; kernel_rfl
def F_slices_Repeat_api_Cell_api_Cell := G_slices_Repeat_api_Cell_api_Cell F_math_bits_Mul
theorem R_slices_Repeat_api_Cell_api_Cell : RunOk PP 161 (W [.slc, .int .i64] [.slc] F_slices_Repeat_api_Cell_api_Cell) := runOk_of (TblOk.cons R_math_bits_Mul (TblOk.nil)) Tryz.func161 (by kernel_rfl) (by kernel_rfl) (E_slices_Repeat_api_Cell_api_Cell _)
attribute [irreducible] F_slices_Repeat_api_Cell_api_Cell
def G_chip_blank (Q : List Int → H → Prop) (h : H) : Prop := ∀ n2 h3, hnew h n2 (ints .u8 (zeros 32)) h3 → ∀ n5 h6, hnew h3 n5 (ints .u8 (zeros 32)) h6 → ∀ (J8 : JT), (∀ (i9 : Int) (h10 : H), (if ltI i9 32 = true then 0 ≤ i9 ∧ i9 < (↑32 : Int) ∧ hcan h10 ((Addr.mk n5 0 none).add (i9.toNat * 1)) 1 ∧ ∀ h11, h11 = hwr h10 ((Addr.mk n5 0 none).add (i9.toNat * 1)) [.int .u8 255] → J8 [.dv (.one (.int .i64 (IntKind.i64.wrap (i9 + 1))))] h11 else ∃ (l13 : List Int), l13.length = 32 ∧ hrow h10 ⟨n5, 0, none⟩ .u8 l13 ∧ hcan h10 ⟨n2, 0, none⟩ 32 ∧ ∀ h14, h14 = hwr h10 ⟨n2, 0, none⟩ (ints .u8 l13 ++ []) → ∃ (l16 : List Int), l16.length = 32 ∧ hrow h14 ⟨n2, 0, none⟩ .u8 l16 ∧ Q l16 h14) → J8 [.dv (.one (.int .i64 i9))] h10) → J8 [.dv (.one (.int .i64 0))] h6
theorem E_chip_blank : ∀ Q h, G_chip_blank Q h = Dbody PP [] [(58, [(3, .sc (.int .i64))])] Tryz.f162 [] (decR [.ag [.row .u8 32]] Q) h := by intros; kernel_rfl
def F_chip_blank := G_chip_blank
theorem R_chip_blank : RunOk PP 162 (W [] [.ag [.row .u8 32]] F_chip_blank) := runOk_of (TblOk.nil) Tryz.func162 (by kernel_rfl) (by kernel_rfl) (E_chip_blank)
attribute [irreducible] F_chip_blank
end Go.Proofs.YtaglicdidpgkpaaGreatDoor
end

/- Denotations of functions of the program, printed by a program of ours, and that they are the model's. -/
section
set_option linter.unusedVariables false
set_option maxRecDepth 100000
namespace Go.Proofs.YtaglicdidpgkpaaGreatDoor
open Go Go.Vc
def G_chip_New (c0 : Int → Int → Int → Int → Int → Int → Int → (Int → H → Prop) → H → Prop) (c1 : Int → Int → Int → Int → Int → Int → Int → (Int → H → Prop) → H → Prop) (c2 : Int → Int → Int → Int → Int → Int → Int → (Int → H → Prop) → H → Prop) (c3 : OA → Nat → Nat → Int → (OA → Nat → Nat → H → Prop) → H → Prop) (c4 : (List Int → H → Prop) → H → Prop) (a0_0 : Int) (a0_1 : Int) (a0_2 : Int) (a0_3 : Int) (a0_4 : Int) (a0_5 : Int) (a0_6 : Int) (Q : OA → Int → H → Prop) (h : H) : Prop := ∀ n14 h15, hnew h n14 [.int .i64 a0_0, .int .i64 a0_1, .int .i64 a0_2, .int .i64 a0_3, .int .i64 a0_4, .int .i64 a0_5, .int .i64 a0_6] h15 → ∃ i17, hc h15 ⟨n14, 0, none⟩ = some (.int .i64 i17) ∧ ∃ i18, hc h15 ⟨n14, 1, none⟩ = some (.int .i64 i18) ∧ ∃ i19, hc h15 ⟨n14, 2, none⟩ = some (.int .i64 i19) ∧ ∃ i20, hc h15 ⟨n14, 3, none⟩ = some (.int .i64 i20) ∧ ∃ i21, hc h15 ⟨n14, 4, none⟩ = some (.int .i64 i21) ∧ ∃ i22, hc h15 ⟨n14, 5, none⟩ = some (.int .i64 i22) ∧ ∃ i23, hc h15 ⟨n14, 6, none⟩ = some (.int .i64 i23) ∧ c0 i17 i18 i19 i20 i21 i22 i23 (fun i24 h25 => if (i24 != 0) = true then Q none i24 h25 else ∀ (J26 : JT), (∀ (p27 : Addr) (h28 : H), (∃ i29, hc h28 ⟨n14, 0, none⟩ = some (.int .i64 i29) ∧ ∃ i30, hc h28 ⟨n14, 1, none⟩ = some (.int .i64 i30) ∧ ∃ i31, hc h28 ⟨n14, 2, none⟩ = some (.int .i64 i31) ∧ ∃ i32, hc h28 ⟨n14, 3, none⟩ = some (.int .i64 i32) ∧ ∃ i33, hc h28 ⟨n14, 4, none⟩ = some (.int .i64 i33) ∧ ∃ i34, hc h28 ⟨n14, 5, none⟩ = some (.int .i64 i34) ∧ ∃ i35, hc h28 ⟨n14, 6, none⟩ = some (.int .i64 i35) ∧ c1 i29 i30 i31 i32 i33 i34 i35 (fun i36 h37 => ∀ (J38 : JT), (∀ (i39 : Int) (h40 : H), (if ltI i39 i36 = true then ∃ o41 n42 n43, hc h40 p27 = some (.slice o41 n42 n43) ∧ ∃ i44, hc h40 ⟨n14, 0, none⟩ = some (.int .i64 i44) ∧ c4 (fun l45 h46 => hcs h46 ⟨n14, 0, none⟩ [.int .i64 i44] ∧ hcs h46 p27 [.slice o41 n42 n43] ∧ ∀ n47 h48, hnew h46 n47 (ints .u8 l45 ++ []) h48 → hcs h48 ⟨n14, 0, none⟩ [.int .i64 i44] ∧ hcs h48 p27 [.slice o41 n42 n43] ∧ c3 (some (Addr.mk n47 0 none)) 1 1 i44 (fun o50 n51 n52 h53 => hcs h53 p27 [.slice o41 n42 n43] ∧ ∀ n54 h55, hnew h53 n54 [.slice o50 n51 n52] h55 → hcs h55 p27 [.slice o41 n42 n43] ∧ ∃ (l57 : List Value), hsv h55 (some (Addr.mk n54 0 none)) 1 1 l57 ∧ pApp h55 1 [.slice none 0 0] 24 o41 n42 n43 1 l57 fun o58 n59 n60 h61 => hcan h61 p27 1 ∧ ∀ h62, h62 = hwr h61 p27 [.slice o58 n59 n60] → J38 [.dv (.one (.int .i64 (IntKind.i64.wrap (i39 + 1))))] h62) h48) h40 else ∃ i64, hc h40 ⟨n14, 0, none⟩ = some (.int .i64 i64) ∧ ∃ i65, hc h40 ⟨n14, 1, none⟩ = some (.int .i64 i65) ∧ ∃ i66, hc h40 ⟨n14, 2, none⟩ = some (.int .i64 i66) ∧ ∃ i67, hc h40 ⟨n14, 3, none⟩ = some (.int .i64 i67) ∧ ∃ i68, hc h40 ⟨n14, 4, none⟩ = some (.int .i64 i68) ∧ ∃ i69, hc h40 ⟨n14, 5, none⟩ = some (.int .i64 i69) ∧ ∃ i70, hc h40 ⟨n14, 6, none⟩ = some (.int .i64 i70) ∧ ∃ o71 n72 n73, hc h40 p27 = some (.slice o71 n72 n73) ∧ ∃ o74 n75 n76, hc h40 (p27.add 1) = some (.slice o74 n75 n76) ∧ ∃ o77 n78 n79, hc h40 (p27.add 2) = some (.slice o77 n78 n79) ∧ ∀ n80 h81, hnew h40 n80 [.int .i64 i64, .int .i64 i65, .int .i64 i66, .int .i64 i67, .int .i64 i68, .int .i64 i69, .int .i64 i70, .slice o71 n72 n73, .slice o74 n75 n76, .slice o77 n78 n79, .int .i64 0, .bool false, .int .i64 (-1), .slice none 0 0] h81 → Q (some (Addr.mk n80 0 none)) 0 h81) → J38 [.dv (.one (.int .i64 i39))] h40) → J38 [.dv (.one (.int .i64 0))] h37) h28) → J26 [SV.dv (DV.addr p27)] h28) → ∃ i87, hc h25 ⟨n14, 0, none⟩ = some (.int .i64 i87) ∧ ∃ i88, hc h25 ⟨n14, 1, none⟩ = some (.int .i64 i88) ∧ ∃ i89, hc h25 ⟨n14, 2, none⟩ = some (.int .i64 i89) ∧ ∃ i90, hc h25 ⟨n14, 3, none⟩ = some (.int .i64 i90) ∧ ∃ i91, hc h25 ⟨n14, 4, none⟩ = some (.int .i64 i91) ∧ ∃ i92, hc h25 ⟨n14, 5, none⟩ = some (.int .i64 i92) ∧ ∃ i93, hc h25 ⟨n14, 6, none⟩ = some (.int .i64 i93) ∧ ∃ i94, hc h25 ⟨n14, 0, none⟩ = some (.int .i64 i94) ∧ ∃ i95, hc h25 ⟨n14, 1, none⟩ = some (.int .i64 i95) ∧ ∃ i96, hc h25 ⟨n14, 2, none⟩ = some (.int .i64 i96) ∧ ∃ i97, hc h25 ⟨n14, 3, none⟩ = some (.int .i64 i97) ∧ ∃ i98, hc h25 ⟨n14, 4, none⟩ = some (.int .i64 i98) ∧ ∃ i99, hc h25 ⟨n14, 5, none⟩ = some (.int .i64 i99) ∧ ∃ i100, hc h25 ⟨n14, 6, none⟩ = some (.int .i64 i100) ∧ c1 i87 i88 i89 i90 i91 i92 i93 (fun i101 h102 => hcs h102 ⟨n14, 0, none⟩ [.int .i64 i94, .int .i64 i95, .int .i64 i96, .int .i64 i97, .int .i64 i98, .int .i64 i99, .int .i64 i100] ∧ (0 ≤ i101 ∧ i101 ≤ i101 ∧ (↑8 : Int) * i101 ≤ 2 ^ 48 ∧ i101 ≤ 2 ^ 48 ∧ ∀ n103 h104, hnew h102 n103 (List.replicate i101.toNat [.int .i64 0]).flatten h104 → hcs h104 ⟨n14, 0, none⟩ [.int .i64 i94, .int .i64 i95, .int .i64 i96, .int .i64 i97, .int .i64 i98, .int .i64 i99, .int .i64 i100] ∧ c2 i94 i95 i96 i97 i98 i99 i100 (fun i106 h107 => (0 ≤ i106 ∧ i106 ≤ i106 ∧ (↑1 : Int) * i106 ≤ 2 ^ 48 ∧ i106 ≤ 2 ^ 48 ∧ ∀ n108 h109, hnew h107 n108 (List.replicate i106.toNat [.bool false]).flatten h109 → ∀ n111 h112, hnew h109 n111 [.slice none 0 0, .slice none 0 0, .slice none 0 0] h112 → hcan h112 ⟨n111, 0, none⟩ 3 ∧ ∀ h114, h114 = hwr h112 ⟨n111, 0, none⟩ [.slice none 0 0, .slice (some (Addr.mk n103 0 none)) i101.toNat i101.toNat, .slice (some (Addr.mk n108 0 none)) i106.toNat i106.toNat] → J26 [SV.dv (DV.addr (Addr.mk n111 0 none))] h114) ∧ ∀ n116 h117, hnew h107 n116 [.slice none 0 0, .slice none 0 0, .slice none 0 0] h117 → 0 ≤ i106 ∧ i106 ≤ i106 ∧ (↑1 : Int) * i106 ≤ 2 ^ 48 ∧ i106 ≤ 2 ^ 48 ∧ ∀ n119 h120, hnew h117 n119 (List.replicate i106.toNat [.bool false]).flatten h120 → hcan h120 ⟨n116, 0, none⟩ 3 ∧ ∀ h122, h122 = hwr h120 ⟨n116, 0, none⟩ [.slice none 0 0, .slice (some (Addr.mk n103 0 none)) i101.toNat i101.toNat, .slice (some (Addr.mk n119 0 none)) i106.toNat i106.toNat] → J26 [SV.dv (DV.addr (Addr.mk n116 0 none))] h122) h104 ∧ ∀ n124 h125, hnew h104 n124 [.slice none 0 0, .slice none 0 0, .slice none 0 0] h125 → hcs h125 ⟨n14, 0, none⟩ [.int .i64 i94, .int .i64 i95, .int .i64 i96, .int .i64 i97, .int .i64 i98, .int .i64 i99, .int .i64 i100] ∧ c2 i94 i95 i96 i97 i98 i99 i100 (fun i127 h128 => 0 ≤ i127 ∧ i127 ≤ i127 ∧ (↑1 : Int) * i127 ≤ 2 ^ 48 ∧ i127 ≤ 2 ^ 48 ∧ ∀ n129 h130, hnew h128 n129 (List.replicate i127.toNat [.bool false]).flatten h130 → hcan h130 ⟨n124, 0, none⟩ 3 ∧ ∀ h132, h132 = hwr h130 ⟨n124, 0, none⟩ [.slice none 0 0, .slice (some (Addr.mk n103 0 none)) i101.toNat i101.toNat, .slice (some (Addr.mk n129 0 none)) i127.toNat i127.toNat] → J26 [SV.dv (DV.addr (Addr.mk n124 0 none))] h132) h125) ∧ c2 i94 i95 i96 i97 i98 i99 i100 (fun i134 h135 => (0 ≤ i101 ∧ i101 ≤ i101 ∧ (↑8 : Int) * i101 ≤ 2 ^ 48 ∧ i101 ≤ 2 ^ 48 ∧ ∀ n136 h137, hnew h135 n136 (List.replicate i101.toNat [.int .i64 0]).flatten h137 → (0 ≤ i134 ∧ i134 ≤ i134 ∧ (↑1 : Int) * i134 ≤ 2 ^ 48 ∧ i134 ≤ 2 ^ 48 ∧ ∀ n139 h140, hnew h137 n139 (List.replicate i134.toNat [.bool false]).flatten h140 → ∀ n142 h143, hnew h140 n142 [.slice none 0 0, .slice none 0 0, .slice none 0 0] h143 → hcan h143 ⟨n142, 0, none⟩ 3 ∧ ∀ h145, h145 = hwr h143 ⟨n142, 0, none⟩ [.slice none 0 0, .slice (some (Addr.mk n136 0 none)) i101.toNat i101.toNat, .slice (some (Addr.mk n139 0 none)) i134.toNat i134.toNat] → J26 [SV.dv (DV.addr (Addr.mk n142 0 none))] h145) ∧ ∀ n147 h148, hnew h137 n147 [.slice none 0 0, .slice none 0 0, .slice none 0 0] h148 → 0 ≤ i134 ∧ i134 ≤ i134 ∧ (↑1 : Int) * i134 ≤ 2 ^ 48 ∧ i134 ≤ 2 ^ 48 ∧ ∀ n150 h151, hnew h148 n150 (List.replicate i134.toNat [.bool false]).flatten h151 → hcan h151 ⟨n147, 0, none⟩ 3 ∧ ∀ h153, h153 = hwr h151 ⟨n147, 0, none⟩ [.slice none 0 0, .slice (some (Addr.mk n136 0 none)) i101.toNat i101.toNat, .slice (some (Addr.mk n150 0 none)) i134.toNat i134.toNat] → J26 [SV.dv (DV.addr (Addr.mk n147 0 none))] h153) ∧ (0 ≤ i134 ∧ i134 ≤ i134 ∧ (↑1 : Int) * i134 ≤ 2 ^ 48 ∧ i134 ≤ 2 ^ 48 ∧ ∀ n155 h156, hnew h135 n155 (List.replicate i134.toNat [.bool false]).flatten h156 → (0 ≤ i101 ∧ i101 ≤ i101 ∧ (↑8 : Int) * i101 ≤ 2 ^ 48 ∧ i101 ≤ 2 ^ 48 ∧ ∀ n158 h159, hnew h156 n158 (List.replicate i101.toNat [.int .i64 0]).flatten h159 → ∀ n161 h162, hnew h159 n161 [.slice none 0 0, .slice none 0 0, .slice none 0 0] h162 → hcan h162 ⟨n161, 0, none⟩ 3 ∧ ∀ h164, h164 = hwr h162 ⟨n161, 0, none⟩ [.slice none 0 0, .slice (some (Addr.mk n158 0 none)) i101.toNat i101.toNat, .slice (some (Addr.mk n155 0 none)) i134.toNat i134.toNat] → J26 [SV.dv (DV.addr (Addr.mk n161 0 none))] h164) ∧ ∀ n166 h167, hnew h156 n166 [.slice none 0 0, .slice none 0 0, .slice none 0 0] h167 → 0 ≤ i101 ∧ i101 ≤ i101 ∧ (↑8 : Int) * i101 ≤ 2 ^ 48 ∧ i101 ≤ 2 ^ 48 ∧ ∀ n169 h170, hnew h167 n169 (List.replicate i101.toNat [.int .i64 0]).flatten h170 → hcan h170 ⟨n166, 0, none⟩ 3 ∧ ∀ h172, h172 = hwr h170 ⟨n166, 0, none⟩ [.slice none 0 0, .slice (some (Addr.mk n169 0 none)) i101.toNat i101.toNat, .slice (some (Addr.mk n155 0 none)) i134.toNat i134.toNat] → J26 [SV.dv (DV.addr (Addr.mk n166 0 none))] h172) ∧ ∀ n174 h175, hnew h135 n174 [.slice none 0 0, .slice none 0 0, .slice none 0 0] h175 → (0 ≤ i101 ∧ i101 ≤ i101 ∧ (↑8 : Int) * i101 ≤ 2 ^ 48 ∧ i101 ≤ 2 ^ 48 ∧ ∀ n177 h178, hnew h175 n177 (List.replicate i101.toNat [.int .i64 0]).flatten h178 → 0 ≤ i134 ∧ i134 ≤ i134 ∧ (↑1 : Int) * i134 ≤ 2 ^ 48 ∧ i134 ≤ 2 ^ 48 ∧ ∀ n180 h181, hnew h178 n180 (List.replicate i134.toNat [.bool false]).flatten h181 → hcan h181 ⟨n174, 0, none⟩ 3 ∧ ∀ h183, h183 = hwr h181 ⟨n174, 0, none⟩ [.slice none 0 0, .slice (some (Addr.mk n177 0 none)) i101.toNat i101.toNat, .slice (some (Addr.mk n180 0 none)) i134.toNat i134.toNat] → J26 [SV.dv (DV.addr (Addr.mk n174 0 none))] h183) ∧ 0 ≤ i134 ∧ i134 ≤ i134 ∧ (↑1 : Int) * i134 ≤ 2 ^ 48 ∧ i134 ≤ 2 ^ 48 ∧ ∀ n185 h186, hnew h175 n185 (List.replicate i134.toNat [.bool false]).flatten h186 → 0 ≤ i101 ∧ i101 ≤ i101 ∧ (↑8 : Int) * i101 ≤ 2 ^ 48 ∧ i101 ≤ 2 ^ 48 ∧ ∀ n188 h189, hnew h186 n188 (List.replicate i101.toNat [.int .i64 0]).flatten h189 → hcan h189 ⟨n174, 0, none⟩ 3 ∧ ∀ h191, h191 = hwr h189 ⟨n174, 0, none⟩ [.slice none 0 0, .slice (some (Addr.mk n188 0 none)) i101.toNat i101.toNat, .slice (some (Addr.mk n185 0 none)) i134.toNat i134.toNat] → J26 [SV.dv (DV.addr (Addr.mk n174 0 none))] h191) h102 ∧ ∀ n193 h194, hnew h102 n193 [.slice none 0 0, .slice none 0 0, .slice none 0 0] h194 → hcs h194 ⟨n14, 0, none⟩ [.int .i64 i94, .int .i64 i95, .int .i64 i96, .int .i64 i97, .int .i64 i98, .int .i64 i99, .int .i64 i100] ∧ (0 ≤ i101 ∧ i101 ≤ i101 ∧ (↑8 : Int) * i101 ≤ 2 ^ 48 ∧ i101 ≤ 2 ^ 48 ∧ ∀ n196 h197, hnew h194 n196 (List.replicate i101.toNat [.int .i64 0]).flatten h197 → hcs h197 ⟨n14, 0, none⟩ [.int .i64 i94, .int .i64 i95, .int .i64 i96, .int .i64 i97, .int .i64 i98, .int .i64 i99, .int .i64 i100] ∧ c2 i94 i95 i96 i97 i98 i99 i100 (fun i199 h200 => 0 ≤ i199 ∧ i199 ≤ i199 ∧ (↑1 : Int) * i199 ≤ 2 ^ 48 ∧ i199 ≤ 2 ^ 48 ∧ ∀ n201 h202, hnew h200 n201 (List.replicate i199.toNat [.bool false]).flatten h202 → hcan h202 ⟨n193, 0, none⟩ 3 ∧ ∀ h204, h204 = hwr h202 ⟨n193, 0, none⟩ [.slice none 0 0, .slice (some (Addr.mk n196 0 none)) i101.toNat i101.toNat, .slice (some (Addr.mk n201 0 none)) i199.toNat i199.toNat] → J26 [SV.dv (DV.addr (Addr.mk n193 0 none))] h204) h197) ∧ c2 i94 i95 i96 i97 i98 i99 i100 (fun i206 h207 => (0 ≤ i101 ∧ i101 ≤ i101 ∧ (↑8 : Int) * i101 ≤ 2 ^ 48 ∧ i101 ≤ 2 ^ 48 ∧ ∀ n208 h209, hnew h207 n208 (List.replicate i101.toNat [.int .i64 0]).flatten h209 → 0 ≤ i206 ∧ i206 ≤ i206 ∧ (↑1 : Int) * i206 ≤ 2 ^ 48 ∧ i206 ≤ 2 ^ 48 ∧ ∀ n211 h212, hnew h209 n211 (List.replicate i206.toNat [.bool false]).flatten h212 → hcan h212 ⟨n193, 0, none⟩ 3 ∧ ∀ h214, h214 = hwr h212 ⟨n193, 0, none⟩ [.slice none 0 0, .slice (some (Addr.mk n208 0 none)) i101.toNat i101.toNat, .slice (some (Addr.mk n211 0 none)) i206.toNat i206.toNat] → J26 [SV.dv (DV.addr (Addr.mk n193 0 none))] h214) ∧ 0 ≤ i206 ∧ i206 ≤ i206 ∧ (↑1 : Int) * i206 ≤ 2 ^ 48 ∧ i206 ≤ 2 ^ 48 ∧ ∀ n216 h217, hnew h207 n216 (List.replicate i206.toNat [.bool false]).flatten h217 → 0 ≤ i101 ∧ i101 ≤ i101 ∧ (↑8 : Int) * i101 ≤ 2 ^ 48 ∧ i101 ≤ 2 ^ 48 ∧ ∀ n219 h220, hnew h217 n219 (List.replicate i101.toNat [.int .i64 0]).flatten h220 → hcan h220 ⟨n193, 0, none⟩ 3 ∧ ∀ h222, h222 = hwr h220 ⟨n193, 0, none⟩ [.slice none 0 0, .slice (some (Addr.mk n219 0 none)) i101.toNat i101.toNat, .slice (some (Addr.mk n216 0 none)) i206.toNat i206.toNat] → J26 [SV.dv (DV.addr (Addr.mk n193 0 none))] h222) h194) h25 ∧ ∀ n224 h225, hnew h25 n224 [.slice none 0 0, .slice none 0 0, .slice none 0 0] h225 → hcs h225 ⟨n14, 0, none⟩ [.int .i64 i94, .int .i64 i95, .int .i64 i96, .int .i64 i97, .int .i64 i98, .int .i64 i99, .int .i64 i100] ∧ hcs h225 ⟨n14, 0, none⟩ [.int .i64 i87, .int .i64 i88, .int .i64 i89, .int .i64 i90, .int .i64 i91, .int .i64 i92, .int .i64 i93] ∧ c1 i87 i88 i89 i90 i91 i92 i93 (fun i227 h228 => hcs h228 ⟨n14, 0, none⟩ [.int .i64 i94, .int .i64 i95, .int .i64 i96, .int .i64 i97, .int .i64 i98, .int .i64 i99, .int .i64 i100] ∧ (0 ≤ i227 ∧ i227 ≤ i227 ∧ (↑8 : Int) * i227 ≤ 2 ^ 48 ∧ i227 ≤ 2 ^ 48 ∧ ∀ n229 h230, hnew h228 n229 (List.replicate i227.toNat [.int .i64 0]).flatten h230 → hcs h230 ⟨n14, 0, none⟩ [.int .i64 i94, .int .i64 i95, .int .i64 i96, .int .i64 i97, .int .i64 i98, .int .i64 i99, .int .i64 i100] ∧ c2 i94 i95 i96 i97 i98 i99 i100 (fun i232 h233 => 0 ≤ i232 ∧ i232 ≤ i232 ∧ (↑1 : Int) * i232 ≤ 2 ^ 48 ∧ i232 ≤ 2 ^ 48 ∧ ∀ n234 h235, hnew h233 n234 (List.replicate i232.toNat [.bool false]).flatten h235 → hcan h235 ⟨n224, 0, none⟩ 3 ∧ ∀ h237, h237 = hwr h235 ⟨n224, 0, none⟩ [.slice none 0 0, .slice (some (Addr.mk n229 0 none)) i227.toNat i227.toNat, .slice (some (Addr.mk n234 0 none)) i232.toNat i232.toNat] → J26 [SV.dv (DV.addr (Addr.mk n224 0 none))] h237) h230) ∧ c2 i94 i95 i96 i97 i98 i99 i100 (fun i239 h240 => (0 ≤ i227 ∧ i227 ≤ i227 ∧ (↑8 : Int) * i227 ≤ 2 ^ 48 ∧ i227 ≤ 2 ^ 48 ∧ ∀ n241 h242, hnew h240 n241 (List.replicate i227.toNat [.int .i64 0]).flatten h242 → 0 ≤ i239 ∧ i239 ≤ i239 ∧ (↑1 : Int) * i239 ≤ 2 ^ 48 ∧ i239 ≤ 2 ^ 48 ∧ ∀ n244 h245, hnew h242 n244 (List.replicate i239.toNat [.bool false]).flatten h245 → hcan h245 ⟨n224, 0, none⟩ 3 ∧ ∀ h247, h247 = hwr h245 ⟨n224, 0, none⟩ [.slice none 0 0, .slice (some (Addr.mk n241 0 none)) i227.toNat i227.toNat, .slice (some (Addr.mk n244 0 none)) i239.toNat i239.toNat] → J26 [SV.dv (DV.addr (Addr.mk n224 0 none))] h247) ∧ 0 ≤ i239 ∧ i239 ≤ i239 ∧ (↑1 : Int) * i239 ≤ 2 ^ 48 ∧ i239 ≤ 2 ^ 48 ∧ ∀ n249 h250, hnew h240 n249 (List.replicate i239.toNat [.bool false]).flatten h250 → 0 ≤ i227 ∧ i227 ≤ i227 ∧ (↑8 : Int) * i227 ≤ 2 ^ 48 ∧ i227 ≤ 2 ^ 48 ∧ ∀ n252 h253, hnew h250 n252 (List.replicate i227.toNat [.int .i64 0]).flatten h253 → hcan h253 ⟨n224, 0, none⟩ 3 ∧ ∀ h255, h255 = hwr h253 ⟨n224, 0, none⟩ [.slice none 0 0, .slice (some (Addr.mk n252 0 none)) i227.toNat i227.toNat, .slice (some (Addr.mk n249 0 none)) i239.toNat i239.toNat] → J26 [SV.dv (DV.addr (Addr.mk n224 0 none))] h255) h228) h225) h15
theorem E_chip_New : ∀ c0 c1 c2 c3 c4 a0_0 a0_1 a0_2 a0_3 a0_4 a0_5 a0_6 Q h, G_chip_New c0 c1 c2 c3 c4 a0_0 a0_1 a0_2 a0_3 a0_4 a0_5 a0_6 Q h = Dbody PP [(133, W [.ag [.int .i64, .int .i64, .int .i64, .int .i64, .int .i64, .int .i64, .int .i64]] [.int .i64] c0), (134, W [.ag [.int .i64, .int .i64, .int .i64, .int .i64, .int .i64, .int .i64, .int .i64]] [.int .i64] c1), (135, W [.ag [.int .i64, .int .i64, .int .i64, .int .i64, .int .i64, .int .i64, .int .i64]] [.int .i64] c2), (161, W [.slc, .int .i64] [.slc] c3), (162, W [] [.ag [.row .u8 32]] c4)] [(7, [(5, .addr)]), (122, [(20, .sc (.int .i64))])] Tryz.f88 [.agg [.c (.int .i64 a0_0), .c (.int .i64 a0_1), .c (.int .i64 a0_2), .c (.int .i64 a0_3), .c (.int .i64 a0_4), .c (.int .i64 a0_5), .c (.int .i64 a0_6)]] (decR [.ptr, .int .i64] Q) h := by intros; kernel_rfl
def F_chip_New := G_chip_New F_chip_May F_chip_pages F_chip_fuses F_slices_Repeat_api_Cell_api_Cell F_chip_blank
theorem R_chip_New : RunOk PP 88 (W [.ag [.int .i64, .int .i64, .int .i64, .int .i64, .int .i64, .int .i64, .int .i64]] [.ptr, .int .i64] F_chip_New) := runOk_of (TblOk.cons R_chip_May (TblOk.cons R_chip_pages (TblOk.cons R_chip_fuses (TblOk.cons R_slices_Repeat_api_Cell_api_Cell (TblOk.cons R_chip_blank (TblOk.nil)))))) Tryz.func88 (by kernel_rfl) (by kernel_rfl) (E_chip_New _ _ _ _ _)
attribute [irreducible] F_chip_New
def G_portcullisref11_four (a0p : OA) (a0l : Nat) (a0c : Nat) (a1 : Int) (Q : OA → Nat → Nat → H → Prop) (h : H) : Prop := ∀ (J6 : JT), (∀ (o7 : OA) (n8 n9 : Nat) (i10 : Int) (h11 : H), (if ltI i10 4 = true then 0 ≤ IntKind.i64.wrap (8 * i10) ∧ ∀ n12 h13, hnew h11 n12 [.int .u8 (IntKind.u8.wrap (a1.fdiv (2 ^ min (IntKind.i64.wrap (8 * i10)).toNat 64)))] h13 → ∃ (l15 : List Value), hsv h13 (some (Addr.mk n12 0 none)) 1 1 l15 ∧ pApp h13 1 [.int .u8 0] 1 o7 n8 n9 1 l15 fun o16 n17 n18 h19 => J6 [.dv (.one (.slice o16 n17 n18)), .dv (.one (.int .i64 (IntKind.i64.wrap (i10 + 1))))] h19 else Q o7 n8 n9 h11) → J6 [.dv (.one (.slice o7 n8 n9)), .dv (.one (.int .i64 i10))] h11) → J6 [.dv (.one (.slice a0p a0l a0c)), .dv (.one (.int .i64 0))] h
theorem E_portcullisref11_four : ∀ a0p a0l a0c a1 Q h, G_portcullisref11_four a0p a0l a0c a1 Q h = Dbody PP [] [(26, [(0, .sc (.slc)), (5, .sc (.int .i64))])] Tryz.f203 [.one (.slice a0p a0l a0c), .one (.int .i64 a1)] (decR [.slc] Q) h := by intros; kernel_rfl
def F_portcullisref11_four := G_portcullisref11_four
theorem R_portcullisref11_four : RunOk PP 203 (W [.slc, .int .i64] [.slc] F_portcullisref11_four) := runOk_of (TblOk.nil) Tryz.func203 (by kernel_rfl) (by kernel_rfl) (E_portcullisref11_four)
attribute [irreducible] F_portcullisref11_four
def G_portcullisref11_Cover (c0 : OA → Nat → Nat → Int → (OA → Nat → Nat → H → Prop) → H → Prop) (a0_0 : Int) (a0_1 : Int) (a0_2 : Int) (a0_3p : OA) (a0_3l : Nat) (a0_3c : Nat) (a0_4 : List Int) (Q : OA → Nat → Nat → H → Prop) (h : H) : Prop := ∀ n10 h11, hnew h n10 (.int .i64 a0_0 :: .int .i64 a0_1 :: .int .i64 a0_2 :: .slice a0_3p a0_3l a0_3c :: (ints .u8 a0_4 ++ [])) h11 → ∃ i13, hc h11 ⟨n10, 0, none⟩ = some (.int .i64 i13) ∧ ∃ i14, hc h11 ⟨n10, 1, none⟩ = some (.int .i64 i14) ∧ ∀ n15 h16, hnew h11 n15 [.int .u8 80, .int .u8 67, .int .u8 85, .int .u8 76, .int .u8 1, .int .u8 (IntKind.u8.wrap i13), .int .u8 (IntKind.u8.wrap i14), .int .u8 0] h16 → ∃ i18, hc h16 ⟨n10, 2, none⟩ = some (.int .i64 i18) ∧ c0 (some (Addr.mk n15 0 none)) 8 8 i18 (fun o19 n20 n21 h22 => ∃ o23 n24 n25, hc h22 ⟨n10, 3, none⟩ = some (.slice o23 n24 n25) ∧ c0 o19 n20 n21 (↑n24 : Int) (fun o26 n27 n28 h29 => ∃ o30 n31 n32, hc h29 ⟨n10, 3, none⟩ = some (.slice o30 n31 n32) ∧ ∃ (l33 : List Value), hsv h29 o30 1 n31 l33 ∧ pApp h29 1 [.int .u8 0] 1 o26 n27 n28 n31 l33 fun o34 n35 n36 h37 => Q o34 n35 n36 h37) h22) h16
theorem E_portcullisref11_Cover : ∀ c0 a0_0 a0_1 a0_2 a0_3p a0_3l a0_3c a0_4 Q h, G_portcullisref11_Cover c0 a0_0 a0_1 a0_2 a0_3p a0_3l a0_3c a0_4 Q h = Dbody PP [(203, W [.slc, .int .i64] [.slc] c0)] [] Tryz.f163 [.agg [.c (.int .i64 a0_0), .c (.int .i64 a0_1), .c (.int .i64 a0_2), .c (.slice a0_3p a0_3l a0_3c), .row .u8 32 a0_4]] (decR [.slc] Q) h := by intros; kernel_rfl
def F_portcullisref11_Cover := G_portcullisref11_Cover F_portcullisref11_four
theorem R_portcullisref11_Cover : RunOk PP 163 (W [.ag [.int .i64, .int .i64, .int .i64, .slc, .row .u8 32]] [.slc] F_portcullisref11_Cover) := runOk_of (TblOk.cons R_portcullisref11_four (TblOk.nil)) Tryz.func163 (by kernel_rfl) (by kernel_rfl) (E_portcullisref11_Cover _)
attribute [irreducible] F_portcullisref11_Cover
def G_portcullisref11_Tagged (c0 : Int → Int → Int → OA → Nat → Nat → List Int → (OA → Nat → Nat → H → Prop) → H → Prop) (a0_0 : Int) (a0_1 : Int) (a0_2 : Int) (a0_3p : OA) (a0_3l : Nat) (a0_3c : Nat) (a0_4 : List Int) (Q : OA → Nat → Nat → H → Prop) (h : H) : Prop := ∀ n10 h11, hnew h n10 (.int .i64 a0_0 :: .int .i64 a0_1 :: .int .i64 a0_2 :: .slice a0_3p a0_3l a0_3c :: (ints .u8 a0_4 ++ [])) h11 → ∃ i13, hc h11 ⟨n10, 0, none⟩ = some (.int .i64 i13) ∧ ∃ i14, hc h11 ⟨n10, 1, none⟩ = some (.int .i64 i14) ∧ ∃ i15, hc h11 ⟨n10, 2, none⟩ = some (.int .i64 i15) ∧ ∃ o16 n17 n18, hc h11 ⟨n10, 3, none⟩ = some (.slice o16 n17 n18) ∧ ∃ (l19 : List Int), l19.length = 32 ∧ hrow h11 ⟨n10, 4, none⟩ .u8 l19 ∧ c0 i13 i14 i15 o16 n17 n18 l19 (fun o20 n21 n22 h23 => ∀ (J24 : JT), (∀ (o25 : OA) (n26 n27 : Nat) (i28 : Int) (h29 : H), (if ltI i28 32 = true then 0 ≤ i28 ∧ i28 < (↑32 : Int) ∧ ∃ i30, hc h29 (((Addr.mk n10 0 none).add 4).add (i28.toNat * 1)) = some (.int .u8 i30) ∧ ∀ n31 h32, hnew h29 n31 [.int .u8 i30] h32 → ∃ (l34 : List Value), hsv h32 (some (Addr.mk n31 0 none)) 1 1 l34 ∧ pApp h32 1 [.int .u8 0] 1 o25 n26 n27 1 l34 fun o35 n36 n37 h38 => J24 [.dv (.one (.slice o35 n36 n37)), .dv (.one (.int .i64 (IntKind.i64.wrap (i28 + 1))))] h38 else Q o25 n26 n27 h29) → J24 [.dv (.one (.slice o25 n26 n27)), .dv (.one (.int .i64 i28))] h29) → J24 [.dv (.one (.slice o20 n21 n22)), .dv (.one (.int .i64 0))] h23) h11
theorem E_portcullisref11_Tagged : ∀ c0 a0_0 a0_1 a0_2 a0_3p a0_3l a0_3c a0_4 Q h, G_portcullisref11_Tagged c0 a0_0 a0_1 a0_2 a0_3p a0_3l a0_3c a0_4 Q h = Dbody PP [(163, W [.ag [.int .i64, .int .i64, .int .i64, .slc, .row .u8 32]] [.slc] c0)] [(58, [(3, .sc (.slc)), (4, .sc (.int .i64))])] Tryz.f89 [.agg [.c (.int .i64 a0_0), .c (.int .i64 a0_1), .c (.int .i64 a0_2), .c (.slice a0_3p a0_3l a0_3c), .row .u8 32 a0_4]] (decR [.slc] Q) h := by intros; kernel_rfl
def F_portcullisref11_Tagged := G_portcullisref11_Tagged F_portcullisref11_Cover
theorem R_portcullisref11_Tagged : RunOk PP 89 (W [.ag [.int .i64, .int .i64, .int .i64, .slc, .row .u8 32]] [.slc] F_portcullisref11_Tagged) := runOk_of (TblOk.cons R_portcullisref11_Cover (TblOk.nil)) Tryz.func89 (by kernel_rfl) (by kernel_rfl) (E_portcullisref11_Tagged _)
attribute [irreducible] F_portcullisref11_Tagged
def G_portcullisref11_May (a0_0 : Int) (a0_1 : Int) (a0_2 : Int) (a0_3p : OA) (a0_3l : Nat) (a0_3c : Nat) (a0_4 : List Int) (Q : Int → H → Prop) (h : H) : Prop := ∀ n9 h10, hnew h n9 (.int .i64 a0_0 :: .int .i64 a0_1 :: .int .i64 a0_2 :: .slice a0_3p a0_3l a0_3c :: (ints .u8 a0_4 ++ [])) h10 → ∀ (J12 : JT), (∀ (h13 : H), (∃ o14 n15 n16, hc h13 ⟨n9, 3, none⟩ = some (.slice o14 n15 n16) ∧ if ltI 524240 n15 = true then Q 4 h13 else Q 0 h13) → J12 [] h13) → ∃ i19, hc h10 ⟨n9, 0, none⟩ = some (.int .i64 i19) ∧ if ltI i19 0 = true then Q 2 h10 else ∃ i20, hc h10 ⟨n9, 0, none⟩ = some (.int .i64 i20) ∧ if ltI 7 i20 = true then Q 2 h10 else ∃ i21, hc h10 ⟨n9, 1, none⟩ = some (.int .i64 i21) ∧ if ltI i21 0 = true then Q 2 h10 else ∃ i22, hc h10 ⟨n9, 1, none⟩ = some (.int .i64 i22) ∧ if ltI 63 i22 = true then Q 2 h10 else ∃ i23, hc h10 ⟨n9, 2, none⟩ = some (.int .i64 i23) ∧ if ltI i23 0 = true then Q 2 h10 else ∃ i24, hc h10 ⟨n9, 2, none⟩ = some (.int .i64 i24) ∧ ∀ (i25 : Int), i25 = 4294967295 → if ltI i25 i24 = true then Q 2 h10 else J12 [] h10
theorem E_portcullisref11_May : ∀ a0_0 a0_1 a0_2 a0_3p a0_3l a0_3c a0_4 Q h, G_portcullisref11_May a0_0 a0_1 a0_2 a0_3p a0_3l a0_3c a0_4 Q h = Dbody PP [] [(3, [])] Tryz.f37 [.agg [.c (.int .i64 a0_0), .c (.int .i64 a0_1), .c (.int .i64 a0_2), .c (.slice a0_3p a0_3l a0_3c), .row .u8 32 a0_4]] (decR [.int .i64] Q) h := by intros; kernel_rfl
def F_portcullisref11_May := G_portcullisref11_May
theorem R_portcullisref11_May : RunOk PP 37 (W [.ag [.int .i64, .int .i64, .int .i64, .slc, .row .u8 32]] [.int .i64] F_portcullisref11_May) := runOk_of (TblOk.nil) Tryz.func37 (by kernel_rfl) (by kernel_rfl) (E_portcullisref11_May)
attribute [irreducible] F_portcullisref11_May
def G_portcullisref11_Make (c0 : Int → Int → Int → OA → Nat → Nat → List Int → (Int → H → Prop) → H → Prop) (c1 : OA → Nat → Nat → OA → Nat → Nat → (List Int → H → Prop) → H → Prop) (c2 : Int → Int → Int → OA → Nat → Nat → List Int → (OA → Nat → Nat → H → Prop) → H → Prop) (c3 : Int → Int → Int → OA → Nat → Nat → List Int → (OA → Nat → Nat → H → Prop) → H → Prop) (a0p : OA) (a0l : Nat) (a0c : Nat) (a1_0 : Int) (a1_1 : Int) (a1_2 : Int) (a1_3p : OA) (a1_3l : Nat) (a1_3c : Nat) (a1_4 : List Int) (Q : OA → Nat → Nat → Int → H → Prop) (h : H) : Prop := ∀ n16 h17, hnew h n16 (.int .i64 a1_0 :: .int .i64 a1_1 :: .int .i64 a1_2 :: .slice a1_3p a1_3l a1_3c :: (ints .u8 a1_4 ++ [])) h17 → ∃ i19, hc h17 ⟨n16, 0, none⟩ = some (.int .i64 i19) ∧ ∃ i20, hc h17 ⟨n16, 1, none⟩ = some (.int .i64 i20) ∧ ∃ i21, hc h17 ⟨n16, 2, none⟩ = some (.int .i64 i21) ∧ ∃ o22 n23 n24, hc h17 ⟨n16, 3, none⟩ = some (.slice o22 n23 n24) ∧ ∃ (l25 : List Int), l25.length = 32 ∧ hrow h17 ⟨n16, 4, none⟩ .u8 l25 ∧ c0 i19 i20 i21 o22 n23 n24 l25 (fun i26 h27 => if (i26 != 0) = true then Q none 0 0 i26 h27 else ∃ i28, hc h27 ⟨n16, 0, none⟩ = some (.int .i64 i28) ∧ ∃ i29, hc h27 ⟨n16, 1, none⟩ = some (.int .i64 i29) ∧ ∃ i30, hc h27 ⟨n16, 2, none⟩ = some (.int .i64 i30) ∧ ∃ o31 n32 n33, hc h27 ⟨n16, 3, none⟩ = some (.slice o31 n32 n33) ∧ ∃ (l34 : List Int), l34.length = 32 ∧ hrow h27 ⟨n16, 4, none⟩ .u8 l34 ∧ c3 i28 i29 i30 o31 n32 n33 l34 (fun o35 n36 n37 h38 => c1 a0p a0l a0c o35 n36 n37 (fun l39 h40 => hcan h40 ⟨n16, 4, none⟩ 32 ∧ ∀ h41, h41 = hwr h40 ⟨n16, 4, none⟩ (ints .u8 l39 ++ []) → ∃ i43, hc h41 ⟨n16, 0, none⟩ = some (.int .i64 i43) ∧ ∃ i44, hc h41 ⟨n16, 1, none⟩ = some (.int .i64 i44) ∧ ∃ i45, hc h41 ⟨n16, 2, none⟩ = some (.int .i64 i45) ∧ ∃ o46 n47 n48, hc h41 ⟨n16, 3, none⟩ = some (.slice o46 n47 n48) ∧ ∃ (l49 : List Int), l49.length = 32 ∧ hrow h41 ⟨n16, 4, none⟩ .u8 l49 ∧ c2 i43 i44 i45 o46 n47 n48 l49 (fun o50 n51 n52 h53 => Q o50 n51 n52 0 h53) h41) h38) h27) h17
theorem E_portcullisref11_Make : ∀ c0 c1 c2 c3 a0p a0l a0c a1_0 a1_1 a1_2 a1_3p a1_3l a1_3c a1_4 Q h, G_portcullisref11_Make c0 c1 c2 c3 a0p a0l a0c a1_0 a1_1 a1_2 a1_3p a1_3l a1_3c a1_4 Q h = Dbody PP [(37, W [.ag [.int .i64, .int .i64, .int .i64, .slc, .row .u8 32]] [.int .i64] c0), (41, W [.slc, .slc] [.ag [.row .u8 32]] c1), (89, W [.ag [.int .i64, .int .i64, .int .i64, .slc, .row .u8 32]] [.slc] c2), (163, W [.ag [.int .i64, .int .i64, .int .i64, .slc, .row .u8 32]] [.slc] c3)] [] Tryz.f90 [.one (.slice a0p a0l a0c), .agg [.c (.int .i64 a1_0), .c (.int .i64 a1_1), .c (.int .i64 a1_2), .c (.slice a1_3p a1_3l a1_3c), .row .u8 32 a1_4]] (decR [.slc, .int .i64] Q) h := by intros; kernel_rfl
def F_portcullisref11_Make := G_portcullisref11_Make F_portcullisref11_May F_portcullisref03_Of F_portcullisref11_Tagged F_portcullisref11_Cover
theorem R_portcullisref11_Make : RunOk PP 90 (W [.slc, .ag [.int .i64, .int .i64, .int .i64, .slc, .row .u8 32]] [.slc, .int .i64] F_portcullisref11_Make) := runOk_of (TblOk.cons R_portcullisref11_May (TblOk.cons R_portcullisref03_Of (TblOk.cons R_portcullisref11_Tagged (TblOk.cons R_portcullisref11_Cover (TblOk.nil))))) Tryz.func90 (by kernel_rfl) (by kernel_rfl) (E_portcullisref11_Make _ _ _ _)
attribute [irreducible] F_portcullisref11_Make
def G_portcullislaw13_awake (c0 : Addr → Addr → OA → Nat → Nat → (Int → Int → Int → OA → Nat → Nat → List Int → Int → H → Prop) → H → Prop) (c1 : OA → Nat → Nat → (OA → Int → Int → H → Prop) → H → Prop) (c2 : Addr → (OA → Int → H → Prop) → H → Prop) (c3 : Int → Int → Int → Int → Int → Int → Int → (OA → Int → H → Prop) → H → Prop) (c4 : Int → Int → Int → OA → Nat → Nat → List Int → (OA → Nat → Nat → H → Prop) → H → Prop) (c5 : OA → Nat → Nat → Int → Int → Int → OA → Nat → Nat → List Int → (OA → Nat → Nat → Int → H → Prop) → H → Prop) (Q : Bool → H → Prop) (h : H) : Prop := c3 8 2 3 10 4 5 0 (fun o8 i9 h10 => ∀ n11 h12, hnew h10 n11 [.int .u8 7] h12 → ∀ n14 h15, hnew h12 n14 [.int .i64 1, .slice (some (Addr.mk n11 0 none)) 1 1] h15 → c1 (some (Addr.mk n14 0 none)) 1 1 (fun o17 i18 i19 h20 => ∀ (J21 : JT), (∀ (h22 : H), (∃ p23, o8 = some p23 ∧ c2 p23 (fun o24 i25 h26 => ∀ (J27 : JT), (∀ (h28 : H), c4 1 1 5 none 0 0 (zeros 32) (fun o29 n30 n31 h32 => ∃ p33, o24 = some p33 ∧ ∃ p34, o17 = some p34 ∧ c0 p33 p34 o29 n30 n31 (fun i35 i36 i37 o38 n39 n40 l41 i42 h43 => ∀ n44 h45, hnew h43 n44 (.int .i64 0 :: .int .i64 0 :: .int .i64 0 :: .slice none 0 0 :: ints .u8 (zeros 32)) h45 → hcan h45 ⟨n44, 0, none⟩ 36 ∧ ∀ h47, h47 = hwr h45 ⟨n44, 0, none⟩ (.int .i64 i35 :: .int .i64 i36 :: .int .i64 i37 :: .slice o38 n39 n40 :: (ints .u8 l41 ++ [])) → ∀ n49 h50, hnew h47 n49 [.int .u8 7] h50 → c5 (some (Addr.mk n49 0 none)) 1 1 1 1 5 none 0 0 (zeros 32) (fun o52 n53 n54 i55 h56 => ∃ p57, o24 = some p57 ∧ ∃ p58, o17 = some p58 ∧ c0 p57 p58 o52 n53 n54 (fun i59 i60 i61 o62 n63 n64 l65 i66 h67 => ∀ n68 h69, hnew h67 n68 (.int .i64 0 :: .int .i64 0 :: .int .i64 0 :: .slice none 0 0 :: ints .u8 (zeros 32)) h69 → hcan h69 ⟨n68, 0, none⟩ 36 ∧ ∀ h71, h71 = hwr h69 ⟨n68, 0, none⟩ (.int .i64 i59 :: .int .i64 i60 :: .int .i64 i61 :: .slice o62 n63 n64 :: (ints .u8 l65 ++ [])) → ∃ p73, o24 = some p73 ∧ ∃ p74, o17 = some p74 ∧ c0 p73 p74 none 0 0 (fun i75 i76 i77 o78 n79 n80 l81 i82 h83 => ∀ n84 h85, hnew h83 n84 (.int .i64 0 :: .int .i64 0 :: .int .i64 0 :: .slice none 0 0 :: ints .u8 (zeros 32)) h85 → hcan h85 ⟨n84, 0, none⟩ 36 ∧ ∀ h87, h87 = hwr h85 ⟨n84, 0, none⟩ (.int .i64 i75 :: .int .i64 i76 :: .int .i64 i77 :: .slice o78 n79 n80 :: (ints .u8 l81 ++ [])) → if (i42 == 15) = true then if (i66 == 0) = true then ∃ i89, hc h87 ⟨n68, 2, none⟩ = some (.int .i64 i89) ∧ if (i89 == 5) = true then Q (i82 == 6) h87 else Q false h87 else Q false h87 else Q false h87) h71) h56) h50) h32) h28 → J27 [] h28) → if (i25 != 0) = true then Q false h26 else if o24.isNone = true then Q false h26 else J27 [] h26) h22) → J21 [] h22) → if (i9 != 0) = true then Q false h20 else if (i18 != 0) = true then Q false h20 else if o8.isNone = true then Q false h20 else if o17.isNone = true then Q false h20 else J21 [] h20) h15) h
theorem E_portcullislaw13_awake : ∀ c0 c1 c2 c3 c4 c5 Q h, G_portcullislaw13_awake c0 c1 c2 c3 c4 c5 Q h = Dbody PP [(34, W [.addr, .addr, .slc] [.ag [.int .i64, .int .i64, .int .i64, .slc, .row .u8 32], .int .i64] c0), (55, W [.slc] [.ptr, .int .i64, .int .i64] c1), (63, W [.addr] [.ptr, .int .i64] c2), (88, W [.ag [.int .i64, .int .i64, .int .i64, .int .i64, .int .i64, .int .i64, .int .i64]] [.ptr, .int .i64] c3), (89, W [.ag [.int .i64, .int .i64, .int .i64, .slc, .row .u8 32]] [.slc] c4), (90, W [.slc, .ag [.int .i64, .int .i64, .int .i64, .slc, .row .u8 32]] [.slc, .int .i64] c5)] [(15, []), (63, [])] Tryz.f30 [] (decR [.bool] Q) h := by intros; kernel_rfl
def F_portcullislaw13_awake := G_portcullislaw13_awake F_gate_Check F_keys_New F_store_Mount F_chip_New F_portcullisref11_Tagged F_portcullisref11_Make
theorem R_portcullislaw13_awake : RunOk PP 30 (W [] [.bool] F_portcullislaw13_awake) := runOk_of (TblOk.cons R_gate_Check (TblOk.cons R_keys_New (TblOk.cons R_store_Mount (TblOk.cons R_chip_New (TblOk.cons R_portcullisref11_Tagged (TblOk.cons R_portcullisref11_Make (TblOk.nil))))))) Tryz.func30 (by kernel_rfl) (by kernel_rfl) (E_portcullislaw13_awake _ _ _ _ _ _)
attribute [irreducible] F_portcullislaw13_awake
def G_portcullislaw13_GateNames (c0 : (Bool → H → Prop) → H → Prop) (Q : Bool → H → Prop) (h : H) : Prop := c0 (fun b3 h4 => Q b3 h4) h
theorem E_portcullislaw13_GateNames : ∀ c0 Q h, G_portcullislaw13_GateNames c0 Q h = Dbody PP [(30, W [] [.bool] c0)] [] Tryz.f5 [] (decR [.bool] Q) h := by intros; kernel_rfl
def F_portcullislaw13_GateNames := G_portcullislaw13_GateNames F_portcullislaw13_awake
theorem R_portcullislaw13_GateNames : RunOk PP 5 (W [] [.bool] F_portcullislaw13_GateNames) := runOk_of (TblOk.cons R_portcullislaw13_awake (TblOk.nil)) Tryz.func5 (by kernel_rfl) (by kernel_rfl) (E_portcullislaw13_GateNames _)
attribute [irreducible] F_portcullislaw13_GateNames
end Go.Proofs.YtaglicdidpgkpaaGreatDoor
end

/- Blocks of memory as lists of cells, and what loads, stores and allocations do to them. Own work; generic over any program. -/
section
set_option linter.unusedVariables false
namespace Go.Vc

def Blk (h : H) (b : Nat) (vs : List Value) : Prop :=
 ∃ t lo n, h[b]? = some (.cells vs.toArray t (lo, lo + n)) ∧ ∀ i, i < vs.length → ¬ (lo ≤ i ∧ i < lo + n)

abbrev at_ (b o : Nat) : Addr := ⟨b, o, none⟩

@[simp] theorem add_mk (b o n : Nat) : (Addr.mk b o none).add n = Addr.mk b (o + n) none := by
 unfold Addr.add; split
 ·rename_i h; subst h; rfl
 ·rfl

theorem Blk.lt {h : H} {b : Nat} {vs : List Value} (k : Blk h b vs) : b < h.size := by
 obtain ⟨t, lo, hi, hb, _⟩ := k
 exact (Array.getElem?_eq_some_iff.1 hb).1
theorem Blk.of_eq {h h' : H} {b : Nat} {vs : List Value} (k : Blk h b vs) (e : h'[b]? = h[b]?) : Blk h' b vs := by
 obtain ⟨t, lo, hi, hb, hf⟩ := k
 exact ⟨t, lo, hi, by rw [e]; exact hb, hf⟩

theorem Blk.hc {h : H} {b : Nat} {vs : List Value} (k : Blk h b vs) (o : Nat) : hc h ⟨b, o, none⟩ = vs[o]? := by
 obtain ⟨t, lo, hi, hb, _⟩ := k
 simp [Vc.hc, hb]
theorem Blk.hf {h : H} {b : Nat} {vs : List Value} (k : Blk h b vs) {o : Nat} (ho : o < vs.length) : hf h ⟨b, o, none⟩ = false := by
 obtain ⟨t, lo, hi, hb, hfz⟩ := k
 have := hfz o ho
 simp only [Vc.hf, hb]
 simp only [Bool.and_eq_false_imp, decide_eq_true_eq, decide_eq_false_iff_not]
 intro h1 h2; exact this ⟨h1, h2⟩
theorem Blk.can {h : H} {b : Nat} {vs : List Value} (k : Blk h b vs) {o n : Nat} (ho : o + n ≤ vs.length) : hcan h ⟨b, o, none⟩ n := by
 intro i hi
 have hl : o + i < vs.length := by omega
 rw [add_mk, k.hc, k.hf hl]
 simp [List.getElem?_eq_getElem hl]
theorem Blk.hcs {h : H} {b : Nat} {vs : List Value} (k : Blk h b vs) {o : Nat} {xs : List Value} (e : ∀ i, i < xs.length → vs[o + i]? = xs[i]?) : hcs h ⟨b, o, none⟩ xs := by
 intro i v hv
 rw [add_mk, k.hc, e i (List.getElem?_eq_some_iff.1 hv).1, hv]

/-! ### Writing -/
def splice (vs : List Value) : Nat → List Value → List Value
 | _, [] => vs
 | o, x :: r => splice (vs.set o x) (o + 1) r
@[simp] theorem splice_nil (vs : List Value) (o : Nat) : splice vs o [] = vs := rfl
@[simp] theorem splice_cons (vs : List Value) (o : Nat) (x : Value) (r : List Value) : splice vs o (x :: r) = splice (vs.set o x) (o + 1) r := rfl
@[simp] theorem splice_length (vs : List Value) (o : Nat) (xs : List Value) : (splice vs o xs).length = vs.length := by
 induction xs generalizing vs o with
 | nil => rfl
 | cons x r ih => simp [ih]
theorem splice_get (vs : List Value) (o : Nat) (xs : List Value) (i : Nat) : (splice vs o xs)[i]? = if o ≤ i ∧ i < o + xs.length ∧ i < vs.length then xs[i - o]? else vs[i]? := by
 induction xs generalizing vs o with
 | nil =>
  have : ¬ (o ≤ i ∧ i < o + ([] : List Value).length ∧ i < vs.length) := by simp; omega
  rw [if_neg this]; rfl
 | cons x r ih =>
  rw [splice_cons, ih]
  simp only [List.length_cons, List.length_set]
  by_cases h1 : o = i
  ·subst h1
   rw [if_neg (by omega)]
   by_cases h2 : o < vs.length
   ·rw [if_pos (by omega)]; simp [h2]
   ·rw [if_neg (by omega)]
    have : (vs.set o x) = vs := List.set_eq_of_length_le (by omega)
    rw [this]
  ·rw [List.getElem?_set_ne h1]
   by_cases h2 : o + 1 ≤ i ∧ i < o + 1 + r.length ∧ i < vs.length
   ·rw [if_pos h2, if_pos (by omega)]
    have : i - o = (i - (o + 1)) + 1 := by omega
    rw [this]; simp
   ·rw [if_neg h2, if_neg (by omega)]
theorem splice_all (vs xs : List Value) (h : xs.length = vs.length) : splice vs 0 xs = xs := by
 apply List.ext_getElem?
 intro i
 rw [splice_get]
 split
 ·simp
 ·rename_i hn
  rw [List.getElem?_eq_none (by omega), List.getElem?_eq_none (by omega)]
theorem splice_append (a b c xs : List Value) (h : xs.length = b.length) : splice (a ++ b ++ c) a.length xs = a ++ xs ++ c := by
 apply List.ext_getElem?
 intro i
 rw [splice_get]
 simp only [List.length_append]
 split
 ·rename_i hh
  rw [List.append_assoc, List.getElem?_append_right hh.1, List.getElem?_append_left (by omega)]
 ·rename_i hh
  rw [List.append_assoc, List.append_assoc]
  by_cases h1 : i < a.length
  ·rw [List.getElem?_append_left h1, List.getElem?_append_left h1]
  ·rw [List.getElem?_append_right (by omega), List.getElem?_append_right (by omega)]
   by_cases h2 : i - a.length < b.length
   ·omega
   ·rw [List.getElem?_append_right (by omega), List.getElem?_append_right (by omega), h]

theorem hs_eq {h : H} {b : Nat} {vs : List Value} (k : Blk h b vs) (o : Nat) (v : Value) : Blk (hs h ⟨b, o, none⟩ v) b (vs.set o v) := by
 obtain ⟨t, lo, hi, hb, hfz⟩ := k
 refine ⟨t, lo, hi, ?_, by simpa using hfz⟩
 simp only [hs, Array.getElem?_modify, hb]
 simp
theorem hs_ne (h : H) (a : Addr) (v : Value) {x : Nat} (hx : x ≠ a.block) : (hs h a v)[x]? = h[x]? := by
 simp only [hs, Array.getElem?_modify]
 rw [if_neg (by omega)]
theorem hs_size (h : H) (a : Addr) (v : Value) : (hs h a v).size = h.size := by simp [hs]
theorem hwrFrom_blk {h : H} {b : Nat} {vs : List Value} (k : Blk h b vs) (o : Nat) (xs : List Value) (j : Nat) : Blk (hwrFrom h ⟨b, o, none⟩ j xs) b (splice vs (o + j) xs) := by
 induction xs generalizing h vs j with
 | nil => exact k
 | cons x r ih =>
  simp only [hwrFrom, splice_cons, add_mk]
  exact ih (hs_eq k (o + j) x) (j + 1)
theorem add_block (a : Addr) (n : Nat) : (a.add n).block = a.block := by unfold Addr.add; split <;> rfl
theorem hwrFrom_ne (h : H) (a : Addr) (j : Nat) (xs : List Value) {x : Nat} (hx : x ≠ a.block) : (hwrFrom h a j xs)[x]? = h[x]? := by
 induction xs generalizing h j with
 | nil => rfl
 | cons y r ih => simp only [hwrFrom]; rw [ih, hs_ne]; rw [add_block]; exact hx
theorem hwrFrom_size (h : H) (a : Addr) (j : Nat) (xs : List Value) : (hwrFrom h a j xs).size = h.size := by
 induction xs generalizing h j with
 | nil => rfl
 | cons y r ih => simp only [hwrFrom]; rw [ih, hs_size]
theorem Blk.wr {h : H} {b : Nat} {vs : List Value} (k : Blk h b vs) (o : Nat) (xs : List Value) : Blk (hwr h ⟨b, o, none⟩ xs) b (splice vs o xs) := hwrFrom_blk k o xs 0
theorem hwr_ne (h : H) (a : Addr) (xs : List Value) {x : Nat} (hx : x ≠ a.block) : (hwr h a xs)[x]? = h[x]? := hwrFrom_ne h a 0 xs hx
theorem hwr_size (h : H) (a : Addr) (xs : List Value) : (hwr h a xs).size = h.size := hwrFrom_size h a 0 xs
theorem Blk.wr_ne {h : H} {b : Nat} {vs : List Value} (k : Blk h b vs) {a : Addr} {xs : List Value} (hx : b ≠ a.block) : Blk (hwr h a xs) b vs := k.of_eq (hwr_ne h a xs hx)

/-! ### What is left alone -/
structure Ext (S : Nat → Prop) (h h' : H) : Prop where
 size : h.size ≤ h'.size
 eq : ∀ b, b < h.size → ¬ S b → h'[b]? = h[b]?
abbrev none_ : Nat → Prop := fun _ => False
theorem Ext.refl (S : Nat → Prop) (h : H) : Ext S h h := ⟨Nat.le_refl _, fun _ _ _ => rfl⟩
theorem Ext.trans {S : Nat → Prop} {h h' h'' : H} (a : Ext S h h') (b : Ext S h' h'') : Ext S h h'' :=
 ⟨Nat.le_trans a.size b.size, fun x hx hs => by rw [b.eq x (Nat.lt_of_lt_of_le hx a.size) hs, a.eq x hx hs]⟩
theorem Ext.mono {S T : Nat → Prop} {h h' : H} (a : Ext S h h') (st : ∀ b, b < h.size → S b → T b) : Ext T h h' :=
 ⟨a.size, fun x hx hs => a.eq x hx fun h => hs (st x hx h)⟩
theorem Ext.comp {S T : Nat → Prop} {h h' h'' : H} (a : Ext S h h') (b : Ext T h' h'') (st : ∀ x, x < h.size → T x → S x) : Ext S h h'' :=
 ⟨Nat.le_trans a.size b.size, fun x hx hs => by rw [b.eq x (Nat.lt_of_lt_of_le hx a.size) (fun t => hs (st x hx t)), a.eq x hx hs]⟩
theorem Ext.blk {S : Nat → Prop} {h h' : H} (a : Ext S h h') {b : Nat} {vs : List Value} (k : Blk h b vs) (hb : ¬ S b) : Blk h' b vs := k.of_eq (a.eq b k.lt hb)
theorem Ext.wr (h : H) (b o : Nat) (xs : List Value) : Ext (fun x => x = b) h (hwr h ⟨b, o, none⟩ xs) :=
 ⟨by rw [hwr_size]; exact Nat.le_refl _, fun x _ hx => hwr_ne h _ xs hx⟩
theorem hnew.size {h h' : H} {b : Nat} {c : List Value} (n : hnew h b c h') : h'.size = h.size + 1 := by
 obtain ⟨_, t, lo, hi, _, rfl⟩ := n; simp
theorem hnew.b {h h' : H} {b : Nat} {c : List Value} (n : hnew h b c h') : b = h.size := n.1
theorem hnew.ext {h h' : H} {b : Nat} {c : List Value} (n : hnew h b c h') : Ext none_ h h' := by
 refine ⟨by rw [n.size]; omega, ?_⟩
 obtain ⟨_, t, lo, hi, _, rfl⟩ := n
 intro x hx _
 rw [Array.getElem?_push]; rw [if_neg (by omega)]
theorem hnew.blk {h h' : H} {b : Nat} {c : List Value} (n : hnew h b c h') : Blk h' b c := by
 obtain ⟨rfl, t, lo, hi, hf, rfl⟩ := n
 exact ⟨t, lo, hi, by simp, hf⟩
theorem Blk.ne {h : H} {b b' : Nat} {vs vs' : List Value} (k : Blk h b vs) (k' : ¬ b' < h.size) : b ≠ b' := fun e => k' (e ▸ k.lt)

/-! ### Rows of integers -/
@[simp] theorem ints_nil (k : IntKind) : ints k [] = [] := rfl
@[simp] theorem ints_cons (k : IntKind) (n : Int) (r : List Int) : ints k (n :: r) = .int k n :: ints k r := rfl
@[simp] theorem ints_length (k : IntKind) (ns : List Int) : (ints k ns).length = ns.length := by simp [ints]
@[simp] theorem ints_append (k : IntKind) (a b : List Int) : ints k (a ++ b) = ints k a ++ ints k b := by simp [ints]
theorem ints_get (k : IntKind) (ns : List Int) (i : Nat) : (ints k ns)[i]? = ns[i]?.map (Value.int k) := by simp [ints]
@[simp] theorem zeros_length (n : Nat) : (zeros n).length = n := by simp [zeros]
theorem Blk.hrow {h : H} {b : Nat} {vs : List Value} (k : Blk h b vs) {o : Nat} {kd : IntKind} {ns : List Int} (e : ∀ i, i < ns.length → vs[o + i]? = ns[i]?.map (Value.int kd)) : hrow h ⟨b, o, none⟩ kd ns := by
 apply k.hcs
 intro i hi
 rw [e i (by simpa using hi), ints_get]
@[simp] theorem oneCell_int (k : IntKind) (n : Int) : (Value.int k n).oneCell' = true := rfl
end Go.Vc
end

/- Slices: what they hold, who owns it, and appending. Own work; generic over any program. -/
section
set_option linter.unusedVariables false
namespace Go.Vc

theorem hc_congr {h h' : H} {a : Addr} (e : h'[a.block]? = h[a.block]?) : hc h' a = hc h a := by simp only [hc, e]
theorem hc_lt {h : H} {a : Addr} {v : Value} (e : hc h a = some v) : a.block < h.size := by
 rcases Nat.lt_or_ge a.block h.size with k | k
 ·exact k
 ·simp [hc, Array.getElem?_eq_none k] at e
theorem hc_ext {S : Nat → Prop} {h h' : H} (x : Ext S h h') {a : Addr} {v : Value} (e : hc h a = some v) (hs : ¬ S a.block) : hc h' a = some v := by
 rw [hc_congr (x.eq _ (hc_lt e) hs), e]
theorem hcs_ext {S : Nat → Prop} {h h' : H} (x : Ext S h h') {a : Addr} {vs : List Value} (e : hcs h a vs) (hs : ¬ S a.block) : hcs h' a vs := by
 intro i v hv
 exact hc_ext x (e i v hv) (by rw [add_block]; exact hs)
theorem hsv_ext {S : Nat → Prop} {h h' : H} (x : Ext S h h') {p : Option Addr} {sz l : Nat} {vs : List Value} (e : hsv h p sz l vs) (hs : ∀ q, p = some q → ¬ S q.block) : hsv h' p sz l vs := by
 obtain ⟨h1, h2, h3⟩ := e
 refine ⟨h1, h2, ?_⟩
 rcases h3 with h3 | ⟨q, hq, h3⟩
 ·exact Or.inl h3
 ·exact Or.inr ⟨q, hq, hcs_ext x h3 (hs q hq)⟩
theorem hsv_none {h : H} {sz l : Nat} {vs : List Value} (e : hsv h none sz l vs) : vs = [] := by
 obtain ⟨_, _, h3⟩ := e
 rcases h3 with h3 | ⟨q, hq, _⟩
 ·exact h3
 ·cases hq
theorem hsv_get {h : H} {p : Option Addr} {sz l : Nat} {vs : List Value} (e : hsv h p sz l vs) {i : Nat} {v : Value} (hi : vs[i]? = some v) : ∃ q, p = some q ∧ hc h (q.add i) = some v := by
 obtain ⟨_, _, h3⟩ := e
 rcases h3 with h3 | ⟨q, hq, h3⟩
 ·subst h3; simp at hi
 ·exact ⟨q, hq, h3 i v hi⟩
def OwnS (h : H) (p : Option Addr) (l c sz : Nat) (vs : List Value) (bs : List Nat) : Prop :=
 vs.length = l * sz ∧ l ≤ c ∧ (∀ v, v ∈ vs → v.oneCell' = true) ∧
  ((l = 0 ∧ c = 0 ∧ bs = []) ∨ ∃ b rest, p = some ⟨b, 0, none⟩ ∧ bs = [b] ∧ Blk h b (vs ++ rest) ∧ (c - l) * sz ≤ rest.length)
theorem OwnS.hsv {h : H} {p : Option Addr} {l c sz : Nat} {vs : List Value} {bs : List Nat} (o : OwnS h p l c sz vs bs) : hsv h p sz l vs := by
 obtain ⟨h1, h2, h3, h4⟩ := o
 refine ⟨h1, h3, ?_⟩
 rcases h4 with ⟨rfl, _, _⟩ | ⟨b, rest, rfl, _, k, _⟩
 ·left; apply List.eq_nil_of_length_eq_zero; simp [h1]
 ·right
  exact ⟨_, rfl, k.hcs fun i hi => by rw [Nat.zero_add, List.getElem?_append_left hi]⟩
theorem OwnS.lt {h : H} {p : Option Addr} {l c sz : Nat} {vs : List Value} {bs : List Nat} (o : OwnS h p l c sz vs bs) : ∀ b, b ∈ bs → b < h.size := by
 obtain ⟨_, _, _, h4⟩ := o
 rcases h4 with ⟨_, _, rfl⟩ | ⟨b, rest, _, rfl, k, _⟩
 ·intro b hb; simp at hb
 ·intro b' hb; simp at hb; subst hb; exact k.lt
theorem OwnS.ext {S : Nat → Prop} {h h' : H} (x : Ext S h h') {p : Option Addr} {l c sz : Nat} {vs : List Value} {bs : List Nat} (o : OwnS h p l c sz vs bs) (hs : ∀ b, b ∈ bs → ¬ S b) : OwnS h' p l c sz vs bs := by
 obtain ⟨h1, h2, h3, h4⟩ := o
 refine ⟨h1, h2, h3, ?_⟩
 rcases h4 with h4 | ⟨b, rest, hp, rfl, k, hr⟩
 ·exact Or.inl h4
 ·exact Or.inr ⟨b, rest, hp, rfl, x.blk k (hs b (by simp)), hr⟩
theorem OwnS.nil (h : H) (p : Option Addr) (sz : Nat) : OwnS h p 0 0 sz [] [] := ⟨by simp, Nat.le_refl _, by simp, Or.inl ⟨rfl, rfl, rfl⟩⟩

theorem flatten_replicate_length {α : Type} (n : Nat) (z : List α) : (List.replicate n z).flatten.length = n * z.length := by
 induction n with
 | zero => simp
 | succ n ih => simp [List.replicate_succ, Nat.succ_mul, ih]; omega

def newB (h : H) (bs : List Nat) : Prop := ∀ b, b ∈ bs → h.size ≤ b
theorem newB.ext {S : Nat → Prop} {h h' : H} (x : Ext S h h') {bs : List Nat} (n : newB h' bs) : newB h bs := fun b hb => Nat.le_trans x.size (n b hb)

theorem pApp_empty {h : H} {sz : Nat} {z : List Value} {B : Nat} {p : Option Addr} {n : Nat} {vs : List Value} {K : Option Addr → Nat → Nat → H → Prop}
  (hl : vs.length = n * sz) (hz : z.length = sz) (hv : ∀ v, v ∈ vs → v.oneCell' = true) (hb : n * B ≤ 2 ^ 47)
  (hk : ∀ p' c' h' bs, Ext none_ h h' → OwnS h' p' n c' sz vs bs → newB h bs → K p' n c' h') : pApp h sz z B p 0 0 n vs K := by
 unfold pApp
 by_cases hn : n = 0
 ·subst hn
  have hv0 : vs = [] := List.eq_nil_of_length_eq_zero (by simp [hl])
  subst hv0
  rw [if_pos (by simp)]
  refine ⟨Or.inl rfl, fun h' e => ?_⟩
  have e' : h' = h := by rw [e]; cases p <;> rfl
  subst e'
  exact hk _ _ _ [] (Ext.refl _ _) (OwnS.nil _ _ _) (by intro b hb; simp at hb)
 ·rw [if_neg (by omega)]
  refine ⟨by simpa using hb, [], ⟨by simp, by simp, Or.inl rfl⟩, fun c' b h' hc hw => ?_⟩
  have : (0 + n) = n := by omega
  rw [this] at hc ⊢
  refine hk _ _ _ [b] hw.ext ⟨hl, hc, hv, Or.inr ⟨b, (List.replicate (c' - (0 + n)) z).flatten, rfl, rfl, ?_, ?_⟩⟩ ?_
  ·simpa using hw.blk
  ·rw [flatten_replicate_length, hz, this]; exact Nat.le_refl _
  ·intro x hx; simp at hx; subst hx; rw [hw.b]; exact Nat.le_refl _

theorem pApp_own {h : H} {sz : Nat} {z : List Value} {B : Nat} {p : Option Addr} {l c n : Nat} {old vs : List Value} {bs : List Nat} {K : Option Addr → Nat → Nat → H → Prop}
  (o : OwnS h p l c sz old bs) (hl : vs.length = n * sz) (hz : z.length = sz) (hv : ∀ v, v ∈ vs → v.oneCell' = true) (hb : (l + n) * B ≤ 2 ^ 47)
  (hk : ∀ p' c' h' bs', Ext (fun b => b ∈ bs) h h' → OwnS h' p' (l + n) c' sz (old ++ vs) bs' → (∀ b, b ∈ bs' → b ∈ bs ∨ h.size ≤ b) → K p' (l + n) c' h') : pApp h sz z B p l c n vs K := by
 have ohs := o.hsv
 have olt := o.lt
 obtain ⟨h1, h2, h3, h4⟩ := o
 have hov : ∀ v, v ∈ old ++ vs → v.oneCell' = true := by
  intro v hm; rcases List.mem_append.1 hm with hm | hm
  ·exact h3 v hm
  ·exact hv v hm
 have hlen : (old ++ vs).length = (l + n) * sz := by simp [h1, hl, Nat.add_mul]
 unfold pApp
 split
 ·rename_i hroom
  rcases h4 with ⟨rfl, rfl, rfl⟩ | ⟨b, rest, rfl, rfl, k, hr⟩
  ·have hn : n = 0 := by omega
   subst hn
   have hv0 : vs = [] := List.eq_nil_of_length_eq_zero (by simp [hl])
   have ho0 : old = [] := List.eq_nil_of_length_eq_zero (by simp [h1])
   subst hv0; subst ho0
   refine ⟨Or.inl rfl, fun h' e => ?_⟩
   have e' : h' = h := by rw [e]; cases p <;> rfl
   subst e'
   exact hk _ _ _ [] (Ext.refl _ _) (OwnS.nil _ _ _) (by intro b hb; simp at hb)
  ·have hnr : n * sz ≤ rest.length := by
    have : n * sz ≤ (c - l) * sz := Nat.mul_le_mul_right _ (by omega)
    omega
   refine ⟨Or.inr ⟨_, rfl, ?_⟩, fun h' e => ?_⟩
   ·rw [add_mk]; apply k.can; simp [h1]; omega
   ·simp only [Option.map_some, hwrO, add_mk, Nat.zero_add] at e
    have hs : splice (old ++ rest) (l * sz) vs = (old ++ vs) ++ rest.drop (n * sz) := by
     have : old ++ rest = old ++ rest.take (n * sz) ++ rest.drop (n * sz) := by simp
     rw [this, ← h1, splice_append]
     simp [hl, Nat.min_eq_left hnr]
    have kb := k.wr (l * sz) vs
    rw [hs] at kb
    subst e
    refine hk _ _ _ [b] ⟨by rw [hwr_size]; exact Nat.le_refl _, fun x _ hx => hwr_ne _ _ _ (by simpa using hx)⟩ ⟨hlen, hroom, hov, Or.inr ⟨b, rest.drop (n * sz), rfl, rfl, kb, ?_⟩⟩ (fun x hx => Or.inl hx)
    simp
    have : c - (l + n) = (c - l) - n := by omega
    rw [this, Nat.sub_mul]; omega
 ·rename_i hroom
  refine ⟨hb, old, ohs, fun c' b h' hc hw => ?_⟩
  refine hk _ _ _ [b] (hw.ext.mono fun _ _ hf => hf.elim) ⟨hlen, hc, hov, Or.inr ⟨b, (List.replicate (c' - (l + n)) z).flatten, rfl, rfl, ?_, ?_⟩⟩ ?_
  ·exact hw.blk
  ·rw [flatten_replicate_length, hz]; exact Nat.le_refl _
  ·intro x hx; simp at hx; subst hx; right; rw [hw.b]; exact Nat.le_refl _
end Go.Vc
end

/- Loops that count up. Own work; generic over any program. -/
section
set_option linter.unusedVariables false
namespace Go.Vc
abbrev si (i : Nat) : SV := .dv (.one (.int .i64 (i : Int)))
theorem loop_up {J : List SV → H → Prop} (N : Nat) (Inv : Nat → H → Prop) (step : ∀ i h, i < N → Inv i h → (∀ h', Inv (i + 1) h' → J [si (i + 1)] h') → J [si i] h)
  (exit : ∀ h, Inv N h → J [si N] h) (i : Nat) (h : H) (hi : i ≤ N) (inv : Inv i h) : J [si i] h := by
 generalize e : N - i = n
 induction n generalizing i h with
 | zero =>
  have : i = N := by omega
  subst this; exact exit h inv
 | succ n ih => exact step i h (by omega) inv fun h' inv' => ih (i + 1) h' (by omega) inv' (by omega)
theorem wrap_succ {i : Nat} (h : i < 2 ^ 62) : IntKind.i64.wrap ((i : Int) + 1) = ((i + 1 : Nat) : Int) := by
 rw [IntKind.wrap_i64]; omega
theorem wrap_id {n : Int} (h : -(2 ^ 62) ≤ n ∧ n ≤ 2 ^ 62) : IntKind.i64.wrap n = n := by
 rw [IntKind.wrap_i64]; omega
def mapTo (g : Nat → Int → Int) (i : Nat) (ns : List Int) : List Int := ns.mapIdx fun j v => if j < i then g j v else v
@[simp] theorem mapTo_length (g : Nat → Int → Int) (i : Nat) (ns : List Int) : (mapTo g i ns).length = ns.length := by simp [mapTo]
theorem mapTo_get (g : Nat → Int → Int) (i : Nat) (ns : List Int) (j : Nat) : (mapTo g i ns)[j]? = ns[j]?.map fun v => if j < i then g j v else v := by simp [mapTo]
@[simp] theorem mapTo_zero (g : Nat → Int → Int) (ns : List Int) : mapTo g 0 ns = ns := by
 apply List.ext_getElem?; intro j; rw [mapTo_get]; simp
theorem mapTo_succ (g : Nat → Int → Int) (i : Nat) (ns : List Int) (hi : i < ns.length) : (mapTo g i ns).set i (g i ns[i]) = mapTo g (i + 1) ns := by
 apply List.ext_getElem?; intro j
 by_cases h : i = j
 ·subst h; rw [List.getElem?_set_self (by simpa using hi), mapTo_get]; simp [hi]
 ·rw [List.getElem?_set_ne h, mapTo_get, mapTo_get]
  congr 1; funext v
  by_cases h1 : j < i
  ·rw [if_pos h1, if_pos (by omega)]
  ·rw [if_neg h1, if_neg (by omega)]
theorem ints_set (k : IntKind) (ns : List Int) (i : Nat) (n : Int) : (ints k ns).set i (.int k n) = ints k (ns.set i n) := by simp [ints, List.map_set]
end Go.Vc
end
