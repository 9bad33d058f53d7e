/- TokenNarrows: what is proved and its parts, laid together by a program of ours: F F Hp Hs Lp -/
import Derived.Test.YtaglicdidpgkpaaGreatDoorK7
set_option autoImplicit false
set_option linter.all false
/- Denotations of functions of the program, printed by a program of ours, and that they are the model's. -/
section
set_option linter.unusedVariables false
set_option maxRecDepth 100000
namespace Go.Proofs.YtaglicdidpgkpaaGreatDoor
open Go Go.Vc
def G_portcullisref02_piece (c0 : OA → Nat → Nat → (List Int → H → Prop) → H → Prop) (c1 : Int → Int → (Int → H → Prop) → H → Prop) (a0_0 : List Int) (a1p : OA) (a1l : Nat) (a1c : Nat) (a2_0 : List Int) (Q : List Int → H → Prop) (h : H) : Prop := ∀ n9 h10, hnew h n9 (ints .u32 a0_0 ++ []) h10 → ∀ n12 h13, hnew h10 n12 (ints .u32 a2_0 ++ []) h13 → ∀ n15 h16, hnew h13 n15 (ints .u32 (zeros 8)) h16 → c0 a1p a1l a1c (fun l18 h19 => ∀ n20 h21, hnew h19 n20 (ints .u32 (zeros 64)) h21 → hcan h21 ⟨n20, 0, none⟩ 64 ∧ ∀ h23, h23 = hwr h21 ⟨n20, 0, none⟩ (ints .u32 l18 ++ []) → ∃ (l25 : List Int), l25.length = 8 ∧ hrow h23 ⟨n9, 0, none⟩ .u32 l25 ∧ ∀ n26 h27, hnew h23 n26 (ints .u32 (zeros 8)) h27 → hcan h27 ⟨n26, 0, none⟩ 8 ∧ ∀ h29, h29 = hwr h27 ⟨n26, 0, none⟩ (ints .u32 l25 ++ []) → ∀ (J31 : JT), (∀ (i32 : Int) (h33 : H), (if ltI i32 64 = true then (0 : Int) ≤ 0 ∧ (0 : Int) < (↑8 : Int) ∧ ∃ i34, hc h33 ⟨n26, 0, none⟩ = some (.int .u32 i34) ∧ (0 : Int) ≤ 4 ∧ (4 : Int) < (↑8 : Int) ∧ ∃ i35, hc h33 ⟨n26, 4, none⟩ = some (.int .u32 i35) ∧ (0 : Int) ≤ 7 ∧ (7 : Int) < (↑8 : Int) ∧ ∃ i36, hc h33 ⟨n26, 7, none⟩ = some (.int .u32 i36) ∧ (0 : Int) ≤ 5 ∧ (5 : Int) < (↑8 : Int) ∧ ∃ i37, hc h33 ⟨n26, 5, none⟩ = some (.int .u32 i37) ∧ (0 : Int) ≤ 6 ∧ (6 : Int) < (↑8 : Int) ∧ ∃ i38, hc h33 ⟨n26, 6, none⟩ = some (.int .u32 i38) ∧ 0 ≤ i32 ∧ i32 < (↑64 : Int) ∧ ∃ i39, hc h33 ((Addr.mk n12 0 none).add (i32.toNat * 1)) = some (.int .u32 i39) ∧ 0 ≤ i32 ∧ i32 < (↑64 : Int) ∧ ∃ i40, hc h33 ((Addr.mk n20 0 none).add (i32.toNat * 1)) = some (.int .u32 i40) ∧ c1 i35 6 (fun i41 h42 => hcs h42 ((Addr.mk n20 0 none).add (i32.toNat * 1)) [.int .u32 i40] ∧ hcs h42 ((Addr.mk n12 0 none).add (i32.toNat * 1)) [.int .u32 i39] ∧ hcs h42 ⟨n26, 6, none⟩ [.int .u32 i38] ∧ hcs h42 ⟨n26, 5, none⟩ [.int .u32 i37] ∧ hcs h42 ⟨n26, 7, none⟩ [.int .u32 i36] ∧ c1 i35 11 (fun i43 h44 => hcs h44 ((Addr.mk n20 0 none).add (i32.toNat * 1)) [.int .u32 i40] ∧ hcs h44 ((Addr.mk n12 0 none).add (i32.toNat * 1)) [.int .u32 i39] ∧ hcs h44 ⟨n26, 6, none⟩ [.int .u32 i38] ∧ hcs h44 ⟨n26, 5, none⟩ [.int .u32 i37] ∧ hcs h44 ⟨n26, 7, none⟩ [.int .u32 i36] ∧ c1 i35 25 (fun i45 h46 => hcs h46 ((Addr.mk n20 0 none).add (i32.toNat * 1)) [.int .u32 i40] ∧ hcs h46 ((Addr.mk n12 0 none).add (i32.toNat * 1)) [.int .u32 i39] ∧ hcs h46 ⟨n26, 6, none⟩ [.int .u32 i38] ∧ hcs h46 ⟨n26, 5, none⟩ [.int .u32 i37] ∧ hcs h46 ⟨n26, 7, none⟩ [.int .u32 i36] ∧ (0 : Int) ≤ 1 ∧ (1 : Int) < (↑8 : Int) ∧ ∃ i47, hc h46 ⟨n26, 1, none⟩ = some (.int .u32 i47) ∧ (0 : Int) ≤ 2 ∧ (2 : Int) < (↑8 : Int) ∧ ∃ i48, hc h46 ⟨n26, 2, none⟩ = some (.int .u32 i48) ∧ (0 : Int) ≤ 1 ∧ (1 : Int) < (↑8 : Int) ∧ ∃ i49, hc h46 ⟨n26, 1, none⟩ = some (.int .u32 i49) ∧ (0 : Int) ≤ 2 ∧ (2 : Int) < (↑8 : Int) ∧ ∃ i50, hc h46 ⟨n26, 2, none⟩ = some (.int .u32 i50) ∧ c1 i34 2 (fun i51 h52 => hcs h52 ⟨n26, 2, none⟩ [.int .u32 i50] ∧ hcs h52 ⟨n26, 1, none⟩ [.int .u32 i49] ∧ hcs h52 ⟨n26, 2, none⟩ [.int .u32 i48] ∧ hcs h52 ⟨n26, 1, none⟩ [.int .u32 i47] ∧ c1 i34 13 (fun i53 h54 => hcs h54 ⟨n26, 2, none⟩ [.int .u32 i50] ∧ hcs h54 ⟨n26, 1, none⟩ [.int .u32 i49] ∧ hcs h54 ⟨n26, 2, none⟩ [.int .u32 i48] ∧ hcs h54 ⟨n26, 1, none⟩ [.int .u32 i47] ∧ c1 i34 22 (fun i55 h56 => hcs h56 ⟨n26, 2, none⟩ [.int .u32 i50] ∧ hcs h56 ⟨n26, 1, none⟩ [.int .u32 i49] ∧ hcs h56 ⟨n26, 2, none⟩ [.int .u32 i48] ∧ hcs h56 ⟨n26, 1, none⟩ [.int .u32 i47] ∧ (0 : Int) ≤ 0 ∧ (0 : Int) < (↑8 : Int) ∧ ∃ i57, hc h56 ⟨n26, 0, none⟩ = some (.int .u32 i57) ∧ (0 : Int) ≤ 1 ∧ (1 : Int) < (↑8 : Int) ∧ ∃ i58, hc h56 ⟨n26, 1, none⟩ = some (.int .u32 i58) ∧ (0 : Int) ≤ 2 ∧ (2 : Int) < (↑8 : Int) ∧ ∃ i59, hc h56 ⟨n26, 2, none⟩ = some (.int .u32 i59) ∧ (0 : Int) ≤ 3 ∧ (3 : Int) < (↑8 : Int) ∧ ∃ i60, hc h56 ⟨n26, 3, none⟩ = some (.int .u32 i60) ∧ (0 : Int) ≤ 4 ∧ (4 : Int) < (↑8 : Int) ∧ ∃ i61, hc h56 ⟨n26, 4, none⟩ = some (.int .u32 i61) ∧ (0 : Int) ≤ 5 ∧ (5 : Int) < (↑8 : Int) ∧ ∃ i62, hc h56 ⟨n26, 5, none⟩ = some (.int .u32 i62) ∧ (0 : Int) ≤ 6 ∧ (6 : Int) < (↑8 : Int) ∧ ∃ i63, hc h56 ⟨n26, 6, none⟩ = some (.int .u32 i63) ∧ hcan h56 ⟨n26, 0, none⟩ 8 ∧ ∀ h64, h64 = hwr h56 ⟨n26, 0, none⟩ (ints .u32 [IntKind.u32.wrap (IntKind.u32.wrap (IntKind.u32.wrap (IntKind.u32.wrap (IntKind.u32.wrap (i36 + bits .xor .u32 (bits .xor .u32 i41 i43) i45) + bits .xor .u32 (bits .and .u32 i35 i37) (bits .and .u32 (bits .xor .u32 (if IntKind.u32.signed = true then -1 else IntKind.u32.max) i35) i38)) + i39) + i40) + IntKind.u32.wrap (bits .xor .u32 (bits .xor .u32 i51 i53) i55 + bits .xor .u32 (bits .xor .u32 (bits .and .u32 i34 i47) (bits .and .u32 i34 i48)) (bits .and .u32 i49 i50))), i57, i58, i59, IntKind.u32.wrap (i60 + IntKind.u32.wrap (IntKind.u32.wrap (IntKind.u32.wrap (IntKind.u32.wrap (i36 + bits .xor .u32 (bits .xor .u32 i41 i43) i45) + bits .xor .u32 (bits .and .u32 i35 i37) (bits .and .u32 (bits .xor .u32 (if IntKind.u32.signed = true then -1 else IntKind.u32.max) i35) i38)) + i39) + i40)), i61, i62, i63] ++ []) → J31 [.dv (.one (.int .i64 (IntKind.i64.wrap (i32 + 1))))] h64) h54) h52) h46) h44) h42) h33 else ∀ (J66 : JT), (∀ (i67 : Int) (h68 : H), (if ltI i67 8 = true then 0 ≤ i67 ∧ i67 < (↑8 : Int) ∧ ∃ i69, hc h68 ((Addr.mk n9 0 none).add (i67.toNat * 1)) = some (.int .u32 i69) ∧ 0 ≤ i67 ∧ i67 < (↑8 : Int) ∧ ∃ i70, hc h68 ((Addr.mk n26 0 none).add (i67.toNat * 1)) = some (.int .u32 i70) ∧ 0 ≤ i67 ∧ i67 < (↑8 : Int) ∧ hcan h68 ((Addr.mk n9 0 none).add (i67.toNat * 1)) 1 ∧ ∀ h71, h71 = hwr h68 ((Addr.mk n9 0 none).add (i67.toNat * 1)) [.int .u32 (IntKind.u32.wrap (i69 + i70))] → J66 [.dv (.one (.int .i64 (IntKind.i64.wrap (i67 + 1))))] h71 else ∃ (l73 : List Int), l73.length = 8 ∧ hrow h68 ⟨n9, 0, none⟩ .u32 l73 ∧ hcan h68 ⟨n15, 0, none⟩ 8 ∧ ∀ h74, h74 = hwr h68 ⟨n15, 0, none⟩ (ints .u32 l73 ++ []) → ∃ (l76 : List Int), l76.length = 8 ∧ hrow h74 ⟨n15, 0, none⟩ .u32 l76 ∧ Q l76 h74) → J66 [.dv (.one (.int .i64 i67))] h68) → J66 [.dv (.one (.int .i64 0))] h33) → J31 [.dv (.one (.int .i64 i32))] h33) → J31 [.dv (.one (.int .i64 0))] h29) h16
theorem E_portcullisref02_piece : ∀ c0 c1 a0_0 a1p a1l a1c a2_0 Q h, G_portcullisref02_piece c0 c1 a0_0 a1p a1l a1c a2_0 Q h = Dbody PP [(208, W [.slc] [.ag [.row .u32 64]] c0), (209, W [.int .u32, .int .i64] [.int .u32] c1)] [(122, [(9, .sc (.int .i64))]), (250, [(14, .sc (.int .i64))])] Tryz.f180 [.agg [.row .u32 8 a0_0], .one (.slice a1p a1l a1c), .agg [.row .u32 64 a2_0]] (decR [.ag [.row .u32 8]] Q) h := by intros; kernel_rfl
def F_portcullisref02_piece := G_portcullisref02_piece F_portcullisref02_words F_portcullisref02_turned
theorem R_portcullisref02_piece : RunOk PP 180 (W [.ag [.row .u32 8], .slc, .ag [.row .u32 64]] [.ag [.row .u32 8]] F_portcullisref02_piece) := runOk_of (TblOk.cons R_portcullisref02_words (TblOk.cons R_portcullisref02_turned (TblOk.nil))) Tryz.func180 (by kernel_rfl) (by kernel_rfl) (E_portcullisref02_piece _ _)
attribute [irreducible] F_portcullisref02_piece
def G_portcullisref02_Of (c0 : OA → Nat → Nat → (OA → Nat → Nat → H → Prop) → H → Prop) (c1 : (List Int → H → Prop) → H → Prop) (c2 : (List Int → H → Prop) → H → Prop) (c3 : List Int → OA → Nat → Nat → List Int → (List Int → H → Prop) → H → Prop) (a0p : OA) (a0l : Nat) (a0c : Nat) (Q : List Int → H → Prop) (h : H) : Prop := ∀ n9 h10, hnew h n9 (ints .u8 (zeros 32)) h10 → c0 a0p a0l a0c (fun o12 n13 n14 h15 => c1 (fun l16 h17 => ∀ n18 h19, hnew h17 n18 (ints .u32 (zeros 8)) h19 → hcan h19 ⟨n18, 0, none⟩ 8 ∧ ∀ h21, h21 = hwr h19 ⟨n18, 0, none⟩ (ints .u32 l16 ++ []) → c2 (fun l23 h24 => ∀ n25 h26, hnew h24 n25 (ints .u32 (zeros 64)) h26 → hcan h26 ⟨n25, 0, none⟩ 64 ∧ ∀ h28, h28 = hwr h26 ⟨n25, 0, none⟩ (ints .u32 l23 ++ []) → ∀ (J30 : JT), (∀ (i31 : Int) (h32 : H), (if ltI i31 n13 = true then ∃ (l33 : List Int), l33.length = 8 ∧ hrow h32 ⟨n18, 0, none⟩ .u32 l33 ∧ 0 ≤ i31 ∧ i31 ≤ IntKind.i64.wrap (i31 + 64) ∧ IntKind.i64.wrap (i31 + 64) ≤ (↑n14 : Int) ∧ ∃ (l34 : List Int), l34.length = 64 ∧ hrow h32 ⟨n25, 0, none⟩ .u32 l34 ∧ c3 l33 (subAddr o12 i31.toNat n14 1) ((IntKind.i64.wrap (i31 + 64)).toNat - i31.toNat) (n14 - i31.toNat) l34 (fun l35 h36 => hcan h36 ⟨n18, 0, none⟩ 8 ∧ ∀ h37, h37 = hwr h36 ⟨n18, 0, none⟩ (ints .u32 l35 ++ []) → J30 [.dv (.one (.int .i64 (IntKind.i64.wrap (i31 + 64))))] h37) h32 else ∀ n39 h40, hnew h32 n39 (ints .u8 (zeros 32)) h40 → hcan h40 ⟨n39, 0, none⟩ 32 ∧ ∀ h42, h42 = hwr h40 ⟨n39, 0, none⟩ (ints .u8 (zeros 32)) → ∀ (J44 : JT), (∀ (i45 : Int) (h46 : H), (if ltI i45 32 = true then (4 : Int) ≠ 0 ∧ 0 ≤ IntKind.i64.wrap (i45.tdiv 4) ∧ IntKind.i64.wrap (i45.tdiv 4) < (↑8 : Int) ∧ ∃ i47, hc h46 ((Addr.mk n18 0 none).add ((IntKind.i64.wrap (i45.tdiv 4)).toNat * 1)) = some (.int .u32 i47) ∧ (4 : Int) ≠ 0 ∧ 0 ≤ IntKind.i64.wrap (24 - IntKind.i64.wrap (8 * i45.tmod 4)) ∧ 0 ≤ i45 ∧ i45 < (↑32 : Int) ∧ hcan h46 ((Addr.mk n39 0 none).add (i45.toNat * 1)) 1 ∧ ∀ h48, h48 = hwr h46 ((Addr.mk n39 0 none).add (i45.toNat * 1)) [.int .u8 (IntKind.u8.wrap (i47.fdiv (2 ^ min (IntKind.i64.wrap (24 - IntKind.i64.wrap (8 * i45.tmod 4))).toNat 32)))] → J44 [.dv (.one (.int .i64 (IntKind.i64.wrap (i45 + 1))))] h48 else ∃ (l50 : List Int), l50.length = 32 ∧ hrow h46 ⟨n39, 0, none⟩ .u8 l50 ∧ hcan h46 ⟨n9, 0, none⟩ 32 ∧ ∀ h51, h51 = hwr h46 ⟨n9, 0, none⟩ (ints .u8 l50 ++ []) → ∃ (l53 : List Int), l53.length = 32 ∧ hrow h51 ⟨n9, 0, none⟩ .u8 l53 ∧ Q l53 h51) → J44 [.dv (.one (.int .i64 i45))] h46) → J44 [.dv (.one (.int .i64 0))] h42) → J30 [.dv (.one (.int .i64 i31))] h32) → J30 [.dv (.one (.int .i64 0))] h28) h21) h15) h10
theorem E_portcullisref02_Of : ∀ c0 c1 c2 c3 a0p a0l a0c Q h, G_portcullisref02_Of c0 c1 c2 c3 a0p a0l a0c Q h = Dbody PP [(177, W [.slc] [.slc] c0), (178, W [] [.ag [.row .u32 8]] c1), (179, W [] [.ag [.row .u32 64]] c2), (180, W [.ag [.row .u32 8], .slc, .ag [.row .u32 64]] [.ag [.row .u32 8]] c3)] [(250, [(6, .sc (.int .i64))]), (1018, [(8, .sc (.int .i64))])] Tryz.f111 [.one (.slice a0p a0l a0c)] (decR [.ag [.row .u8 32]] Q) h := by intros; kernel_rfl
def F_portcullisref02_Of := G_portcullisref02_Of F_portcullisref02_padded F_portcullisref02_begins F_portcullisref02_rounds F_portcullisref02_piece
theorem R_portcullisref02_Of : RunOk PP 111 (W [.slc] [.ag [.row .u8 32]] F_portcullisref02_Of) := runOk_of (TblOk.cons R_portcullisref02_padded (TblOk.cons R_portcullisref02_begins (TblOk.cons R_portcullisref02_rounds (TblOk.cons R_portcullisref02_piece (TblOk.nil))))) Tryz.func111 (by kernel_rfl) (by kernel_rfl) (E_portcullisref02_Of _ _ _ _)
attribute [irreducible] F_portcullisref02_Of
def G_portcullisref03_block (c0 : OA → Nat → Nat → (List Int → H → Prop) → H → Prop) (a0p : OA) (a0l : Nat) (a0c : Nat) (Q : OA → Nat → Nat → H → Prop) (h : H) : Prop := ∀ n6 h7, hnew h n6 [] h7 → if ltI 64 a0l = true then c0 a0p a0l a0c (fun l9 h10 => ∀ n11 h12, hnew h10 n11 (ints .u8 (zeros 32)) h12 → hcan h12 ⟨n11, 0, none⟩ 32 ∧ ∀ h14, h14 = hwr h12 ⟨n11, 0, none⟩ (ints .u8 l9 ++ []) → ∃ (l16 : List Value), hsv h14 (subAddr (some (Addr.mk n11 0 none)) 0 32 1) 1 32 l16 ∧ pApp h14 1 [.int .u8 0] 1 (some (Addr.mk n6 0 none)) 0 0 32 l16 fun o17 n18 n19 h20 => ∀ (J21 : JT), (∀ (o22 : OA) (n23 n24 : Nat) (h25 : H), (if ltI (↑n23 : Int) 64 = true then ∀ n26 h27, hnew h25 n26 [.int .u8 0] h27 → ∃ (l29 : List Value), hsv h27 (some (Addr.mk n26 0 none)) 1 1 l29 ∧ pApp h27 1 [.int .u8 0] 1 o22 n23 n24 1 l29 fun o30 n31 n32 h33 => J21 [.dv (.one (.slice o30 n31 n32))] h33 else Q o22 n23 n24 h25) → J21 [.dv (.one (.slice o22 n23 n24))] h25) → J21 [.dv (.one (.slice o17 n18 n19))] h20) h7 else ∃ (l36 : List Value), hsv h7 a0p 1 a0l l36 ∧ pApp h7 1 [.int .u8 0] 1 (some (Addr.mk n6 0 none)) 0 0 a0l l36 fun o37 n38 n39 h40 => ∀ (J41 : JT), (∀ (o42 : OA) (n43 n44 : Nat) (h45 : H), (if ltI (↑n43 : Int) 64 = true then ∀ n46 h47, hnew h45 n46 [.int .u8 0] h47 → ∃ (l49 : List Value), hsv h47 (some (Addr.mk n46 0 none)) 1 1 l49 ∧ pApp h47 1 [.int .u8 0] 1 o42 n43 n44 1 l49 fun o50 n51 n52 h53 => J41 [.dv (.one (.slice o50 n51 n52))] h53 else Q o42 n43 n44 h45) → J41 [.dv (.one (.slice o42 n43 n44))] h45) → J41 [.dv (.one (.slice o37 n38 n39))] h40
theorem E_portcullisref03_block : ∀ c0 a0p a0l a0c Q h, G_portcullisref03_block c0 a0p a0l a0c Q h = Dbody PP [(111, W [.slc] [.ag [.row .u8 32]] c0)] [(60, [(3, .sc (.slc))])] Tryz.f109 [.one (.slice a0p a0l a0c)] (decR [.slc] Q) h := by intros; kernel_rfl
def F_portcullisref03_block := G_portcullisref03_block F_portcullisref02_Of
theorem R_portcullisref03_block : RunOk PP 109 (W [.slc] [.slc] F_portcullisref03_block) := runOk_of (TblOk.cons R_portcullisref02_Of (TblOk.nil)) Tryz.func109 (by kernel_rfl) (by kernel_rfl) (E_portcullisref03_block _)
attribute [irreducible] F_portcullisref03_block
def G_portcullisref03_over (a0p : OA) (a0l : Nat) (a0c : Nat) (a1 : Int) (Q : OA → Nat → Nat → H → Prop) (h : H) : Prop := ∀ n6 h7, hnew h n6 [] h7 → ∀ (J9 : JT), (∀ (o10 : OA) (n11 n12 : Nat) (i13 : Int) (h14 : H), (if ltI i13 a0l = true then ∃ p15, a0p = some p15 ∧ 0 ≤ i13 ∧ i13 < a0l ∧ ∃ i16, hc h14 (p15.add (i13.toNat * 1)) = some (.int .u8 i16) ∧ ∀ n17 h18, hnew h14 n17 [.int .u8 (bits .xor .u8 i16 a1)] h18 → ∃ (l20 : List Value), hsv h18 (some (Addr.mk n17 0 none)) 1 1 l20 ∧ pApp h18 1 [.int .u8 0] 1 o10 n11 n12 1 l20 fun o21 n22 n23 h24 => J9 [.dv (.one (.slice o21 n22 n23)), .dv (.one (.int .i64 (IntKind.i64.wrap (i13 + 1))))] h24 else Q o10 n11 n12 h14) → J9 [.dv (.one (.slice o10 n11 n12)), .dv (.one (.int .i64 i13))] h14) → J9 [.dv (.one (.slice (some (Addr.mk n6 0 none)) 0 0)), .dv (.one (.int .i64 0))] h7
theorem E_portcullisref03_over : ∀ a0p a0l a0c a1 Q h, G_portcullisref03_over a0p a0l a0c a1 Q h = Dbody PP [] [(58, [(5, .sc (.slc)), (6, .sc (.int .i64))])] Tryz.f110 [.one (.slice a0p a0l a0c), .one (.int .u8 a1)] (decR [.slc] Q) h := by intros; kernel_rfl
def F_portcullisref03_over := G_portcullisref03_over
theorem R_portcullisref03_over : RunOk PP 110 (W [.slc, .int .u8] [.slc] F_portcullisref03_over) := runOk_of (TblOk.nil) Tryz.func110 (by kernel_rfl) (by kernel_rfl) (E_portcullisref03_over)
attribute [irreducible] F_portcullisref03_over
def G_portcullisref03_Of (c0 : OA → Nat → Nat → (OA → Nat → Nat → H → Prop) → H → Prop) (c1 : OA → Nat → Nat → Int → (OA → Nat → Nat → H → Prop) → H → Prop) (c2 : OA → Nat → Nat → (List Int → H → Prop) → H → Prop) (a0p : OA) (a0l : Nat) (a0c : Nat) (a1p : OA) (a1l : Nat) (a1c : Nat) (Q : List Int → H → Prop) (h : H) : Prop := ∀ n11 h12, hnew h n11 (ints .u8 (zeros 32)) h12 → c0 a0p a0l a0c (fun o14 n15 n16 h17 => c1 o14 n15 n16 54 (fun o18 n19 n20 h21 => ∃ (l22 : List Value), hsv h21 a1p 1 a1l l22 ∧ pApp h21 1 [.int .u8 0] 1 o18 n19 n20 a1l l22 fun o23 n24 n25 h26 => c2 o23 n24 n25 (fun l27 h28 => ∀ n29 h30, hnew h28 n29 (ints .u8 (zeros 32)) h30 → hcan h30 ⟨n29, 0, none⟩ 32 ∧ ∀ h32, h32 = hwr h30 ⟨n29, 0, none⟩ (ints .u8 l27 ++ []) → c1 o14 n15 n16 92 (fun o34 n35 n36 h37 => ∃ (l38 : List Value), hsv h37 (some (Addr.mk n29 0 none)) 1 32 l38 ∧ pApp h37 1 [.int .u8 0] 1 o34 n35 n36 32 l38 fun o39 n40 n41 h42 => c2 o39 n40 n41 (fun l43 h44 => hcan h44 ⟨n11, 0, none⟩ 32 ∧ ∀ h45, h45 = hwr h44 ⟨n11, 0, none⟩ (ints .u8 l43 ++ []) → ∃ (l47 : List Int), l47.length = 32 ∧ hrow h45 ⟨n11, 0, none⟩ .u8 l47 ∧ Q l47 h45) h42) h32) h26) h17) h12
theorem E_portcullisref03_Of : ∀ c0 c1 c2 a0p a0l a0c a1p a1l a1c Q h, G_portcullisref03_Of c0 c1 c2 a0p a0l a0c a1p a1l a1c Q h = Dbody PP [(109, W [.slc] [.slc] c0), (110, W [.slc, .int .u8] [.slc] c1), (111, W [.slc] [.ag [.row .u8 32]] c2)] [] Tryz.f41 [.one (.slice a0p a0l a0c), .one (.slice a1p a1l a1c)] (decR [.ag [.row .u8 32]] Q) h := by intros; kernel_rfl
def F_portcullisref03_Of := G_portcullisref03_Of F_portcullisref03_block F_portcullisref03_over F_portcullisref02_Of
theorem R_portcullisref03_Of : RunOk PP 41 (W [.slc, .slc] [.ag [.row .u8 32]] F_portcullisref03_Of) := runOk_of (TblOk.cons R_portcullisref03_block (TblOk.cons R_portcullisref03_over (TblOk.cons R_portcullisref02_Of (TblOk.nil)))) Tryz.func41 (by kernel_rfl) (by kernel_rfl) (E_portcullisref03_Of _ _ _)
attribute [irreducible] F_portcullisref03_Of
def G_portcullisref24_eight (a0p : OA) (a0l : Nat) (a0c : Nat) (a1 : Int) (Q : OA → Nat → Nat → H → Prop) (h : H) : Prop := ∀ (J6 : JT), (∀ (o7 : OA) (n8 n9 : Nat) (i10 : Int) (h11 : H), (if ltI i10 8 = true then 0 ≤ IntKind.i64.wrap (8 * i10) ∧ ∀ n12 h13, hnew h11 n12 [.int .u8 (IntKind.u8.wrap (a1.fdiv (2 ^ min (IntKind.i64.wrap (8 * i10)).toNat 64)))] h13 → ∃ (l15 : List Value), hsv h13 (some (Addr.mk n12 0 none)) 1 1 l15 ∧ pApp h13 1 [.int .u8 0] 1 o7 n8 n9 1 l15 fun o16 n17 n18 h19 => J6 [.dv (.one (.slice o16 n17 n18)), .dv (.one (.int .i64 (IntKind.i64.wrap (i10 + 1))))] h19 else Q o7 n8 n9 h11) → J6 [.dv (.one (.slice o7 n8 n9)), .dv (.one (.int .i64 i10))] h11) → J6 [.dv (.one (.slice a0p a0l a0c)), .dv (.one (.int .i64 0))] h
theorem E_portcullisref24_eight : ∀ a0p a0l a0c a1 Q h, G_portcullisref24_eight a0p a0l a0c a1 Q h = Dbody PP [] [(26, [(0, .sc (.slc)), (5, .sc (.int .i64))])] Tryz.f153 [.one (.slice a0p a0l a0c), .one (.int .u64 a1)] (decR [.slc] Q) h := by intros; kernel_rfl
def F_portcullisref24_eight := G_portcullisref24_eight
theorem R_portcullisref24_eight : RunOk PP 153 (W [.slc, .int .u64] [.slc] F_portcullisref24_eight) := runOk_of (TblOk.nil) Tryz.func153 (by kernel_rfl) (by kernel_rfl) (E_portcullisref24_eight)
attribute [irreducible] F_portcullisref24_eight
def G_portcullisref24_Caveat_Bytes (c0 : OA → Nat → Nat → Int → (OA → Nat → Nat → H → Prop) → H → Prop) (a0_0 : Int) (a0_1 : Int) (a0_2 : Int) (a0_3 : Int) (a0_4 : Int) (Q : OA → Nat → Nat → H → Prop) (h : H) : Prop := ∀ n8 h9, hnew h n8 [.int .i64 a0_0, .int .i64 a0_1, .int .i64 a0_2, .int .i64 a0_3, .int .u64 a0_4] h9 → ∃ i11, hc h9 ⟨n8, 0, none⟩ = some (.int .i64 i11) ∧ ∃ i12, hc h9 ⟨n8, 1, none⟩ = some (.int .i64 i12) ∧ ∀ n13 h14, hnew h9 n13 [.int .u8 (IntKind.u8.wrap i11), .int .u8 (IntKind.u8.wrap i12)] h14 → ∃ i16, hc h14 ⟨n8, 2, none⟩ = some (.int .i64 i16) ∧ c0 (some (Addr.mk n13 0 none)) 2 2 (IntKind.u64.wrap i16) (fun o17 n18 n19 h20 => ∃ i21, hc h20 ⟨n8, 3, none⟩ = some (.int .i64 i21) ∧ c0 o17 n18 n19 (IntKind.u64.wrap i21) (fun o22 n23 n24 h25 => ∃ i26, hc h25 ⟨n8, 4, none⟩ = some (.int .u64 i26) ∧ c0 o22 n23 n24 i26 (fun o27 n28 n29 h30 => Q o27 n28 n29 h30) h25) h20) h14
theorem E_portcullisref24_Caveat_Bytes : ∀ c0 a0_0 a0_1 a0_2 a0_3 a0_4 Q h, G_portcullisref24_Caveat_Bytes c0 a0_0 a0_1 a0_2 a0_3 a0_4 Q h = Dbody PP [(153, W [.slc, .int .u64] [.slc] c0)] [] Tryz.f77 [.agg [.c (.int .i64 a0_0), .c (.int .i64 a0_1), .c (.int .i64 a0_2), .c (.int .i64 a0_3), .c (.int .u64 a0_4)]] (decR [.slc] Q) h := by intros; kernel_rfl
def F_portcullisref24_Caveat_Bytes := G_portcullisref24_Caveat_Bytes F_portcullisref24_eight
theorem R_portcullisref24_Caveat_Bytes : RunOk PP 77 (W [.ag [.int .i64, .int .i64, .int .i64, .int .i64, .int .u64]] [.slc] F_portcullisref24_Caveat_Bytes) := runOk_of (TblOk.cons R_portcullisref24_eight (TblOk.nil)) Tryz.func77 (by kernel_rfl) (by kernel_rfl) (E_portcullisref24_Caveat_Bytes _)
attribute [irreducible] F_portcullisref24_Caveat_Bytes
def G_portcullisref24_first (a0p : OA) (a0l : Nat) (a0c : Nat) (Q : OA → Nat → Nat → H → Prop) (h : H) : Prop := ∀ n5 h6, hnew h n5 [] h6 → pApp h6 1 [.int .u8 0] 1 (some (Addr.mk n5 0 none)) 0 0 16 [.int .u8 (↑112 : Int), .int .u8 (↑111 : Int), .int .u8 (↑114 : Int), .int .u8 (↑116 : Int), .int .u8 (↑99 : Int), .int .u8 (↑117 : Int), .int .u8 (↑108 : Int), .int .u8 (↑108 : Int), .int .u8 (↑105 : Int), .int .u8 (↑115 : Int), .int .u8 (↑32 : Int), .int .u8 (↑116 : Int), .int .u8 (↑111 : Int), .int .u8 (↑107 : Int), .int .u8 (↑101 : Int), .int .u8 (↑110 : Int)] fun o8 n9 n10 h11 => ∀ n12 h13, hnew h11 n12 [.int .u8 0, .int .u8 (IntKind.u8.wrap (↑a0l : Int))] h13 → ∃ (l15 : List Value), hsv h13 (some (Addr.mk n12 0 none)) 1 2 l15 ∧ pApp h13 1 [.int .u8 0] 1 o8 n9 n10 2 l15 fun o16 n17 n18 h19 => ∃ (l20 : List Value), hsv h19 a0p 1 a0l l20 ∧ pApp h19 1 [.int .u8 0] 1 o16 n17 n18 a0l l20 fun o21 n22 n23 h24 => Q o21 n22 n23 h24
theorem E_portcullisref24_first : ∀ a0p a0l a0c Q h, G_portcullisref24_first a0p a0l a0c Q h = Dbody PP [] [] Tryz.f201 [.one (.slice a0p a0l a0c)] (decR [.slc] Q) h := by intros; kernel_rfl
def F_portcullisref24_first := G_portcullisref24_first
theorem R_portcullisref24_first : RunOk PP 201 (W [.slc] [.slc] F_portcullisref24_first) := runOk_of (TblOk.nil) Tryz.func201 (by kernel_rfl) (by kernel_rfl) (E_portcullisref24_first)
attribute [irreducible] F_portcullisref24_first
def K1_portcullisref24_Pairs (h326 : H) (l323 : List Int) (l324 : List Int) (l325 : List Int) (o283 : OA) (n284 : Nat) (n285 : Nat) (J282 : List SV → H → Prop) (i286 : Int) : Prop := ∀ n327 h328, hnew h326 n327 (.string (bytesOf l323) :: .string (bytesOf l324) :: (ints .u8 l325 ++ [])) h328 → ∃ (l330 : List Value), hsv h328 (some (Addr.mk n327 0 none)) 34 1 l330 ∧ pApp h328 34 (.string (ByteArray.mk #[]) :: .string (ByteArray.mk #[]) :: ints .u8 (zeros 32)) 64 o283 n284 n285 1 l330 fun o331 n332 n333 h334 => J282 [.dv (.one (.slice o331 n332 n333)), .dv (.one (.int .i64 (IntKind.i64.wrap (i286 + 1))))] h334
def K2_portcullisref24_Pairs (c0 : OA → Nat → Nat → OA → Nat → Nat → (List Int → H → Prop) → H → Prop) (c1 : Int → Int → Int → Int → Int → (OA → Nat → Nat → H → Prop) → H → Prop) (a2p : OA) (a2l : Nat) (Q : OA → Nat → Nat → H → Prop) (h273 : H) (l271 : List Int) (l270 : List Int) (l272 : List Int) (n18 : Nat) : Prop := ∀ n274 h275, hnew h273 n274 (.string (bytesOf l271) :: .string (bytesOf l270) :: (ints .u8 l272 ++ [])) h275 → ∃ (l277 : List Value), hsv h275 (some (Addr.mk n274 0 none)) 34 1 l277 ∧ pApp h275 34 (.string (ByteArray.mk #[]) :: .string (ByteArray.mk #[]) :: ints .u8 (zeros 32)) 64 (some (Addr.mk n18 0 none)) 0 0 1 l277 fun o278 n279 n280 h281 => ∀ (J282 : JT), (∀ (o283 : OA) (n284 n285 : Nat) (i286 : Int) (h287 : H), (if ltI i286 a2l = true then ∀ n288 h289, hnew h287 n288 [] h289 → ∃ p291, o283 = some p291 ∧ 0 ≤ IntKind.i64.wrap ((↑n284 : Int) - 1) ∧ IntKind.i64.wrap ((↑n284 : Int) - 1) < (↑n284 : Int) ∧ ∃ (l292 : List Int), l292.length = 32 ∧ hrow h289 ((p291.add ((IntKind.i64.wrap ((↑n284 : Int) - 1)).toNat * 34)).add 2) .u8 l292 ∧ ∀ n293 h294, hnew h289 n293 (ints .u8 (zeros 32)) h294 → hcan h294 ⟨n293, 0, none⟩ 32 ∧ ∀ h296, h296 = hwr h294 ⟨n293, 0, none⟩ (ints .u8 l292 ++ []) → ∀ (J298 : JT), (∀ (o299 : OA) (n300 n301 : Nat) (i302 : Int) (h303 : H), (if ltI i302 32 = true then 0 ≤ i302 ∧ i302 < (↑32 : Int) ∧ ∃ i304, hc h303 ((Addr.mk n293 0 none).add (i302.toNat * 1)) = some (.int .u8 i304) ∧ ∀ n305 h306, hnew h303 n305 [.int .u8 i304] h306 → ∃ (l308 : List Value), hsv h306 (some (Addr.mk n305 0 none)) 1 1 l308 ∧ pApp h306 1 [.int .u8 0] 1 o299 n300 n301 1 l308 fun o309 n310 n311 h312 => J298 [.dv (.one (.slice o309 n310 n311)), .dv (.one (.int .i64 (IntKind.i64.wrap (i302 + 1))))] h312 else ∃ p313, a2p = some p313 ∧ 0 ≤ i286 ∧ i286 < a2l ∧ ∃ i314, hc h303 (p313.add (i286.toNat * 5)) = some (.int .i64 i314) ∧ ∃ i315, hc h303 ((p313.add (i286.toNat * 5)).add 1) = some (.int .i64 i315) ∧ ∃ i316, hc h303 ((p313.add (i286.toNat * 5)).add 2) = some (.int .i64 i316) ∧ ∃ i317, hc h303 ((p313.add (i286.toNat * 5)).add 3) = some (.int .i64 i317) ∧ ∃ i318, hc h303 ((p313.add (i286.toNat * 5)).add 4) = some (.int .u64 i318) ∧ c1 i314 i315 i316 i317 i318 (fun o319 n320 n321 h322 => (∃ (l323 : List Int), hsv h322 o299 1 n300 (ints .u8 l323) ∧ (∃ (l324 : List Int), hsv h322 o319 1 n320 (ints .u8 l324) ∧ c0 o299 n300 n301 o319 n320 n321 (fun l325 h326 => K1_portcullisref24_Pairs h326 l323 l324 l325 o283 n284 n285 J282 i286) h322) ∧ c0 o299 n300 n301 o319 n320 n321 (fun l335 h336 => ∃ (l337 : List Int), hsv h336 o319 1 n320 (ints .u8 l337) ∧ K1_portcullisref24_Pairs h336 l323 l337 l335 o283 n284 n285 J282 i286) h322) ∧ (∃ (l346 : List Int), hsv h322 o319 1 n320 (ints .u8 l346) ∧ (∃ (l347 : List Int), hsv h322 o299 1 n300 (ints .u8 l347) ∧ c0 o299 n300 n301 o319 n320 n321 (fun l348 h349 => K1_portcullisref24_Pairs h349 l347 l346 l348 o283 n284 n285 J282 i286) h322) ∧ c0 o299 n300 n301 o319 n320 n321 (fun l358 h359 => ∃ (l360 : List Int), hsv h359 o299 1 n300 (ints .u8 l360) ∧ K1_portcullisref24_Pairs h359 l360 l346 l358 o283 n284 n285 J282 i286) h322) ∧ c0 o299 n300 n301 o319 n320 n321 (fun l369 h370 => (∃ (l371 : List Int), hsv h370 o299 1 n300 (ints .u8 l371) ∧ ∃ (l372 : List Int), hsv h370 o319 1 n320 (ints .u8 l372) ∧ K1_portcullisref24_Pairs h370 l371 l372 l369 o283 n284 n285 J282 i286) ∧ ∃ (l381 : List Int), hsv h370 o319 1 n320 (ints .u8 l381) ∧ ∃ (l382 : List Int), hsv h370 o299 1 n300 (ints .u8 l382) ∧ K1_portcullisref24_Pairs h370 l382 l381 l369 o283 n284 n285 J282 i286) h322) h303) → J298 [.dv (.one (.slice o299 n300 n301)), .dv (.one (.int .i64 i302))] h303) → J298 [.dv (.one (.slice (some (Addr.mk n288 0 none)) 0 0)), .dv (.one (.int .i64 0))] h296 else Q o283 n284 n285 h287) → J282 [.dv (.one (.slice o283 n284 n285)), .dv (.one (.int .i64 i286))] h287) → J282 [.dv (.one (.slice o278 n279 n280)), .dv (.one (.int .i64 0))] h281
def G_portcullisref24_Pairs (c0 : OA → Nat → Nat → OA → Nat → Nat → (List Int → H → Prop) → H → Prop) (c1 : Int → Int → Int → Int → Int → (OA → Nat → Nat → H → Prop) → H → Prop) (c2 : OA → Nat → Nat → (OA → Nat → Nat → H → Prop) → H → Prop) (a0p : OA) (a0l : Nat) (a0c : Nat) (a1p : OA) (a1l : Nat) (a1c : Nat) (a2p : OA) (a2l : Nat) (a2c : Nat) (Q : OA → Nat → Nat → H → Prop) (h : H) : Prop :=
c2 a1p a1l a1c (fun o14 n15 n16 h17 => ∀ n18 h19, hnew h17 n18 [] h19 → (∃ (l21 : List Int), hsv h19 a0p 1 a0l (ints .u8 l21) ∧ (∃ (l22 : List Int), hsv h19 o14 1 n15 (ints .u8 l22) ∧ c0 a0p a0l a0c o14 n15 n16 (fun l23 h24 => K2_portcullisref24_Pairs c0 c1 a2p a2l Q h24 l21 l22 l23 n18) h19) ∧ c0 a0p a0l a0c o14 n15 n16 (fun l146 h147 => ∃ (l148 : List Int), hsv h147 o14 1 n15 (ints .u8 l148) ∧ K2_portcullisref24_Pairs c0 c1 a2p a2l Q h147 l21 l148 l146 n18) h19) ∧ (∃ (l270 : List Int), hsv h19 o14 1 n15 (ints .u8 l270) ∧ (∃ (l271 : List Int), hsv h19 a0p 1 a0l (ints .u8 l271) ∧ c0 a0p a0l a0c o14 n15 n16 (fun l272 h273 => K2_portcullisref24_Pairs c0 c1 a2p a2l Q h273 l271 l270 l272 n18) h19) ∧ c0 a0p a0l a0c o14 n15 n16 (fun l395 h396 => ∃ (l397 : List Int), hsv h396 a0p 1 a0l (ints .u8 l397) ∧ K2_portcullisref24_Pairs c0 c1 a2p a2l Q h396 l397 l270 l395 n18) h19) ∧ c0 a0p a0l a0c o14 n15 n16 (fun l519 h520 => (∃ (l521 : List Int), hsv h520 a0p 1 a0l (ints .u8 l521) ∧ ∃ (l522 : List Int), hsv h520 o14 1 n15 (ints .u8 l522) ∧ K2_portcullisref24_Pairs c0 c1 a2p a2l Q h520 l521 l522 l519 n18) ∧ ∃ (l644 : List Int), hsv h520 o14 1 n15 (ints .u8 l644) ∧ ∃ (l645 : List Int), hsv h520 a0p 1 a0l (ints .u8 l645) ∧ K2_portcullisref24_Pairs c0 c1 a2p a2l Q h520 l645 l644 l519 n18) h19) h
theorem E_portcullisref24_Pairs : ∀ c0 c1 c2 a0p a0l a0c a1p a1l a1c a2p a2l a2c Q h, G_portcullisref24_Pairs c0 c1 c2 a0p a0l a0c a1p a1l a1c a2p a2l a2c Q h = Dbody PP [(41, W [.slc, .slc] [.ag [.row .u8 32]] c0), (77, W [.ag [.int .i64, .int .i64, .int .i64, .int .i64, .int .u64]] [.slc] c1), (201, W [.slc] [.slc] c2)] [(250, [(8, .sc (.slc)), (9, .sc (.int .i64))]), (128154, [(10, .sc (.slc)), (12, .sc (.int .i64))])] Tryz.f152 [.one (.slice a0p a0l a0c), .one (.slice a1p a1l a1c), .one (.slice a2p a2l a2c)] (decR [.slc] Q) h := by intros; kernel_rfl
def F_portcullisref24_Pairs := G_portcullisref24_Pairs F_portcullisref03_Of F_portcullisref24_Caveat_Bytes F_portcullisref24_first
theorem R_portcullisref24_Pairs : RunOk PP 152 (W [.slc, .slc, .slc] [.slc] F_portcullisref24_Pairs) := runOk_of (TblOk.cons R_portcullisref03_Of (TblOk.cons R_portcullisref24_Caveat_Bytes (TblOk.cons R_portcullisref24_first (TblOk.nil)))) Tryz.func152 (by kernel_rfl) (by kernel_rfl) (E_portcullisref24_Pairs _ _ _)
attribute [irreducible] F_portcullisref24_Pairs
def G_portcullisref24_Right (c0 : OA → Nat → Nat → OA → Nat → Nat → OA → Nat → Nat → (OA → Nat → Nat → H → Prop) → H → Prop) (a0p : OA) (a0l : Nat) (a0c : Nat) (a1p : OA) (a1l : Nat) (a1c : Nat) (a2p : OA) (a2l : Nat) (a2c : Nat) (Q : List Int → H → Prop) (h : H) : Prop := ∀ n12 h13, hnew h n12 (ints .u8 (zeros 32)) h13 → c0 a0p a0l a0c a1p a1l a1c a2p a2l a2c (fun o15 n16 n17 h18 => ∃ p19, o15 = some p19 ∧ 0 ≤ IntKind.i64.wrap ((↑n16 : Int) - 1) ∧ IntKind.i64.wrap ((↑n16 : Int) - 1) < (↑n16 : Int) ∧ ∃ (l20 : List Int), l20.length = 32 ∧ hrow h18 ((p19.add ((IntKind.i64.wrap ((↑n16 : Int) - 1)).toNat * 34)).add 2) .u8 l20 ∧ hcan h18 ⟨n12, 0, none⟩ 32 ∧ ∀ h21, h21 = hwr h18 ⟨n12, 0, none⟩ (ints .u8 l20 ++ []) → ∃ (l23 : List Int), l23.length = 32 ∧ hrow h21 ⟨n12, 0, none⟩ .u8 l23 ∧ Q l23 h21) h13
theorem E_portcullisref24_Right : ∀ c0 a0p a0l a0c a1p a1l a1c a2p a2l a2c Q h, G_portcullisref24_Right c0 a0p a0l a0c a1p a1l a1c a2p a2l a2c Q h = Dbody PP [(152, W [.slc, .slc, .slc] [.slc] c0)] [] Tryz.f76 [.one (.slice a0p a0l a0c), .one (.slice a1p a1l a1c), .one (.slice a2p a2l a2c)] (decR [.ag [.row .u8 32]] Q) h := by intros; kernel_rfl
def F_portcullisref24_Right := G_portcullisref24_Right F_portcullisref24_Pairs
theorem R_portcullisref24_Right : RunOk PP 76 (W [.slc, .slc, .slc] [.ag [.row .u8 32]] F_portcullisref24_Right) := runOk_of (TblOk.cons R_portcullisref24_Pairs (TblOk.nil)) Tryz.func76 (by kernel_rfl) (by kernel_rfl) (E_portcullisref24_Right _)
attribute [irreducible] F_portcullisref24_Right
def G_portcullislaw24_clash (c0 : OA → Nat → Nat → OA → Nat → Nat → (List Int → H → Prop) → H → Prop) (c1 : OA → Nat → Nat → OA → Nat → Nat → OA → Nat → Nat → (List Int → H → Prop) → H → Prop) (c2 : Int → Int → Int → Int → Int → (OA → Nat → Nat → H → Prop) → H → Prop) (a0_0 : Int) (a0_1 : Int) (a0_2 : Int) (a0_3 : Int) (a0_4 : Int) (a0_5 : Int) (a0_6 : Int) (a0_7p : OA) (a0_7l : Nat) (a0_7c : Nat) (a0_8p : OA) (a0_8l : Nat) (a0_8c : Nat) (a0_9p : OA) (a0_9l : Nat) (a0_9c : Nat) (a0_10p : OA) (a0_10l : Nat) (a0_10c : Nat) (a1_0 : Int) (a1_1p : OA) (a1_1l : Nat) (a1_1c : Nat) (a1_2p : OA) (a1_2l : Nat) (a1_2c : Nat) (a1_3 : List Int) (a2_0 : Int) (a2_1 : Int) (a2_2 : Int) (a2_3 : Int) (a2_4 : Int) (Q : Bool → H → Prop) (h : H) : Prop := ∀ n37 h38, hnew h n37 [.int .i64 a0_0, .int .i64 a0_1, .int .i64 a0_2, .int .i64 a0_3, .int .i64 a0_4, .int .i64 a0_5, .int .i64 a0_6, .slice a0_7p a0_7l a0_7c, .slice a0_8p a0_8l a0_8c, .slice a0_9p a0_9l a0_9c, .slice a0_10p a0_10l a0_10c] h38 → ∀ n40 h41, hnew h38 n40 (.int .i64 a1_0 :: .slice a1_1p a1_1l a1_1c :: .slice a1_2p a1_2l a1_2c :: (ints .u8 a1_3 ++ [])) h41 → ∀ n43 h44, hnew h41 n43 [.int .i64 a2_0, .int .i64 a2_1, .int .i64 a2_2, .int .i64 a2_3, .int .u64 a2_4] h44 → ∃ o46 n47 n48, hc h44 ⟨n37, 10, none⟩ = some (.slice o46 n47 n48) ∧ ∀ (J49 : JT), (∀ (i50 : Int) (h51 : H), (if ltI i50 n47 = true then ∃ p52, o46 = some p52 ∧ 0 ≤ i50 ∧ i50 < n47 ∧ ∃ i53, hc h51 (p52.add (i50.toNat * 2)) = some (.int .i64 i53) ∧ ∃ o54 n55 n56, hc h51 ((p52.add (i50.toNat * 2)).add 1) = some (.slice o54 n55 n56) ∧ ∀ n57 h58, hnew h51 n57 [.int .i64 0, .slice none 0 0] h58 → hcan h58 ⟨n57, 0, none⟩ 2 ∧ ∀ h60, h60 = hwr h58 ⟨n57, 0, none⟩ [.int .i64 i53, .slice o54 n55 n56] → ∃ i62, hc h60 ⟨n57, 0, none⟩ = some (.int .i64 i62) ∧ ∃ i63, hc h60 ⟨n40, 0, none⟩ = some (.int .i64 i63) ∧ if (i62 == i63) = true then ∃ o64 n65 n66, hc h60 ⟨n57, 1, none⟩ = some (.slice o64 n65 n66) ∧ ∃ o67 n68 n69, hc h60 ⟨n40, 1, none⟩ = some (.slice o67 n68 n69) ∧ ∃ o70 n71 n72, hc h60 ⟨n40, 2, none⟩ = some (.slice o70 n71 n72) ∧ c1 o64 n65 n66 o67 n68 n69 o70 n71 n72 (fun l73 h74 => ∀ n75 h76, hnew h74 n75 (ints .u8 (zeros 32)) h76 → hcan h76 ⟨n75, 0, none⟩ 32 ∧ ∀ h78, h78 = hwr h76 ⟨n75, 0, none⟩ (ints .u8 l73 ++ []) → ∃ (l80 : List Int), l80.length = 32 ∧ hrow h78 ⟨n75, 0, none⟩ .u8 l80 ∧ ∃ (l81 : List Int), l81.length = 32 ∧ hrow h78 ⟨n40, 3, none⟩ .u8 l81 ∧ if (!l80 == l81) = true then ∃ i82, hc h78 ⟨n43, 0, none⟩ = some (.int .i64 i82) ∧ ∃ i83, hc h78 ⟨n43, 1, none⟩ = some (.int .i64 i83) ∧ ∃ i84, hc h78 ⟨n43, 2, none⟩ = some (.int .i64 i84) ∧ ∃ i85, hc h78 ⟨n43, 3, none⟩ = some (.int .i64 i85) ∧ ∃ i86, hc h78 ⟨n43, 4, none⟩ = some (.int .u64 i86) ∧ ∃ i87, hc h78 ⟨n43, 0, none⟩ = some (.int .i64 i87) ∧ ∃ i88, hc h78 ⟨n43, 1, none⟩ = some (.int .i64 i88) ∧ ∃ i89, hc h78 ⟨n43, 2, none⟩ = some (.int .i64 i89) ∧ ∃ i90, hc h78 ⟨n43, 3, none⟩ = some (.int .i64 i90) ∧ ∃ i91, hc h78 ⟨n43, 4, none⟩ = some (.int .u64 i91) ∧ c2 i82 i83 i84 i85 i86 (fun o92 n93 n94 h95 => hcs h95 ⟨n43, 0, none⟩ [.int .i64 i87, .int .i64 i88, .int .i64 i89, .int .i64 i90, .int .u64 i91] ∧ c0 (some (Addr.mk n75 0 none)) 32 32 o92 n93 n94 (fun l96 h97 => hcs h97 ⟨n43, 0, none⟩ [.int .i64 i87, .int .i64 i88, .int .i64 i89, .int .i64 i90, .int .u64 i91] ∧ c2 i87 i88 i89 i90 i91 (fun o98 n99 n100 h101 => c0 (some ((Addr.mk n40 0 none).add 3)) 32 32 o98 n99 n100 (fun l102 h103 => Q (l96 == l102) h103) h101) h97) h95) h78 else Q false h78) h60 else J49 [.dv (.one (.int .i64 (IntKind.i64.wrap (i50 + 1))))] h60 else Q false h51) → J49 [.dv (.one (.int .i64 i50))] h51) → J49 [.dv (.one (.int .i64 0))] h44
theorem E_portcullislaw24_clash : ∀ c0 c1 c2 a0_0 a0_1 a0_2 a0_3 a0_4 a0_5 a0_6 a0_7p a0_7l a0_7c a0_8p a0_8l a0_8c a0_9p a0_9l a0_9c a0_10p a0_10l a0_10c a1_0 a1_1p a1_1l a1_1c a1_2p a1_2l a1_2c a1_3 a2_0 a2_1 a2_2 a2_3 a2_4 Q h, G_portcullislaw24_clash c0 c1 c2 a0_0 a0_1 a0_2 a0_3 a0_4 a0_5 a0_6 a0_7p a0_7l a0_7c a0_8p a0_8l a0_8c a0_9p a0_9l a0_9c a0_10p a0_10l a0_10c a1_0 a1_1p a1_1l a1_1c a1_2p a1_2l a1_2c a1_3 a2_0 a2_1 a2_2 a2_3 a2_4 Q h = Dbody PP [(41, W [.slc, .slc] [.ag [.row .u8 32]] c0), (76, W [.slc, .slc, .slc] [.ag [.row .u8 32]] c1), (77, W [.ag [.int .i64, .int .i64, .int .i64, .int .i64, .int .u64]] [.slc] c2)] [(26, [(13, .sc (.int .i64))])] Tryz.f21 [.agg [.c (.int .i64 a0_0), .c (.int .i64 a0_1), .c (.int .i64 a0_2), .c (.int .i64 a0_3), .c (.int .i64 a0_4), .c (.int .i64 a0_5), .c (.int .i64 a0_6), .c (.slice a0_7p a0_7l a0_7c), .c (.slice a0_8p a0_8l a0_8c), .c (.slice a0_9p a0_9l a0_9c), .c (.slice a0_10p a0_10l a0_10c)], .agg [.c (.int .i64 a1_0), .c (.slice a1_1p a1_1l a1_1c), .c (.slice a1_2p a1_2l a1_2c), .row .u8 32 a1_3], .agg [.c (.int .i64 a2_0), .c (.int .i64 a2_1), .c (.int .i64 a2_2), .c (.int .i64 a2_3), .c (.int .u64 a2_4)]] (decR [.bool] Q) h := by intros; kernel_rfl
def F_portcullislaw24_clash := G_portcullislaw24_clash F_portcullisref03_Of F_portcullisref24_Right F_portcullisref24_Caveat_Bytes
theorem R_portcullislaw24_clash : RunOk PP 21 (W [.ag [.int .i64, .int .i64, .int .i64, .int .i64, .int .i64, .int .i64, .int .i64, .slc, .slc, .slc, .slc], .ag [.int .i64, .slc, .slc, .row .u8 32], .ag [.int .i64, .int .i64, .int .i64, .int .i64, .int .u64]] [.bool] F_portcullislaw24_clash) := runOk_of (TblOk.cons R_portcullisref03_Of (TblOk.cons R_portcullisref24_Right (TblOk.cons R_portcullisref24_Caveat_Bytes (TblOk.nil)))) Tryz.func21 (by kernel_rfl) (by kernel_rfl) (E_portcullislaw24_clash _ _ _)
attribute [irreducible] F_portcullislaw24_clash
def K1_portcullislaw24_TokenNarrows (c0 : Int → OA → Nat → Nat → OA → Nat → Nat → List Int → (Int → OA → Nat → Nat → OA → Nat → Nat → List Int → H → Prop) → H → Prop) (c1 : Int → Int → Int → Int → Int → (Bool → H → Prop) → H → Prop) (c2 : Addr → Addr → Int → OA → Nat → Nat → OA → Nat → Nat → List Int → Int → Int → Int → (Int → H → Prop) → H → Prop) (c3 : Int → Int → Int → (Int → Int → Int → H → Prop) → H → Prop) (c4 : Addr → Int → Int → Int → Int → Int → Int → Int → Int → (Int → H → Prop) → H → Prop) (c5 : Int → Int → Int → Int → Int → Int → Int → OA → Nat → Nat → OA → Nat → Nat → OA → Nat → Nat → OA → Nat → Nat → Int → OA → Nat → Nat → OA → Nat → Nat → List Int → Int → Int → Int → Int → Int → (Bool → H → Prop) → H → Prop) (Q : Bool → H → Prop) (h139 : H) (n138 : Nat) (i128 : Int) (o129 : OA) (n130 : Nat) (n131 : Nat) (o132 : OA) (n133 : Nat) (n134 : Nat) (l135 : List Int) (i136 : Int) (n51 : Nat) (n54 : Nat) (n57 : Nat) (o93 : OA) (o92 : OA) (o94 : OA) (n48 : Nat) : Prop := ∀ h141, h141 = hwr h139 ⟨n138, 0, none⟩ (.int .i64 i128 :: .slice o129 n130 n131 :: .slice o132 n133 n134 :: (ints .u8 l135 ++ [])) → if (i136 != 0) = true then if (i136 == 3) = true then ∃ o143 n144 n145, hc h141 ⟨n51, 2, none⟩ = some (.slice o143 n144 n145) ∧ if leI 32 n144 = true then Q true h141 else if (i136 == 1) = true then ∃ i146, hc h141 ⟨n54, 0, none⟩ = some (.int .i64 i146) ∧ ∃ i147, hc h141 ⟨n54, 1, none⟩ = some (.int .i64 i147) ∧ ∃ i148, hc h141 ⟨n54, 2, none⟩ = some (.int .i64 i148) ∧ ∃ i149, hc h141 ⟨n54, 3, none⟩ = some (.int .i64 i149) ∧ ∃ i150, hc h141 ⟨n54, 4, none⟩ = some (.int .u64 i150) ∧ c1 i146 i147 i148 i149 i150 (fun b151 h152 => Q (!b151) h152) h141 else Q false h141 else if (i136 == 1) = true then ∃ i153, hc h141 ⟨n54, 0, none⟩ = some (.int .i64 i153) ∧ ∃ i154, hc h141 ⟨n54, 1, none⟩ = some (.int .i64 i154) ∧ ∃ i155, hc h141 ⟨n54, 2, none⟩ = some (.int .i64 i155) ∧ ∃ i156, hc h141 ⟨n54, 3, none⟩ = some (.int .i64 i156) ∧ ∃ i157, hc h141 ⟨n54, 4, none⟩ = some (.int .u64 i157) ∧ c1 i153 i154 i155 i156 i157 (fun b158 h159 => Q (!b158) h159) h141 else Q false h141 else ∃ i160, hc h141 ⟨n51, 0, none⟩ = some (.int .i64 i160) ∧ ∃ o161 n162 n163, hc h141 ⟨n51, 1, none⟩ = some (.slice o161 n162 n163) ∧ ∃ o164 n165 n166, hc h141 ⟨n51, 2, none⟩ = some (.slice o164 n165 n166) ∧ ∃ (l167 : List Int), l167.length = 32 ∧ hrow h141 ⟨n51, 3, none⟩ .u8 l167 ∧ ∃ i168, hc h141 ⟨n57, 0, none⟩ = some (.int .i64 i168) ∧ ∃ i169, hc h141 ⟨n57, 1, none⟩ = some (.int .i64 i169) ∧ ∃ i170, hc h141 ⟨n57, 2, none⟩ = some (.int .i64 i170) ∧ c0 i160 o161 n162 n163 o164 n165 n166 l167 (fun i171 o172 n173 n174 o175 n176 n177 l178 h179 => hcs h179 ⟨n57, 0, none⟩ [.int .i64 i168, .int .i64 i169, .int .i64 i170] ∧ c3 i168 i169 i170 (fun i180 i181 i182 h183 => ∃ p184, o93 = some p184 ∧ ∃ p185, o92 = some p185 ∧ c2 p184 p185 i171 o172 n173 n174 o175 n176 n177 l178 i180 i181 i182 (fun i186 h187 => ∃ i188, hc h187 ⟨n138, 0, none⟩ = some (.int .i64 i188) ∧ ∃ o189 n190 n191, hc h187 ⟨n138, 1, none⟩ = some (.slice o189 n190 n191) ∧ ∃ o192 n193 n194, hc h187 ⟨n138, 2, none⟩ = some (.slice o192 n193 n194) ∧ ∃ (l195 : List Int), l195.length = 32 ∧ hrow h187 ⟨n138, 3, none⟩ .u8 l195 ∧ ∃ i196, hc h187 ⟨n57, 0, none⟩ = some (.int .i64 i196) ∧ ∃ i197, hc h187 ⟨n57, 1, none⟩ = some (.int .i64 i197) ∧ ∃ i198, hc h187 ⟨n57, 2, none⟩ = some (.int .i64 i198) ∧ c3 i196 i197 i198 (fun i199 i200 i201 h202 => hcs h202 ⟨n138, 0, none⟩ (.int .i64 i188 :: .slice o189 n190 n191 :: .slice o192 n193 n194 :: (ints .u8 l195 ++ [])) ∧ ∃ p203, o93 = some p203 ∧ ∃ p204, o92 = some p204 ∧ c2 p203 p204 i188 o189 n190 n191 o192 n193 n194 l195 i199 i200 i201 (fun i205 h206 => ∃ i207, hc h206 ⟨n54, 0, none⟩ = some (.int .i64 i207) ∧ ∃ i208, hc h206 ⟨n54, 1, none⟩ = some (.int .i64 i208) ∧ ∃ i209, hc h206 ⟨n54, 2, none⟩ = some (.int .i64 i209) ∧ ∃ i210, hc h206 ⟨n54, 3, none⟩ = some (.int .i64 i210) ∧ ∃ i211, hc h206 ⟨n54, 4, none⟩ = some (.int .u64 i211) ∧ ∃ i212, hc h206 ⟨n57, 0, none⟩ = some (.int .i64 i212) ∧ ∃ i213, hc h206 ⟨n57, 1, none⟩ = some (.int .i64 i213) ∧ ∃ i214, hc h206 ⟨n57, 2, none⟩ = some (.int .i64 i214) ∧ ∃ p215, o94 = some p215 ∧ c4 p215 i207 i208 i209 i210 i211 i212 i213 i214 (fun i216 h217 => if (i205 == 0) = true then if (i186 != 0) = true then if (i186 == 15) = true then ∃ i218, hc h217 ⟨n48, 0, none⟩ = some (.int .i64 i218) ∧ ∃ i219, hc h217 ⟨n48, 1, none⟩ = some (.int .i64 i219) ∧ ∃ i220, hc h217 ⟨n48, 2, none⟩ = some (.int .i64 i220) ∧ ∃ i221, hc h217 ⟨n48, 3, none⟩ = some (.int .i64 i221) ∧ ∃ i222, hc h217 ⟨n48, 4, none⟩ = some (.int .i64 i222) ∧ ∃ i223, hc h217 ⟨n48, 5, none⟩ = some (.int .i64 i223) ∧ ∃ i224, hc h217 ⟨n48, 6, none⟩ = some (.int .i64 i224) ∧ ∃ o225 n226 n227, hc h217 ⟨n48, 7, none⟩ = some (.slice o225 n226 n227) ∧ ∃ o228 n229 n230, hc h217 ⟨n48, 8, none⟩ = some (.slice o228 n229 n230) ∧ ∃ o231 n232 n233, hc h217 ⟨n48, 9, none⟩ = some (.slice o231 n232 n233) ∧ ∃ o234 n235 n236, hc h217 ⟨n48, 10, none⟩ = some (.slice o234 n235 n236) ∧ ∃ i237, hc h217 ⟨n51, 0, none⟩ = some (.int .i64 i237) ∧ ∃ o238 n239 n240, hc h217 ⟨n51, 1, none⟩ = some (.slice o238 n239 n240) ∧ ∃ o241 n242 n243, hc h217 ⟨n51, 2, none⟩ = some (.slice o241 n242 n243) ∧ ∃ (l244 : List Int), l244.length = 32 ∧ hrow h217 ⟨n51, 3, none⟩ .u8 l244 ∧ ∃ i245, hc h217 ⟨n54, 0, none⟩ = some (.int .i64 i245) ∧ ∃ i246, hc h217 ⟨n54, 1, none⟩ = some (.int .i64 i246) ∧ ∃ i247, hc h217 ⟨n54, 2, none⟩ = some (.int .i64 i247) ∧ ∃ i248, hc h217 ⟨n54, 3, none⟩ = some (.int .i64 i248) ∧ ∃ i249, hc h217 ⟨n54, 4, none⟩ = some (.int .u64 i249) ∧ c5 i218 i219 i220 i221 i222 i223 i224 o225 n226 n227 o228 n229 n230 o231 n232 n233 o234 n235 n236 i237 o238 n239 n240 o241 n242 n243 l244 i245 i246 i247 i248 i249 (fun b250 h251 => Q b250 h251) h217 else Q false h217 else if (i186 == 0) = true then Q ((i205 == 0) == (i216 == 0)) h217 else Q ((i205 == 0) == false) h217 else if (i186 == 0) = true then Q ((i205 == 0) == (i216 == 0)) h217 else Q ((i205 == 0) == false) h217) h206) h202) h187) h183) h179) h141
def G_portcullislaw24_TokenNarrows (c0 : (Bool → H → Prop) → H → Prop) (c1 : Int → OA → Nat → Nat → OA → Nat → Nat → List Int → (Bool → H → Prop) → H → Prop) (c2 : Int → Int → Int → Int → Int → Int → Int → OA → Nat → Nat → OA → Nat → Nat → OA → Nat → Nat → OA → Nat → Nat → (OA → OA → OA → OA → OA → Bool → H → Prop) → H → Prop) (c3 : Int → OA → Nat → Nat → OA → Nat → Nat → List Int → (Int → OA → Nat → Nat → OA → Nat → Nat → List Int → H → Prop) → H → Prop) (c4 : Int → OA → Nat → Nat → OA → Nat → Nat → List Int → Int → Int → Int → Int → Int → (Int → OA → Nat → Nat → OA → Nat → Nat → List Int → Int → H → Prop) → H → Prop) (c5 : Int → Int → Int → Int → Int → (Int → Int → Int → Int → Int → H → Prop) → H → Prop) (c6 : Int → Int → Int → Int → Int → (Bool → H → Prop) → H → Prop) (c7 : Addr → Addr → Int → OA → Nat → Nat → OA → Nat → Nat → List Int → Int → Int → Int → (Int → H → Prop) → H → Prop) (c8 : Int → Int → Int → (Int → Int → Int → H → Prop) → H → Prop) (c9 : Addr → Int → Int → Int → Int → Int → Int → Int → Int → (Int → H → Prop) → H → Prop) (c10 : Int → Int → Int → Int → Int → Int → Int → OA → Nat → Nat → OA → Nat → Nat → OA → Nat → Nat → OA → Nat → Nat → Int → OA → Nat → Nat → OA → Nat → Nat → List Int → Int → Int → Int → Int → Int → (Bool → H → Prop) → H → Prop) (a0_0 : Int) (a0_1 : Int) (a0_2 : Int) (a0_3 : Int) (a0_4 : Int) (a0_5 : Int) (a0_6 : Int) (a0_7p : OA) (a0_7l : Nat) (a0_7c : Nat) (a0_8p : OA) (a0_8l : Nat) (a0_8c : Nat) (a0_9p : OA) (a0_9l : Nat) (a0_9c : Nat) (a0_10p : OA) (a0_10l : Nat) (a0_10c : Nat) (a1_0 : Int) (a1_1p : OA) (a1_1l : Nat) (a1_1c : Nat) (a1_2p : OA) (a1_2l : Nat) (a1_2c : Nat) (a1_3 : List Int) (a2_0 : Int) (a2_1 : Int) (a2_2 : Int) (a2_3 : Int) (a2_4 : Int) (a3_0 : Int) (a3_1 : Int) (a3_2 : Int) (Q : Bool → H → Prop) (h : H) : Prop :=
∀ n48 h49, hnew h n48 [.int .i64 a0_0, .int .i64 a0_1, .int .i64 a0_2, .int .i64 a0_3, .int .i64 a0_4, .int .i64 a0_5, .int .i64 a0_6, .slice a0_7p a0_7l a0_7c, .slice a0_8p a0_8l a0_8c, .slice a0_9p a0_9l a0_9c, .slice a0_10p a0_10l a0_10c] h49 → ∀ n51 h52, hnew h49 n51 (.int .i64 a1_0 :: .slice a1_1p a1_1l a1_1c :: .slice a1_2p a1_2l a1_2c :: (ints .u8 a1_3 ++ [])) h52 → ∀ n54 h55, hnew h52 n54 [.int .i64 a2_0, .int .i64 a2_1, .int .i64 a2_2, .int .i64 a2_3, .int .u64 a2_4] h55 → ∀ n57 h58, hnew h55 n57 [.int .i64 a3_0, .int .i64 a3_1, .int .i64 a3_2] h58 → c0 (fun b60 h61 => if (!b60) = true then Q false h61 else ∃ i62, hc h61 ⟨n51, 0, none⟩ = some (.int .i64 i62) ∧ ∃ o63 n64 n65, hc h61 ⟨n51, 1, none⟩ = some (.slice o63 n64 n65) ∧ ∃ o66 n67 n68, hc h61 ⟨n51, 2, none⟩ = some (.slice o66 n67 n68) ∧ ∃ (l69 : List Int), l69.length = 32 ∧ hrow h61 ⟨n51, 3, none⟩ .u8 l69 ∧ c1 i62 o63 n64 n65 o66 n67 n68 l69 (fun b70 h71 => if (!b70) = true then Q true h71 else ∃ i72, hc h71 ⟨n48, 0, none⟩ = some (.int .i64 i72) ∧ ∃ i73, hc h71 ⟨n48, 1, none⟩ = some (.int .i64 i73) ∧ ∃ i74, hc h71 ⟨n48, 2, none⟩ = some (.int .i64 i74) ∧ ∃ i75, hc h71 ⟨n48, 3, none⟩ = some (.int .i64 i75) ∧ ∃ i76, hc h71 ⟨n48, 4, none⟩ = some (.int .i64 i76) ∧ ∃ i77, hc h71 ⟨n48, 5, none⟩ = some (.int .i64 i77) ∧ ∃ i78, hc h71 ⟨n48, 6, none⟩ = some (.int .i64 i78) ∧ ∃ o79 n80 n81, hc h71 ⟨n48, 7, none⟩ = some (.slice o79 n80 n81) ∧ ∃ o82 n83 n84, hc h71 ⟨n48, 8, none⟩ = some (.slice o82 n83 n84) ∧ ∃ o85 n86 n87, hc h71 ⟨n48, 9, none⟩ = some (.slice o85 n86 n87) ∧ ∃ o88 n89 n90, hc h71 ⟨n48, 10, none⟩ = some (.slice o88 n89 n90) ∧ c2 i72 i73 i74 i75 i76 i77 i78 o79 n80 n81 o82 n83 n84 o85 n86 n87 o88 n89 n90 (fun o91 o92 o93 o94 o95 b96 h97 => ∀ (J98 : JT), (∀ (h99 : H), (∃ i100, hc h99 ⟨n51, 0, none⟩ = some (.int .i64 i100) ∧ ∃ o101 n102 n103, hc h99 ⟨n51, 1, none⟩ = some (.slice o101 n102 n103) ∧ ∃ o104 n105 n106, hc h99 ⟨n51, 2, none⟩ = some (.slice o104 n105 n106) ∧ ∃ (l107 : List Int), l107.length = 32 ∧ hrow h99 ⟨n51, 3, none⟩ .u8 l107 ∧ ∃ i108, hc h99 ⟨n54, 0, none⟩ = some (.int .i64 i108) ∧ ∃ i109, hc h99 ⟨n54, 1, none⟩ = some (.int .i64 i109) ∧ ∃ i110, hc h99 ⟨n54, 2, none⟩ = some (.int .i64 i110) ∧ ∃ i111, hc h99 ⟨n54, 3, none⟩ = some (.int .i64 i111) ∧ ∃ i112, hc h99 ⟨n54, 4, none⟩ = some (.int .u64 i112) ∧ c3 i100 o101 n102 n103 o104 n105 n106 l107 (fun i113 o114 n115 n116 o117 n118 n119 l120 h121 => hcs h121 ⟨n54, 0, none⟩ [.int .i64 i108, .int .i64 i109, .int .i64 i110, .int .i64 i111, .int .u64 i112] ∧ c5 i108 i109 i110 i111 i112 (fun i122 i123 i124 i125 i126 h127 => c4 i113 o114 n115 n116 o117 n118 n119 l120 i122 i123 i124 i125 i126 (fun i128 o129 n130 n131 o132 n133 n134 l135 i136 h137 => ∀ n138 h139, hnew h137 n138 (.int .i64 0 :: .slice none 0 0 :: .slice none 0 0 :: ints .u8 (zeros 32)) h139 → hcan h139 ⟨n138, 0, none⟩ 35 ∧ K1_portcullislaw24_TokenNarrows c3 c6 c7 c8 c9 c10 Q h139 n138 i128 o129 n130 n131 o132 n133 n134 l135 i136 n51 n54 n57 o93 o92 o94 n48) h127 ∧ ∀ n252 h253, hnew h127 n252 (.int .i64 0 :: .slice none 0 0 :: .slice none 0 0 :: ints .u8 (zeros 32)) h253 → c4 i113 o114 n115 n116 o117 n118 n119 l120 i122 i123 i124 i125 i126 (fun i255 o256 n257 n258 o259 n260 n261 l262 i263 h264 => hcan h264 ⟨n252, 0, none⟩ 35 ∧ K1_portcullislaw24_TokenNarrows c3 c6 c7 c8 c9 c10 Q h264 n252 i255 o256 n257 n258 o259 n260 n261 l262 i263 n51 n54 n57 o93 o92 o94 n48) h253) h121 ∧ ∀ n376 h377, hnew h121 n376 (.int .i64 0 :: .slice none 0 0 :: .slice none 0 0 :: ints .u8 (zeros 32)) h377 → hcs h377 ⟨n54, 0, none⟩ [.int .i64 i108, .int .i64 i109, .int .i64 i110, .int .i64 i111, .int .u64 i112] ∧ c5 i108 i109 i110 i111 i112 (fun i379 i380 i381 i382 i383 h384 => c4 i113 o114 n115 n116 o117 n118 n119 l120 i379 i380 i381 i382 i383 (fun i385 o386 n387 n388 o389 n390 n391 l392 i393 h394 => hcan h394 ⟨n376, 0, none⟩ 35 ∧ K1_portcullislaw24_TokenNarrows c3 c6 c7 c8 c9 c10 Q h394 n376 i385 o386 n387 n388 o389 n390 n391 l392 i393 n51 n54 n57 o93 o92 o94 n48) h384) h377) h99 ∧ ∀ n506 h507, hnew h99 n506 (.int .i64 0 :: .slice none 0 0 :: .slice none 0 0 :: ints .u8 (zeros 32)) h507 → hcs h507 ⟨n54, 0, none⟩ [.int .i64 i108, .int .i64 i109, .int .i64 i110, .int .i64 i111, .int .u64 i112] ∧ hcs h507 ⟨n51, 0, none⟩ (.int .i64 i100 :: .slice o101 n102 n103 :: .slice o104 n105 n106 :: (ints .u8 l107 ++ [])) ∧ c3 i100 o101 n102 n103 o104 n105 n106 l107 (fun i509 o510 n511 n512 o513 n514 n515 l516 h517 => hcs h517 ⟨n54, 0, none⟩ [.int .i64 i108, .int .i64 i109, .int .i64 i110, .int .i64 i111, .int .u64 i112] ∧ c5 i108 i109 i110 i111 i112 (fun i518 i519 i520 i521 i522 h523 => c4 i509 o510 n511 n512 o513 n514 n515 l516 i518 i519 i520 i521 i522 (fun i524 o525 n526 n527 o528 n529 n530 l531 i532 h533 => hcan h533 ⟨n506, 0, none⟩ 35 ∧ K1_portcullislaw24_TokenNarrows c3 c6 c7 c8 c9 c10 Q h533 n506 i524 o525 n526 n527 o528 n529 n530 l531 i532 n51 n54 n57 o93 o92 o94 n48) h523) h517) h507) → J98 [] h99) → if (!b96) = true then Q b96 h97 else if o94.isNone = true then Q b96 h97 else J98 [] h97) h71) h61) h58
theorem E_portcullislaw24_TokenNarrows : ∀ c0 c1 c2 c3 c4 c5 c6 c7 c8 c9 c10 a0_0 a0_1 a0_2 a0_3 a0_4 a0_5 a0_6 a0_7p a0_7l a0_7c a0_8p a0_8l a0_8c a0_9p a0_9l a0_9c a0_10p a0_10l a0_10c a1_0 a1_1p a1_1l a1_1c a1_2p a1_2l a1_2c a1_3 a2_0 a2_1 a2_2 a2_3 a2_4 a3_0 a3_1 a3_2 Q h, G_portcullislaw24_TokenNarrows c0 c1 c2 c3 c4 c5 c6 c7 c8 c9 c10 a0_0 a0_1 a0_2 a0_3 a0_4 a0_5 a0_6 a0_7p a0_7l a0_7c a0_8p a0_8l a0_8c a0_9p a0_9l a0_9c a0_10p a0_10l a0_10c a1_0 a1_1p a1_1l a1_1c a1_2p a1_2l a1_2c a1_3 a2_0 a2_1 a2_2 a2_3 a2_4 a3_0 a3_1 a3_2 Q h = Dbody PP [(11, W [] [.bool] c0), (12, W [.ag [.int .i64, .slc, .slc, .row .u8 32]] [.bool] c1), (13, W [.ag [.int .i64, .int .i64, .int .i64, .int .i64, .int .i64, .int .i64, .int .i64, .slc, .slc, .slc, .slc]] [.ptr, .ptr, .ptr, .ptr, .ptr, .bool] c2), (14, W [.ag [.int .i64, .slc, .slc, .row .u8 32]] [.ag [.int .i64, .slc, .slc, .row .u8 32]] c3), (15, W [.ag [.int .i64, .slc, .slc, .row .u8 32], .ag [.int .i64, .int .i64, .int .i64, .int .i64, .int .u64]] [.ag [.int .i64, .slc, .slc, .row .u8 32], .int .i64] c4), (16, W [.ag [.int .i64, .int .i64, .int .i64, .int .i64, .int .u64]] [.ag [.int .i64, .int .i64, .int .i64, .int .i64, .int .u64]] c5), (17, W [.ag [.int .i64, .int .i64, .int .i64, .int .i64, .int .u64]] [.bool] c6), (18, W [.addr, .addr, .ag [.int .i64, .slc, .slc, .row .u8 32], .ag [.int .i64, .int .i64, .int .i64]] [.int .i64] c7), (19, W [.ag [.int .i64, .int .i64, .int .i64]] [.ag [.int .i64, .int .i64, .int .i64]] c8), (20, W [.addr, .ag [.int .i64, .int .i64, .int .i64, .int .i64, .int .u64], .ag [.int .i64, .int .i64, .int .i64]] [.int .i64] c9), (21, W [.ag [.int .i64, .int .i64, .int .i64, .int .i64, .int .i64, .int .i64, .int .i64, .slc, .slc, .slc, .slc], .ag [.int .i64, .slc, .slc, .row .u8 32], .ag [.int .i64, .int .i64, .int .i64, .int .i64, .int .u64]] [.bool] c10)] [(31, [])] Tryz.f3 [.agg [.c (.int .i64 a0_0), .c (.int .i64 a0_1), .c (.int .i64 a0_2), .c (.int .i64 a0_3), .c (.int .i64 a0_4), .c (.int .i64 a0_5), .c (.int .i64 a0_6), .c (.slice a0_7p a0_7l a0_7c), .c (.slice a0_8p a0_8l a0_8c), .c (.slice a0_9p a0_9l a0_9c), .c (.slice a0_10p a0_10l a0_10c)], .agg [.c (.int .i64 a1_0), .c (.slice a1_1p a1_1l a1_1c), .c (.slice a1_2p a1_2l a1_2c), .row .u8 32 a1_3], .agg [.c (.int .i64 a2_0), .c (.int .i64 a2_1), .c (.int .i64 a2_2), .c (.int .i64 a2_3), .c (.int .u64 a2_4)], .agg [.c (.int .i64 a3_0), .c (.int .i64 a3_1), .c (.int .i64 a3_2)]] (decR [.bool] Q) h := by intros; kernel_rfl
def F_portcullislaw24_TokenNarrows := G_portcullislaw24_TokenNarrows F_portcullislaw24_awake F_portcullisref24_Few F_portcullislaw24_scene F_portcullislaw24_of F_token_Token_Narrow F_portcullislaw24_caveat F_portcullisref24_Caveat_May F_token_Check F_portcullislaw24_wish F_portcullisref24_Meets F_portcullislaw24_clash
theorem R_portcullislaw24_TokenNarrows : RunOk PP 3 (W [.ag [.int .i64, .int .i64, .int .i64, .int .i64, .int .i64, .int .i64, .int .i64, .slc, .slc, .slc, .slc], .ag [.int .i64, .slc, .slc, .row .u8 32], .ag [.int .i64, .int .i64, .int .i64, .int .i64, .int .u64], .ag [.int .i64, .int .i64, .int .i64]] [.bool] F_portcullislaw24_TokenNarrows) := runOk_of (TblOk.cons R_portcullislaw24_awake (TblOk.cons R_portcullisref24_Few (TblOk.cons R_portcullislaw24_scene (TblOk.cons R_portcullislaw24_of (TblOk.cons R_token_Token_Narrow (TblOk.cons R_portcullislaw24_caveat (TblOk.cons R_portcullisref24_Caveat_May (TblOk.cons R_token_Check (TblOk.cons R_portcullislaw24_wish (TblOk.cons R_portcullisref24_Meets (TblOk.cons R_portcullislaw24_clash (TblOk.nil)))))))))))) Tryz.func3 (by kernel_rfl) (by kernel_rfl) (E_portcullislaw24_TokenNarrows _ _ _ _ _ _ _ _ _ _ _)
attribute [irreducible] F_portcullislaw24_TokenNarrows
def G_fuse_row (c0 : Addr → (Int → Int → Int → Int → Int → Int → Int → H → Prop) → H → Prop) (c1 : Addr → Int → (Bool → Int → H → Prop) → H → Prop) (a0 : Addr) (a1 : Int) (Q : Int → Int → Int → H → Prop) (h : H) : Prop := c0 a0 (fun i6 i7 i8 i9 i10 i11 i12 h13 => ∀ (J14 : JT), (∀ (i15 i16 i17 : Int) (h18 : H), (if ltI i17 i8 = true then c1 a0 (IntKind.i64.wrap (IntKind.i64.wrap (a1 * i8) + i17)) (fun b19 i20 h21 => if (i20 != 0) = true then Q 0 0 i20 h21 else if b19 = true then J14 [.dv (.one (.int .i64 (IntKind.i64.wrap (i15 + 1)))), .dv (.one (.int .i64 i16)), .dv (.one (.int .i64 (IntKind.i64.wrap (i17 + 1))))] h21 else if ltI i16 0 = true then J14 [.dv (.one (.int .i64 i15)), .dv (.one (.int .i64 (IntKind.i64.wrap (IntKind.i64.wrap (a1 * i8) + i17)))), .dv (.one (.int .i64 (IntKind.i64.wrap (i17 + 1))))] h21 else J14 [.dv (.one (.int .i64 i15)), .dv (.one (.int .i64 i16)), .dv (.one (.int .i64 (IntKind.i64.wrap (i17 + 1))))] h21) h18 else Q i15 i16 0 h18) → J14 [.dv (.one (.int .i64 i15)), .dv (.one (.int .i64 i16)), .dv (.one (.int .i64 i17))] h18) → J14 [.dv (.one (.int .i64 0)), .dv (.one (.int .i64 (-1))), .dv (.one (.int .i64 0))] h13) h
theorem E_fuse_row : ∀ c0 c1 a0 a1 Q h, G_fuse_row c0 c1 a0 a1 Q h = Dbody PP [(105, W [.addr] [.ag [.int .i64, .int .i64, .int .i64, .int .i64, .int .i64, .int .i64, .int .i64]] c0), (175, W [.addr, .int .i64] [.bool, .int .i64] c1)] [(122, [(4, .sc (.int .i64)), (5, .sc (.int .i64)), (15, .sc (.int .i64))])] Tryz.f171 [.addr a0, .one (.int .i64 a1)] (decR [.int .i64, .int .i64, .int .i64] Q) h := by intros; kernel_rfl
def F_fuse_row := G_fuse_row F_chip_Chip_Config F_chip_Chip_Blown
theorem R_fuse_row : RunOk PP 171 (W [.addr, .int .i64] [.int .i64, .int .i64, .int .i64] F_fuse_row) := runOk_of (TblOk.cons R_chip_Chip_Config (TblOk.cons R_chip_Chip_Blown (TblOk.nil))) Tryz.func171 (by kernel_rfl) (by kernel_rfl) (E_fuse_row _ _)
attribute [irreducible] F_fuse_row
def G_fuse_Count (c0 : Addr → (Int → Int → Int → Int → Int → Int → Int → H → Prop) → H → Prop) (c1 : Addr → Int → Int → (Int → H → Prop) → H → Prop) (c2 : Addr → Int → (Int → Int → Int → H → Prop) → H → Prop) (a0 : Addr) (a1 : Int) (Q : Int → Int → H → Prop) (h : H) : Prop := c0 a0 (fun i7 i8 i9 i10 i11 i12 i13 h14 => c1 a0 a1 i8 (fun i15 h16 => if (i15 != 0) = true then Q 0 i15 h16 else c2 a0 a1 (fun i17 i18 i19 h20 => Q i17 i19 h20) h16) h14) h
theorem E_fuse_Count : ∀ c0 c1 c2 a0 a1 Q h, G_fuse_Count c0 c1 c2 a0 a1 Q h = Dbody PP [(105, W [.addr] [.ag [.int .i64, .int .i64, .int .i64, .int .i64, .int .i64, .int .i64, .int .i64]] c0), (170, W [.addr, .int .i64, .int .i64] [.int .i64] c1), (171, W [.addr, .int .i64] [.int .i64, .int .i64, .int .i64] c2)] [] Tryz.f106 [.addr a0, .one (.int .i64 a1)] (decR [.int .i64, .int .i64] Q) h := by intros; kernel_rfl
def F_fuse_Count := G_fuse_Count F_chip_Chip_Config F_fuse_asked F_fuse_row
theorem R_fuse_Count : RunOk PP 106 (W [.addr, .int .i64] [.int .i64, .int .i64] F_fuse_Count) := runOk_of (TblOk.cons R_chip_Chip_Config (TblOk.cons R_fuse_asked (TblOk.cons R_fuse_row (TblOk.nil)))) Tryz.func106 (by kernel_rfl) (by kernel_rfl) (E_fuse_Count _ _ _)
attribute [irreducible] F_fuse_Count
def G_store_Store_Read (c0 : Addr → Int → Int → (Int → H → Prop) → H → Prop) (c1 : Addr → (Int → Int → Int → Int → Int → Int → Int → H → Prop) → H → Prop) (c2 : Addr → Int → (Int → Int → H → Prop) → H → Prop) (c3 : Addr → Int → (Int → Int → H → Prop) → H → Prop) (a0 : Addr) (a1 : Int) (Q : Int → Int → H → Prop) (h : H) : Prop := ∃ o8, hc h a0 = some (.pointer o8) ∧ ∃ p9, o8 = some p9 ∧ c1 p9 (fun i10 i11 i12 i13 i14 i15 i16 h17 => c0 a0 a1 i11 (fun i18 h19 => if (i18 != 0) = true then Q 0 i18 h19 else ∃ o20, hc h19 a0 = some (.pointer o20) ∧ ∃ p21, o20 = some p21 ∧ c2 p21 a1 (fun i22 i23 h24 => if (i23 != 0) = true then Q 0 i23 h24 else ∃ o25, hc h24 (a0.add 1) = some (.pointer o25) ∧ ∃ p26, o25 = some p26 ∧ c3 p26 a1 (fun i27 i28 h29 => if (i28 != 0) = true then Q 0 i28 h29 else ∃ o30, hc h29 a0 = some (.pointer o30) ∧ ∃ p31, o30 = some p31 ∧ c1 p31 (fun i32 i33 i34 i35 i36 i37 i38 h39 => ∀ n40 h41, hnew h39 n40 (ints .i64 (zeros 2)) h41 → hcan h41 ⟨n40, 0, none⟩ 2 ∧ ∀ h43, h43 = hwr h41 ⟨n40, 0, none⟩ (ints .i64 [IntKind.i64.wrap (i22 * i35), i27] ++ []) → (0 : Int) ≤ 0 ∧ (0 : Int) < (↑2 : Int) ∧ ∃ i45, hc h43 ⟨n40, 0, none⟩ = some (.int .i64 i45) ∧ (0 : Int) ≤ 1 ∧ (1 : Int) < (↑2 : Int) ∧ ∃ i46, hc h43 ⟨n40, 1, none⟩ = some (.int .i64 i46) ∧ Q (if i46 > i45 then i46 else i45) 0 h43) h29) h24) h19) h17) h
theorem E_store_Store_Read : ∀ c0 c1 c2 c3 a0 a1 Q h, G_store_Store_Read c0 c1 c2 c3 a0 a1 Q h = Dbody PP [(104, W [.addr, .int .i64, .int .i64] [.int .i64] c0), (105, W [.addr] [.ag [.int .i64, .int .i64, .int .i64, .int .i64, .int .i64, .int .i64, .int .i64]] c1), (106, W [.addr, .int .i64] [.int .i64, .int .i64] c2), (107, W [.addr, .int .i64] [.int .i64, .int .i64] c3)] [] Tryz.f38 [.addr a0, .one (.int .i64 a1)] (decR [.int .i64, .int .i64] Q) h := by intros; kernel_rfl
def F_store_Store_Read := G_store_Store_Read F_store_Store_asked F_chip_Chip_Config F_fuse_Count F_log_Log_Number
theorem R_store_Store_Read : RunOk PP 38 (W [.addr, .int .i64] [.int .i64, .int .i64] F_store_Store_Read) := runOk_of (TblOk.cons R_store_Store_asked (TblOk.cons R_chip_Chip_Config (TblOk.cons R_fuse_Count (TblOk.cons R_log_Log_Number (TblOk.nil))))) Tryz.func38 (by kernel_rfl) (by kernel_rfl) (E_store_Store_Read _ _ _ _)
attribute [irreducible] F_store_Store_Read
def G_chip_Lay_1 (a0p : OA) (a0l : Nat) (a0c : Nat) (a1 : Addr) (Q : Bool → H → Prop) (h : H) : Prop := ∃ i6, hc h a1 = some (.int .i64 i6) ∧ Q ((↑a0l : Int) != i6) h
theorem E_chip_Lay_1 : ∀ a0p a0l a0c a1 Q h, G_chip_Lay_1 a0p a0l a0c a1 Q h = Dbody PP [] [] Tryz.f137 [.one (.slice a0p a0l a0c), .addr a1] (decR [.bool] Q) h := by intros; kernel_rfl
def F_chip_Lay_1 := G_chip_Lay_1
theorem R_chip_Lay_1 : RunOk PP 137 (W [.slc, .addr] [.bool] F_chip_Lay_1) := runOk_of (TblOk.nil) Tryz.func137 (by kernel_rfl) (by kernel_rfl) (E_chip_Lay_1)
attribute [irreducible] F_chip_Lay_1
def G_chip_Lay_2 (a0 : Int) (Q : Bool → H → Prop) (h : H) : Prop := Q (ltI a0 0) h
theorem E_chip_Lay_2 : ∀ a0 Q h, G_chip_Lay_2 a0 Q h = Dbody PP [] [] Tryz.f139 [.one (.int .i64 a0)] (decR [.bool] Q) h := by intros; kernel_rfl
def F_chip_Lay_2 := G_chip_Lay_2
theorem R_chip_Lay_2 : RunOk PP 139 (W [.int .i64] [.bool] F_chip_Lay_2) := runOk_of (TblOk.nil) Tryz.func139 (by kernel_rfl) (by kernel_rfl) (E_chip_Lay_2)
attribute [irreducible] F_chip_Lay_2
def G_token_Token_may_1 (c0 : Int → Int → Int → Int → Int → (Bool → H → Prop) → H → Prop) (a0_0 : Int) (a0_1 : Int) (a0_2 : Int) (a0_3 : Int) (a0_4 : Int) (Q : Bool → H → Prop) (h : H) : Prop := ∀ n8 h9, hnew h n8 [.int .i64 a0_0, .int .i64 a0_1, .int .i64 a0_2, .int .i64 a0_3, .int .u64 a0_4] h9 → ∃ i11, hc h9 ⟨n8, 0, none⟩ = some (.int .i64 i11) ∧ ∃ i12, hc h9 ⟨n8, 1, none⟩ = some (.int .i64 i12) ∧ ∃ i13, hc h9 ⟨n8, 2, none⟩ = some (.int .i64 i13) ∧ ∃ i14, hc h9 ⟨n8, 3, none⟩ = some (.int .i64 i14) ∧ ∃ i15, hc h9 ⟨n8, 4, none⟩ = some (.int .u64 i15) ∧ c0 i11 i12 i13 i14 i15 (fun b16 h17 => Q (!b16) h17) h9
theorem E_token_Token_may_1 : ∀ c0 a0_0 a0_1 a0_2 a0_3 a0_4 Q h, G_token_Token_may_1 c0 a0_0 a0_1 a0_2 a0_3 a0_4 Q h = Dbody PP [(64, W [.ag [.int .i64, .int .i64, .int .i64, .int .i64, .int .u64]] [.bool] c0)] [] Tryz.f147 [.agg [.c (.int .i64 a0_0), .c (.int .i64 a0_1), .c (.int .i64 a0_2), .c (.int .i64 a0_3), .c (.int .u64 a0_4)]] (decR [.bool] Q) h := by intros; kernel_rfl
def F_token_Token_may_1 := G_token_Token_may_1 F_token_Caveat_may
theorem R_token_Token_may_1 : RunOk PP 147 (W [.ag [.int .i64, .int .i64, .int .i64, .int .i64, .int .u64]] [.bool] F_token_Token_may_1) := runOk_of (TblOk.cons R_token_Caveat_may (TblOk.nil)) Tryz.func147 (by kernel_rfl) (by kernel_rfl) (E_token_Token_may_1 _)
attribute [irreducible] F_token_Token_may_1
def G_token_slot (a0 : Int) (Q : Bool → H → Prop) (h : H) : Prop := if leI 0 a0 = true then Q (ltI a0 8) h else Q false h
theorem E_token_slot : ∀ a0 Q h, G_token_slot a0 Q h = Dbody PP [] [] Tryz.f276 [.one (.int .i64 a0)] (decR [.bool] Q) h := by intros; kernel_rfl
def F_token_slot := G_token_slot
theorem R_token_slot : RunOk PP 276 (W [.int .i64] [.bool] F_token_slot) := runOk_of (TblOk.nil) Tryz.func276 (by kernel_rfl) (by kernel_rfl) (E_token_slot)
attribute [irreducible] F_token_slot
end Go.Proofs.YtaglicdidpgkpaaGreatDoor
end

/- Denotations of functions of the program, printed by a program of ours, and that they are the model's. -/
section
set_option linter.unusedVariables false
set_option maxRecDepth 100000
namespace Go.Proofs.YtaglicdidpgkpaaGreatDoor
open Go Go.Vc
def G_token_onSlot_may (c0 : Int → (Bool → H → Prop) → H → Prop) (a0_0 : Int) (Q : Bool → H → Prop) (h : H) : Prop := ∀ n4 h5, hnew h n4 [.int .i64 a0_0] h5 → ∃ i7, hc h5 ⟨n4, 0, none⟩ = some (.int .i64 i7) ∧ c0 i7 (fun b8 h9 => Q b8 h9) h5
theorem E_token_onSlot_may : ∀ c0 a0_0 Q h, G_token_onSlot_may c0 a0_0 Q h = Dbody PP [(276, W [.int .i64] [.bool] c0)] [] Tryz.f274 [.agg [.c (.int .i64 a0_0)]] (decR [.bool] Q) h := by intros; kernel_rfl
def F_token_onSlot_may := G_token_onSlot_may F_token_slot
theorem R_token_onSlot_may : RunOk PP 274 (W [.ag [.int .i64]] [.bool] F_token_onSlot_may) := runOk_of (TblOk.cons R_token_slot (TblOk.nil)) Tryz.func274 (by kernel_rfl) (by kernel_rfl) (E_token_onSlot_may _)
attribute [irreducible] F_token_onSlot_may
def G_token_onSlot_met (a0_0 : Int) (a1 : Addr) (a2_0 : Int) (a2_1 : Int) (a2_2 : Int) (Q : Int → H → Prop) (h : H) : Prop := ∀ n7 h8, hnew h n7 [.int .i64 a0_0] h8 → ∀ n10 h11, hnew h8 n10 [.int .i64 a2_0, .int .i64 a2_1, .int .i64 a2_2] h11 → ∃ i13, hc h11 ⟨n10, 1, none⟩ = some (.int .i64 i13) ∧ ∃ i14, hc h11 ⟨n7, 0, none⟩ = some (.int .i64 i14) ∧ if (i13 != i14) = true then Q 2 h11 else Q 0 h11
theorem E_token_onSlot_met : ∀ a0_0 a1 a2_0 a2_1 a2_2 Q h, G_token_onSlot_met a0_0 a1 a2_0 a2_1 a2_2 Q h = Dbody PP [] [] Tryz.f275 [.agg [.c (.int .i64 a0_0)], .addr a1, .agg [.c (.int .i64 a2_0), .c (.int .i64 a2_1), .c (.int .i64 a2_2)]] (decR [.int .i64] Q) h := by intros; kernel_rfl
def F_token_onSlot_met := G_token_onSlot_met
theorem R_token_onSlot_met : RunOk PP 275 (W [.ag [.int .i64], .addr, .ag [.int .i64, .int .i64, .int .i64]] [.int .i64] F_token_onSlot_met) := runOk_of (TblOk.nil) Tryz.func275 (by kernel_rfl) (by kernel_rfl) (E_token_onSlot_met)
attribute [irreducible] F_token_onSlot_met
def G_token_versions_may (a0_0 : Int) (a0_1 : Int) (Q : Bool → H → Prop) (h : H) : Prop := ∀ n4 h5, hnew h n4 [.int .i64 a0_0, .int .i64 a0_1] h5 → ∃ i7, hc h5 ⟨n4, 0, none⟩ = some (.int .i64 i7) ∧ if leI 0 i7 = true then ∃ i8, hc h5 ⟨n4, 0, none⟩ = some (.int .i64 i8) ∧ ∃ i9, hc h5 ⟨n4, 1, none⟩ = some (.int .i64 i9) ∧ if leI i8 i9 = true then ∃ i10, hc h5 ⟨n4, 1, none⟩ = some (.int .i64 i10) ∧ ∀ (i11 : Int), i11 = 4294967296 → Q (ltI i10 i11) h5 else Q false h5 else Q false h5
theorem E_token_versions_may : ∀ a0_0 a0_1 Q h, G_token_versions_may a0_0 a0_1 Q h = Dbody PP [] [] Tryz.f277 [.agg [.c (.int .i64 a0_0), .c (.int .i64 a0_1)]] (decR [.bool] Q) h := by intros; kernel_rfl
def F_token_versions_may := G_token_versions_may
theorem R_token_versions_may : RunOk PP 277 (W [.ag [.int .i64, .int .i64]] [.bool] F_token_versions_may) := runOk_of (TblOk.nil) Tryz.func277 (by kernel_rfl) (by kernel_rfl) (E_token_versions_may)
attribute [irreducible] F_token_versions_may
def G_token_versions_met (a0_0 : Int) (a0_1 : Int) (a1 : Addr) (a2_0 : Int) (a2_1 : Int) (a2_2 : Int) (Q : Int → H → Prop) (h : H) : Prop := ∀ n8 h9, hnew h n8 [.int .i64 a0_0, .int .i64 a0_1] h9 → ∀ n11 h12, hnew h9 n11 [.int .i64 a2_0, .int .i64 a2_1, .int .i64 a2_2] h12 → ∃ i14, hc h12 ⟨n11, 2, none⟩ = some (.int .i64 i14) ∧ ∃ i15, hc h12 ⟨n8, 0, none⟩ = some (.int .i64 i15) ∧ if ltI i14 i15 = true then Q 16 h12 else ∃ i16, hc h12 ⟨n11, 2, none⟩ = some (.int .i64 i16) ∧ ∃ i17, hc h12 ⟨n8, 1, none⟩ = some (.int .i64 i17) ∧ if ltI i17 i16 = true then Q 16 h12 else Q 0 h12
theorem E_token_versions_met : ∀ a0_0 a0_1 a1 a2_0 a2_1 a2_2 Q h, G_token_versions_met a0_0 a0_1 a1 a2_0 a2_1 a2_2 Q h = Dbody PP [] [] Tryz.f278 [.agg [.c (.int .i64 a0_0), .c (.int .i64 a0_1)], .addr a1, .agg [.c (.int .i64 a2_0), .c (.int .i64 a2_1), .c (.int .i64 a2_2)]] (decR [.int .i64] Q) h := by intros; kernel_rfl
def F_token_versions_met := G_token_versions_met
theorem R_token_versions_met : RunOk PP 278 (W [.ag [.int .i64, .int .i64], .addr, .ag [.int .i64, .int .i64, .int .i64]] [.int .i64] F_token_versions_met) := runOk_of (TblOk.nil) Tryz.func278 (by kernel_rfl) (by kernel_rfl) (E_token_versions_met)
attribute [irreducible] F_token_versions_met
def G_token_ofKinds_may (a0_0 : Int) (Q : Bool → H → Prop) (h : H) : Prop := ∀ n3 h4, hnew h n3 [.int .u64 a0_0] h4 → ∃ i6, hc h4 ⟨n3, 0, none⟩ = some (.int .u64 i6) ∧ if (i6 != 0) = true then ∃ i7, hc h4 ⟨n3, 0, none⟩ = some (.int .u64 i7) ∧ Q (bits .andNot .u64 i7 16382 == 0) h4 else Q false h4
theorem E_token_ofKinds_may : ∀ a0_0 Q h, G_token_ofKinds_may a0_0 Q h = Dbody PP [] [] Tryz.f279 [.agg [.c (.int .u64 a0_0)]] (decR [.bool] Q) h := by intros; kernel_rfl
def F_token_ofKinds_may := G_token_ofKinds_may
theorem R_token_ofKinds_may : RunOk PP 279 (W [.ag [.int .u64]] [.bool] F_token_ofKinds_may) := runOk_of (TblOk.nil) Tryz.func279 (by kernel_rfl) (by kernel_rfl) (E_token_ofKinds_may)
attribute [irreducible] F_token_ofKinds_may
def G_token_ofKinds_met (a0_0 : Int) (a1 : Addr) (a2_0 : Int) (a2_1 : Int) (a2_2 : Int) (Q : Int → H → Prop) (h : H) : Prop := ∀ n7 h8, hnew h n7 [.int .u64 a0_0] h8 → ∀ n10 h11, hnew h8 n10 [.int .i64 a2_0, .int .i64 a2_1, .int .i64 a2_2] h11 → ∃ i13, hc h11 ⟨n10, 0, none⟩ = some (.int .i64 i13) ∧ if ltI i13 0 = true then Q 12 h11 else ∃ i14, hc h11 ⟨n10, 0, none⟩ = some (.int .i64 i14) ∧ if ltI 63 i14 = true then Q 12 h11 else ∃ i15, hc h11 ⟨n7, 0, none⟩ = some (.int .u64 i15) ∧ ∃ i16, hc h11 ⟨n10, 0, none⟩ = some (.int .i64 i16) ∧ 0 ≤ i16 ∧ if (bits .and .u64 (i15.fdiv (2 ^ min i16.toNat IntKind.u64.bits)) 1 == 0) = true then Q 12 h11 else Q 0 h11
theorem E_token_ofKinds_met : ∀ a0_0 a1 a2_0 a2_1 a2_2 Q h, G_token_ofKinds_met a0_0 a1 a2_0 a2_1 a2_2 Q h = Dbody PP [] [] Tryz.f280 [.agg [.c (.int .u64 a0_0)], .addr a1, .agg [.c (.int .i64 a2_0), .c (.int .i64 a2_1), .c (.int .i64 a2_2)]] (decR [.int .i64] Q) h := by intros; kernel_rfl
def F_token_ofKinds_met := G_token_ofKinds_met
theorem R_token_ofKinds_met : RunOk PP 280 (W [.ag [.int .u64], .addr, .ag [.int .i64, .int .i64, .int .i64]] [.int .i64] F_token_ofKinds_met) := runOk_of (TblOk.nil) Tryz.func280 (by kernel_rfl) (by kernel_rfl) (E_token_ofKinds_met)
attribute [irreducible] F_token_ofKinds_met
def G_token_value (a0 : Int) (Q : Bool → H → Prop) (h : H) : Prop := if leI 0 a0 = true then ∀ (i3 : Int), i3 = 4611686018427387904 → Q (leI a0 i3) h else Q false h
theorem E_token_value : ∀ a0 Q h, G_token_value a0 Q h = Dbody PP [] [] Tryz.f283 [.one (.int .i64 a0)] (decR [.bool] Q) h := by intros; kernel_rfl
def F_token_value := G_token_value
theorem R_token_value : RunOk PP 283 (W [.int .i64] [.bool] F_token_value) := runOk_of (TblOk.nil) Tryz.func283 (by kernel_rfl) (by kernel_rfl) (E_token_value)
attribute [irreducible] F_token_value
def G_token_atLeast_may (c0 : Int → (Bool → H → Prop) → H → Prop) (c1 : Int → (Bool → H → Prop) → H → Prop) (a0_0 : Int) (a0_1 : Int) (Q : Bool → H → Prop) (h : H) : Prop := ∀ n6 h7, hnew h n6 [.int .i64 a0_0, .int .i64 a0_1] h7 → ∃ i9, hc h7 ⟨n6, 0, none⟩ = some (.int .i64 i9) ∧ c0 i9 (fun b10 h11 => if b10 = true then ∃ i12, hc h11 ⟨n6, 1, none⟩ = some (.int .i64 i12) ∧ c1 i12 (fun b13 h14 => Q b13 h14) h11 else Q false h11) h7
theorem E_token_atLeast_may : ∀ c0 c1 a0_0 a0_1 Q h, G_token_atLeast_may c0 c1 a0_0 a0_1 Q h = Dbody PP [(276, W [.int .i64] [.bool] c0), (283, W [.int .i64] [.bool] c1)] [] Tryz.f281 [.agg [.c (.int .i64 a0_0), .c (.int .i64 a0_1)]] (decR [.bool] Q) h := by intros; kernel_rfl
def F_token_atLeast_may := G_token_atLeast_may F_token_slot F_token_value
theorem R_token_atLeast_may : RunOk PP 281 (W [.ag [.int .i64, .int .i64]] [.bool] F_token_atLeast_may) := runOk_of (TblOk.cons R_token_slot (TblOk.cons R_token_value (TblOk.nil))) Tryz.func281 (by kernel_rfl) (by kernel_rfl) (E_token_atLeast_may _ _)
attribute [irreducible] F_token_atLeast_may
def G_token_lies (c0 : Addr → Int → (Int → Int → H → Prop) → H → Prop) (a0 : Addr) (a1 : Int) (a2 : Int) (a3 : Int) (Q : Int → H → Prop) (h : H) : Prop := c0 a0 a1 (fun i7 i8 h9 => if (i8 != 0) = true then Q 2 h9 else if ltI i7 a2 = true then Q 11 h9 else if ltI a3 i7 = true then Q 11 h9 else Q 0 h9) h
theorem E_token_lies : ∀ c0 a0 a1 a2 a3 Q h, G_token_lies c0 a0 a1 a2 a3 Q h = Dbody PP [(38, W [.addr, .int .i64] [.int .i64, .int .i64] c0)] [] Tryz.f284 [.addr a0, .one (.int .i64 a1), .one (.int .i64 a2), .one (.int .i64 a3)] (decR [.int .i64] Q) h := by intros; kernel_rfl
def F_token_lies := G_token_lies F_store_Store_Read
theorem R_token_lies : RunOk PP 284 (W [.addr, .int .i64, .int .i64, .int .i64] [.int .i64] F_token_lies) := runOk_of (TblOk.cons R_store_Store_Read (TblOk.nil)) Tryz.func284 (by kernel_rfl) (by kernel_rfl) (E_token_lies _)
attribute [irreducible] F_token_lies
def G_token_atLeast_met (c0 : Addr → Int → Int → Int → (Int → H → Prop) → H → Prop) (a0_0 : Int) (a0_1 : Int) (a1 : Addr) (a2_0 : Int) (a2_1 : Int) (a2_2 : Int) (Q : Int → H → Prop) (h : H) : Prop := ∀ n9 h10, hnew h n9 [.int .i64 a0_0, .int .i64 a0_1] h10 → ∀ n12 h13, hnew h10 n12 [.int .i64 a2_0, .int .i64 a2_1, .int .i64 a2_2] h13 → ∃ i15, hc h13 ⟨n9, 0, none⟩ = some (.int .i64 i15) ∧ ∃ i16, hc h13 ⟨n9, 1, none⟩ = some (.int .i64 i16) ∧ c0 a1 i15 i16 9223372036854775807 (fun i17 h18 => Q i17 h18) h13
theorem E_token_atLeast_met : ∀ c0 a0_0 a0_1 a1 a2_0 a2_1 a2_2 Q h, G_token_atLeast_met c0 a0_0 a0_1 a1 a2_0 a2_1 a2_2 Q h = Dbody PP [(284, W [.addr, .int .i64, .int .i64, .int .i64] [.int .i64] c0)] [] Tryz.f282 [.agg [.c (.int .i64 a0_0), .c (.int .i64 a0_1)], .addr a1, .agg [.c (.int .i64 a2_0), .c (.int .i64 a2_1), .c (.int .i64 a2_2)]] (decR [.int .i64] Q) h := by intros; kernel_rfl
def F_token_atLeast_met := G_token_atLeast_met F_token_lies
theorem R_token_atLeast_met : RunOk PP 282 (W [.ag [.int .i64, .int .i64], .addr, .ag [.int .i64, .int .i64, .int .i64]] [.int .i64] F_token_atLeast_met) := runOk_of (TblOk.cons R_token_lies (TblOk.nil)) Tryz.func282 (by kernel_rfl) (by kernel_rfl) (E_token_atLeast_met _)
attribute [irreducible] F_token_atLeast_met
def G_token_atMost_may (c0 : Int → (Bool → H → Prop) → H → Prop) (c1 : Int → (Bool → H → Prop) → H → Prop) (a0_0 : Int) (a0_1 : Int) (Q : Bool → H → Prop) (h : H) : Prop := ∀ n6 h7, hnew h n6 [.int .i64 a0_0, .int .i64 a0_1] h7 → ∃ i9, hc h7 ⟨n6, 0, none⟩ = some (.int .i64 i9) ∧ c0 i9 (fun b10 h11 => if b10 = true then ∃ i12, hc h11 ⟨n6, 1, none⟩ = some (.int .i64 i12) ∧ c1 i12 (fun b13 h14 => Q b13 h14) h11 else Q false h11) h7
theorem E_token_atMost_may : ∀ c0 c1 a0_0 a0_1 Q h, G_token_atMost_may c0 c1 a0_0 a0_1 Q h = Dbody PP [(276, W [.int .i64] [.bool] c0), (283, W [.int .i64] [.bool] c1)] [] Tryz.f285 [.agg [.c (.int .i64 a0_0), .c (.int .i64 a0_1)]] (decR [.bool] Q) h := by intros; kernel_rfl
def F_token_atMost_may := G_token_atMost_may F_token_slot F_token_value
theorem R_token_atMost_may : RunOk PP 285 (W [.ag [.int .i64, .int .i64]] [.bool] F_token_atMost_may) := runOk_of (TblOk.cons R_token_slot (TblOk.cons R_token_value (TblOk.nil))) Tryz.func285 (by kernel_rfl) (by kernel_rfl) (E_token_atMost_may _ _)
attribute [irreducible] F_token_atMost_may
def G_token_atMost_met (c0 : Addr → Int → Int → Int → (Int → H → Prop) → H → Prop) (a0_0 : Int) (a0_1 : Int) (a1 : Addr) (a2_0 : Int) (a2_1 : Int) (a2_2 : Int) (Q : Int → H → Prop) (h : H) : Prop := ∀ n9 h10, hnew h n9 [.int .i64 a0_0, .int .i64 a0_1] h10 → ∀ n12 h13, hnew h10 n12 [.int .i64 a2_0, .int .i64 a2_1, .int .i64 a2_2] h13 → ∃ i15, hc h13 ⟨n9, 0, none⟩ = some (.int .i64 i15) ∧ ∃ i16, hc h13 ⟨n9, 1, none⟩ = some (.int .i64 i16) ∧ c0 a1 i15 0 i16 (fun i17 h18 => Q i17 h18) h13
theorem E_token_atMost_met : ∀ c0 a0_0 a0_1 a1 a2_0 a2_1 a2_2 Q h, G_token_atMost_met c0 a0_0 a0_1 a1 a2_0 a2_1 a2_2 Q h = Dbody PP [(284, W [.addr, .int .i64, .int .i64, .int .i64] [.int .i64] c0)] [] Tryz.f286 [.agg [.c (.int .i64 a0_0), .c (.int .i64 a0_1)], .addr a1, .agg [.c (.int .i64 a2_0), .c (.int .i64 a2_1), .c (.int .i64 a2_2)]] (decR [.int .i64] Q) h := by intros; kernel_rfl
def F_token_atMost_met := G_token_atMost_met F_token_lies
theorem R_token_atMost_met : RunOk PP 286 (W [.ag [.int .i64, .int .i64], .addr, .ag [.int .i64, .int .i64, .int .i64]] [.int .i64] F_token_atMost_met) := runOk_of (TblOk.cons R_token_lies (TblOk.nil)) Tryz.func286 (by kernel_rfl) (by kernel_rfl) (E_token_atMost_met _)
attribute [irreducible] F_token_atMost_met
end Go.Proofs.YtaglicdidpgkpaaGreatDoor
end

/- Blocks of memory as lists of cells, and what loads, stores and allocations do to them. Own work; generic over any program. -/
section
set_option linter.unusedVariables false
namespace Go.Vc

def Blk (h : H) (b : Nat) (vs : List Value) : Prop :=
 ∃ t lo n, h[b]? = some (.cells vs.toArray t (lo, lo + n)) ∧ ∀ i, i < vs.length → ¬ (lo ≤ i ∧ i < lo + n)

abbrev at_ (b o : Nat) : Addr := ⟨b, o, none⟩

@[simp] theorem add_mk (b o n : Nat) : (Addr.mk b o none).add n = Addr.mk b (o + n) none := by
 unfold Addr.add; split
 ·rename_i h; subst h; rfl
 ·rfl

theorem Blk.lt {h : H} {b : Nat} {vs : List Value} (k : Blk h b vs) : b < h.size := by
 obtain ⟨t, lo, hi, hb, _⟩ := k
 exact (Array.getElem?_eq_some_iff.1 hb).1
theorem Blk.of_eq {h h' : H} {b : Nat} {vs : List Value} (k : Blk h b vs) (e : h'[b]? = h[b]?) : Blk h' b vs := by
 obtain ⟨t, lo, hi, hb, hf⟩ := k
 exact ⟨t, lo, hi, by rw [e]; exact hb, hf⟩

theorem Blk.hc {h : H} {b : Nat} {vs : List Value} (k : Blk h b vs) (o : Nat) : hc h ⟨b, o, none⟩ = vs[o]? := by
 obtain ⟨t, lo, hi, hb, _⟩ := k
 simp [Vc.hc, hb]
theorem Blk.hf {h : H} {b : Nat} {vs : List Value} (k : Blk h b vs) {o : Nat} (ho : o < vs.length) : hf h ⟨b, o, none⟩ = false := by
 obtain ⟨t, lo, hi, hb, hfz⟩ := k
 have := hfz o ho
 simp only [Vc.hf, hb]
 simp only [Bool.and_eq_false_imp, decide_eq_true_eq, decide_eq_false_iff_not]
 intro h1 h2; exact this ⟨h1, h2⟩
theorem Blk.can {h : H} {b : Nat} {vs : List Value} (k : Blk h b vs) {o n : Nat} (ho : o + n ≤ vs.length) : hcan h ⟨b, o, none⟩ n := by
 intro i hi
 have hl : o + i < vs.length := by omega
 rw [add_mk, k.hc, k.hf hl]
 simp [List.getElem?_eq_getElem hl]
theorem Blk.hcs {h : H} {b : Nat} {vs : List Value} (k : Blk h b vs) {o : Nat} {xs : List Value} (e : ∀ i, i < xs.length → vs[o + i]? = xs[i]?) : hcs h ⟨b, o, none⟩ xs := by
 intro i v hv
 rw [add_mk, k.hc, e i (List.getElem?_eq_some_iff.1 hv).1, hv]

/-! ### Writing -/
def splice (vs : List Value) : Nat → List Value → List Value
 | _, [] => vs
 | o, x :: r => splice (vs.set o x) (o + 1) r
@[simp] theorem splice_nil (vs : List Value) (o : Nat) : splice vs o [] = vs := rfl
@[simp] theorem splice_cons (vs : List Value) (o : Nat) (x : Value) (r : List Value) : splice vs o (x :: r) = splice (vs.set o x) (o + 1) r := rfl
@[simp] theorem splice_length (vs : List Value) (o : Nat) (xs : List Value) : (splice vs o xs).length = vs.length := by
 induction xs generalizing vs o with
 | nil => rfl
 | cons x r ih => simp [ih]
theorem splice_get (vs : List Value) (o : Nat) (xs : List Value) (i : Nat) : (splice vs o xs)[i]? = if o ≤ i ∧ i < o + xs.length ∧ i < vs.length then xs[i - o]? else vs[i]? := by
 induction xs generalizing vs o with
 | nil =>
  have : ¬ (o ≤ i ∧ i < o + ([] : List Value).length ∧ i < vs.length) := by simp; omega
  rw [if_neg this]; rfl
 | cons x r ih =>
  rw [splice_cons, ih]
  simp only [List.length_cons, List.length_set]
  by_cases h1 : o = i
  ·subst h1
   rw [if_neg (by omega)]
   by_cases h2 : o < vs.length
   ·rw [if_pos (by omega)]; simp [h2]
   ·rw [if_neg (by omega)]
    have : (vs.set o x) = vs := List.set_eq_of_length_le (by omega)
    rw [this]
  ·rw [List.getElem?_set_ne h1]
   by_cases h2 : o + 1 ≤ i ∧ i < o + 1 + r.length ∧ i < vs.length
   ·rw [if_pos h2, if_pos (by omega)]
    have : i - o = (i - (o + 1)) + 1 := by omega
    rw [this]; simp
   ·rw [if_neg h2, if_neg (by omega)]
theorem splice_all (vs xs : List Value) (h : xs.length = vs.length) : splice vs 0 xs = xs := by
 apply List.ext_getElem?
 intro i
 rw [splice_get]
 split
 ·simp
 ·rename_i hn
  rw [List.getElem?_eq_none (by omega), List.getElem?_eq_none (by omega)]
theorem splice_append (a b c xs : List Value) (h : xs.length = b.length) : splice (a ++ b ++ c) a.length xs = a ++ xs ++ c := by
 apply List.ext_getElem?
 intro i
 rw [splice_get]
 simp only [List.length_append]
 split
 ·rename_i hh
  rw [List.append_assoc, List.getElem?_append_right hh.1, List.getElem?_append_left (by omega)]
 ·rename_i hh
  rw [List.append_assoc, List.append_assoc]
  by_cases h1 : i < a.length
  ·rw [List.getElem?_append_left h1, List.getElem?_append_left h1]
  ·rw [List.getElem?_append_right (by omega), List.getElem?_append_right (by omega)]
   by_cases h2 : i - a.length < b.length
   ·omega
   ·rw [List.getElem?_append_right (by omega), List.getElem?_append_right (by omega), h]

theorem hs_eq {h : H} {b : Nat} {vs : List Value} (k : Blk h b vs) (o : Nat) (v : Value) : Blk (hs h ⟨b, o, none⟩ v) b (vs.set o v) := by
 obtain ⟨t, lo, hi, hb, hfz⟩ := k
 refine ⟨t, lo, hi, ?_, by simpa using hfz⟩
 simp only [hs, Array.getElem?_modify, hb]
 simp
theorem hs_ne (h : H) (a : Addr) (v : Value) {x : Nat} (hx : x ≠ a.block) : (hs h a v)[x]? = h[x]? := by
 simp only [hs, Array.getElem?_modify]
 rw [if_neg (by omega)]
theorem hs_size (h : H) (a : Addr) (v : Value) : (hs h a v).size = h.size := by simp [hs]
theorem hwrFrom_blk {h : H} {b : Nat} {vs : List Value} (k : Blk h b vs) (o : Nat) (xs : List Value) (j : Nat) : Blk (hwrFrom h ⟨b, o, none⟩ j xs) b (splice vs (o + j) xs) := by
 induction xs generalizing h vs j with
 | nil => exact k
 | cons x r ih =>
  simp only [hwrFrom, splice_cons, add_mk]
  exact ih (hs_eq k (o + j) x) (j + 1)
theorem add_block (a : Addr) (n : Nat) : (a.add n).block = a.block := by unfold Addr.add; split <;> rfl
theorem hwrFrom_ne (h : H) (a : Addr) (j : Nat) (xs : List Value) {x : Nat} (hx : x ≠ a.block) : (hwrFrom h a j xs)[x]? = h[x]? := by
 induction xs generalizing h j with
 | nil => rfl
 | cons y r ih => simp only [hwrFrom]; rw [ih, hs_ne]; rw [add_block]; exact hx
theorem hwrFrom_size (h : H) (a : Addr) (j : Nat) (xs : List Value) : (hwrFrom h a j xs).size = h.size := by
 induction xs generalizing h j with
 | nil => rfl
 | cons y r ih => simp only [hwrFrom]; rw [ih, hs_size]
theorem Blk.wr {h : H} {b : Nat} {vs : List Value} (k : Blk h b vs) (o : Nat) (xs : List Value) : Blk (hwr h ⟨b, o, none⟩ xs) b (splice vs o xs) := hwrFrom_blk k o xs 0
theorem hwr_ne (h : H) (a : Addr) (xs : List Value) {x : Nat} (hx : x ≠ a.block) : (hwr h a xs)[x]? = h[x]? := hwrFrom_ne h a 0 xs hx
theorem hwr_size (h : H) (a : Addr) (xs : List Value) : (hwr h a xs).size = h.size := hwrFrom_size h a 0 xs
/-! ### What is left alone -/
structure Ext (S : Nat → Prop) (h h' : H) : Prop where
 size : h.size ≤ h'.size
 eq : ∀ b, b < h.size → ¬ S b → h'[b]? = h[b]?
abbrev none_ : Nat → Prop := fun _ => False
theorem Ext.refl (S : Nat → Prop) (h : H) : Ext S h h := ⟨Nat.le_refl _, fun _ _ _ => rfl⟩
theorem Ext.trans {S : Nat → Prop} {h h' h'' : H} (a : Ext S h h') (b : Ext S h' h'') : Ext S h h'' :=
 ⟨Nat.le_trans a.size b.size, fun x hx hs => by rw [b.eq x (Nat.lt_of_lt_of_le hx a.size) hs, a.eq x hx hs]⟩
theorem Ext.mono {S T : Nat → Prop} {h h' : H} (a : Ext S h h') (st : ∀ b, b < h.size → S b → T b) : Ext T h h' :=
 ⟨a.size, fun x hx hs => a.eq x hx fun h => hs (st x hx h)⟩
theorem Ext.comp {S T : Nat → Prop} {h h' h'' : H} (a : Ext S h h') (b : Ext T h' h'') (st : ∀ x, x < h.size → T x → S x) : Ext S h h'' :=
 ⟨Nat.le_trans a.size b.size, fun x hx hs => by rw [b.eq x (Nat.lt_of_lt_of_le hx a.size) (fun t => hs (st x hx t)), a.eq x hx hs]⟩
theorem Ext.blk {S : Nat → Prop} {h h' : H} (a : Ext S h h') {b : Nat} {vs : List Value} (k : Blk h b vs) (hb : ¬ S b) : Blk h' b vs := k.of_eq (a.eq b k.lt hb)
theorem Ext.wr (h : H) (b o : Nat) (xs : List Value) : Ext (fun x => x = b) h (hwr h ⟨b, o, none⟩ xs) :=
 ⟨by rw [hwr_size]; exact Nat.le_refl _, fun x _ hx => hwr_ne h _ xs hx⟩
theorem hnew.size {h h' : H} {b : Nat} {c : List Value} (n : hnew h b c h') : h'.size = h.size + 1 := by
 obtain ⟨_, t, lo, hi, _, rfl⟩ := n; simp
theorem hnew.b {h h' : H} {b : Nat} {c : List Value} (n : hnew h b c h') : b = h.size := n.1
theorem hnew.ext {h h' : H} {b : Nat} {c : List Value} (n : hnew h b c h') : Ext none_ h h' := by
 refine ⟨by rw [n.size]; omega, ?_⟩
 obtain ⟨_, t, lo, hi, _, rfl⟩ := n
 intro x hx _
 rw [Array.getElem?_push]; rw [if_neg (by omega)]
theorem hnew.blk {h h' : H} {b : Nat} {c : List Value} (n : hnew h b c h') : Blk h' b c := by
 obtain ⟨rfl, t, lo, hi, hf, rfl⟩ := n
 exact ⟨t, lo, hi, by simp, hf⟩
theorem Blk.ne {h : H} {b b' : Nat} {vs vs' : List Value} (k : Blk h b vs) (k' : ¬ b' < h.size) : b ≠ b' := fun e => k' (e ▸ k.lt)

/-! ### Rows of integers -/
@[simp] theorem ints_nil (k : IntKind) : ints k [] = [] := rfl
@[simp] theorem ints_cons (k : IntKind) (n : Int) (r : List Int) : ints k (n :: r) = .int k n :: ints k r := rfl
@[simp] theorem ints_length (k : IntKind) (ns : List Int) : (ints k ns).length = ns.length := by simp [ints]
@[simp] theorem ints_append (k : IntKind) (a b : List Int) : ints k (a ++ b) = ints k a ++ ints k b := by simp [ints]
theorem ints_get (k : IntKind) (ns : List Int) (i : Nat) : (ints k ns)[i]? = ns[i]?.map (Value.int k) := by simp [ints]
@[simp] theorem zeros_length (n : Nat) : (zeros n).length = n := by simp [zeros]
theorem Blk.hrow {h : H} {b : Nat} {vs : List Value} (k : Blk h b vs) {o : Nat} {kd : IntKind} {ns : List Int} (e : ∀ i, i < ns.length → vs[o + i]? = ns[i]?.map (Value.int kd)) : hrow h ⟨b, o, none⟩ kd ns := by
 apply k.hcs
 intro i hi
 rw [e i (by simpa using hi), ints_get]
@[simp] theorem oneCell_int (k : IntKind) (n : Int) : (Value.int k n).oneCell' = true := rfl
end Go.Vc
end

/- Slices: what they hold, who owns it, and appending. Own work; generic over any program. -/
section
set_option linter.unusedVariables false
namespace Go.Vc

theorem hc_congr {h h' : H} {a : Addr} (e : h'[a.block]? = h[a.block]?) : hc h' a = hc h a := by simp only [hc, e]
theorem hc_lt {h : H} {a : Addr} {v : Value} (e : hc h a = some v) : a.block < h.size := by
 rcases Nat.lt_or_ge a.block h.size with k | k
 ·exact k
 ·simp [hc, Array.getElem?_eq_none k] at e
theorem hc_ext {S : Nat → Prop} {h h' : H} (x : Ext S h h') {a : Addr} {v : Value} (e : hc h a = some v) (hs : ¬ S a.block) : hc h' a = some v := by
 rw [hc_congr (x.eq _ (hc_lt e) hs), e]
theorem hcs_ext {S : Nat → Prop} {h h' : H} (x : Ext S h h') {a : Addr} {vs : List Value} (e : hcs h a vs) (hs : ¬ S a.block) : hcs h' a vs := by
 intro i v hv
 exact hc_ext x (e i v hv) (by rw [add_block]; exact hs)
theorem hsv_ext {S : Nat → Prop} {h h' : H} (x : Ext S h h') {p : Option Addr} {sz l : Nat} {vs : List Value} (e : hsv h p sz l vs) (hs : ∀ q, p = some q → ¬ S q.block) : hsv h' p sz l vs := by
 obtain ⟨h1, h2, h3⟩ := e
 refine ⟨h1, h2, ?_⟩
 rcases h3 with h3 | ⟨q, hq, h3⟩
 ·exact Or.inl h3
 ·exact Or.inr ⟨q, hq, hcs_ext x h3 (hs q hq)⟩
theorem hsv_none {h : H} {sz l : Nat} {vs : List Value} (e : hsv h none sz l vs) : vs = [] := by
 obtain ⟨_, _, h3⟩ := e
 rcases h3 with h3 | ⟨q, hq, _⟩
 ·exact h3
 ·cases hq
theorem hsv_get {h : H} {p : Option Addr} {sz l : Nat} {vs : List Value} (e : hsv h p sz l vs) {i : Nat} {v : Value} (hi : vs[i]? = some v) : ∃ q, p = some q ∧ hc h (q.add i) = some v := by
 obtain ⟨_, _, h3⟩ := e
 rcases h3 with h3 | ⟨q, hq, h3⟩
 ·subst h3; simp at hi
 ·exact ⟨q, hq, h3 i v hi⟩
def OwnS (h : H) (p : Option Addr) (l c sz : Nat) (vs : List Value) (bs : List Nat) : Prop :=
 vs.length = l * sz ∧ l ≤ c ∧ (∀ v, v ∈ vs → v.oneCell' = true) ∧
  ((l = 0 ∧ c = 0 ∧ bs = []) ∨ ∃ b rest, p = some ⟨b, 0, none⟩ ∧ bs = [b] ∧ Blk h b (vs ++ rest) ∧ (c - l) * sz ≤ rest.length)
theorem OwnS.hsv {h : H} {p : Option Addr} {l c sz : Nat} {vs : List Value} {bs : List Nat} (o : OwnS h p l c sz vs bs) : hsv h p sz l vs := by
 obtain ⟨h1, h2, h3, h4⟩ := o
 refine ⟨h1, h3, ?_⟩
 rcases h4 with ⟨rfl, _, _⟩ | ⟨b, rest, rfl, _, k, _⟩
 ·left; apply List.eq_nil_of_length_eq_zero; simp [h1]
 ·right
  exact ⟨_, rfl, k.hcs fun i hi => by rw [Nat.zero_add, List.getElem?_append_left hi]⟩
theorem OwnS.lt {h : H} {p : Option Addr} {l c sz : Nat} {vs : List Value} {bs : List Nat} (o : OwnS h p l c sz vs bs) : ∀ b, b ∈ bs → b < h.size := by
 obtain ⟨_, _, _, h4⟩ := o
 rcases h4 with ⟨_, _, rfl⟩ | ⟨b, rest, _, rfl, k, _⟩
 ·intro b hb; simp at hb
 ·intro b' hb; simp at hb; subst hb; exact k.lt
theorem OwnS.ext {S : Nat → Prop} {h h' : H} (x : Ext S h h') {p : Option Addr} {l c sz : Nat} {vs : List Value} {bs : List Nat} (o : OwnS h p l c sz vs bs) (hs : ∀ b, b ∈ bs → ¬ S b) : OwnS h' p l c sz vs bs := by
 obtain ⟨h1, h2, h3, h4⟩ := o
 refine ⟨h1, h2, h3, ?_⟩
 rcases h4 with h4 | ⟨b, rest, hp, rfl, k, hr⟩
 ·exact Or.inl h4
 ·exact Or.inr ⟨b, rest, hp, rfl, x.blk k (hs b (by simp)), hr⟩
theorem OwnS.nil (h : H) (p : Option Addr) (sz : Nat) : OwnS h p 0 0 sz [] [] := ⟨by simp, Nat.le_refl _, by simp, Or.inl ⟨rfl, rfl, rfl⟩⟩

theorem flatten_replicate_length {α : Type} (n : Nat) (z : List α) : (List.replicate n z).flatten.length = n * z.length := by
 induction n with
 | zero => simp
 | succ n ih => simp [List.replicate_succ, Nat.succ_mul, ih]; omega

def newB (h : H) (bs : List Nat) : Prop := ∀ b, b ∈ bs → h.size ≤ b
theorem newB.ext {S : Nat → Prop} {h h' : H} (x : Ext S h h') {bs : List Nat} (n : newB h' bs) : newB h bs := fun b hb => Nat.le_trans x.size (n b hb)

theorem pApp_empty {h : H} {sz : Nat} {z : List Value} {B : Nat} {p : Option Addr} {n : Nat} {vs : List Value} {K : Option Addr → Nat → Nat → H → Prop}
  (hl : vs.length = n * sz) (hz : z.length = sz) (hv : ∀ v, v ∈ vs → v.oneCell' = true) (hb : n * B ≤ 2 ^ 47)
  (hk : ∀ p' c' h' bs, Ext none_ h h' → OwnS h' p' n c' sz vs bs → newB h bs → K p' n c' h') : pApp h sz z B p 0 0 n vs K := by
 unfold pApp
 by_cases hn : n = 0
 ·subst hn
  have hv0 : vs = [] := List.eq_nil_of_length_eq_zero (by simp [hl])
  subst hv0
  rw [if_pos (by simp)]
  refine ⟨Or.inl rfl, fun h' e => ?_⟩
  have e' : h' = h := by rw [e]; cases p <;> rfl
  subst e'
  exact hk _ _ _ [] (Ext.refl _ _) (OwnS.nil _ _ _) (by intro b hb; simp at hb)
 ·rw [if_neg (by omega)]
  refine ⟨by simpa using hb, [], ⟨by simp, by simp, Or.inl rfl⟩, fun c' b h' hc hw => ?_⟩
  have : (0 + n) = n := by omega
  rw [this] at hc ⊢
  refine hk _ _ _ [b] hw.ext ⟨hl, hc, hv, Or.inr ⟨b, (List.replicate (c' - (0 + n)) z).flatten, rfl, rfl, ?_, ?_⟩⟩ ?_
  ·simpa using hw.blk
  ·rw [flatten_replicate_length, hz, this]; exact Nat.le_refl _
  ·intro x hx; simp at hx; subst hx; rw [hw.b]; exact Nat.le_refl _

theorem pApp_own {h : H} {sz : Nat} {z : List Value} {B : Nat} {p : Option Addr} {l c n : Nat} {old vs : List Value} {bs : List Nat} {K : Option Addr → Nat → Nat → H → Prop}
  (o : OwnS h p l c sz old bs) (hl : vs.length = n * sz) (hz : z.length = sz) (hv : ∀ v, v ∈ vs → v.oneCell' = true) (hb : (l + n) * B ≤ 2 ^ 47)
  (hk : ∀ p' c' h' bs', Ext (fun b => b ∈ bs) h h' → OwnS h' p' (l + n) c' sz (old ++ vs) bs' → (∀ b, b ∈ bs' → b ∈ bs ∨ h.size ≤ b) → K p' (l + n) c' h') : pApp h sz z B p l c n vs K := by
 have ohs := o.hsv
 have olt := o.lt
 obtain ⟨h1, h2, h3, h4⟩ := o
 have hov : ∀ v, v ∈ old ++ vs → v.oneCell' = true := by
  intro v hm; rcases List.mem_append.1 hm with hm | hm
  ·exact h3 v hm
  ·exact hv v hm
 have hlen : (old ++ vs).length = (l + n) * sz := by simp [h1, hl, Nat.add_mul]
 unfold pApp
 split
 ·rename_i hroom
  rcases h4 with ⟨rfl, rfl, rfl⟩ | ⟨b, rest, rfl, rfl, k, hr⟩
  ·have hn : n = 0 := by omega
   subst hn
   have hv0 : vs = [] := List.eq_nil_of_length_eq_zero (by simp [hl])
   have ho0 : old = [] := List.eq_nil_of_length_eq_zero (by simp [h1])
   subst hv0; subst ho0
   refine ⟨Or.inl rfl, fun h' e => ?_⟩
   have e' : h' = h := by rw [e]; cases p <;> rfl
   subst e'
   exact hk _ _ _ [] (Ext.refl _ _) (OwnS.nil _ _ _) (by intro b hb; simp at hb)
  ·have hnr : n * sz ≤ rest.length := by
    have : n * sz ≤ (c - l) * sz := Nat.mul_le_mul_right _ (by omega)
    omega
   refine ⟨Or.inr ⟨_, rfl, ?_⟩, fun h' e => ?_⟩
   ·rw [add_mk]; apply k.can; simp [h1]; omega
   ·simp only [Option.map_some, hwrO, add_mk, Nat.zero_add] at e
    have hs : splice (old ++ rest) (l * sz) vs = (old ++ vs) ++ rest.drop (n * sz) := by
     have : old ++ rest = old ++ rest.take (n * sz) ++ rest.drop (n * sz) := by simp
     rw [this, ← h1, splice_append]
     simp [hl, Nat.min_eq_left hnr]
    have kb := k.wr (l * sz) vs
    rw [hs] at kb
    subst e
    refine hk _ _ _ [b] ⟨by rw [hwr_size]; exact Nat.le_refl _, fun x _ hx => hwr_ne _ _ _ (by simpa using hx)⟩ ⟨hlen, hroom, hov, Or.inr ⟨b, rest.drop (n * sz), rfl, rfl, kb, ?_⟩⟩ (fun x hx => Or.inl hx)
    simp
    have : c - (l + n) = (c - l) - n := by omega
    rw [this, Nat.sub_mul]; omega
 ·rename_i hroom
  refine ⟨hb, old, ohs, fun c' b h' hc hw => ?_⟩
  refine hk _ _ _ [b] (hw.ext.mono fun _ _ hf => hf.elim) ⟨hlen, hc, hov, Or.inr ⟨b, (List.replicate (c' - (l + n)) z).flatten, rfl, rfl, ?_, ?_⟩⟩ ?_
  ·exact hw.blk
  ·rw [flatten_replicate_length, hz]; exact Nat.le_refl _
  ·intro x hx; simp at hx; subst hx; right; rw [hw.b]; exact Nat.le_refl _
end Go.Vc
end

/- Loops that count up. Own work; generic over any program. -/
section
set_option linter.unusedVariables false
namespace Go.Vc
abbrev si (i : Nat) : SV := .dv (.one (.int .i64 (i : Int)))
theorem loop_up {J : List SV → H → Prop} (N : Nat) (Inv : Nat → H → Prop) (step : ∀ i h, i < N → Inv i h → (∀ h', Inv (i + 1) h' → J [si (i + 1)] h') → J [si i] h)
  (exit : ∀ h, Inv N h → J [si N] h) (i : Nat) (h : H) (hi : i ≤ N) (inv : Inv i h) : J [si i] h := by
 generalize e : N - i = n
 induction n generalizing i h with
 | zero =>
  have : i = N := by omega
  subst this; exact exit h inv
 | succ n ih => exact step i h (by omega) inv fun h' inv' => ih (i + 1) h' (by omega) inv' (by omega)
theorem wrap_succ {i : Nat} (h : i < 2 ^ 62) : IntKind.i64.wrap ((i : Int) + 1) = ((i + 1 : Nat) : Int) := by
 rw [IntKind.wrap_i64]; omega
theorem wrap_id {n : Int} (h : -(2 ^ 62) ≤ n ∧ n ≤ 2 ^ 62) : IntKind.i64.wrap n = n := by
 rw [IntKind.wrap_i64]; omega
def mapTo (g : Nat → Int → Int) (i : Nat) (ns : List Int) : List Int := ns.mapIdx fun j v => if j < i then g j v else v
@[simp] theorem mapTo_length (g : Nat → Int → Int) (i : Nat) (ns : List Int) : (mapTo g i ns).length = ns.length := by simp [mapTo]
theorem mapTo_get (g : Nat → Int → Int) (i : Nat) (ns : List Int) (j : Nat) : (mapTo g i ns)[j]? = ns[j]?.map fun v => if j < i then g j v else v := by simp [mapTo]
@[simp] theorem mapTo_zero (g : Nat → Int → Int) (ns : List Int) : mapTo g 0 ns = ns := by
 apply List.ext_getElem?; intro j; rw [mapTo_get]; simp
theorem ints_set (k : IntKind) (ns : List Int) (i : Nat) (n : Int) : (ints k ns).set i (.int k n) = ints k (ns.set i n) := by simp [ints, List.map_set]
end Go.Vc
end
