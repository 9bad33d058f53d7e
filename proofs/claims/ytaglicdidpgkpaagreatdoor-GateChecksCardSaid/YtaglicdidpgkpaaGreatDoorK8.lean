/- GateChecks: what is proved and its parts, laid together by a program of ours: F F Hp Hs Lp Sl -/
import Derived.Test.YtaglicdidpgkpaaGreatDoorK7
set_option autoImplicit false
set_option linter.all false
/- Denotations of functions of the program, printed by a program of ours, and that they are the model's. -/
section
set_option linter.unusedVariables false
set_option maxRecDepth 100000
namespace Go.Proofs.YtaglicdidpgkpaaGreatDoor
open Go Go.Vc
def G_portcullisref11_May (a0_0 : Int) (a0_1 : Int) (a0_2 : Int) (a0_3p : OA) (a0_3l : Nat) (a0_3c : Nat) (a0_4 : List Int) (Q : Int → H → Prop) (h : H) : Prop := ∀ n9 h10, hnew h n9 (.int .i64 a0_0 :: .int .i64 a0_1 :: .int .i64 a0_2 :: .slice a0_3p a0_3l a0_3c :: (ints .u8 a0_4 ++ [])) h10 → ∀ (J12 : JT), (∀ (h13 : H), (∃ o14 n15 n16, hc h13 ⟨n9, 3, none⟩ = some (.slice o14 n15 n16) ∧ if ltI 524240 n15 = true then Q 4 h13 else Q 0 h13) → J12 [] h13) → ∃ i19, hc h10 ⟨n9, 0, none⟩ = some (.int .i64 i19) ∧ if ltI i19 0 = true then Q 2 h10 else ∃ i20, hc h10 ⟨n9, 0, none⟩ = some (.int .i64 i20) ∧ if ltI 7 i20 = true then Q 2 h10 else ∃ i21, hc h10 ⟨n9, 1, none⟩ = some (.int .i64 i21) ∧ if ltI i21 0 = true then Q 2 h10 else ∃ i22, hc h10 ⟨n9, 1, none⟩ = some (.int .i64 i22) ∧ if ltI 63 i22 = true then Q 2 h10 else ∃ i23, hc h10 ⟨n9, 2, none⟩ = some (.int .i64 i23) ∧ if ltI i23 0 = true then Q 2 h10 else ∃ i24, hc h10 ⟨n9, 2, none⟩ = some (.int .i64 i24) ∧ ∀ (i25 : Int), i25 = 4294967295 → if ltI i25 i24 = true then Q 2 h10 else J12 [] h10
theorem E_portcullisref11_May : ∀ a0_0 a0_1 a0_2 a0_3p a0_3l a0_3c a0_4 Q h, G_portcullisref11_May a0_0 a0_1 a0_2 a0_3p a0_3l a0_3c a0_4 Q h = Dbody PP [] [(3, [])] Tryz.f37 [.agg [.c (.int .i64 a0_0), .c (.int .i64 a0_1), .c (.int .i64 a0_2), .c (.slice a0_3p a0_3l a0_3c), .row .u8 32 a0_4]] (decR [.int .i64] Q) h := by intros; kernel_rfl
def F_portcullisref11_May := G_portcullisref11_May
theorem R_portcullisref11_May : RunOk PP 37 (W [.ag [.int .i64, .int .i64, .int .i64, .slc, .row .u8 32]] [.int .i64] F_portcullisref11_May) := runOk_of (TblOk.nil) Tryz.func37 (by kernel_rfl) (by kernel_rfl) (E_portcullisref11_May)
attribute [irreducible] F_portcullisref11_May
def G_portcullisref11_Make (c0 : Int → Int → Int → OA → Nat → Nat → List Int → (Int → H → Prop) → H → Prop) (c1 : OA → Nat → Nat → OA → Nat → Nat → (List Int → H → Prop) → H → Prop) (c2 : Int → Int → Int → OA → Nat → Nat → List Int → (OA → Nat → Nat → H → Prop) → H → Prop) (c3 : Int → Int → Int → OA → Nat → Nat → List Int → (OA → Nat → Nat → H → Prop) → H → Prop) (a0p : OA) (a0l : Nat) (a0c : Nat) (a1_0 : Int) (a1_1 : Int) (a1_2 : Int) (a1_3p : OA) (a1_3l : Nat) (a1_3c : Nat) (a1_4 : List Int) (Q : OA → Nat → Nat → Int → H → Prop) (h : H) : Prop := ∀ n16 h17, hnew h n16 (.int .i64 a1_0 :: .int .i64 a1_1 :: .int .i64 a1_2 :: .slice a1_3p a1_3l a1_3c :: (ints .u8 a1_4 ++ [])) h17 → ∃ i19, hc h17 ⟨n16, 0, none⟩ = some (.int .i64 i19) ∧ ∃ i20, hc h17 ⟨n16, 1, none⟩ = some (.int .i64 i20) ∧ ∃ i21, hc h17 ⟨n16, 2, none⟩ = some (.int .i64 i21) ∧ ∃ o22 n23 n24, hc h17 ⟨n16, 3, none⟩ = some (.slice o22 n23 n24) ∧ ∃ (l25 : List Int), l25.length = 32 ∧ hrow h17 ⟨n16, 4, none⟩ .u8 l25 ∧ c0 i19 i20 i21 o22 n23 n24 l25 (fun i26 h27 => if (i26 != 0) = true then Q none 0 0 i26 h27 else ∃ i28, hc h27 ⟨n16, 0, none⟩ = some (.int .i64 i28) ∧ ∃ i29, hc h27 ⟨n16, 1, none⟩ = some (.int .i64 i29) ∧ ∃ i30, hc h27 ⟨n16, 2, none⟩ = some (.int .i64 i30) ∧ ∃ o31 n32 n33, hc h27 ⟨n16, 3, none⟩ = some (.slice o31 n32 n33) ∧ ∃ (l34 : List Int), l34.length = 32 ∧ hrow h27 ⟨n16, 4, none⟩ .u8 l34 ∧ c3 i28 i29 i30 o31 n32 n33 l34 (fun o35 n36 n37 h38 => c1 a0p a0l a0c o35 n36 n37 (fun l39 h40 => hcan h40 ⟨n16, 4, none⟩ 32 ∧ ∀ h41, h41 = hwr h40 ⟨n16, 4, none⟩ (ints .u8 l39 ++ []) → ∃ i43, hc h41 ⟨n16, 0, none⟩ = some (.int .i64 i43) ∧ ∃ i44, hc h41 ⟨n16, 1, none⟩ = some (.int .i64 i44) ∧ ∃ i45, hc h41 ⟨n16, 2, none⟩ = some (.int .i64 i45) ∧ ∃ o46 n47 n48, hc h41 ⟨n16, 3, none⟩ = some (.slice o46 n47 n48) ∧ ∃ (l49 : List Int), l49.length = 32 ∧ hrow h41 ⟨n16, 4, none⟩ .u8 l49 ∧ c2 i43 i44 i45 o46 n47 n48 l49 (fun o50 n51 n52 h53 => Q o50 n51 n52 0 h53) h41) h38) h27) h17
theorem E_portcullisref11_Make : ∀ c0 c1 c2 c3 a0p a0l a0c a1_0 a1_1 a1_2 a1_3p a1_3l a1_3c a1_4 Q h, G_portcullisref11_Make c0 c1 c2 c3 a0p a0l a0c a1_0 a1_1 a1_2 a1_3p a1_3l a1_3c a1_4 Q h = Dbody PP [(37, W [.ag [.int .i64, .int .i64, .int .i64, .slc, .row .u8 32]] [.int .i64] c0), (41, W [.slc, .slc] [.ag [.row .u8 32]] c1), (89, W [.ag [.int .i64, .int .i64, .int .i64, .slc, .row .u8 32]] [.slc] c2), (163, W [.ag [.int .i64, .int .i64, .int .i64, .slc, .row .u8 32]] [.slc] c3)] [] Tryz.f90 [.one (.slice a0p a0l a0c), .agg [.c (.int .i64 a1_0), .c (.int .i64 a1_1), .c (.int .i64 a1_2), .c (.slice a1_3p a1_3l a1_3c), .row .u8 32 a1_4]] (decR [.slc, .int .i64] Q) h := by intros; kernel_rfl
def F_portcullisref11_Make := G_portcullisref11_Make F_portcullisref11_May F_portcullisref03_Of F_portcullisref11_Tagged F_portcullisref11_Cover
theorem R_portcullisref11_Make : RunOk PP 90 (W [.slc, .ag [.int .i64, .int .i64, .int .i64, .slc, .row .u8 32]] [.slc, .int .i64] F_portcullisref11_Make) := runOk_of (TblOk.cons R_portcullisref11_May (TblOk.cons R_portcullisref03_Of (TblOk.cons R_portcullisref11_Tagged (TblOk.cons R_portcullisref11_Cover (TblOk.nil))))) Tryz.func90 (by kernel_rfl) (by kernel_rfl) (E_portcullisref11_Make _ _ _ _)
attribute [irreducible] F_portcullisref11_Make
def G_portcullislaw13_awake (c0 : Addr → Addr → OA → Nat → Nat → (Int → Int → Int → OA → Nat → Nat → List Int → Int → H → Prop) → H → Prop) (c1 : OA → Nat → Nat → (OA → Int → Int → H → Prop) → H → Prop) (c2 : Addr → (OA → Int → H → Prop) → H → Prop) (c3 : Int → Int → Int → Int → Int → Int → Int → (OA → Int → H → Prop) → H → Prop) (c4 : Int → Int → Int → OA → Nat → Nat → List Int → (OA → Nat → Nat → H → Prop) → H → Prop) (c5 : OA → Nat → Nat → Int → Int → Int → OA → Nat → Nat → List Int → (OA → Nat → Nat → Int → H → Prop) → H → Prop) (Q : Bool → H → Prop) (h : H) : Prop := c3 8 2 3 10 4 5 0 (fun o8 i9 h10 => ∀ n11 h12, hnew h10 n11 [.int .u8 7] h12 → ∀ n14 h15, hnew h12 n14 [.int .i64 1, .slice (some (Addr.mk n11 0 none)) 1 1] h15 → c1 (some (Addr.mk n14 0 none)) 1 1 (fun o17 i18 i19 h20 => ∀ (J21 : JT), (∀ (h22 : H), (∃ p23, o8 = some p23 ∧ c2 p23 (fun o24 i25 h26 => ∀ (J27 : JT), (∀ (h28 : H), c4 1 1 5 none 0 0 (zeros 32) (fun o29 n30 n31 h32 => ∃ p33, o24 = some p33 ∧ ∃ p34, o17 = some p34 ∧ c0 p33 p34 o29 n30 n31 (fun i35 i36 i37 o38 n39 n40 l41 i42 h43 => ∀ n44 h45, hnew h43 n44 (.int .i64 0 :: .int .i64 0 :: .int .i64 0 :: .slice none 0 0 :: ints .u8 (zeros 32)) h45 → hcan h45 ⟨n44, 0, none⟩ 36 ∧ ∀ h47, h47 = hwr h45 ⟨n44, 0, none⟩ (.int .i64 i35 :: .int .i64 i36 :: .int .i64 i37 :: .slice o38 n39 n40 :: (ints .u8 l41 ++ [])) → ∀ n49 h50, hnew h47 n49 [.int .u8 7] h50 → c5 (some (Addr.mk n49 0 none)) 1 1 1 1 5 none 0 0 (zeros 32) (fun o52 n53 n54 i55 h56 => ∃ p57, o24 = some p57 ∧ ∃ p58, o17 = some p58 ∧ c0 p57 p58 o52 n53 n54 (fun i59 i60 i61 o62 n63 n64 l65 i66 h67 => ∀ n68 h69, hnew h67 n68 (.int .i64 0 :: .int .i64 0 :: .int .i64 0 :: .slice none 0 0 :: ints .u8 (zeros 32)) h69 → hcan h69 ⟨n68, 0, none⟩ 36 ∧ ∀ h71, h71 = hwr h69 ⟨n68, 0, none⟩ (.int .i64 i59 :: .int .i64 i60 :: .int .i64 i61 :: .slice o62 n63 n64 :: (ints .u8 l65 ++ [])) → ∃ p73, o24 = some p73 ∧ ∃ p74, o17 = some p74 ∧ c0 p73 p74 none 0 0 (fun i75 i76 i77 o78 n79 n80 l81 i82 h83 => ∀ n84 h85, hnew h83 n84 (.int .i64 0 :: .int .i64 0 :: .int .i64 0 :: .slice none 0 0 :: ints .u8 (zeros 32)) h85 → hcan h85 ⟨n84, 0, none⟩ 36 ∧ ∀ h87, h87 = hwr h85 ⟨n84, 0, none⟩ (.int .i64 i75 :: .int .i64 i76 :: .int .i64 i77 :: .slice o78 n79 n80 :: (ints .u8 l81 ++ [])) → if (i42 == 15) = true then if (i66 == 0) = true then ∃ i89, hc h87 ⟨n68, 2, none⟩ = some (.int .i64 i89) ∧ if (i89 == 5) = true then Q (i82 == 6) h87 else Q false h87 else Q false h87 else Q false h87) h71) h56) h50) h32) h28 → J27 [] h28) → if (i25 != 0) = true then Q false h26 else if o24.isNone = true then Q false h26 else J27 [] h26) h22) → J21 [] h22) → if (i9 != 0) = true then Q false h20 else if (i18 != 0) = true then Q false h20 else if o8.isNone = true then Q false h20 else if o17.isNone = true then Q false h20 else J21 [] h20) h15) h
theorem E_portcullislaw13_awake : ∀ c0 c1 c2 c3 c4 c5 Q h, G_portcullislaw13_awake c0 c1 c2 c3 c4 c5 Q h = Dbody PP [(34, W [.addr, .addr, .slc] [.ag [.int .i64, .int .i64, .int .i64, .slc, .row .u8 32], .int .i64] c0), (55, W [.slc] [.ptr, .int .i64, .int .i64] c1), (63, W [.addr] [.ptr, .int .i64] c2), (88, W [.ag [.int .i64, .int .i64, .int .i64, .int .i64, .int .i64, .int .i64, .int .i64]] [.ptr, .int .i64] c3), (89, W [.ag [.int .i64, .int .i64, .int .i64, .slc, .row .u8 32]] [.slc] c4), (90, W [.slc, .ag [.int .i64, .int .i64, .int .i64, .slc, .row .u8 32]] [.slc, .int .i64] c5)] [(15, []), (63, [])] Tryz.f30 [] (decR [.bool] Q) h := by intros; kernel_rfl
def F_portcullislaw13_awake := G_portcullislaw13_awake F_gate_Check F_keys_New F_store_Mount F_chip_New F_portcullisref11_Tagged F_portcullisref11_Make
theorem R_portcullislaw13_awake : RunOk PP 30 (W [] [.bool] F_portcullislaw13_awake) := runOk_of (TblOk.cons R_gate_Check (TblOk.cons R_keys_New (TblOk.cons R_store_Mount (TblOk.cons R_chip_New (TblOk.cons R_portcullisref11_Tagged (TblOk.cons R_portcullisref11_Make (TblOk.nil))))))) Tryz.func30 (by kernel_rfl) (by kernel_rfl) (E_portcullislaw13_awake _ _ _ _ _ _)
attribute [irreducible] F_portcullislaw13_awake
def G_portcullislaw13_scene (c0 : OA → Nat → Nat → (OA → Int → Int → H → Prop) → H → Prop) (c1 : Int → Int → Int → Int → Int → Int → Int → OA → Nat → Nat → OA → Nat → Nat → OA → Nat → Nat → (OA → Int → H → Prop) → H → Prop) (c2 : Addr → (OA → Int → H → Prop) → H → Prop) (a0_0 : Int) (a0_1 : Int) (a0_2 : Int) (a0_3 : Int) (a0_4 : Int) (a0_5 : Int) (a0_6 : Int) (a0_7p : OA) (a0_7l : Nat) (a0_7c : Nat) (a0_8p : OA) (a0_8l : Nat) (a0_8c : Nat) (a0_9p : OA) (a0_9l : Nat) (a0_9c : Nat) (a0_10p : OA) (a0_10l : Nat) (a0_10c : Nat) (Q : OA → OA → OA → Bool → H → Prop) (h : H) : Prop := ∀ n24 h25, hnew h n24 [.int .i64 a0_0, .int .i64 a0_1, .int .i64 a0_2, .int .i64 a0_3, .int .i64 a0_4, .int .i64 a0_5, .int .i64 a0_6, .slice a0_7p a0_7l a0_7c, .slice a0_8p a0_8l a0_8c, .slice a0_9p a0_9l a0_9c, .slice a0_10p a0_10l a0_10c] h25 → ∃ i27, hc h25 ⟨n24, 0, none⟩ = some (.int .i64 i27) ∧ ∃ i28, hc h25 ⟨n24, 1, none⟩ = some (.int .i64 i28) ∧ ∃ i29, hc h25 ⟨n24, 2, none⟩ = some (.int .i64 i29) ∧ ∃ i30, hc h25 ⟨n24, 3, none⟩ = some (.int .i64 i30) ∧ ∃ i31, hc h25 ⟨n24, 4, none⟩ = some (.int .i64 i31) ∧ ∃ i32, hc h25 ⟨n24, 5, none⟩ = some (.int .i64 i32) ∧ ∃ i33, hc h25 ⟨n24, 6, none⟩ = some (.int .i64 i33) ∧ ∃ o34 n35 n36, hc h25 ⟨n24, 7, none⟩ = some (.slice o34 n35 n36) ∧ ∃ o37 n38 n39, hc h25 ⟨n24, 8, none⟩ = some (.slice o37 n38 n39) ∧ ∃ o40 n41 n42, hc h25 ⟨n24, 9, none⟩ = some (.slice o40 n41 n42) ∧ c1 i27 i28 i29 i30 i31 i32 i33 o34 n35 n36 o37 n38 n39 o40 n41 n42 (fun o43 i44 h45 => ∃ o46 n47 n48, hc h45 ⟨n24, 10, none⟩ = some (.slice o46 n47 n48) ∧ c0 o46 n47 n48 (fun o49 i50 i51 h52 => ∀ (J53 : JT), (∀ (h54 : H), (∃ p55, o43 = some p55 ∧ c2 p55 (fun o56 i57 h58 => if (i57 == 0) = true then Q o43 o56 o49 (!o56.isNone) h58 else Q o43 o56 o49 false h58) h54) → J53 [] h54) → if (i44 != 0) = true then Q none none none false h52 else if (i50 != 0) = true then Q none none none false h52 else if o43.isNone = true then Q none none none false h52 else if o49.isNone = true then Q none none none false h52 else J53 [] h52) h45) h25
theorem E_portcullislaw13_scene : ∀ c0 c1 c2 a0_0 a0_1 a0_2 a0_3 a0_4 a0_5 a0_6 a0_7p a0_7l a0_7c a0_8p a0_8l a0_8c a0_9p a0_9l a0_9c a0_10p a0_10l a0_10c Q h, G_portcullislaw13_scene c0 c1 c2 a0_0 a0_1 a0_2 a0_3 a0_4 a0_5 a0_6 a0_7p a0_7l a0_7c a0_8p a0_8l a0_8c a0_9p a0_9l a0_9c a0_10p a0_10l a0_10c Q h = Dbody PP [(55, W [.slc] [.ptr, .int .i64, .int .i64] c0), (60, W [.ag [.int .i64, .int .i64, .int .i64, .int .i64, .int .i64, .int .i64, .int .i64], .ag [.slc, .slc, .slc]] [.ptr, .int .i64] c1), (63, W [.addr] [.ptr, .int .i64] c2)] [(15, [])] Tryz.f31 [.agg [.c (.int .i64 a0_0), .c (.int .i64 a0_1), .c (.int .i64 a0_2), .c (.int .i64 a0_3), .c (.int .i64 a0_4), .c (.int .i64 a0_5), .c (.int .i64 a0_6), .c (.slice a0_7p a0_7l a0_7c), .c (.slice a0_8p a0_8l a0_8c), .c (.slice a0_9p a0_9l a0_9c), .c (.slice a0_10p a0_10l a0_10c)]] (decR [.ptr, .ptr, .ptr, .bool] Q) h := by intros; kernel_rfl
def F_portcullislaw13_scene := G_portcullislaw13_scene F_keys_New F_chip_Lay F_store_Mount
theorem R_portcullislaw13_scene : RunOk PP 31 (W [.ag [.int .i64, .int .i64, .int .i64, .int .i64, .int .i64, .int .i64, .int .i64, .slc, .slc, .slc, .slc]] [.ptr, .ptr, .ptr, .bool] F_portcullislaw13_scene) := runOk_of (TblOk.cons R_keys_New (TblOk.cons R_chip_Lay (TblOk.cons R_store_Mount (TblOk.nil)))) Tryz.func31 (by kernel_rfl) (by kernel_rfl) (E_portcullislaw13_scene _ _ _)
attribute [irreducible] F_portcullislaw13_scene
def G_portcullislaw13_may (c0 : Int → Int → Int → Int → Int → Int → Int → OA → Nat → Nat → OA → Nat → Nat → OA → Nat → Nat → (OA → Int → H → Prop) → H → Prop) (c1 : OA → Nat → Nat → (OA → Int → Int → H → Prop) → H → Prop) (a0_0 : Int) (a0_1 : Int) (a0_2 : Int) (a0_3 : Int) (a0_4 : Int) (a0_5 : Int) (a0_6 : Int) (a0_7p : OA) (a0_7l : Nat) (a0_7c : Nat) (a0_8p : OA) (a0_8l : Nat) (a0_8c : Nat) (a0_9p : OA) (a0_9l : Nat) (a0_9c : Nat) (a0_10p : OA) (a0_10l : Nat) (a0_10c : Nat) (Q : OA → OA → Bool → H → Prop) (h : H) : Prop := ∀ n23 h24, hnew h n23 [.int .i64 a0_0, .int .i64 a0_1, .int .i64 a0_2, .int .i64 a0_3, .int .i64 a0_4, .int .i64 a0_5, .int .i64 a0_6, .slice a0_7p a0_7l a0_7c, .slice a0_8p a0_8l a0_8c, .slice a0_9p a0_9l a0_9c, .slice a0_10p a0_10l a0_10c] h24 → ∃ i26, hc h24 ⟨n23, 0, none⟩ = some (.int .i64 i26) ∧ ∃ i27, hc h24 ⟨n23, 1, none⟩ = some (.int .i64 i27) ∧ ∃ i28, hc h24 ⟨n23, 2, none⟩ = some (.int .i64 i28) ∧ ∃ i29, hc h24 ⟨n23, 3, none⟩ = some (.int .i64 i29) ∧ ∃ i30, hc h24 ⟨n23, 4, none⟩ = some (.int .i64 i30) ∧ ∃ i31, hc h24 ⟨n23, 5, none⟩ = some (.int .i64 i31) ∧ ∃ i32, hc h24 ⟨n23, 6, none⟩ = some (.int .i64 i32) ∧ ∃ o33 n34 n35, hc h24 ⟨n23, 7, none⟩ = some (.slice o33 n34 n35) ∧ ∃ o36 n37 n38, hc h24 ⟨n23, 8, none⟩ = some (.slice o36 n37 n38) ∧ ∃ o39 n40 n41, hc h24 ⟨n23, 9, none⟩ = some (.slice o39 n40 n41) ∧ c0 i26 i27 i28 i29 i30 i31 i32 o33 n34 n35 o36 n37 n38 o39 n40 n41 (fun o42 i43 h44 => ∃ o45 n46 n47, hc h44 ⟨n23, 10, none⟩ = some (.slice o45 n46 n47) ∧ c1 o45 n46 n47 (fun o48 i49 i50 h51 => if (i43 == 0) = true then Q o42 o48 (i49 == 0) h51 else Q o42 o48 false h51) h44) h24
theorem E_portcullislaw13_may : ∀ c0 c1 a0_0 a0_1 a0_2 a0_3 a0_4 a0_5 a0_6 a0_7p a0_7l a0_7c a0_8p a0_8l a0_8c a0_9p a0_9l a0_9c a0_10p a0_10l a0_10c Q h, G_portcullislaw13_may c0 c1 a0_0 a0_1 a0_2 a0_3 a0_4 a0_5 a0_6 a0_7p a0_7l a0_7c a0_8p a0_8l a0_8c a0_9p a0_9l a0_9c a0_10p a0_10l a0_10c Q h = Dbody PP [(61, W [.ag [.int .i64, .int .i64, .int .i64, .int .i64, .int .i64, .int .i64, .int .i64], .ag [.slc, .slc, .slc]] [.ptr, .int .i64] c0), (62, W [.slc] [.ptr, .int .i64, .int .i64] c1)] [] Tryz.f32 [.agg [.c (.int .i64 a0_0), .c (.int .i64 a0_1), .c (.int .i64 a0_2), .c (.int .i64 a0_3), .c (.int .i64 a0_4), .c (.int .i64 a0_5), .c (.int .i64 a0_6), .c (.slice a0_7p a0_7l a0_7c), .c (.slice a0_8p a0_8l a0_8c), .c (.slice a0_9p a0_9l a0_9c), .c (.slice a0_10p a0_10l a0_10c)]] (decR [.ptr, .ptr, .bool] Q) h := by intros; kernel_rfl
def F_portcullislaw13_may := G_portcullislaw13_may F_portcullisref04_Lay F_portcullisref12_New
theorem R_portcullislaw13_may : RunOk PP 32 (W [.ag [.int .i64, .int .i64, .int .i64, .int .i64, .int .i64, .int .i64, .int .i64, .slc, .slc, .slc, .slc]] [.ptr, .ptr, .bool] F_portcullislaw13_may) := runOk_of (TblOk.cons R_portcullisref04_Lay (TblOk.cons R_portcullisref12_New (TblOk.nil))) Tryz.func32 (by kernel_rfl) (by kernel_rfl) (E_portcullislaw13_may _ _)
attribute [irreducible] F_portcullislaw13_may
def G_portcullisref11_must (a0 : Int) (a1 : Int) (Q : Bool → H → Prop) (h : H) : Prop := ∀ (J4 : JT), (∀ (b5 : Bool) (h6 : H), (if b5 = true then 0 ≤ a0 ∧ a0 < (↑4 : Int) ∧ Q (a1 == (↑((ByteArray.mk #[80, 67, 85, 76]).data.toList.getD a0.toNat 0).toNat : Int)) h6 else if (a0 == 4) = true then Q (a1 == 1) h6 else if (a0 == 5) = true then Q (ltI a1 8) h6 else if (a0 == 6) = true then Q (ltI a1 64) h6 else if (a0 == 7) = true then Q (a1 == 0) h6 else Q true h6) → J4 [.dv (.one (.bool b5))] h6) → if (a0 == 0) = true then J4 [.dv (.one (.bool (a0 == 0)))] h else if (a0 == 1) = true then J4 [.dv (.one (.bool (a0 == 1)))] h else if (a0 == 2) = true then J4 [.dv (.one (.bool (a0 == 2)))] h else J4 [.dv (.one (.bool (a0 == 3)))] h
theorem E_portcullisref11_must : ∀ a0 a1 Q h, G_portcullisref11_must a0 a1 Q h = Dbody PP [] [(26, [(6, .sc (.bool))])] Tryz.f124 [.one (.int .i64 a0), .one (.int .u8 a1)] (decR [.bool] Q) h := by intros; kernel_rfl
def F_portcullisref11_must := G_portcullisref11_must
theorem R_portcullisref11_must : RunOk PP 124 (W [.int .i64, .int .u8] [.bool] F_portcullisref11_must) := runOk_of (TblOk.nil) Tryz.func124 (by kernel_rfl) (by kernel_rfl) (E_portcullisref11_must)
attribute [irreducible] F_portcullisref11_must
def G_portcullisref11_number (a0p : OA) (a0l : Nat) (a0c : Nat) (Q : Int → H → Prop) (h : H) : Prop := ∀ (J5 : JT), (∀ (i6 i7 : Int) (h8 : H), (if ltI i7 4 = true then ∃ p9, a0p = some p9 ∧ 0 ≤ i7 ∧ i7 < a0l ∧ ∃ i10, hc h8 (p9.add (i7.toNat * 1)) = some (.int .u8 i10) ∧ 0 ≤ IntKind.i64.wrap (8 * i7) ∧ J5 [.dv (.one (.int .i64 (bits .or .i64 i6 (IntKind.i64.wrap (IntKind.i64.wrap i10 * 2 ^ min (IntKind.i64.wrap (8 * i7)).toNat 64))))), .dv (.one (.int .i64 (IntKind.i64.wrap (i7 + 1))))] h8 else Q i6 h8) → J5 [.dv (.one (.int .i64 i6)), .dv (.one (.int .i64 i7))] h8) → J5 [.dv (.one (.int .i64 0)), .dv (.one (.int .i64 0))] h
theorem E_portcullisref11_number : ∀ a0p a0l a0c Q h, G_portcullisref11_number a0p a0l a0c Q h = Dbody PP [] [(58, [(3, .sc (.int .i64)), (4, .sc (.int .i64))])] Tryz.f125 [.one (.slice a0p a0l a0c)] (decR [.int .i64] Q) h := by intros; kernel_rfl
def F_portcullisref11_number := G_portcullisref11_number
theorem R_portcullisref11_number : RunOk PP 125 (W [.slc] [.int .i64] F_portcullisref11_number) := runOk_of (TblOk.nil) Tryz.func125 (by kernel_rfl) (by kernel_rfl) (E_portcullisref11_number)
attribute [irreducible] F_portcullisref11_number
def G_portcullisref11_Parse (c0 : Int → Int → (Bool → H → Prop) → H → Prop) (c1 : OA → Nat → Nat → (Int → H → Prop) → H → Prop) (a0p : OA) (a0l : Nat) (a0c : Nat) (Q : Int → Int → Int → OA → Nat → Nat → List Int → Int → Int → H → Prop) (h : H) : Prop := ∀ n7 h8, hnew h n7 (.int .i64 0 :: .int .i64 0 :: .int .i64 0 :: .slice none 0 0 :: ints .u8 (zeros 32)) h8 → ∀ n10 h11, hnew h8 n10 [.int .i64 0, .int .i64 0] h11 → if ltI 524288 a0l = true then hcan h11 ⟨n7, 0, none⟩ 36 ∧ ∀ h13, h13 = hwr h11 ⟨n7, 0, none⟩ (.int .i64 0 :: .int .i64 0 :: .int .i64 0 :: .slice none 0 0 :: ints .u8 (zeros 32)) → hcan h13 ⟨n10, 0, none⟩ 2 ∧ ∀ h15, h15 = hwr h13 ⟨n10, 0, none⟩ [.int .i64 4, .int .i64 524288] → ∃ i17, hc h15 ⟨n7, 0, none⟩ = some (.int .i64 i17) ∧ ∃ i18, hc h15 ⟨n7, 1, none⟩ = some (.int .i64 i18) ∧ ∃ i19, hc h15 ⟨n7, 2, none⟩ = some (.int .i64 i19) ∧ ∃ o20 n21 n22, hc h15 ⟨n7, 3, none⟩ = some (.slice o20 n21 n22) ∧ ∃ (l23 : List Int), l23.length = 32 ∧ hrow h15 ⟨n7, 4, none⟩ .u8 l23 ∧ ∃ i24, hc h15 ⟨n10, 0, none⟩ = some (.int .i64 i24) ∧ ∃ i25, hc h15 ⟨n10, 1, none⟩ = some (.int .i64 i25) ∧ Q i17 i18 i19 o20 n21 n22 l23 i24 i25 h15 else ∀ (J26 : JT), (∀ (i27 : Int) (h28 : H), (if ltI i27 16 = true then if (i27 == (↑a0l : Int)) = true then hcan h28 ⟨n7, 0, none⟩ 36 ∧ ∀ h29, h29 = hwr h28 ⟨n7, 0, none⟩ (.int .i64 0 :: .int .i64 0 :: .int .i64 0 :: .slice none 0 0 :: ints .u8 (zeros 32)) → hcan h29 ⟨n10, 0, none⟩ 2 ∧ ∀ h31, h31 = hwr h29 ⟨n10, 0, none⟩ [.int .i64 6, .int .i64 i27] → ∃ i33, hc h31 ⟨n7, 0, none⟩ = some (.int .i64 i33) ∧ ∃ i34, hc h31 ⟨n7, 1, none⟩ = some (.int .i64 i34) ∧ ∃ i35, hc h31 ⟨n7, 2, none⟩ = some (.int .i64 i35) ∧ ∃ o36 n37 n38, hc h31 ⟨n7, 3, none⟩ = some (.slice o36 n37 n38) ∧ ∃ (l39 : List Int), l39.length = 32 ∧ hrow h31 ⟨n7, 4, none⟩ .u8 l39 ∧ ∃ i40, hc h31 ⟨n10, 0, none⟩ = some (.int .i64 i40) ∧ ∃ i41, hc h31 ⟨n10, 1, none⟩ = some (.int .i64 i41) ∧ Q i33 i34 i35 o36 n37 n38 l39 i40 i41 h31 else ∃ p42, a0p = some p42 ∧ 0 ≤ i27 ∧ i27 < a0l ∧ ∃ i43, hc h28 (p42.add (i27.toNat * 1)) = some (.int .u8 i43) ∧ c0 i27 i43 (fun b44 h45 => if (!b44) = true then hcan h45 ⟨n7, 0, none⟩ 36 ∧ ∀ h46, h46 = hwr h45 ⟨n7, 0, none⟩ (.int .i64 0 :: .int .i64 0 :: .int .i64 0 :: .slice none 0 0 :: ints .u8 (zeros 32)) → hcan h46 ⟨n10, 0, none⟩ 2 ∧ ∀ h48, h48 = hwr h46 ⟨n10, 0, none⟩ [.int .i64 5, .int .i64 i27] → ∃ i50, hc h48 ⟨n7, 0, none⟩ = some (.int .i64 i50) ∧ ∃ i51, hc h48 ⟨n7, 1, none⟩ = some (.int .i64 i51) ∧ ∃ i52, hc h48 ⟨n7, 2, none⟩ = some (.int .i64 i52) ∧ ∃ o53 n54 n55, hc h48 ⟨n7, 3, none⟩ = some (.slice o53 n54 n55) ∧ ∃ (l56 : List Int), l56.length = 32 ∧ hrow h48 ⟨n7, 4, none⟩ .u8 l56 ∧ ∃ i57, hc h48 ⟨n10, 0, none⟩ = some (.int .i64 i57) ∧ ∃ i58, hc h48 ⟨n10, 1, none⟩ = some (.int .i64 i58) ∧ Q i50 i51 i52 o53 n54 n55 l56 i57 i58 h48 else J26 [.dv (.one (.int .i64 (IntKind.i64.wrap (i27 + 1))))] h45) h28 else (0 : Int) ≤ 12 ∧ 12 ≤ (↑a0l : Int) ∧ c1 (subAddr a0p 12 a0c 1) (a0l - 12) (a0c - 12) (fun i59 h60 => if ltI 524240 i59 = true then hcan h60 ⟨n7, 0, none⟩ 36 ∧ ∀ h61, h61 = hwr h60 ⟨n7, 0, none⟩ (.int .i64 0 :: .int .i64 0 :: .int .i64 0 :: .slice none 0 0 :: ints .u8 (zeros 32)) → hcan h61 ⟨n10, 0, none⟩ 2 ∧ ∀ h63, h63 = hwr h61 ⟨n10, 0, none⟩ [.int .i64 5, .int .i64 12] → ∃ i65, hc h63 ⟨n7, 0, none⟩ = some (.int .i64 i65) ∧ ∃ i66, hc h63 ⟨n7, 1, none⟩ = some (.int .i64 i66) ∧ ∃ i67, hc h63 ⟨n7, 2, none⟩ = some (.int .i64 i67) ∧ ∃ o68 n69 n70, hc h63 ⟨n7, 3, none⟩ = some (.slice o68 n69 n70) ∧ ∃ (l71 : List Int), l71.length = 32 ∧ hrow h63 ⟨n7, 4, none⟩ .u8 l71 ∧ ∃ i72, hc h63 ⟨n10, 0, none⟩ = some (.int .i64 i72) ∧ ∃ i73, hc h63 ⟨n10, 1, none⟩ = some (.int .i64 i73) ∧ Q i65 i66 i67 o68 n69 n70 l71 i72 i73 h63 else if ltI (↑a0l : Int) (IntKind.i64.wrap (IntKind.i64.wrap (i59 + 16) + 32)) = true then hcan h60 ⟨n7, 0, none⟩ 36 ∧ ∀ h74, h74 = hwr h60 ⟨n7, 0, none⟩ (.int .i64 0 :: .int .i64 0 :: .int .i64 0 :: .slice none 0 0 :: ints .u8 (zeros 32)) → hcan h74 ⟨n10, 0, none⟩ 2 ∧ ∀ h76, h76 = hwr h74 ⟨n10, 0, none⟩ [.int .i64 6, .int .i64 (↑a0l : Int)] → ∃ i78, hc h76 ⟨n7, 0, none⟩ = some (.int .i64 i78) ∧ ∃ i79, hc h76 ⟨n7, 1, none⟩ = some (.int .i64 i79) ∧ ∃ i80, hc h76 ⟨n7, 2, none⟩ = some (.int .i64 i80) ∧ ∃ o81 n82 n83, hc h76 ⟨n7, 3, none⟩ = some (.slice o81 n82 n83) ∧ ∃ (l84 : List Int), l84.length = 32 ∧ hrow h76 ⟨n7, 4, none⟩ .u8 l84 ∧ ∃ i85, hc h76 ⟨n10, 0, none⟩ = some (.int .i64 i85) ∧ ∃ i86, hc h76 ⟨n10, 1, none⟩ = some (.int .i64 i86) ∧ Q i78 i79 i80 o81 n82 n83 l84 i85 i86 h76 else if ltI (IntKind.i64.wrap (IntKind.i64.wrap (i59 + 16) + 32)) (↑a0l : Int) = true then hcan h60 ⟨n7, 0, none⟩ 36 ∧ ∀ h87, h87 = hwr h60 ⟨n7, 0, none⟩ (.int .i64 0 :: .int .i64 0 :: .int .i64 0 :: .slice none 0 0 :: ints .u8 (zeros 32)) → hcan h87 ⟨n10, 0, none⟩ 2 ∧ ∀ h89, h89 = hwr h87 ⟨n10, 0, none⟩ [.int .i64 7, .int .i64 (IntKind.i64.wrap (IntKind.i64.wrap (i59 + 16) + 32))] → ∃ i91, hc h89 ⟨n7, 0, none⟩ = some (.int .i64 i91) ∧ ∃ i92, hc h89 ⟨n7, 1, none⟩ = some (.int .i64 i92) ∧ ∃ i93, hc h89 ⟨n7, 2, none⟩ = some (.int .i64 i93) ∧ ∃ o94 n95 n96, hc h89 ⟨n7, 3, none⟩ = some (.slice o94 n95 n96) ∧ ∃ (l97 : List Int), l97.length = 32 ∧ hrow h89 ⟨n7, 4, none⟩ .u8 l97 ∧ ∃ i98, hc h89 ⟨n10, 0, none⟩ = some (.int .i64 i98) ∧ ∃ i99, hc h89 ⟨n10, 1, none⟩ = some (.int .i64 i99) ∧ Q i91 i92 i93 o94 n95 n96 l97 i98 i99 h89 else ∀ (J100 : JT), (∀ (p101 : Addr) (h102 : H), (∀ n103 h104, hnew h102 n103 [] h104 → (0 : Int) ≤ 16 ∧ 16 ≤ IntKind.i64.wrap (IntKind.i64.wrap (IntKind.i64.wrap (i59 + 16) + 32) - 32) ∧ IntKind.i64.wrap (IntKind.i64.wrap (IntKind.i64.wrap (i59 + 16) + 32) - 32) ≤ (↑a0c : Int) ∧ ∃ (l106 : List Value), hsv h104 (subAddr a0p 16 a0c 1) 1 ((IntKind.i64.wrap (IntKind.i64.wrap (IntKind.i64.wrap (i59 + 16) + 32) - 32)).toNat - 16) l106 ∧ pApp h104 1 [.int .u8 0] 1 (some (Addr.mk n103 0 none)) 0 0 ((IntKind.i64.wrap (IntKind.i64.wrap (IntKind.i64.wrap (i59 + 16) + 32) - 32)).toNat - 16) l106 fun o107 n108 n109 h110 => hcan h110 (p101.add 3) 1 ∧ ∀ h111, h111 = hwr h110 (p101.add 3) [.slice o107 n108 n109] → ∀ (J113 : JT), (∀ (i114 : Int) (h115 : H), (if ltI i114 32 = true then ∃ p116, a0p = some p116 ∧ 0 ≤ IntKind.i64.wrap (IntKind.i64.wrap (IntKind.i64.wrap (IntKind.i64.wrap (i59 + 16) + 32) - 32) + i114) ∧ IntKind.i64.wrap (IntKind.i64.wrap (IntKind.i64.wrap (IntKind.i64.wrap (i59 + 16) + 32) - 32) + i114) < (↑a0l : Int) ∧ ∃ i117, hc h115 (p116.add ((IntKind.i64.wrap (IntKind.i64.wrap (IntKind.i64.wrap (IntKind.i64.wrap (i59 + 16) + 32) - 32) + i114)).toNat * 1)) = some (.int .u8 i117) ∧ 0 ≤ i114 ∧ i114 < (↑32 : Int) ∧ hcan h115 ((p101.add 4).add (i114.toNat * 1)) 1 ∧ ∀ h118, h118 = hwr h115 ((p101.add 4).add (i114.toNat * 1)) [.int .u8 i117] → J113 [.dv (.one (.int .i64 (IntKind.i64.wrap (i114 + 1))))] h118 else ∃ i120, hc h115 p101 = some (.int .i64 i120) ∧ ∃ i121, hc h115 (p101.add 1) = some (.int .i64 i121) ∧ ∃ i122, hc h115 (p101.add 2) = some (.int .i64 i122) ∧ ∃ o123 n124 n125, hc h115 (p101.add 3) = some (.slice o123 n124 n125) ∧ ∃ (l126 : List Int), l126.length = 32 ∧ hrow h115 (p101.add 4) .u8 l126 ∧ hcan h115 ⟨n7, 0, none⟩ 36 ∧ ∀ h127, h127 = hwr h115 ⟨n7, 0, none⟩ (.int .i64 i120 :: .int .i64 i121 :: .int .i64 i122 :: .slice o123 n124 n125 :: (ints .u8 l126 ++ [])) → hcan h127 ⟨n10, 0, none⟩ 2 ∧ ∀ h129, h129 = hwr h127 ⟨n10, 0, none⟩ [.int .i64 0, .int .i64 0] → ∃ i131, hc h129 ⟨n7, 0, none⟩ = some (.int .i64 i131) ∧ ∃ i132, hc h129 ⟨n7, 1, none⟩ = some (.int .i64 i132) ∧ ∃ i133, hc h129 ⟨n7, 2, none⟩ = some (.int .i64 i133) ∧ ∃ o134 n135 n136, hc h129 ⟨n7, 3, none⟩ = some (.slice o134 n135 n136) ∧ ∃ (l137 : List Int), l137.length = 32 ∧ hrow h129 ⟨n7, 4, none⟩ .u8 l137 ∧ ∃ i138, hc h129 ⟨n10, 0, none⟩ = some (.int .i64 i138) ∧ ∃ i139, hc h129 ⟨n10, 1, none⟩ = some (.int .i64 i139) ∧ Q i131 i132 i133 o134 n135 n136 l137 i138 i139 h129) → J113 [.dv (.one (.int .i64 i114))] h115) → J113 [.dv (.one (.int .i64 0))] h111) → J100 [SV.dv (DV.addr p101)] h102) → ∃ p144, a0p = some p144 ∧ (0 : Int) ≤ 5 ∧ 5 < (↑a0l : Int) ∧ ∃ i145, hc h60 (p144.add 5) = some (.int .u8 i145) ∧ ∃ p146, a0p = some p146 ∧ (0 : Int) ≤ 6 ∧ 6 < (↑a0l : Int) ∧ ∃ i147, hc h60 (p146.add 6) = some (.int .u8 i147) ∧ (0 : Int) ≤ 8 ∧ 8 ≤ (↑a0l : Int) ∧ c1 (subAddr a0p 8 a0c 1) (a0l - 8) (a0c - 8) (fun i148 h149 => hcs h149 (p146.add 6) [.int .u8 i147] ∧ hcs h149 (p144.add 5) [.int .u8 i145] ∧ ∀ n150 h151, hnew h149 n150 (.int .i64 0 :: .int .i64 0 :: .int .i64 0 :: .slice none 0 0 :: ints .u8 (zeros 32)) h151 → hcs h151 (p146.add 6) [.int .u8 i147] ∧ hcs h151 (p144.add 5) [.int .u8 i145] ∧ hcan h151 ⟨n150, 0, none⟩ 36 ∧ ∀ h153, h153 = hwr h151 ⟨n150, 0, none⟩ (.int .i64 (IntKind.i64.wrap i145) :: .int .i64 (IntKind.i64.wrap i147) :: .int .i64 i148 :: .slice none 0 0 :: ints .u8 [0, 0, 0, 0, 0, 0, 0, 0, 0, 0, 0, 0, 0, 0, 0, 0, 0, 0, 0, 0, 0, 0, 0, 0, 0, 0, 0, 0, 0, 0, 0, 0]) → J100 [SV.dv (DV.addr (Addr.mk n150 0 none))] h153) h60 ∧ ∀ n155 h156, hnew h60 n155 (.int .i64 0 :: .int .i64 0 :: .int .i64 0 :: .slice none 0 0 :: ints .u8 (zeros 32)) h156 → hcs h156 (p146.add 6) [.int .u8 i147] ∧ hcs h156 (p144.add 5) [.int .u8 i145] ∧ c1 (subAddr a0p 8 a0c 1) (a0l - 8) (a0c - 8) (fun i158 h159 => hcs h159 (p146.add 6) [.int .u8 i147] ∧ hcs h159 (p144.add 5) [.int .u8 i145] ∧ hcan h159 ⟨n155, 0, none⟩ 36 ∧ ∀ h160, h160 = hwr h159 ⟨n155, 0, none⟩ (.int .i64 (IntKind.i64.wrap i145) :: .int .i64 (IntKind.i64.wrap i147) :: .int .i64 i158 :: .slice none 0 0 :: ints .u8 [0, 0, 0, 0, 0, 0, 0, 0, 0, 0, 0, 0, 0, 0, 0, 0, 0, 0, 0, 0, 0, 0, 0, 0, 0, 0, 0, 0, 0, 0, 0, 0]) → J100 [SV.dv (DV.addr (Addr.mk n155 0 none))] h160) h156) h28) → J26 [.dv (.one (.int .i64 i27))] h28) → J26 [.dv (.one (.int .i64 0))] h11
theorem E_portcullisref11_Parse : ∀ c0 c1 a0p a0l a0c Q h, G_portcullisref11_Parse c0 c1 a0p a0l a0c Q h = Dbody PP [(124, W [.int .i64, .int .u8] [.bool] c0), (125, W [.slc] [.int .i64] c1)] [(58, [(4, .sc (.int .i64))]), (511, [(7, .addr)]), (32762, [(9, .sc (.int .i64))])] Tryz.f51 [.one (.slice a0p a0l a0c)] (decR [.ag [.int .i64, .int .i64, .int .i64, .slc, .row .u8 32], .ag [.int .i64, .int .i64]] Q) h := by intros; kernel_rfl
def F_portcullisref11_Parse := G_portcullisref11_Parse F_portcullisref11_must F_portcullisref11_number
theorem R_portcullisref11_Parse : RunOk PP 51 (W [.slc] [.ag [.int .i64, .int .i64, .int .i64, .slc, .row .u8 32], .ag [.int .i64, .int .i64]] F_portcullisref11_Parse) := runOk_of (TblOk.cons R_portcullisref11_must (TblOk.cons R_portcullisref11_number (TblOk.nil))) Tryz.func51 (by kernel_rfl) (by kernel_rfl) (E_portcullisref11_Parse _ _)
attribute [irreducible] F_portcullisref11_Parse
def G_portcullisref12_Ring_Sign (c0 : OA → Nat → Nat → OA → Nat → Nat → (List Int → H → Prop) → H → Prop) (c1 : Addr → Int → (Int → H → Prop) → H → Prop) (a0 : Addr) (a1 : Int) (a2p : OA) (a2l : Nat) (a2c : Nat) (Q : List Int → Int → H → Prop) (h : H) : Prop := ∀ n9 h10, hnew h n9 (ints .u8 (zeros 32)) h10 → c1 a0 a1 (fun i12 h13 => if ltI i12 0 = true then hcan h13 ⟨n9, 0, none⟩ 32 ∧ ∀ h14, h14 = hwr h13 ⟨n9, 0, none⟩ (ints .u8 (zeros 32)) → ∃ (l16 : List Int), l16.length = 32 ∧ hrow h14 ⟨n9, 0, none⟩ .u8 l16 ∧ Q l16 13 h14 else ∃ o17 n18 n19, hc h13 a0 = some (.slice o17 n18 n19) ∧ ∃ p20, o17 = some p20 ∧ 0 ≤ i12 ∧ i12 < n18 ∧ ∃ o21 n22 n23, hc h13 ((p20.add (i12.toNat * 2)).add 1) = some (.slice o21 n22 n23) ∧ c0 o21 n22 n23 a2p a2l a2c (fun l24 h25 => hcan h25 ⟨n9, 0, none⟩ 32 ∧ ∀ h26, h26 = hwr h25 ⟨n9, 0, none⟩ (ints .u8 l24 ++ []) → ∃ (l28 : List Int), l28.length = 32 ∧ hrow h26 ⟨n9, 0, none⟩ .u8 l28 ∧ Q l28 0 h26) h13) h10
theorem E_portcullisref12_Ring_Sign : ∀ c0 c1 a0 a1 a2p a2l a2c Q h, G_portcullisref12_Ring_Sign c0 c1 a0 a1 a2p a2l a2c Q h = Dbody PP [(41, W [.slc, .slc] [.ag [.row .u8 32]] c0), (154, W [.addr, .int .i64] [.int .i64] c1)] [] Tryz.f91 [.addr a0, .one (.int .i64 a1), .one (.slice a2p a2l a2c)] (decR [.ag [.row .u8 32], .int .i64] Q) h := by intros; kernel_rfl
def F_portcullisref12_Ring_Sign := G_portcullisref12_Ring_Sign F_portcullisref03_Of F_portcullisref12_Ring_find
theorem R_portcullisref12_Ring_Sign : RunOk PP 91 (W [.addr, .int .i64, .slc] [.ag [.row .u8 32], .int .i64] F_portcullisref12_Ring_Sign) := runOk_of (TblOk.cons R_portcullisref03_Of (TblOk.cons R_portcullisref12_Ring_find (TblOk.nil))) Tryz.func91 (by kernel_rfl) (by kernel_rfl) (E_portcullisref12_Ring_Sign _ _)
attribute [irreducible] F_portcullisref12_Ring_Sign
def G_portcullisref11_Body (a0p : OA) (a0l : Nat) (a0c : Nat) (Q : OA → Nat → Nat → H → Prop) (h : H) : Prop := if ltI (↑a0l : Int) 32 = true then Q none 0 0 h else ∀ n5 h6, hnew h n5 [] h6 → 0 ≤ IntKind.i64.wrap ((↑a0l : Int) - 32) ∧ IntKind.i64.wrap ((↑a0l : Int) - 32) ≤ (↑a0c : Int) ∧ ∃ (l8 : List Value), hsv h6 (subAddr a0p 0 a0c 1) 1 ((IntKind.i64.wrap ((↑a0l : Int) - 32)).toNat - 0) l8 ∧ pApp h6 1 [.int .u8 0] 1 (some (Addr.mk n5 0 none)) 0 0 ((IntKind.i64.wrap ((↑a0l : Int) - 32)).toNat - 0) l8 fun o9 n10 n11 h12 => Q o9 n10 n11 h12
theorem E_portcullisref11_Body : ∀ a0p a0l a0c Q h, G_portcullisref11_Body a0p a0l a0c Q h = Dbody PP [] [] Tryz.f92 [.one (.slice a0p a0l a0c)] (decR [.slc] Q) h := by intros; kernel_rfl
def F_portcullisref11_Body := G_portcullisref11_Body
theorem R_portcullisref11_Body : RunOk PP 92 (W [.slc] [.slc] F_portcullisref11_Body) := runOk_of (TblOk.nil) Tryz.func92 (by kernel_rfl) (by kernel_rfl) (E_portcullisref11_Body)
attribute [irreducible] F_portcullisref11_Body
def G_portcullisref10_Last (a0_0 : Int) (a0_1 : Int) (a0_2 : Int) (a0_3 : Int) (a0_4 : Int) (a0_5 : Int) (a0_6 : Int) (Q : Int → H → Prop) (h : H) : Prop := ∀ n9 h10, hnew h n9 [.int .i64 a0_0, .int .i64 a0_1, .int .i64 a0_2, .int .i64 a0_3, .int .i64 a0_4, .int .i64 a0_5, .int .i64 a0_6] h10 → ∃ i12, hc h10 ⟨n9, 3, none⟩ = some (.int .i64 i12) ∧ ∃ i13, hc h10 ⟨n9, 2, none⟩ = some (.int .i64 i13) ∧ ∃ i14, hc h10 ⟨n9, 3, none⟩ = some (.int .i64 i14) ∧ Q (IntKind.i64.wrap (IntKind.i64.wrap (IntKind.i64.wrap (i12 * i13) + i14) - 1)) h10
theorem E_portcullisref10_Last : ∀ a0_0 a0_1 a0_2 a0_3 a0_4 a0_5 a0_6 Q h, G_portcullisref10_Last a0_0 a0_1 a0_2 a0_3 a0_4 a0_5 a0_6 Q h = Dbody PP [] [] Tryz.f93 [.agg [.c (.int .i64 a0_0), .c (.int .i64 a0_1), .c (.int .i64 a0_2), .c (.int .i64 a0_3), .c (.int .i64 a0_4), .c (.int .i64 a0_5), .c (.int .i64 a0_6)]] (decR [.int .i64] Q) h := by intros; kernel_rfl
def F_portcullisref10_Last := G_portcullisref10_Last
theorem R_portcullisref10_Last : RunOk PP 93 (W [.ag [.int .i64, .int .i64, .int .i64, .int .i64, .int .i64, .int .i64, .int .i64]] [.int .i64] F_portcullisref10_Last) := runOk_of (TblOk.nil) Tryz.func93 (by kernel_rfl) (by kernel_rfl) (E_portcullisref10_Last)
attribute [irreducible] F_portcullisref10_Last
def K1_portcullisref13_Check (c0 : Addr → Int → (Int → Int → H → Prop) → H → Prop) (c1 : Int → Int → Int → Int → Int → Int → Int → (Int → H → Prop) → H → Prop) (a0 : Addr) (Q : Int → Int → Int → OA → Nat → Nat → List Int → Int → H → Prop) (h180 : H) (n175 : Nat) (l178 : List Int) (n37 : Nat) (n14 : Nat) : Prop := ∀ h181, h181 = hwr h180 ⟨n175, 0, none⟩ (ints .u8 l178 ++ []) → ∃ (l183 : List Int), l183.length = 32 ∧ hrow h181 ⟨n175, 0, none⟩ .u8 l183 ∧ ∃ (l184 : List Int), l184.length = 32 ∧ hrow h181 ⟨n37, 4, none⟩ .u8 l184 ∧ if (!l183 == l184) = true then hcan h181 ⟨n14, 0, none⟩ 36 ∧ ∀ h185, h185 = hwr h181 ⟨n14, 0, none⟩ (.int .i64 0 :: .int .i64 0 :: .int .i64 0 :: .slice none 0 0 :: ints .u8 (zeros 32)) → ∃ i187, hc h185 ⟨n14, 0, none⟩ = some (.int .i64 i187) ∧ ∃ i188, hc h185 ⟨n14, 1, none⟩ = some (.int .i64 i188) ∧ ∃ i189, hc h185 ⟨n14, 2, none⟩ = some (.int .i64 i189) ∧ ∃ o190 n191 n192, hc h185 ⟨n14, 3, none⟩ = some (.slice o190 n191 n192) ∧ ∃ (l193 : List Int), l193.length = 32 ∧ hrow h185 ⟨n14, 4, none⟩ .u8 l193 ∧ Q i187 i188 i189 o190 n191 n192 l193 15 h185 else ∃ i194, hc h181 ⟨n37, 0, none⟩ = some (.int .i64 i194) ∧ c0 a0 i194 (fun i195 i196 h197 => if (i196 != 0) = true then hcan h197 ⟨n14, 0, none⟩ 36 ∧ ∀ h198, h198 = hwr h197 ⟨n14, 0, none⟩ (.int .i64 0 :: .int .i64 0 :: .int .i64 0 :: .slice none 0 0 :: ints .u8 (zeros 32)) → ∃ i200, hc h198 ⟨n14, 0, none⟩ = some (.int .i64 i200) ∧ ∃ i201, hc h198 ⟨n14, 1, none⟩ = some (.int .i64 i201) ∧ ∃ i202, hc h198 ⟨n14, 2, none⟩ = some (.int .i64 i202) ∧ ∃ o203 n204 n205, hc h198 ⟨n14, 3, none⟩ = some (.slice o203 n204 n205) ∧ ∃ (l206 : List Int), l206.length = 32 ∧ hrow h198 ⟨n14, 4, none⟩ .u8 l206 ∧ Q i200 i201 i202 o203 n204 n205 l206 i196 h198 else ∃ i207, hc h197 ⟨n37, 2, none⟩ = some (.int .i64 i207) ∧ if ltI i207 i195 = true then hcan h197 ⟨n14, 0, none⟩ 36 ∧ ∀ h208, h208 = hwr h197 ⟨n14, 0, none⟩ (.int .i64 0 :: .int .i64 0 :: .int .i64 0 :: .slice none 0 0 :: ints .u8 (zeros 32)) → ∃ i210, hc h208 ⟨n14, 0, none⟩ = some (.int .i64 i210) ∧ ∃ i211, hc h208 ⟨n14, 1, none⟩ = some (.int .i64 i211) ∧ ∃ i212, hc h208 ⟨n14, 2, none⟩ = some (.int .i64 i212) ∧ ∃ o213 n214 n215, hc h208 ⟨n14, 3, none⟩ = some (.slice o213 n214 n215) ∧ ∃ (l216 : List Int), l216.length = 32 ∧ hrow h208 ⟨n14, 4, none⟩ .u8 l216 ∧ Q i210 i211 i212 o213 n214 n215 l216 16 h208 else ∃ i217, hc h197 ⟨n37, 2, none⟩ = some (.int .i64 i217) ∧ ∃ i218, hc h197 a0 = some (.int .i64 i218) ∧ ∃ i219, hc h197 (a0.add 1) = some (.int .i64 i219) ∧ ∃ i220, hc h197 (a0.add 2) = some (.int .i64 i220) ∧ ∃ i221, hc h197 (a0.add 3) = some (.int .i64 i221) ∧ ∃ i222, hc h197 (a0.add 4) = some (.int .i64 i222) ∧ ∃ i223, hc h197 (a0.add 5) = some (.int .i64 i223) ∧ ∃ i224, hc h197 (a0.add 6) = some (.int .i64 i224) ∧ c1 i218 i219 i220 i221 i222 i223 i224 (fun i225 h226 => hcs h226 ⟨n37, 2, none⟩ [.int .i64 i217] ∧ if ltI i225 i217 = true then hcan h226 ⟨n14, 0, none⟩ 36 ∧ ∀ h227, h227 = hwr h226 ⟨n14, 0, none⟩ (.int .i64 0 :: .int .i64 0 :: .int .i64 0 :: .slice none 0 0 :: ints .u8 (zeros 32)) → ∃ i229, hc h227 ⟨n14, 0, none⟩ = some (.int .i64 i229) ∧ ∃ i230, hc h227 ⟨n14, 1, none⟩ = some (.int .i64 i230) ∧ ∃ i231, hc h227 ⟨n14, 2, none⟩ = some (.int .i64 i231) ∧ ∃ o232 n233 n234, hc h227 ⟨n14, 3, none⟩ = some (.slice o232 n233 n234) ∧ ∃ (l235 : List Int), l235.length = 32 ∧ hrow h227 ⟨n14, 4, none⟩ .u8 l235 ∧ Q i229 i230 i231 o232 n233 n234 l235 16 h227 else ∃ i236, hc h226 ⟨n37, 0, none⟩ = some (.int .i64 i236) ∧ ∃ i237, hc h226 ⟨n37, 1, none⟩ = some (.int .i64 i237) ∧ ∃ i238, hc h226 ⟨n37, 2, none⟩ = some (.int .i64 i238) ∧ ∃ o239 n240 n241, hc h226 ⟨n37, 3, none⟩ = some (.slice o239 n240 n241) ∧ ∃ (l242 : List Int), l242.length = 32 ∧ hrow h226 ⟨n37, 4, none⟩ .u8 l242 ∧ hcan h226 ⟨n14, 0, none⟩ 36 ∧ ∀ h243, h243 = hwr h226 ⟨n14, 0, none⟩ (.int .i64 i236 :: .int .i64 i237 :: .int .i64 i238 :: .slice o239 n240 n241 :: (ints .u8 l242 ++ [])) → ∃ i245, hc h243 ⟨n14, 0, none⟩ = some (.int .i64 i245) ∧ ∃ i246, hc h243 ⟨n14, 1, none⟩ = some (.int .i64 i246) ∧ ∃ i247, hc h243 ⟨n14, 2, none⟩ = some (.int .i64 i247) ∧ ∃ o248 n249 n250, hc h243 ⟨n14, 3, none⟩ = some (.slice o248 n249 n250) ∧ ∃ (l251 : List Int), l251.length = 32 ∧ hrow h243 ⟨n14, 4, none⟩ .u8 l251 ∧ Q i245 i246 i247 o248 n249 n250 l251 0 h243) h197) h181
def G_portcullisref13_Check (c0 : OA → Nat → Nat → (Int → Int → Int → OA → Nat → Nat → List Int → Int → Int → H → Prop) → H → Prop) (c1 : Addr → Int → (Int → Int → H → Prop) → H → Prop) (c2 : Addr → Int → (Bool → H → Prop) → H → Prop) (c3 : Addr → Int → (Bool → Int → H → Prop) → H → Prop) (c4 : Addr → Int → OA → Nat → Nat → (List Int → Int → H → Prop) → H → Prop) (c5 : OA → Nat → Nat → (OA → Nat → Nat → H → Prop) → H → Prop) (c6 : Int → Int → Int → Int → Int → Int → Int → (Int → H → Prop) → H → Prop) (a0 : Addr) (a1 : Addr) (a2p : OA) (a2l : Nat) (a2c : Nat) (Q : Int → Int → Int → OA → Nat → Nat → List Int → Int → H → Prop) (h : H) : Prop :=
∀ n14 h15, hnew h n14 (.int .i64 0 :: .int .i64 0 :: .int .i64 0 :: .slice none 0 0 :: ints .u8 (zeros 32)) h15 → ∃ b17, hc h15 (a0.add 11) = some (.bool b17) ∧ if b17 = true then hcan h15 ⟨n14, 0, none⟩ 36 ∧ ∀ h18, h18 = hwr h15 ⟨n14, 0, none⟩ (.int .i64 0 :: .int .i64 0 :: .int .i64 0 :: .slice none 0 0 :: ints .u8 (zeros 32)) → ∃ i20, hc h18 ⟨n14, 0, none⟩ = some (.int .i64 i20) ∧ ∃ i21, hc h18 ⟨n14, 1, none⟩ = some (.int .i64 i21) ∧ ∃ i22, hc h18 ⟨n14, 2, none⟩ = some (.int .i64 i22) ∧ ∃ o23 n24 n25, hc h18 ⟨n14, 3, none⟩ = some (.slice o23 n24 n25) ∧ ∃ (l26 : List Int), l26.length = 32 ∧ hrow h18 ⟨n14, 4, none⟩ .u8 l26 ∧ Q i20 i21 i22 o23 n24 n25 l26 8 h18 else c0 a2p a2l a2c (fun i27 i28 i29 o30 n31 n32 l33 i34 i35 h36 => ∀ n37 h38, hnew h36 n37 (.int .i64 0 :: .int .i64 0 :: .int .i64 0 :: .slice none 0 0 :: ints .u8 (zeros 32)) h38 → ∀ n40 h41, hnew h38 n40 [.int .i64 0, .int .i64 0] h41 → hcan h41 ⟨n37, 0, none⟩ 36 ∧ ∀ h43, h43 = hwr h41 ⟨n37, 0, none⟩ (.int .i64 i27 :: .int .i64 i28 :: .int .i64 i29 :: .slice o30 n31 n32 :: (ints .u8 l33 ++ [])) → hcan h43 ⟨n40, 0, none⟩ 2 ∧ ∀ h45, h45 = hwr h43 ⟨n40, 0, none⟩ [.int .i64 i34, .int .i64 i35] → ∃ i47, hc h45 ⟨n40, 0, none⟩ = some (.int .i64 i47) ∧ if (i47 != 0) = true then ∃ i48, hc h45 ⟨n40, 0, none⟩ = some (.int .i64 i48) ∧ hcan h45 ⟨n14, 0, none⟩ 36 ∧ ∀ h49, h49 = hwr h45 ⟨n14, 0, none⟩ (.int .i64 0 :: .int .i64 0 :: .int .i64 0 :: .slice none 0 0 :: ints .u8 [0, 0, 0, 0, 0, 0, 0, 0, 0, 0, 0, 0, 0, 0, 0, 0, 0, 0, 0, 0, 0, 0, 0, 0, 0, 0, 0, 0, 0, 0, 0, 0]) → hcs h49 ⟨n40, 0, none⟩ [.int .i64 i48] ∧ ∃ i51, hc h49 ⟨n14, 0, none⟩ = some (.int .i64 i51) ∧ ∃ i52, hc h49 ⟨n14, 1, none⟩ = some (.int .i64 i52) ∧ ∃ i53, hc h49 ⟨n14, 2, none⟩ = some (.int .i64 i53) ∧ ∃ o54 n55 n56, hc h49 ⟨n14, 3, none⟩ = some (.slice o54 n55 n56) ∧ ∃ (l57 : List Int), l57.length = 32 ∧ hrow h49 ⟨n14, 4, none⟩ .u8 l57 ∧ Q i51 i52 i53 o54 n55 n56 l57 i48 h49 else ∃ i58, hc h45 ⟨n37, 0, none⟩ = some (.int .i64 i58) ∧ ∃ i59, hc h45 (a0.add 1) = some (.int .i64 i59) ∧ if leI i59 i58 = true then hcan h45 ⟨n14, 0, none⟩ 36 ∧ ∀ h60, h60 = hwr h45 ⟨n14, 0, none⟩ (.int .i64 0 :: .int .i64 0 :: .int .i64 0 :: .slice none 0 0 :: ints .u8 (zeros 32)) → ∃ i62, hc h60 ⟨n14, 0, none⟩ = some (.int .i64 i62) ∧ ∃ i63, hc h60 ⟨n14, 1, none⟩ = some (.int .i64 i63) ∧ ∃ i64, hc h60 ⟨n14, 2, none⟩ = some (.int .i64 i64) ∧ ∃ o65 n66 n67, hc h60 ⟨n14, 3, none⟩ = some (.slice o65 n66 n67) ∧ ∃ (l68 : List Int), l68.length = 32 ∧ hrow h60 ⟨n14, 4, none⟩ .u8 l68 ∧ Q i62 i63 i64 o65 n66 n67 l68 5 h60 else ∀ (J69 : JT), (∀ (h70 : H), (∃ i71, hc h70 ⟨n37, 1, none⟩ = some (.int .i64 i71) ∧ c3 a0 i71 (fun b72 i73 h74 => if (i73 != 0) = true then hcan h74 ⟨n14, 0, none⟩ 36 ∧ ∀ h75, h75 = hwr h74 ⟨n14, 0, none⟩ (.int .i64 0 :: .int .i64 0 :: .int .i64 0 :: .slice none 0 0 :: ints .u8 (zeros 32)) → ∃ i77, hc h75 ⟨n14, 0, none⟩ = some (.int .i64 i77) ∧ ∃ i78, hc h75 ⟨n14, 1, none⟩ = some (.int .i64 i78) ∧ ∃ i79, hc h75 ⟨n14, 2, none⟩ = some (.int .i64 i79) ∧ ∃ o80 n81 n82, hc h75 ⟨n14, 3, none⟩ = some (.slice o80 n81 n82) ∧ ∃ (l83 : List Int), l83.length = 32 ∧ hrow h75 ⟨n14, 4, none⟩ .u8 l83 ∧ Q i77 i78 i79 o80 n81 n82 l83 i73 h75 else if b72 = true then hcan h74 ⟨n14, 0, none⟩ 36 ∧ ∀ h84, h84 = hwr h74 ⟨n14, 0, none⟩ (.int .i64 0 :: .int .i64 0 :: .int .i64 0 :: .slice none 0 0 :: ints .u8 (zeros 32)) → ∃ i86, hc h84 ⟨n14, 0, none⟩ = some (.int .i64 i86) ∧ ∃ i87, hc h84 ⟨n14, 1, none⟩ = some (.int .i64 i87) ∧ ∃ i88, hc h84 ⟨n14, 2, none⟩ = some (.int .i64 i88) ∧ ∃ o89 n90 n91, hc h84 ⟨n14, 3, none⟩ = some (.slice o89 n90 n91) ∧ ∃ (l92 : List Int), l92.length = 32 ∧ hrow h84 ⟨n14, 4, none⟩ .u8 l92 ∧ Q i86 i87 i88 o89 n90 n91 l92 14 h84 else ∃ i93, hc h74 ⟨n37, 1, none⟩ = some (.int .i64 i93) ∧ c5 a2p a2l a2c (fun o94 n95 n96 h97 => hcs h97 ⟨n37, 1, none⟩ [.int .i64 i93] ∧ c4 a1 i93 o94 n95 n96 (fun l98 i99 h100 => ∀ n101 h102, hnew h100 n101 (ints .u8 (zeros 32)) h102 → hcan h102 ⟨n101, 0, none⟩ 32 ∧ K1_portcullisref13_Check c1 c6 a0 Q h102 n101 l98 n37 n14) h97 ∧ ∀ n175 h176, hnew h97 n175 (ints .u8 (zeros 32)) h176 → hcs h176 ⟨n37, 1, none⟩ [.int .i64 i93] ∧ c4 a1 i93 o94 n95 n96 (fun l178 i179 h180 => hcan h180 ⟨n175, 0, none⟩ 32 ∧ K1_portcullisref13_Check c1 c6 a0 Q h180 n175 l178 n37 n14) h176) h74 ∧ ∀ n252 h253, hnew h74 n252 (ints .u8 (zeros 32)) h253 → hcs h253 ⟨n37, 1, none⟩ [.int .i64 i93] ∧ c5 a2p a2l a2c (fun o255 n256 n257 h258 => hcs h258 ⟨n37, 1, none⟩ [.int .i64 i93] ∧ c4 a1 i93 o255 n256 n257 (fun l259 i260 h261 => hcan h261 ⟨n252, 0, none⟩ 32 ∧ K1_portcullisref13_Check c1 c6 a0 Q h261 n252 l259 n37 n14) h258) h253) h70) → J69 [] h70) → ∃ i335, hc h45 ⟨n37, 1, none⟩ = some (.int .i64 i335) ∧ c2 a1 i335 (fun b336 h337 => if (!b336) = true then hcan h337 ⟨n14, 0, none⟩ 36 ∧ ∀ h338, h338 = hwr h337 ⟨n14, 0, none⟩ (.int .i64 0 :: .int .i64 0 :: .int .i64 0 :: .slice none 0 0 :: ints .u8 (zeros 32)) → ∃ i340, hc h338 ⟨n14, 0, none⟩ = some (.int .i64 i340) ∧ ∃ i341, hc h338 ⟨n14, 1, none⟩ = some (.int .i64 i341) ∧ ∃ i342, hc h338 ⟨n14, 2, none⟩ = some (.int .i64 i342) ∧ ∃ o343 n344 n345, hc h338 ⟨n14, 3, none⟩ = some (.slice o343 n344 n345) ∧ ∃ (l346 : List Int), l346.length = 32 ∧ hrow h338 ⟨n14, 4, none⟩ .u8 l346 ∧ Q i340 i341 i342 o343 n344 n345 l346 13 h338 else ∃ i347, hc h337 ⟨n37, 1, none⟩ = some (.int .i64 i347) ∧ ∃ i348, hc h337 (a0.add 4) = some (.int .i64 i348) ∧ if leI i348 i347 = true then hcan h337 ⟨n14, 0, none⟩ 36 ∧ ∀ h349, h349 = hwr h337 ⟨n14, 0, none⟩ (.int .i64 0 :: .int .i64 0 :: .int .i64 0 :: .slice none 0 0 :: ints .u8 (zeros 32)) → ∃ i351, hc h349 ⟨n14, 0, none⟩ = some (.int .i64 i351) ∧ ∃ i352, hc h349 ⟨n14, 1, none⟩ = some (.int .i64 i352) ∧ ∃ i353, hc h349 ⟨n14, 2, none⟩ = some (.int .i64 i353) ∧ ∃ o354 n355 n356, hc h349 ⟨n14, 3, none⟩ = some (.slice o354 n355 n356) ∧ ∃ (l357 : List Int), l357.length = 32 ∧ hrow h349 ⟨n14, 4, none⟩ .u8 l357 ∧ Q i351 i352 i353 o354 n355 n356 l357 13 h349 else J69 [] h337) h45) h15
theorem E_portcullisref13_Check : ∀ c0 c1 c2 c3 c4 c5 c6 a0 a1 a2p a2l a2c Q h, G_portcullisref13_Check c0 c1 c2 c3 c4 c5 c6 a0 a1 a2p a2l a2c Q h = Dbody PP [(51, W [.slc] [.ag [.int .i64, .int .i64, .int .i64, .slc, .row .u8 32], .ag [.int .i64, .int .i64]] c0), (75, W [.addr, .int .i64] [.int .i64, .int .i64] c1), (79, W [.addr, .int .i64] [.bool] c2), (80, W [.addr, .int .i64] [.bool, .int .i64] c3), (91, W [.addr, .int .i64, .slc] [.ag [.row .u8 32], .int .i64] c4), (92, W [.slc] [.slc] c5), (93, W [.ag [.int .i64, .int .i64, .int .i64, .int .i64, .int .i64, .int .i64, .int .i64]] [.int .i64] c6)] [(63, [])] Tryz.f33 [.addr a0, .addr a1, .one (.slice a2p a2l a2c)] (decR [.ag [.int .i64, .int .i64, .int .i64, .slc, .row .u8 32], .int .i64] Q) h := by intros; kernel_rfl
def F_portcullisref13_Check := G_portcullisref13_Check F_portcullisref11_Parse F_portcullisref10_Read F_portcullisref12_Ring_Has F_portcullisref10_Revoked F_portcullisref12_Ring_Sign F_portcullisref11_Body F_portcullisref10_Last
theorem R_portcullisref13_Check : RunOk PP 33 (W [.addr, .addr, .slc] [.ag [.int .i64, .int .i64, .int .i64, .slc, .row .u8 32], .int .i64] F_portcullisref13_Check) := runOk_of (TblOk.cons R_portcullisref11_Parse (TblOk.cons R_portcullisref10_Read (TblOk.cons R_portcullisref12_Ring_Has (TblOk.cons R_portcullisref10_Revoked (TblOk.cons R_portcullisref12_Ring_Sign (TblOk.cons R_portcullisref11_Body (TblOk.cons R_portcullisref10_Last (TblOk.nil)))))))) Tryz.func33 (by kernel_rfl) (by kernel_rfl) (E_portcullisref13_Check _ _ _ _ _ _ _)
attribute [irreducible] F_portcullisref13_Check
def G_portcullisref11_Same (a0_0 : Int) (a0_1 : Int) (a0_2 : Int) (a0_3p : OA) (a0_3l : Nat) (a0_3c : Nat) (a0_4 : List Int) (a1_0 : Int) (a1_1 : Int) (a1_2 : Int) (a1_3p : OA) (a1_3l : Nat) (a1_3c : Nat) (a1_4 : List Int) (Q : Bool → H → Prop) (h : H) : Prop := ∀ n16 h17, hnew h n16 (.int .i64 a0_0 :: .int .i64 a0_1 :: .int .i64 a0_2 :: .slice a0_3p a0_3l a0_3c :: (ints .u8 a0_4 ++ [])) h17 → ∀ n19 h20, hnew h17 n19 (.int .i64 a1_0 :: .int .i64 a1_1 :: .int .i64 a1_2 :: .slice a1_3p a1_3l a1_3c :: (ints .u8 a1_4 ++ [])) h20 → ∃ i22, hc h20 ⟨n16, 0, none⟩ = some (.int .i64 i22) ∧ ∃ i23, hc h20 ⟨n19, 0, none⟩ = some (.int .i64 i23) ∧ if (i22 == i23) = true then ∃ i24, hc h20 ⟨n16, 1, none⟩ = some (.int .i64 i24) ∧ ∃ i25, hc h20 ⟨n19, 1, none⟩ = some (.int .i64 i25) ∧ if (i24 == i25) = true then ∃ i26, hc h20 ⟨n16, 2, none⟩ = some (.int .i64 i26) ∧ ∃ i27, hc h20 ⟨n19, 2, none⟩ = some (.int .i64 i27) ∧ if (i26 == i27) = true then ∃ o28 n29 n30, hc h20 ⟨n16, 3, none⟩ = some (.slice o28 n29 n30) ∧ ∃ (l31 : List Int), hsv h20 o28 1 n29 (ints .u8 l31) ∧ ∃ o32 n33 n34, hc h20 ⟨n19, 3, none⟩ = some (.slice o32 n33 n34) ∧ ∃ (l35 : List Int), hsv h20 o32 1 n33 (ints .u8 l35) ∧ if ((bytesOf l31).toList == (bytesOf l35).toList) = true then ∃ (l36 : List Int), l36.length = 32 ∧ hrow h20 ⟨n16, 4, none⟩ .u8 l36 ∧ ∃ (l37 : List Int), l37.length = 32 ∧ hrow h20 ⟨n19, 4, none⟩ .u8 l37 ∧ Q (l36 == l37) h20 else Q false h20 else Q false h20 else Q false h20 else Q false h20
theorem E_portcullisref11_Same : ∀ a0_0 a0_1 a0_2 a0_3p a0_3l a0_3c a0_4 a1_0 a1_1 a1_2 a1_3p a1_3l a1_3c a1_4 Q h, G_portcullisref11_Same a0_0 a0_1 a0_2 a0_3p a0_3l a0_3c a0_4 a1_0 a1_1 a1_2 a1_3p a1_3l a1_3c a1_4 Q h = Dbody PP [] [] Tryz.f35 [.agg [.c (.int .i64 a0_0), .c (.int .i64 a0_1), .c (.int .i64 a0_2), .c (.slice a0_3p a0_3l a0_3c), .row .u8 32 a0_4], .agg [.c (.int .i64 a1_0), .c (.int .i64 a1_1), .c (.int .i64 a1_2), .c (.slice a1_3p a1_3l a1_3c), .row .u8 32 a1_4]] (decR [.bool] Q) h := by intros; kernel_rfl
def F_portcullisref11_Same := G_portcullisref11_Same
theorem R_portcullisref11_Same : RunOk PP 35 (W [.ag [.int .i64, .int .i64, .int .i64, .slc, .row .u8 32], .ag [.int .i64, .int .i64, .int .i64, .slc, .row .u8 32]] [.bool] F_portcullisref11_Same) := runOk_of (TblOk.nil) Tryz.func35 (by kernel_rfl) (by kernel_rfl) (E_portcullisref11_Same)
attribute [irreducible] F_portcullisref11_Same
def G_portcullisref01_Beyond (a0p : OA) (a0l : Nat) (a0c : Nat) (Q : Bool → H → Prop) (h : H) : Prop := ∀ (J5 : JT), (∀ (i6 i7 : Int) (h8 : H), (if ltI i7 a0l = true then if leI 0 i6 = true then ∃ p9, a0p = some p9 ∧ 0 ≤ i7 ∧ i7 < a0l ∧ ∃ o10 n11 n12, hc h8 (p9.add (i7.toNat * 1)) = some (.slice o10 n11 n12) ∧ J5 [.dv (.one (.int .i64 (IntKind.i64.wrap (i6 - IntKind.i64.wrap (1 + (↑n11 : Int)))))), .dv (.one (.int .i64 (IntKind.i64.wrap (i7 + 1))))] h8 else Q (ltI i6 0) h8 else Q (ltI i6 0) h8) → J5 [.dv (.one (.int .i64 i6)), .dv (.one (.int .i64 i7))] h8) → J5 [.dv (.one (.int .i64 2147483647)), .dv (.one (.int .i64 0))] h
theorem E_portcullisref01_Beyond : ∀ a0p a0l a0c Q h, G_portcullisref01_Beyond a0p a0l a0c Q h = Dbody PP [] [(58, [(3, .sc (.int .i64)), (4, .sc (.int .i64))])] Tryz.f43 [.one (.slice a0p a0l a0c)] (decR [.bool] Q) h := by intros; kernel_rfl
def F_portcullisref01_Beyond := G_portcullisref01_Beyond
theorem R_portcullisref01_Beyond : RunOk PP 43 (W [.slc] [.bool] F_portcullisref01_Beyond) := runOk_of (TblOk.nil) Tryz.func43 (by kernel_rfl) (by kernel_rfl) (E_portcullisref01_Beyond)
attribute [irreducible] F_portcullisref01_Beyond
def G_portcullislaw13_GateChecks (c0 : Addr → (Int → H → Prop) → H → Prop) (c1 : OA → Nat → Nat → OA → Nat → Nat → OA → Nat → Nat → OA → Nat → Nat → OA → Nat → Nat → OA → Nat → Nat → (Bool → H → Prop) → H → Prop) (c2 : Addr → (OA → Nat → Nat → OA → Nat → Nat → OA → Nat → Nat → H → Prop) → H → Prop) (c3 : Addr → Int → OA → Nat → Nat → (H → Prop) → H → Prop) (c4 : Addr → Int → OA → Nat → Nat → (H → Prop) → H → Prop) (c5 : Addr → Int → (Int → H → Prop) → H → Prop) (c6 : Addr → Int → (Int → H → Prop) → H → Prop) (c7 : (Bool → H → Prop) → H → Prop) (c8 : Int → Int → Int → Int → Int → Int → Int → OA → Nat → Nat → OA → Nat → Nat → OA → Nat → Nat → OA → Nat → Nat → (OA → OA → OA → Bool → H → Prop) → H → Prop) (c9 : Int → Int → Int → Int → Int → Int → Int → OA → Nat → Nat → OA → Nat → Nat → OA → Nat → Nat → OA → Nat → Nat → (OA → OA → Bool → H → Prop) → H → Prop) (c10 : Addr → Addr → OA → Nat → Nat → (Int → Int → Int → OA → Nat → Nat → List Int → Int → H → Prop) → H → Prop) (c11 : Addr → Addr → OA → Nat → Nat → (Int → Int → Int → OA → Nat → Nat → List Int → Int → H → Prop) → H → Prop) (c12 : Int → Int → Int → OA → Nat → Nat → List Int → Int → Int → Int → OA → Nat → Nat → List Int → (Bool → H → Prop) → H → Prop) (c13 : OA → Nat → Nat → (Bool → H → Prop) → H → Prop) (a0_0 : Int) (a0_1 : Int) (a0_2 : Int) (a0_3 : Int) (a0_4 : Int) (a0_5 : Int) (a0_6 : Int) (a0_7p : OA) (a0_7l : Nat) (a0_7c : Nat) (a0_8p : OA) (a0_8l : Nat) (a0_8c : Nat) (a0_9p : OA) (a0_9l : Nat) (a0_9c : Nat) (a0_10p : OA) (a0_10l : Nat) (a0_10c : Nat) (a1p : OA) (a1l : Nat) (a1c : Nat) (Q : Bool → H → Prop) (h : H) : Prop := ∀ n38 h39, hnew h n38 [.int .i64 a0_0, .int .i64 a0_1, .int .i64 a0_2, .int .i64 a0_3, .int .i64 a0_4, .int .i64 a0_5, .int .i64 a0_6, .slice a0_7p a0_7l a0_7c, .slice a0_8p a0_8l a0_8c, .slice a0_9p a0_9l a0_9c, .slice a0_10p a0_10l a0_10c] h39 → c7 (fun b41 h42 => if (!b41) = true then Q false h42 else c13 a1p a1l a1c (fun b43 h44 => if b43 = true then Q true h44 else ∃ i45, hc h44 ⟨n38, 0, none⟩ = some (.int .i64 i45) ∧ ∃ i46, hc h44 ⟨n38, 1, none⟩ = some (.int .i64 i46) ∧ ∃ i47, hc h44 ⟨n38, 2, none⟩ = some (.int .i64 i47) ∧ ∃ i48, hc h44 ⟨n38, 3, none⟩ = some (.int .i64 i48) ∧ ∃ i49, hc h44 ⟨n38, 4, none⟩ = some (.int .i64 i49) ∧ ∃ i50, hc h44 ⟨n38, 5, none⟩ = some (.int .i64 i50) ∧ ∃ i51, hc h44 ⟨n38, 6, none⟩ = some (.int .i64 i51) ∧ ∃ o52 n53 n54, hc h44 ⟨n38, 7, none⟩ = some (.slice o52 n53 n54) ∧ ∃ o55 n56 n57, hc h44 ⟨n38, 8, none⟩ = some (.slice o55 n56 n57) ∧ ∃ o58 n59 n60, hc h44 ⟨n38, 9, none⟩ = some (.slice o58 n59 n60) ∧ ∃ o61 n62 n63, hc h44 ⟨n38, 10, none⟩ = some (.slice o61 n62 n63) ∧ c8 i45 i46 i47 i48 i49 i50 i51 o52 n53 n54 o55 n56 n57 o58 n59 n60 o61 n62 n63 (fun o64 o65 o66 b67 h68 => ∃ i69, hc h68 ⟨n38, 0, none⟩ = some (.int .i64 i69) ∧ ∃ i70, hc h68 ⟨n38, 1, none⟩ = some (.int .i64 i70) ∧ ∃ i71, hc h68 ⟨n38, 2, none⟩ = some (.int .i64 i71) ∧ ∃ i72, hc h68 ⟨n38, 3, none⟩ = some (.int .i64 i72) ∧ ∃ i73, hc h68 ⟨n38, 4, none⟩ = some (.int .i64 i73) ∧ ∃ i74, hc h68 ⟨n38, 5, none⟩ = some (.int .i64 i74) ∧ ∃ i75, hc h68 ⟨n38, 6, none⟩ = some (.int .i64 i75) ∧ ∃ o76 n77 n78, hc h68 ⟨n38, 7, none⟩ = some (.slice o76 n77 n78) ∧ ∃ o79 n80 n81, hc h68 ⟨n38, 8, none⟩ = some (.slice o79 n80 n81) ∧ ∃ o82 n83 n84, hc h68 ⟨n38, 9, none⟩ = some (.slice o82 n83 n84) ∧ ∃ o85 n86 n87, hc h68 ⟨n38, 10, none⟩ = some (.slice o85 n86 n87) ∧ c9 i69 i70 i71 i72 i73 i74 i75 o76 n77 n78 o79 n80 n81 o82 n83 n84 o85 n86 n87 (fun o88 o89 b90 h91 => if (!b67 == b90) = true then Q false h91 else if (!b90) = true then Q true h91 else ∀ (J92 : JT), (∀ (i93 : Int) (h94 : H), (if ltI i93 2 = true then ∀ (J95 : JT), (∀ (i96 : Int) (h97 : H), (if ltI i96 a1l = true then ∃ p98, a1p = some p98 ∧ 0 ≤ i96 ∧ i96 < a1l ∧ ∃ o99 n100 n101, hc h97 (p98.add (i96.toNat * 1)) = some (.slice o99 n100 n101) ∧ ∃ p102, o65 = some p102 ∧ ∃ p103, o66 = some p103 ∧ c11 p102 p103 o99 n100 n101 (fun i104 i105 i106 o107 n108 n109 l110 i111 h112 => ∀ n113 h114, hnew h112 n113 (.int .i64 0 :: .int .i64 0 :: .int .i64 0 :: .slice none 0 0 :: ints .u8 (zeros 32)) h114 → hcan h114 ⟨n113, 0, none⟩ 36 ∧ ∀ h116, h116 = hwr h114 ⟨n113, 0, none⟩ (.int .i64 i104 :: .int .i64 i105 :: .int .i64 i106 :: .slice o107 n108 n109 :: (ints .u8 l110 ++ [])) → ∃ p118, o88 = some p118 ∧ ∃ p119, o89 = some p119 ∧ c10 p118 p119 o99 n100 n101 (fun i120 i121 i122 o123 n124 n125 l126 i127 h128 => ∀ n129 h130, hnew h128 n129 (.int .i64 0 :: .int .i64 0 :: .int .i64 0 :: .slice none 0 0 :: ints .u8 (zeros 32)) h130 → hcan h130 ⟨n129, 0, none⟩ 36 ∧ ∀ h132, h132 = hwr h130 ⟨n129, 0, none⟩ (.int .i64 i120 :: .int .i64 i121 :: .int .i64 i122 :: .slice o123 n124 n125 :: (ints .u8 l126 ++ [])) → if (i111 != i127) = true then Q false h132 else ∃ i134, hc h132 ⟨n113, 0, none⟩ = some (.int .i64 i134) ∧ ∃ i135, hc h132 ⟨n113, 1, none⟩ = some (.int .i64 i135) ∧ ∃ i136, hc h132 ⟨n113, 2, none⟩ = some (.int .i64 i136) ∧ ∃ o137 n138 n139, hc h132 ⟨n113, 3, none⟩ = some (.slice o137 n138 n139) ∧ ∃ (l140 : List Int), l140.length = 32 ∧ hrow h132 ⟨n113, 4, none⟩ .u8 l140 ∧ ∃ i141, hc h132 ⟨n129, 0, none⟩ = some (.int .i64 i141) ∧ ∃ i142, hc h132 ⟨n129, 1, none⟩ = some (.int .i64 i142) ∧ ∃ i143, hc h132 ⟨n129, 2, none⟩ = some (.int .i64 i143) ∧ ∃ o144 n145 n146, hc h132 ⟨n129, 3, none⟩ = some (.slice o144 n145 n146) ∧ ∃ (l147 : List Int), l147.length = 32 ∧ hrow h132 ⟨n129, 4, none⟩ .u8 l147 ∧ c12 i134 i135 i136 o137 n138 n139 l140 i141 i142 i143 o144 n145 n146 l147 (fun b148 h149 => if (!b148) = true then Q false h149 else ∃ p150, o64 = some p150 ∧ c0 p150 (fun i151 h152 => if (i151 != i93) = true then Q false h152 else J95 [.dv (.one (.int .i64 (IntKind.i64.wrap (i96 + 1))))] h152) h149) h132) h116) h97 else if (i93 == 0) = true then ∃ o153 n154 n155, hc h97 ⟨n38, 7, none⟩ = some (.slice o153 n154 n155) ∧ ∃ o156 n157 n158, hc h97 ⟨n38, 8, none⟩ = some (.slice o156 n157 n158) ∧ ∃ o159 n160 n161, hc h97 ⟨n38, 9, none⟩ = some (.slice o159 n160 n161) ∧ ∃ p162, o64 = some p162 ∧ c2 p162 (fun o163 n164 n165 o166 n167 n168 o169 n170 n171 h172 => hcs h172 ⟨n38, 7, none⟩ [.slice o153 n154 n155, .slice o156 n157 n158, .slice o159 n160 n161] ∧ c1 o163 n164 n165 o166 n167 n168 o169 n170 n171 o153 n154 n155 o156 n157 n158 o159 n160 n161 (fun b173 h174 => if (!b173) = true then Q false h174 else if (i93 == 0) = true then ∃ p175, o64 = some p175 ∧ c3 p175 0 none 0 0 (fun h176 => ∃ p177, o88 = some p177 ∧ c4 p177 0 none 0 0 (fun h178 => ∃ p179, o64 = some p179 ∧ c5 p179 0 (fun i180 h181 => ∃ p182, o88 = some p182 ∧ c6 p182 0 (fun i183 h184 => J92 [.dv (.one (.int .i64 (IntKind.i64.wrap (i93 + 1))))] h184) h181) h178) h176) h174 else J92 [.dv (.one (.int .i64 (IntKind.i64.wrap (i93 + 1))))] h174) h172) h97 else if (i93 == 0) = true then ∃ p185, o64 = some p185 ∧ c3 p185 0 none 0 0 (fun h186 => ∃ p187, o88 = some p187 ∧ c4 p187 0 none 0 0 (fun h188 => ∃ p189, o64 = some p189 ∧ c5 p189 0 (fun i190 h191 => ∃ p192, o88 = some p192 ∧ c6 p192 0 (fun i193 h194 => J92 [.dv (.one (.int .i64 (IntKind.i64.wrap (i93 + 1))))] h194) h191) h188) h186) h97 else J92 [.dv (.one (.int .i64 (IntKind.i64.wrap (i93 + 1))))] h97) → J95 [.dv (.one (.int .i64 i96))] h97) → J95 [.dv (.one (.int .i64 0))] h94 else Q true h94) → J92 [.dv (.one (.int .i64 i93))] h94) → J92 [.dv (.one (.int .i64 0))] h91) h68) h44) h42) h39
theorem E_portcullislaw13_GateChecks : ∀ c0 c1 c2 c3 c4 c5 c6 c7 c8 c9 c10 c11 c12 c13 a0_0 a0_1 a0_2 a0_3 a0_4 a0_5 a0_6 a0_7p a0_7l a0_7c a0_8p a0_8l a0_8c a0_9p a0_9l a0_9c a0_10p a0_10l a0_10c a1p a1l a1c Q h, G_portcullislaw13_GateChecks c0 c1 c2 c3 c4 c5 c6 c7 c8 c9 c10 c11 c12 c13 a0_0 a0_1 a0_2 a0_3 a0_4 a0_5 a0_6 a0_7p a0_7l a0_7c a0_8p a0_8l a0_8c a0_9p a0_9l a0_9c a0_10p a0_10l a0_10c a1p a1l a1c Q h = Dbody PP [(23, W [.addr] [.int .i64] c0), (24, W [.ag [.slc, .slc, .slc], .ag [.slc, .slc, .slc]] [.bool] c1), (25, W [.addr] [.ag [.slc, .slc, .slc]] c2), (26, W [.addr, .int .i64, .slc] [] c3), (27, W [.addr, .int .i64, .slc] [] c4), (28, W [.addr, .int .i64] [.int .i64] c5), (29, W [.addr, .int .i64] [.int .i64] c6), (30, W [] [.bool] c7), (31, W [.ag [.int .i64, .int .i64, .int .i64, .int .i64, .int .i64, .int .i64, .int .i64, .slc, .slc, .slc, .slc]] [.ptr, .ptr, .ptr, .bool] c8), (32, W [.ag [.int .i64, .int .i64, .int .i64, .int .i64, .int .i64, .int .i64, .int .i64, .slc, .slc, .slc, .slc]] [.ptr, .ptr, .bool] c9), (33, W [.addr, .addr, .slc] [.ag [.int .i64, .int .i64, .int .i64, .slc, .row .u8 32], .int .i64] c10), (34, W [.addr, .addr, .slc] [.ag [.int .i64, .int .i64, .int .i64, .slc, .row .u8 32], .int .i64] c11), (35, W [.ag [.int .i64, .int .i64, .int .i64, .slc, .row .u8 32], .ag [.int .i64, .int .i64, .int .i64, .slc, .row .u8 32]] [.bool] c12), (43, W [.slc] [.bool] c13)] [(2042, [(12, .sc (.int .i64))]), (261410, [(47, .sc (.int .i64))])] Tryz.f8 [.agg [.c (.int .i64 a0_0), .c (.int .i64 a0_1), .c (.int .i64 a0_2), .c (.int .i64 a0_3), .c (.int .i64 a0_4), .c (.int .i64 a0_5), .c (.int .i64 a0_6), .c (.slice a0_7p a0_7l a0_7c), .c (.slice a0_8p a0_8l a0_8c), .c (.slice a0_9p a0_9l a0_9c), .c (.slice a0_10p a0_10l a0_10c)], .one (.slice a1p a1l a1c)] (decR [.bool] Q) h := by intros; kernel_rfl
def F_portcullislaw13_GateChecks := G_portcullislaw13_GateChecks F_chip_Chip_Acts F_portcullisref21_Same F_chip_Chip_State F_chip_Chip_Cut F_portcullisref04_Chip_Cut F_chip_Chip_Blow F_portcullisref04_Chip_Blow F_portcullislaw13_awake F_portcullislaw13_scene F_portcullislaw13_may F_portcullisref13_Check F_gate_Check F_portcullisref11_Same F_portcullisref01_Beyond
theorem R_portcullislaw13_GateChecks : RunOk PP 8 (W [.ag [.int .i64, .int .i64, .int .i64, .int .i64, .int .i64, .int .i64, .int .i64, .slc, .slc, .slc, .slc], .slc] [.bool] F_portcullislaw13_GateChecks) := runOk_of (TblOk.cons R_chip_Chip_Acts (TblOk.cons R_portcullisref21_Same (TblOk.cons R_chip_Chip_State (TblOk.cons R_chip_Chip_Cut (TblOk.cons R_portcullisref04_Chip_Cut (TblOk.cons R_chip_Chip_Blow (TblOk.cons R_portcullisref04_Chip_Blow (TblOk.cons R_portcullislaw13_awake (TblOk.cons R_portcullislaw13_scene (TblOk.cons R_portcullislaw13_may (TblOk.cons R_portcullisref13_Check (TblOk.cons R_gate_Check (TblOk.cons R_portcullisref11_Same (TblOk.cons R_portcullisref01_Beyond (TblOk.nil))))))))))))))) Tryz.func8 (by kernel_rfl) (by kernel_rfl) (E_portcullislaw13_GateChecks _ _ _ _ _ _ _ _ _ _ _ _ _ _)
attribute [irreducible] F_portcullislaw13_GateChecks
def G_chip_Lay_1 (a0p : OA) (a0l : Nat) (a0c : Nat) (a1 : Addr) (Q : Bool → H → Prop) (h : H) : Prop := ∃ i6, hc h a1 = some (.int .i64 i6) ∧ Q ((↑a0l : Int) != i6) h
theorem E_chip_Lay_1 : ∀ a0p a0l a0c a1 Q h, G_chip_Lay_1 a0p a0l a0c a1 Q h = Dbody PP [] [] Tryz.f137 [.one (.slice a0p a0l a0c), .addr a1] (decR [.bool] Q) h := by intros; kernel_rfl
def F_chip_Lay_1 := G_chip_Lay_1
theorem R_chip_Lay_1 : RunOk PP 137 (W [.slc, .addr] [.bool] F_chip_Lay_1) := runOk_of (TblOk.nil) Tryz.func137 (by kernel_rfl) (by kernel_rfl) (E_chip_Lay_1)
attribute [irreducible] F_chip_Lay_1
end Go.Proofs.YtaglicdidpgkpaaGreatDoor
end

/- Denotations of functions of the program, printed by a program of ours, and that they are the model's. -/
section
set_option linter.unusedVariables false
set_option maxRecDepth 100000
namespace Go.Proofs.YtaglicdidpgkpaaGreatDoor
open Go Go.Vc
def G_chip_Lay_2 (a0 : Int) (Q : Bool → H → Prop) (h : H) : Prop := Q (ltI a0 0) h
theorem E_chip_Lay_2 : ∀ a0 Q h, G_chip_Lay_2 a0 Q h = Dbody PP [] [] Tryz.f139 [.one (.int .i64 a0)] (decR [.bool] Q) h := by intros; kernel_rfl
def F_chip_Lay_2 := G_chip_Lay_2
theorem R_chip_Lay_2 : RunOk PP 139 (W [.int .i64] [.bool] F_chip_Lay_2) := runOk_of (TblOk.nil) Tryz.func139 (by kernel_rfl) (by kernel_rfl) (E_chip_Lay_2)
attribute [irreducible] F_chip_Lay_2
def G_chip_Chip_begins_1 (a0 : Int) (Q : Int → H → Prop) (h : H) : Prop := Q 255 h
theorem E_chip_Chip_begins_1 : ∀ a0 Q h, G_chip_Chip_begins_1 a0 Q h = Dbody PP [] [] Tryz.f159 [.one (.int .i64 a0)] (decR [.int .u8] Q) h := by intros; kernel_rfl
def F_chip_Chip_begins_1 := G_chip_Chip_begins_1
theorem R_chip_Chip_begins_1 : RunOk PP 159 (W [.int .i64] [.int .u8] F_chip_Chip_begins_1) := runOk_of (TblOk.nil) Tryz.func159 (by kernel_rfl) (by kernel_rfl) (E_chip_Chip_begins_1)
attribute [irreducible] F_chip_Chip_begins_1
def G_chip_Chip_begins_2 (a0 : Int) (a1 : Addr) (Q : Int → H → Prop) (h : H) : Prop := ∃ o4 n5 n6, hc h a1 = some (.slice o4 n5 n6) ∧ if ((↑n5 : Int) == 0) = true then Q 0 h else ∃ o7 n8 n9, hc h a1 = some (.slice o7 n8 n9) ∧ ∃ o10 n11 n12, hc h a1 = some (.slice o10 n11 n12) ∧ (↑n11 : Int) ≠ 0 ∧ ∃ p13, o7 = some p13 ∧ 0 ≤ a0.tmod (↑n11 : Int) ∧ a0.tmod (↑n11 : Int) < (↑n8 : Int) ∧ ∃ i14, hc h (p13.add ((a0.tmod (↑n11 : Int)).toNat * 1)) = some (.int .u8 i14) ∧ Q i14 h
theorem E_chip_Chip_begins_2 : ∀ a0 a1 Q h, G_chip_Chip_begins_2 a0 a1 Q h = Dbody PP [] [] Tryz.f160 [.one (.int .i64 a0), .addr a1] (decR [.int .u8] Q) h := by intros; kernel_rfl
def F_chip_Chip_begins_2 := G_chip_Chip_begins_2
theorem R_chip_Chip_begins_2 : RunOk PP 160 (W [.int .i64, .addr] [.int .u8] F_chip_Chip_begins_2) := runOk_of (TblOk.nil) Tryz.func160 (by kernel_rfl) (by kernel_rfl) (E_chip_Chip_begins_2)
attribute [irreducible] F_chip_Chip_begins_2
end Go.Proofs.YtaglicdidpgkpaaGreatDoor
end

/- Blocks of memory as lists of cells, and what loads, stores and allocations do to them. Own work; generic over any program. -/
section
set_option linter.unusedVariables false
namespace Go.Vc

def Blk (h : H) (b : Nat) (vs : List Value) : Prop :=
 ∃ t lo n, h[b]? = some (.cells vs.toArray t (lo, lo + n)) ∧ ∀ i, i < vs.length → ¬ (lo ≤ i ∧ i < lo + n)

abbrev at_ (b o : Nat) : Addr := ⟨b, o, none⟩

@[simp] theorem add_mk (b o n : Nat) : (Addr.mk b o none).add n = Addr.mk b (o + n) none := by
 unfold Addr.add; split
 ·rename_i h; subst h; rfl
 ·rfl

theorem Blk.lt {h : H} {b : Nat} {vs : List Value} (k : Blk h b vs) : b < h.size := by
 obtain ⟨t, lo, hi, hb, _⟩ := k
 exact (Array.getElem?_eq_some_iff.1 hb).1
theorem Blk.of_eq {h h' : H} {b : Nat} {vs : List Value} (k : Blk h b vs) (e : h'[b]? = h[b]?) : Blk h' b vs := by
 obtain ⟨t, lo, hi, hb, hf⟩ := k
 exact ⟨t, lo, hi, by rw [e]; exact hb, hf⟩

theorem Blk.hc {h : H} {b : Nat} {vs : List Value} (k : Blk h b vs) (o : Nat) : hc h ⟨b, o, none⟩ = vs[o]? := by
 obtain ⟨t, lo, hi, hb, _⟩ := k
 simp [Vc.hc, hb]
theorem Blk.hf {h : H} {b : Nat} {vs : List Value} (k : Blk h b vs) {o : Nat} (ho : o < vs.length) : hf h ⟨b, o, none⟩ = false := by
 obtain ⟨t, lo, hi, hb, hfz⟩ := k
 have := hfz o ho
 simp only [Vc.hf, hb]
 simp only [Bool.and_eq_false_imp, decide_eq_true_eq, decide_eq_false_iff_not]
 intro h1 h2; exact this ⟨h1, h2⟩
theorem Blk.can {h : H} {b : Nat} {vs : List Value} (k : Blk h b vs) {o n : Nat} (ho : o + n ≤ vs.length) : hcan h ⟨b, o, none⟩ n := by
 intro i hi
 have hl : o + i < vs.length := by omega
 rw [add_mk, k.hc, k.hf hl]
 simp [List.getElem?_eq_getElem hl]
theorem Blk.hcs {h : H} {b : Nat} {vs : List Value} (k : Blk h b vs) {o : Nat} {xs : List Value} (e : ∀ i, i < xs.length → vs[o + i]? = xs[i]?) : hcs h ⟨b, o, none⟩ xs := by
 intro i v hv
 rw [add_mk, k.hc, e i (List.getElem?_eq_some_iff.1 hv).1, hv]

/-! ### Writing -/
def splice (vs : List Value) : Nat → List Value → List Value
 | _, [] => vs
 | o, x :: r => splice (vs.set o x) (o + 1) r
@[simp] theorem splice_nil (vs : List Value) (o : Nat) : splice vs o [] = vs := rfl
@[simp] theorem splice_cons (vs : List Value) (o : Nat) (x : Value) (r : List Value) : splice vs o (x :: r) = splice (vs.set o x) (o + 1) r := rfl
@[simp] theorem splice_length (vs : List Value) (o : Nat) (xs : List Value) : (splice vs o xs).length = vs.length := by
 induction xs generalizing vs o with
 | nil => rfl
 | cons x r ih => simp [ih]
theorem splice_get (vs : List Value) (o : Nat) (xs : List Value) (i : Nat) : (splice vs o xs)[i]? = if o ≤ i ∧ i < o + xs.length ∧ i < vs.length then xs[i - o]? else vs[i]? := by
 induction xs generalizing vs o with
 | nil =>
  have : ¬ (o ≤ i ∧ i < o + ([] : List Value).length ∧ i < vs.length) := by simp; omega
  rw [if_neg this]; rfl
 | cons x r ih =>
  rw [splice_cons, ih]
  simp only [List.length_cons, List.length_set]
  by_cases h1 : o = i
  ·subst h1
   rw [if_neg (by omega)]
   by_cases h2 : o < vs.length
   ·rw [if_pos (by omega)]; simp [h2]
   ·rw [if_neg (by omega)]
    have : (vs.set o x) = vs := List.set_eq_of_length_le (by omega)
    rw [this]
  ·rw [List.getElem?_set_ne h1]
   by_cases h2 : o + 1 ≤ i ∧ i < o + 1 + r.length ∧ i < vs.length
   ·rw [if_pos h2, if_pos (by omega)]
    have : i - o = (i - (o + 1)) + 1 := by omega
    rw [this]; simp
   ·rw [if_neg h2, if_neg (by omega)]
theorem splice_all (vs xs : List Value) (h : xs.length = vs.length) : splice vs 0 xs = xs := by
 apply List.ext_getElem?
 intro i
 rw [splice_get]
 split
 ·simp
 ·rename_i hn
  rw [List.getElem?_eq_none (by omega), List.getElem?_eq_none (by omega)]
theorem splice_append (a b c xs : List Value) (h : xs.length = b.length) : splice (a ++ b ++ c) a.length xs = a ++ xs ++ c := by
 apply List.ext_getElem?
 intro i
 rw [splice_get]
 simp only [List.length_append]
 split
 ·rename_i hh
  rw [List.append_assoc, List.getElem?_append_right hh.1, List.getElem?_append_left (by omega)]
 ·rename_i hh
  rw [List.append_assoc, List.append_assoc]
  by_cases h1 : i < a.length
  ·rw [List.getElem?_append_left h1, List.getElem?_append_left h1]
  ·rw [List.getElem?_append_right (by omega), List.getElem?_append_right (by omega)]
   by_cases h2 : i - a.length < b.length
   ·omega
   ·rw [List.getElem?_append_right (by omega), List.getElem?_append_right (by omega), h]

theorem hs_eq {h : H} {b : Nat} {vs : List Value} (k : Blk h b vs) (o : Nat) (v : Value) : Blk (hs h ⟨b, o, none⟩ v) b (vs.set o v) := by
 obtain ⟨t, lo, hi, hb, hfz⟩ := k
 refine ⟨t, lo, hi, ?_, by simpa using hfz⟩
 simp only [hs, Array.getElem?_modify, hb]
 simp
theorem hs_ne (h : H) (a : Addr) (v : Value) {x : Nat} (hx : x ≠ a.block) : (hs h a v)[x]? = h[x]? := by
 simp only [hs, Array.getElem?_modify]
 rw [if_neg (by omega)]
theorem hs_size (h : H) (a : Addr) (v : Value) : (hs h a v).size = h.size := by simp [hs]
theorem hwrFrom_blk {h : H} {b : Nat} {vs : List Value} (k : Blk h b vs) (o : Nat) (xs : List Value) (j : Nat) : Blk (hwrFrom h ⟨b, o, none⟩ j xs) b (splice vs (o + j) xs) := by
 induction xs generalizing h vs j with
 | nil => exact k
 | cons x r ih =>
  simp only [hwrFrom, splice_cons, add_mk]
  exact ih (hs_eq k (o + j) x) (j + 1)
theorem add_block (a : Addr) (n : Nat) : (a.add n).block = a.block := by unfold Addr.add; split <;> rfl
theorem hwrFrom_ne (h : H) (a : Addr) (j : Nat) (xs : List Value) {x : Nat} (hx : x ≠ a.block) : (hwrFrom h a j xs)[x]? = h[x]? := by
 induction xs generalizing h j with
 | nil => rfl
 | cons y r ih => simp only [hwrFrom]; rw [ih, hs_ne]; rw [add_block]; exact hx
theorem hwrFrom_size (h : H) (a : Addr) (j : Nat) (xs : List Value) : (hwrFrom h a j xs).size = h.size := by
 induction xs generalizing h j with
 | nil => rfl
 | cons y r ih => simp only [hwrFrom]; rw [ih, hs_size]
theorem Blk.wr {h : H} {b : Nat} {vs : List Value} (k : Blk h b vs) (o : Nat) (xs : List Value) : Blk (hwr h ⟨b, o, none⟩ xs) b (splice vs o xs) := hwrFrom_blk k o xs 0
theorem hwr_ne (h : H) (a : Addr) (xs : List Value) {x : Nat} (hx : x ≠ a.block) : (hwr h a xs)[x]? = h[x]? := hwrFrom_ne h a 0 xs hx
theorem hwr_size (h : H) (a : Addr) (xs : List Value) : (hwr h a xs).size = h.size := hwrFrom_size h a 0 xs
theorem Blk.wr_ne {h : H} {b : Nat} {vs : List Value} (k : Blk h b vs) {a : Addr} {xs : List Value} (hx : b ≠ a.block) : Blk (hwr h a xs) b vs := k.of_eq (hwr_ne h a xs hx)

/-! ### What is left alone -/
structure Ext (S : Nat → Prop) (h h' : H) : Prop where
 size : h.size ≤ h'.size
 eq : ∀ b, b < h.size → ¬ S b → h'[b]? = h[b]?
abbrev none_ : Nat → Prop := fun _ => False
theorem Ext.refl (S : Nat → Prop) (h : H) : Ext S h h := ⟨Nat.le_refl _, fun _ _ _ => rfl⟩
theorem Ext.trans {S : Nat → Prop} {h h' h'' : H} (a : Ext S h h') (b : Ext S h' h'') : Ext S h h'' :=
 ⟨Nat.le_trans a.size b.size, fun x hx hs => by rw [b.eq x (Nat.lt_of_lt_of_le hx a.size) hs, a.eq x hx hs]⟩
theorem Ext.mono {S T : Nat → Prop} {h h' : H} (a : Ext S h h') (st : ∀ b, b < h.size → S b → T b) : Ext T h h' :=
 ⟨a.size, fun x hx hs => a.eq x hx fun h => hs (st x hx h)⟩
theorem Ext.comp {S T : Nat → Prop} {h h' h'' : H} (a : Ext S h h') (b : Ext T h' h'') (st : ∀ x, x < h.size → T x → S x) : Ext S h h'' :=
 ⟨Nat.le_trans a.size b.size, fun x hx hs => by rw [b.eq x (Nat.lt_of_lt_of_le hx a.size) (fun t => hs (st x hx t)), a.eq x hx hs]⟩
theorem Ext.blk {S : Nat → Prop} {h h' : H} (a : Ext S h h') {b : Nat} {vs : List Value} (k : Blk h b vs) (hb : ¬ S b) : Blk h' b vs := k.of_eq (a.eq b k.lt hb)
theorem Ext.wr (h : H) (b o : Nat) (xs : List Value) : Ext (fun x => x = b) h (hwr h ⟨b, o, none⟩ xs) :=
 ⟨by rw [hwr_size]; exact Nat.le_refl _, fun x _ hx => hwr_ne h _ xs hx⟩
theorem hnew.size {h h' : H} {b : Nat} {c : List Value} (n : hnew h b c h') : h'.size = h.size + 1 := by
 obtain ⟨_, t, lo, hi, _, rfl⟩ := n; simp
theorem hnew.b {h h' : H} {b : Nat} {c : List Value} (n : hnew h b c h') : b = h.size := n.1
theorem hnew.ext {h h' : H} {b : Nat} {c : List Value} (n : hnew h b c h') : Ext none_ h h' := by
 refine ⟨by rw [n.size]; omega, ?_⟩
 obtain ⟨_, t, lo, hi, _, rfl⟩ := n
 intro x hx _
 rw [Array.getElem?_push]; rw [if_neg (by omega)]
theorem hnew.blk {h h' : H} {b : Nat} {c : List Value} (n : hnew h b c h') : Blk h' b c := by
 obtain ⟨rfl, t, lo, hi, hf, rfl⟩ := n
 exact ⟨t, lo, hi, by simp, hf⟩
theorem Blk.ne {h : H} {b b' : Nat} {vs vs' : List Value} (k : Blk h b vs) (k' : ¬ b' < h.size) : b ≠ b' := fun e => k' (e ▸ k.lt)

/-! ### Rows of integers -/
@[simp] theorem ints_nil (k : IntKind) : ints k [] = [] := rfl
@[simp] theorem ints_cons (k : IntKind) (n : Int) (r : List Int) : ints k (n :: r) = .int k n :: ints k r := rfl
@[simp] theorem ints_length (k : IntKind) (ns : List Int) : (ints k ns).length = ns.length := by simp [ints]
@[simp] theorem ints_append (k : IntKind) (a b : List Int) : ints k (a ++ b) = ints k a ++ ints k b := by simp [ints]
theorem ints_get (k : IntKind) (ns : List Int) (i : Nat) : (ints k ns)[i]? = ns[i]?.map (Value.int k) := by simp [ints]
@[simp] theorem zeros_length (n : Nat) : (zeros n).length = n := by simp [zeros]
theorem Blk.hrow {h : H} {b : Nat} {vs : List Value} (k : Blk h b vs) {o : Nat} {kd : IntKind} {ns : List Int} (e : ∀ i, i < ns.length → vs[o + i]? = ns[i]?.map (Value.int kd)) : hrow h ⟨b, o, none⟩ kd ns := by
 apply k.hcs
 intro i hi
 rw [e i (by simpa using hi), ints_get]
@[simp] theorem oneCell_int (k : IntKind) (n : Int) : (Value.int k n).oneCell' = true := rfl
end Go.Vc
end

/- Slices: what they hold, who owns it, and appending. Own work; generic over any program. -/
section
set_option linter.unusedVariables false
namespace Go.Vc

theorem hc_congr {h h' : H} {a : Addr} (e : h'[a.block]? = h[a.block]?) : hc h' a = hc h a := by simp only [hc, e]
theorem hc_lt {h : H} {a : Addr} {v : Value} (e : hc h a = some v) : a.block < h.size := by
 rcases Nat.lt_or_ge a.block h.size with k | k
 ·exact k
 ·simp [hc, Array.getElem?_eq_none k] at e
theorem hc_ext {S : Nat → Prop} {h h' : H} (x : Ext S h h') {a : Addr} {v : Value} (e : hc h a = some v) (hs : ¬ S a.block) : hc h' a = some v := by
 rw [hc_congr (x.eq _ (hc_lt e) hs), e]
theorem hcs_ext {S : Nat → Prop} {h h' : H} (x : Ext S h h') {a : Addr} {vs : List Value} (e : hcs h a vs) (hs : ¬ S a.block) : hcs h' a vs := by
 intro i v hv
 exact hc_ext x (e i v hv) (by rw [add_block]; exact hs)
theorem hsv_ext {S : Nat → Prop} {h h' : H} (x : Ext S h h') {p : Option Addr} {sz l : Nat} {vs : List Value} (e : hsv h p sz l vs) (hs : ∀ q, p = some q → ¬ S q.block) : hsv h' p sz l vs := by
 obtain ⟨h1, h2, h3⟩ := e
 refine ⟨h1, h2, ?_⟩
 rcases h3 with h3 | ⟨q, hq, h3⟩
 ·exact Or.inl h3
 ·exact Or.inr ⟨q, hq, hcs_ext x h3 (hs q hq)⟩
theorem hsv_none {h : H} {sz l : Nat} {vs : List Value} (e : hsv h none sz l vs) : vs = [] := by
 obtain ⟨_, _, h3⟩ := e
 rcases h3 with h3 | ⟨q, hq, _⟩
 ·exact h3
 ·cases hq
theorem hsv_get {h : H} {p : Option Addr} {sz l : Nat} {vs : List Value} (e : hsv h p sz l vs) {i : Nat} {v : Value} (hi : vs[i]? = some v) : ∃ q, p = some q ∧ hc h (q.add i) = some v := by
 obtain ⟨_, _, h3⟩ := e
 rcases h3 with h3 | ⟨q, hq, h3⟩
 ·subst h3; simp at hi
 ·exact ⟨q, hq, h3 i v hi⟩
def OwnS (h : H) (p : Option Addr) (l c sz : Nat) (vs : List Value) (bs : List Nat) : Prop :=
 vs.length = l * sz ∧ l ≤ c ∧ (∀ v, v ∈ vs → v.oneCell' = true) ∧
  ((l = 0 ∧ c = 0 ∧ bs = []) ∨ ∃ b rest, p = some ⟨b, 0, none⟩ ∧ bs = [b] ∧ Blk h b (vs ++ rest) ∧ (c - l) * sz ≤ rest.length)
theorem OwnS.hsv {h : H} {p : Option Addr} {l c sz : Nat} {vs : List Value} {bs : List Nat} (o : OwnS h p l c sz vs bs) : hsv h p sz l vs := by
 obtain ⟨h1, h2, h3, h4⟩ := o
 refine ⟨h1, h3, ?_⟩
 rcases h4 with ⟨rfl, _, _⟩ | ⟨b, rest, rfl, _, k, _⟩
 ·left; apply List.eq_nil_of_length_eq_zero; simp [h1]
 ·right
  exact ⟨_, rfl, k.hcs fun i hi => by rw [Nat.zero_add, List.getElem?_append_left hi]⟩
theorem OwnS.lt {h : H} {p : Option Addr} {l c sz : Nat} {vs : List Value} {bs : List Nat} (o : OwnS h p l c sz vs bs) : ∀ b, b ∈ bs → b < h.size := by
 obtain ⟨_, _, _, h4⟩ := o
 rcases h4 with ⟨_, _, rfl⟩ | ⟨b, rest, _, rfl, k, _⟩
 ·intro b hb; simp at hb
 ·intro b' hb; simp at hb; subst hb; exact k.lt
theorem OwnS.ext {S : Nat → Prop} {h h' : H} (x : Ext S h h') {p : Option Addr} {l c sz : Nat} {vs : List Value} {bs : List Nat} (o : OwnS h p l c sz vs bs) (hs : ∀ b, b ∈ bs → ¬ S b) : OwnS h' p l c sz vs bs := by
 obtain ⟨h1, h2, h3, h4⟩ := o
 refine ⟨h1, h2, h3, ?_⟩
 rcases h4 with h4 | ⟨b, rest, hp, rfl, k, hr⟩
 ·exact Or.inl h4
 ·exact Or.inr ⟨b, rest, hp, rfl, x.blk k (hs b (by simp)), hr⟩
theorem OwnS.nil (h : H) (p : Option Addr) (sz : Nat) : OwnS h p 0 0 sz [] [] := ⟨by simp, Nat.le_refl _, by simp, Or.inl ⟨rfl, rfl, rfl⟩⟩

theorem flatten_replicate_length {α : Type} (n : Nat) (z : List α) : (List.replicate n z).flatten.length = n * z.length := by
 induction n with
 | zero => simp
 | succ n ih => simp [List.replicate_succ, Nat.succ_mul, ih]; omega

def newB (h : H) (bs : List Nat) : Prop := ∀ b, b ∈ bs → h.size ≤ b
theorem newB.ext {S : Nat → Prop} {h h' : H} (x : Ext S h h') {bs : List Nat} (n : newB h' bs) : newB h bs := fun b hb => Nat.le_trans x.size (n b hb)

theorem pApp_empty {h : H} {sz : Nat} {z : List Value} {B : Nat} {p : Option Addr} {n : Nat} {vs : List Value} {K : Option Addr → Nat → Nat → H → Prop}
  (hl : vs.length = n * sz) (hz : z.length = sz) (hv : ∀ v, v ∈ vs → v.oneCell' = true) (hb : n * B ≤ 2 ^ 47)
  (hk : ∀ p' c' h' bs, Ext none_ h h' → OwnS h' p' n c' sz vs bs → newB h bs → K p' n c' h') : pApp h sz z B p 0 0 n vs K := by
 unfold pApp
 by_cases hn : n = 0
 ·subst hn
  have hv0 : vs = [] := List.eq_nil_of_length_eq_zero (by simp [hl])
  subst hv0
  rw [if_pos (by simp)]
  refine ⟨Or.inl rfl, fun h' e => ?_⟩
  have e' : h' = h := by rw [e]; cases p <;> rfl
  subst e'
  exact hk _ _ _ [] (Ext.refl _ _) (OwnS.nil _ _ _) (by intro b hb; simp at hb)
 ·rw [if_neg (by omega)]
  refine ⟨by simpa using hb, [], ⟨by simp, by simp, Or.inl rfl⟩, fun c' b h' hc hw => ?_⟩
  have : (0 + n) = n := by omega
  rw [this] at hc ⊢
  refine hk _ _ _ [b] hw.ext ⟨hl, hc, hv, Or.inr ⟨b, (List.replicate (c' - (0 + n)) z).flatten, rfl, rfl, ?_, ?_⟩⟩ ?_
  ·simpa using hw.blk
  ·rw [flatten_replicate_length, hz, this]; exact Nat.le_refl _
  ·intro x hx; simp at hx; subst hx; rw [hw.b]; exact Nat.le_refl _

theorem pApp_own {h : H} {sz : Nat} {z : List Value} {B : Nat} {p : Option Addr} {l c n : Nat} {old vs : List Value} {bs : List Nat} {K : Option Addr → Nat → Nat → H → Prop}
  (o : OwnS h p l c sz old bs) (hl : vs.length = n * sz) (hz : z.length = sz) (hv : ∀ v, v ∈ vs → v.oneCell' = true) (hb : (l + n) * B ≤ 2 ^ 47)
  (hk : ∀ p' c' h' bs', Ext (fun b => b ∈ bs) h h' → OwnS h' p' (l + n) c' sz (old ++ vs) bs' → (∀ b, b ∈ bs' → b ∈ bs ∨ h.size ≤ b) → K p' (l + n) c' h') : pApp h sz z B p l c n vs K := by
 have ohs := o.hsv
 have olt := o.lt
 obtain ⟨h1, h2, h3, h4⟩ := o
 have hov : ∀ v, v ∈ old ++ vs → v.oneCell' = true := by
  intro v hm; rcases List.mem_append.1 hm with hm | hm
  ·exact h3 v hm
  ·exact hv v hm
 have hlen : (old ++ vs).length = (l + n) * sz := by simp [h1, hl, Nat.add_mul]
 unfold pApp
 split
 ·rename_i hroom
  rcases h4 with ⟨rfl, rfl, rfl⟩ | ⟨b, rest, rfl, rfl, k, hr⟩
  ·have hn : n = 0 := by omega
   subst hn
   have hv0 : vs = [] := List.eq_nil_of_length_eq_zero (by simp [hl])
   have ho0 : old = [] := List.eq_nil_of_length_eq_zero (by simp [h1])
   subst hv0; subst ho0
   refine ⟨Or.inl rfl, fun h' e => ?_⟩
   have e' : h' = h := by rw [e]; cases p <;> rfl
   subst e'
   exact hk _ _ _ [] (Ext.refl _ _) (OwnS.nil _ _ _) (by intro b hb; simp at hb)
  ·have hnr : n * sz ≤ rest.length := by
    have : n * sz ≤ (c - l) * sz := Nat.mul_le_mul_right _ (by omega)
    omega
   refine ⟨Or.inr ⟨_, rfl, ?_⟩, fun h' e => ?_⟩
   ·rw [add_mk]; apply k.can; simp [h1]; omega
   ·simp only [Option.map_some, hwrO, add_mk, Nat.zero_add] at e
    have hs : splice (old ++ rest) (l * sz) vs = (old ++ vs) ++ rest.drop (n * sz) := by
     have : old ++ rest = old ++ rest.take (n * sz) ++ rest.drop (n * sz) := by simp
     rw [this, ← h1, splice_append]
     simp [hl, Nat.min_eq_left hnr]
    have kb := k.wr (l * sz) vs
    rw [hs] at kb
    subst e
    refine hk _ _ _ [b] ⟨by rw [hwr_size]; exact Nat.le_refl _, fun x _ hx => hwr_ne _ _ _ (by simpa using hx)⟩ ⟨hlen, hroom, hov, Or.inr ⟨b, rest.drop (n * sz), rfl, rfl, kb, ?_⟩⟩ (fun x hx => Or.inl hx)
    simp
    have : c - (l + n) = (c - l) - n := by omega
    rw [this, Nat.sub_mul]; omega
 ·rename_i hroom
  refine ⟨hb, old, ohs, fun c' b h' hc hw => ?_⟩
  refine hk _ _ _ [b] (hw.ext.mono fun _ _ hf => hf.elim) ⟨hlen, hc, hov, Or.inr ⟨b, (List.replicate (c' - (l + n)) z).flatten, rfl, rfl, ?_, ?_⟩⟩ ?_
  ·exact hw.blk
  ·rw [flatten_replicate_length, hz]; exact Nat.le_refl _
  ·intro x hx; simp at hx; subst hx; right; rw [hw.b]; exact Nat.le_refl _
end Go.Vc
end

/- Loops that count up. Own work; generic over any program. -/
section
set_option linter.unusedVariables false
namespace Go.Vc
abbrev si (i : Nat) : SV := .dv (.one (.int .i64 (i : Int)))
theorem loop_up {J : List SV → H → Prop} (N : Nat) (Inv : Nat → H → Prop) (step : ∀ i h, i < N → Inv i h → (∀ h', Inv (i + 1) h' → J [si (i + 1)] h') → J [si i] h)
  (exit : ∀ h, Inv N h → J [si N] h) (i : Nat) (h : H) (hi : i ≤ N) (inv : Inv i h) : J [si i] h := by
 generalize e : N - i = n
 induction n generalizing i h with
 | zero =>
  have : i = N := by omega
  subst this; exact exit h inv
 | succ n ih => exact step i h (by omega) inv fun h' inv' => ih (i + 1) h' (by omega) inv' (by omega)
theorem wrap_succ {i : Nat} (h : i < 2 ^ 62) : IntKind.i64.wrap ((i : Int) + 1) = ((i + 1 : Nat) : Int) := by
 rw [IntKind.wrap_i64]; omega
theorem wrap_id {n : Int} (h : -(2 ^ 62) ≤ n ∧ n ≤ 2 ^ 62) : IntKind.i64.wrap n = n := by
 rw [IntKind.wrap_i64]; omega
def mapTo (g : Nat → Int → Int) (i : Nat) (ns : List Int) : List Int := ns.mapIdx fun j v => if j < i then g j v else v
@[simp] theorem mapTo_length (g : Nat → Int → Int) (i : Nat) (ns : List Int) : (mapTo g i ns).length = ns.length := by simp [mapTo]
theorem mapTo_get (g : Nat → Int → Int) (i : Nat) (ns : List Int) (j : Nat) : (mapTo g i ns)[j]? = ns[j]?.map fun v => if j < i then g j v else v := by simp [mapTo]
@[simp] theorem mapTo_zero (g : Nat → Int → Int) (ns : List Int) : mapTo g 0 ns = ns := by
 apply List.ext_getElem?; intro j; rw [mapTo_get]; simp
theorem mapTo_succ (g : Nat → Int → Int) (i : Nat) (ns : List Int) (hi : i < ns.length) : (mapTo g i ns).set i (g i ns[i]) = mapTo g (i + 1) ns := by
 apply List.ext_getElem?; intro j
 by_cases h : i = j
 ·subst h; rw [List.getElem?_set_self (by simpa using hi), mapTo_get]; simp [hi]
 ·rw [List.getElem?_set_ne h, mapTo_get, mapTo_get]
  congr 1; funext v
  by_cases h1 : j < i
  ·rw [if_pos h1, if_pos (by omega)]
  ·rw [if_neg h1, if_neg (by omega)]
theorem ints_set (k : IntKind) (ns : List Int) (i : Nat) (n : Int) : (ints k ns).set i (.int k n) = ints k (ns.set i n) := by simp [ints, List.map_set]
end Go.Vc
end

/- Assertions: a list of things that own blocks, none twice; all else is as it was in a base heap. Own work; generic over any program. -/
section
set_option linter.unusedVariables false
namespace Go.Vc

@[simp] theorem oneCell_slice (p : Option Addr) (l c : Nat) : (Value.slice p l c).oneCell' = true := rfl
@[simp] theorem oneCell_bool (b : Bool) : (Value.bool b).oneCell' = true := rfl
@[simp] theorem oneCell_ptr (p : Option Addr) : (Value.pointer p).oneCell' = true := rfl
@[simp] theorem oneCell_str (s : ByteArray) : (Value.string s).oneCell' = true := rfl

inductive Tag where
 | blk (b : Nat) (vs : List Value)
 | sl (p : Option Addr) (l c sz : Nat) (vs : List Value)
 | of (n : Nat)

structure Ent where
 tag : Tag
 P : H → (Nat → Prop) → Prop
 st : ∀ {h h' : H} {f : Nat → Prop}, P h f → (∀ b, f b → h'[b]? = h[b]?) → P h' f
 lt : ∀ {h : H} {f : Nat → Prop} {b : Nat}, P h f → f b → b < h.size

def SatX : List Ent → H → (Nat → Prop) → Prop
 | [], _, O => ∀ b, ¬ O b
 | e :: A, h, O => ∃ f g, e.P h f ∧ SatX A h g ∧ (∀ b, f b → ¬ g b) ∧ (∀ b, O b ↔ f b ∨ g b)

theorem SatX.st {A : List Ent} {h h' : H} {O : Nat → Prop} (s : SatX A h O) (e : ∀ b, O b → h'[b]? = h[b]?) : SatX A h' O := by
 induction A generalizing O with
 | nil => exact s
 | cons x A ih =>
  obtain ⟨f, g, hp, hg, hd, ho⟩ := s
  exact ⟨f, g, x.st hp fun b hb => e b ((ho b).2 (Or.inl hb)), ih hg fun b hb => e b ((ho b).2 (Or.inr hb)), hd, ho⟩
theorem SatX.lt {A : List Ent} {h : H} {O : Nat → Prop} (s : SatX A h O) {b : Nat} (hb : O b) : b < h.size := by
 induction A generalizing O with
 | nil => exact absurd hb (s b)
 | cons x A ih =>
  obtain ⟨f, g, hp, hg, hd, ho⟩ := s
  rcases (ho b).1 hb with k | k
  ·exact x.lt hp k
  ·exact ih hg k
theorem SatX.iff {A : List Ent} {h : H} {O O' : Nat → Prop} (s : SatX A h O) (e : ∀ b, O b ↔ O' b) : SatX A h O' := by
 have : O = O' := funext fun b => propext (e b)
 exact this ▸ s
theorem SatX.append {A B : List Ent} {h : H} {O : Nat → Prop} : SatX (A ++ B) h O ↔ ∃ f g, SatX A h f ∧ SatX B h g ∧ (∀ b, f b → ¬ g b) ∧ (∀ b, O b ↔ f b ∨ g b) := by
 induction A generalizing O with
 | nil =>
  constructor
  ·intro s; exact ⟨fun _ => False, O, fun _ x => x, s, fun _ x => x.elim, fun b => by simp⟩
  ·rintro ⟨f, g, hf, hg, _, ho⟩
   refine hg.iff fun b => ?_
   rw [ho]; constructor
   ·exact Or.inr
   ·rintro (k | k)
    ·exact absurd k (hf b)
    ·exact k
 | cons x A ih =>
  constructor
  ·rintro ⟨f, g, hp, hg, hd, ho⟩
   obtain ⟨f', g', h1, h2, h3, h4⟩ := ih.1 hg
   refine ⟨fun b => f b ∨ f' b, g', ⟨f, f', hp, h1, fun b k k' => hd b k ((h4 b).2 (Or.inl k')), fun b => Iff.rfl⟩, h2, ?_, ?_⟩
   ·rintro b (k | k) k'
    ·exact hd b k ((h4 b).2 (Or.inr k'))
    ·exact h3 b k k'
   ·intro b; rw [ho, h4, or_assoc]
  ·rintro ⟨f, g, ⟨f1, f2, hp, h1, h2, h3⟩, hg, hd, ho⟩
   refine ⟨f1, fun b => f2 b ∨ g b, hp, ih.2 ⟨f2, g, h1, hg, fun b k k' => hd b ((h3 b).2 (Or.inr k)) k', fun b => Iff.rfl⟩, ?_, ?_⟩
   ·rintro b k (k' | k')
    ·exact h2 b k k'
    ·exact hd b ((h3 b).2 (Or.inl k)) k'
   ·intro b; rw [ho, h3, or_assoc]

inductive At : List Ent → Nat → Ent → Prop where
 | z {A : List Ent} {e : Ent} : At (e :: A) 0 e
 | s {A : List Ent} {e x : Ent} {i : Nat} : At A i e → At (x :: A) (i + 1) e
def put : List Ent → Nat → Ent → List Ent
 | [], _, _ => []
 | _ :: A, 0, e => e :: A
 | x :: A, i + 1, e => x :: put A i e
@[simp] theorem put_zero (x e : Ent) (A : List Ent) : put (x :: A) 0 e = e :: A := rfl
@[simp] theorem put_succ (x e : Ent) (A : List Ent) (i : Nat) : put (x :: A) (i + 1) e = x :: put A i e := rfl
theorem At.put {A : List Ent} {i : Nat} {e : Ent} (a : At A i e) (x : Ent) : At (Vc.put A i x) i x := by
 induction a with
 | z => exact .z
 | s _ ih => exact .s ih
@[simp] theorem put_put (A : List Ent) (i : Nat) (x y : Ent) : put (put A i x) i y = put A i y := by
 induction A generalizing i with
 | nil => rfl
 | cons a A ih => cases i with
  | zero => rfl
  | succ i => simp [ih]
theorem At.put_self {A : List Ent} {i : Nat} {e : Ent} (a : At A i e) : Vc.put A i e = A := by
 induction a with
 | z => rfl
 | s _ ih => simp [ih]

theorem SatX.take {A : List Ent} {i : Nat} {e : Ent} (a : At A i e) {h : H} {O : Nat → Prop} (s : SatX A h O) :
  ∃ f g : Nat → Prop, e.P h f ∧ (∀ b, f b → ¬ g b) ∧ (∀ b, O b ↔ f b ∨ g b) ∧
   ∀ (e' : Ent) (h' : H) (f' : Nat → Prop), e'.P h' f' → (∀ b, g b → h'[b]? = h[b]?) → (∀ b, f' b → ¬ g b) → SatX (Vc.put A i e') h' (fun b => f' b ∨ g b) := by
 induction a generalizing O with
 | z =>
  obtain ⟨f, g, hp, hg, hd, ho⟩ := s
  exact ⟨f, g, hp, hd, ho, fun e' h' f' hp' hsame hd' => ⟨f', g, hp', hg.st hsame, hd', fun b => Iff.rfl⟩⟩
 | s a ih =>
  obtain ⟨f, g, hp, hg, hd, ho⟩ := s
  obtain ⟨f1, g1, h1, h2, h3, h4⟩ := ih hg
  refine ⟨f1, fun b => f b ∨ g1 b, h1, ?_, ?_, ?_⟩
  ·rintro b k (k' | k')
   ·exact hd b k' ((h3 b).2 (Or.inl k))
   ·exact h2 b k k'
  ·intro b; rw [ho, h3]; constructor
   ·rintro (k | k | k) <;> simp [k]
   ·rintro (k | k | k) <;> simp [k]
  ·intro e' h' f' hp' hsame hd'
   refine ⟨f, fun b => f' b ∨ g1 b, Ent.st _ hp fun b k => hsame b (Or.inl k), h4 e' h' f' hp' (fun b k => hsame b (Or.inr k)) (fun b k k' => hd' b k (Or.inr k')), ?_, ?_⟩
   ·rintro b k (k' | k')
    ·exact hd' b k' (Or.inl k)
    ·exact hd b k ((h3 b).2 (Or.inr k'))
   ·intro b; constructor
    ·rintro (k | k | k) <;> simp [k]
    ·rintro (k | k | k) <;> simp [k]

/-! ### With a base -/
def Sat (h0 : H) (A : List Ent) (h : H) : Prop := Ext none_ h0 h ∧ ∃ O, SatX A h O ∧ ∀ b, O b → h0.size ≤ b

theorem Sat.init (h : H) : Sat h [] h := ⟨Ext.refl _ _, fun _ => False, fun _ x => x, fun _ x => x.elim⟩
theorem Sat.ex {h0 h : H} {A : List Ent} (s : Sat h0 A h) : Ext none_ h0 h := s.1
theorem Sat.ext {h0 h h' : H} {A : List Ent} (s : Sat h0 A h) (x : Ext none_ h h') : Sat h0 A h' := by
 obtain ⟨s1, O, s2, s3⟩ := s
 exact ⟨s1.trans x, O, s2.st fun b hb => x.eq b (s2.lt hb) (fun y => y), s3⟩
theorem Sat.add {h0 h h' : H} {A : List Ent} (s : Sat h0 A h) (x : Ext none_ h h') {e : Ent} {f : Nat → Prop} (p : e.P h' f) (n : ∀ b, f b → h.size ≤ b) : Sat h0 (e :: A) h' := by
 obtain ⟨s1, O, s2, s3⟩ := s
 refine ⟨s1.trans x, fun b => f b ∨ O b, ⟨f, O, p, s2.st fun b hb => x.eq b (s2.lt hb) (fun y => y), ?_, fun b => Iff.rfl⟩, ?_⟩
 ·intro b k k'; have := n b k; have := s2.lt k'; omega
 ·rintro b (k | k)
  ·have := n b k; have := s1.size; omega
  ·exact s3 b k
theorem Sat.drop {h0 h : H} {A : List Ent} {e : Ent} (s : Sat h0 (e :: A) h) : Sat h0 A h := by
 obtain ⟨s1, O, ⟨f, g, _, hg, _, ho⟩, s3⟩ := s
 exact ⟨s1, g, hg, fun b hb => s3 b ((ho b).2 (Or.inr hb))⟩
theorem Sat.sub {h0 h : H} {A B : List Ent} (s : Sat h0 A h) (p : B.Sublist A) : Sat h0 B h := by
 obtain ⟨s1, O, s2, s3⟩ := s
 have : ∃ O', SatX B h O' ∧ ∀ b, O' b → O b := by
  clear s3
  induction p generalizing O with
  | slnil => exact ⟨O, s2, fun _ x => x⟩
  | cons a _ ih =>
   obtain ⟨f, g, hp, hg, hd, ho⟩ := s2
   obtain ⟨O', h1, h2⟩ := ih g hg
   exact ⟨O', h1, fun b hb => (ho b).2 (Or.inr (h2 b hb))⟩
  | cons_cons a _ ih =>
   obtain ⟨f, g, hp, hg, hd, ho⟩ := s2
   obtain ⟨O', h1, h2⟩ := ih g hg
   exact ⟨fun b => f b ∨ O' b, ⟨f, O', hp, h1, fun b k k' => hd b k (h2 b k'), fun b => Iff.rfl⟩, fun b hb => (ho b).2 (hb.imp id (h2 b))⟩
 obtain ⟨O', h1, h2⟩ := this
 exact ⟨s1, O', h1, fun b hb => s3 b (h2 b hb)⟩
theorem Sat.nil {h0 h : H} {A : List Ent} (s : Sat h0 A h) : Sat h0 [] h := ⟨s.1, fun _ => False, fun _ x => x, fun _ x => x.elim⟩
theorem Sat.perm {h0 h : H} {A B : List Ent} (s : Sat h0 A h) (p : A.Perm B) : Sat h0 B h := by
 obtain ⟨s1, O, s2, s3⟩ := s
 refine ⟨s1, O, ?_, s3⟩
 clear s3
 induction p generalizing O with
 | nil => exact s2
 | cons x _ ih =>
  obtain ⟨f, g, hp, hg, hd, ho⟩ := s2
  exact ⟨f, g, hp, ih g hg, hd, ho⟩
 | swap x y l =>
  obtain ⟨f, g, hp, ⟨f1, g1, hp1, hg1, hd1, ho1⟩, hd, ho⟩ := s2
  refine ⟨f1, fun b => f b ∨ g1 b, hp1, ⟨f, g1, hp, hg1, fun b k k' => hd b k ((ho1 b).2 (Or.inr k')), fun b => Iff.rfl⟩, ?_, ?_⟩
  ·rintro b k (k' | k')
   ·exact hd b k' ((ho1 b).2 (Or.inl k))
   ·exact hd1 b k k'
  ·intro b; rw [ho, ho1]; constructor
   ·rintro (k | k | k) <;> simp [k]
   ·rintro (k | k | k) <;> simp [k]
 | trans _ _ ih1 ih2 => exact ih2 O (ih1 O s2)
theorem Sat.takeK {h0 h : H} {A : List Ent} (s : Sat h0 A h) {i : Nat} {e : Ent} (a : At A i e) : ∃ f : Nat → Prop, e.P h f ∧ (∀ b, f b → h0.size ≤ b) ∧
  ∀ (h' : H) (e' : Ent) (f' : Nat → Prop), e'.P h' f' → (∀ b, f' b → f b ∨ h.size ≤ b) → Ext f h h' → Sat h0 (Vc.put A i e') h' := by
 obtain ⟨s1, O, s2, s3⟩ := s
 obtain ⟨f, g, hp, hd, ho, hk⟩ := s2.take a
 refine ⟨f, hp, fun b hb => s3 b ((ho b).2 (Or.inl hb)), fun h' e' f' hp' hn hx => ?_⟩
 have hg : ∀ b, g b → b < h.size := fun b hb => s2.lt ((ho b).2 (Or.inr hb))
 refine ⟨s1.comp hx (fun b hb hf => ?_), _, hk e' h' f' hp' (fun b hb => hx.eq b (hg b hb) (fun hf => hd b hf hb)) ?_, ?_⟩
 ·have := s3 b ((ho b).2 (Or.inl hf)); omega
 ·intro b k1 k2
  rcases hn b k1 with k | k
  ·exact hd b k k2
  ·have := hg b k2; omega
 ·rintro b (k1 | k1)
  ·rcases hn b k1 with k | k
   ·exact s3 b ((ho b).2 (Or.inl k))
   ·have := s1.size; omega
  ·exact s3 b ((ho b).2 (Or.inr k1))
theorem Sat.take {h0 h : H} {A : List Ent} (s : Sat h0 A h) {i : Nat} {e : Ent} (a : At A i e) : ∃ f, e.P h f ∧ ∀ b, f b → h0.size ≤ b := by
 obtain ⟨f, h1, h2, _⟩ := s.takeK a
 exact ⟨f, h1, h2⟩
theorem Sat.upd {h0 h h' : H} {A : List Ent} (s : Sat h0 A h) {i : Nat} {e e' : Ent} (a : At A i e)
  (k : ∀ f, e.P h f → ∃ f', e'.P h' f' ∧ (∀ b, f' b → f b ∨ h.size ≤ b) ∧ Ext f h h') : Sat h0 (Vc.put A i e') h' := by
 obtain ⟨f, hp, _, hk⟩ := s.takeK a
 obtain ⟨f', h1, h2, h3⟩ := k f hp
 exact hk h' e' f' h1 h2 h3
theorem Sat.as {h0 h : H} {A : List Ent} (s : Sat h0 A h) {i : Nat} {e e' : Ent} (a : At A i e) (k : ∀ f, e.P h f → e'.P h f) : Sat h0 (Vc.put A i e') h :=
 s.upd a fun f hp => ⟨f, k f hp, fun _ => Or.inl, Ext.refl _ _⟩

/-! ### A block; a slice -/
@[irreducible] def blkP (b : Nat) (vs : List Value) (h : H) (f : Nat → Prop) : Prop := Blk h b vs ∧ ∀ x, f x ↔ x = b
def blk (b : Nat) (vs : List Value) : Ent where
 tag := .blk b vs
 P := blkP b vs
 st := by unfold blkP; rintro h h' f ⟨k, e⟩ hs; exact ⟨k.of_eq (hs b ((e b).2 rfl)), e⟩
 lt := by unfold blkP; rintro h f x ⟨k, e⟩ hx; rw [(e x).1 hx]; exact k.lt
theorem blk_P {b : Nat} {vs : List Value} {h : H} {f : Nat → Prop} : (blk b vs).P h f ↔ Blk h b vs ∧ ∀ x, f x ↔ x = b := by
 show blkP b vs h f ↔ _; unfold blkP; rfl
@[irreducible] def slP (p : Option Addr) (l c sz : Nat) (vs : List Value) (h : H) (f : Nat → Prop) : Prop := ∃ bs, OwnS h p l c sz vs bs ∧ ∀ x, f x ↔ x ∈ bs
def slE (p : Option Addr) (l c sz : Nat) (vs : List Value) : Ent where
 tag := .sl p l c sz vs
 P := slP p l c sz vs
 st := by
  unfold slP; rintro h h' f ⟨bs, ⟨h1, h2, h3, h4⟩, e⟩ hs
  refine ⟨bs, ⟨h1, h2, h3, ?_⟩, e⟩
  rcases h4 with h4 | ⟨b, rest, e1, rfl, k, e2⟩
  ·exact Or.inl h4
  ·exact Or.inr ⟨b, rest, e1, rfl, k.of_eq (hs b ((e b).2 (by simp))), e2⟩
 lt := by unfold slP; rintro h f x ⟨bs, o, e⟩ hx; exact o.lt x ((e x).1 hx)
theorem slE_P {p : Option Addr} {l c sz : Nat} {vs : List Value} {h : H} {f : Nat → Prop} : (slE p l c sz vs).P h f ↔ ∃ bs, OwnS h p l c sz vs bs ∧ ∀ x, f x ↔ x ∈ bs := by
 show slP p l c sz vs h f ↔ _; unfold slP; rfl
@[irreducible] def exP {α : Type} (φ : α → Prop) (F : α → List Ent) (h : H) (f : Nat → Prop) : Prop := ∃ a, φ a ∧ SatX (F a) h f
def exE {α : Type} (n : Nat) (φ : α → Prop) (F : α → List Ent) : Ent where
 tag := .of n
 P := exP φ F
 st := by unfold exP; rintro h h' f ⟨a, ha, s⟩ hs; exact ⟨a, ha, s.st hs⟩
 lt := by unfold exP; rintro h f x ⟨a, ha, s⟩ hx; exact s.lt hx
theorem exE_P {α : Type} {n : Nat} {φ : α → Prop} {F : α → List Ent} {h : H} {f : Nat → Prop} : (exE n φ F).P h f ↔ ∃ a, φ a ∧ SatX (F a) h f := by
 show exP φ F h f ↔ _; unfold exP; rfl
theorem Sat.open_ {h0 h : H} {A : List Ent} {α : Type} {n : Nat} {φ : α → Prop} {F : α → List Ent} (s : Sat h0 (exE n φ F :: A) h) : ∃ a, φ a ∧ Sat h0 (F a ++ A) h := by
 obtain ⟨s1, O, ⟨f, g, hp, hg, hd, ho⟩, s3⟩ := s
 obtain ⟨a, ha, s⟩ := exE_P.1 hp
 exact ⟨a, ha, s1, O, SatX.append.2 ⟨f, g, s, hg, hd, ho⟩, s3⟩
theorem Sat.close {h0 h : H} {A : List Ent} {α : Type} {n : Nat} {φ : α → Prop} {F : α → List Ent} (a : α) (ha : φ a) (s : Sat h0 (F a ++ A) h) : Sat h0 (exE n φ F :: A) h := by
 obtain ⟨s1, O, s2, s3⟩ := s
 obtain ⟨f, g, hf, hg, hd, ho⟩ := SatX.append.1 s2
 exact ⟨s1, O, ⟨f, g, exE_P.2 ⟨a, ha, hf⟩, hg, hd, ho⟩, s3⟩
def del : List Ent → Nat → List Ent
 | [], _ => []
 | _ :: A, 0 => A
 | x :: A, i + 1 => x :: del A i
theorem At.perm {A : List Ent} {i : Nat} {e : Ent} (a : At A i e) : A.Perm (e :: del A i) := by
 induction a with
 | z => exact .refl _
 | s _ ih => exact (ih.cons _).trans (.swap _ _ _)
theorem At.perm_put {A : List Ent} {i : Nat} {e : Ent} (a : At A i e) (x : Ent) : (x :: del A i).Perm (Vc.put A i x) := by
 induction a with
 | z => exact .refl _
 | s _ ih => exact (List.Perm.swap _ _ _).trans (ih.cons _)
theorem Sat.front {h0 h : H} {A : List Ent} (s : Sat h0 A h) {i : Nat} {e : Ent} (a : At A i e) : Sat h0 (e :: del A i) h := s.perm a.perm
theorem Sat.back {h0 h : H} {A : List Ent} {i : Nat} {e x : Ent} (a : At A i e) (s : Sat h0 (x :: del A i) h) : Sat h0 (Vc.put A i x) h := s.perm (a.perm_put x)

/-! ### Steps -/
theorem Sat.new {h0 h h' : H} {A : List Ent} (s : Sat h0 A h) {b : Nat} {vs : List Value} (n : hnew h b vs h') : Sat h0 (blk b vs :: A) h' :=
 s.add n.ext (blk_P.2 ⟨n.blk, fun _ => Iff.rfl⟩) fun x hx => by rw [hx, n.b]; exact Nat.le_refl _
theorem Sat.blkOf {h0 h : H} {A : List Ent} (s : Sat h0 A h) {i b : Nat} {vs : List Value} (a : At A i (blk b vs)) : Blk h b vs := by
 obtain ⟨f, hp, _⟩ := s.take a
 exact (blk_P.1 hp).1
theorem Sat.old {h0 h : H} {A : List Ent} (s : Sat h0 A h) {i b : Nat} {vs : List Value} (a : At A i (blk b vs)) : h0.size ≤ b := by
 obtain ⟨f, hp, hl⟩ := s.take a
 exact hl b (((blk_P.1 hp).2 b).2 rfl)
theorem Sat.ld {h0 h : H} {A : List Ent} (s : Sat h0 A h) {i b : Nat} {vs : List Value} (a : At A i (blk b vs)) {o : Nat} {v : Value} (e : vs[o]? = some v) : hc h ⟨b, o, none⟩ = some v := by
 rw [(s.blkOf a).hc, e]
theorem Sat.cs1 {h0 h : H} {A : List Ent} (s : Sat h0 A h) {i b : Nat} {vs : List Value} (a : At A i (blk b vs)) {o : Nat} {xs : List Value} (e : ∀ i, i < xs.length → vs[o + i]? = xs[i]?) : hcs h ⟨b, o, none⟩ xs := (s.blkOf a).hcs e
theorem Sat.cs {h0 h : H} {A : List Ent} (s : Sat h0 A h) {i b : Nat} {vs : List Value} (a : At A i (blk b vs)) {o : Nat} {xs : List Value} (e : (vs.drop o).take xs.length = xs) : hcs h ⟨b, o, none⟩ xs := by
 refine s.cs1 a fun i hi => ?_
 have : ((vs.drop o).take xs.length)[i]? = xs[i]? := by rw [e]
 rw [List.getElem?_take_of_lt hi, List.getElem?_drop] at this
 exact this
theorem Sat.row {h0 h : H} {A : List Ent} (s : Sat h0 A h) {i b : Nat} {vs : List Value} (a : At A i (blk b vs)) {o : Nat} {k : IntKind} {ns : List Int} (e : ∀ i, i < ns.length → vs[o + i]? = ns[i]?.map (Value.int k)) : hrow h ⟨b, o, none⟩ k ns := (s.blkOf a).hrow e
theorem Sat.can {h0 h : H} {A : List Ent} (s : Sat h0 A h) {i b : Nat} {vs : List Value} (a : At A i (blk b vs)) {o n : Nat} (e : o + n ≤ vs.length) : hcan h ⟨b, o, none⟩ n := (s.blkOf a).can e
theorem Sat.wr {h0 h h' : H} {A : List Ent} (s : Sat h0 A h) {i b : Nat} {vs : List Value} (a : At A i (blk b vs)) {o : Nat} {xs : List Value} (e : h' = hwr h ⟨b, o, none⟩ xs) : Sat h0 (Vc.put A i (blk b (splice vs o xs))) h' := by
 subst e
 refine s.upd a fun f hp => ?_
 obtain ⟨k, hf⟩ := blk_P.1 hp
 refine ⟨f, blk_P.2 ⟨k.wr o xs, hf⟩, fun _ => Or.inl, (Ext.wr h b o xs).mono fun x _ hx => (hf x).2 hx⟩
theorem Sat.sv {h0 h : H} {A : List Ent} (s : Sat h0 A h) {i : Nat} {p : Option Addr} {l c sz : Nat} {vs : List Value} (a : At A i (slE p l c sz vs)) : hsv h p sz l vs := by
 obtain ⟨f, hp, _⟩ := s.take a
 obtain ⟨bs, o, _⟩ := slE_P.1 hp
 exact o.hsv
theorem Sat.base {h0 h : H} {A : List Ent} (s : Sat h0 A h) {p : Option Addr} {sz l : Nat} {vs : List Value} (e : hsv h0 p sz l vs) : hsv h p sz l vs := hsv_ext s.1 e fun _ _ x => x
theorem Sat.own {h0 h h' : H} {A : List Ent} (s : Sat h0 A h) (x : Ext none_ h h') {p : Option Addr} {l c sz : Nat} {vs : List Value} {bs : List Nat} (o : OwnS h' p l c sz vs bs) (n : newB h bs) : Sat h0 (slE p l c sz vs :: A) h' :=
 s.add x (f := fun x => x ∈ bs) (slE_P.2 ⟨bs, o, fun _ => Iff.rfl⟩) n
theorem Sat.app {h0 h : H} {A : List Ent} (s : Sat h0 A h) {i : Nat} {p : Option Addr} {l c n sz : Nat} {old vs z : List Value} {B : Nat} (a : At A i (slE p l c sz old)) {K : Option Addr → Nat → Nat → H → Prop}
  (hl : vs.length = n * sz) (hz : z.length = sz) (hv : ∀ v, v ∈ vs → v.oneCell' = true) (hb : (l + n) * B ≤ 2 ^ 47)
  (k : ∀ p' c' h', Sat h0 (Vc.put A i (slE p' (l + n) c' sz (old ++ vs))) h' → K p' (l + n) c' h') : pApp h sz z B p l c n vs K := by
 obtain ⟨f, hp, _, hk⟩ := s.takeK a
 obtain ⟨bs, o, hf⟩ := slE_P.1 hp
 refine pApp_own o hl hz hv hb fun p' c' h' bs' hx ho hn => k _ _ _ ?_
 refine hk h' _ (fun x => x ∈ bs') (slE_P.2 ⟨bs', ho, fun _ => Iff.rfl⟩) (fun b hb => ?_) (hx.mono fun x _ hx => (hf x).2 hx)
 rcases hn b hb with h1 | h1
 ·exact Or.inl ((hf b).2 h1)
 ·exact Or.inr h1
theorem Sat.app_new {h0 h : H} {A : List Ent} (s : Sat h0 A h) {p : Option Addr} {n sz : Nat} {vs z : List Value} {B : Nat} {K : Option Addr → Nat → Nat → H → Prop}
  (hl : vs.length = n * sz) (hz : z.length = sz) (hv : ∀ v, v ∈ vs → v.oneCell' = true) (hb : n * B ≤ 2 ^ 47)
  (k : ∀ p' c' h', Sat h0 (slE p' n c' sz vs :: A) h' → K p' n c' h') : pApp h sz z B p 0 0 n vs K :=
 pApp_empty hl hz hv hb fun p' c' h' bs x o nb => k p' c' h' (s.own x o nb)
theorem At.app {A B : List Ent} {i : Nat} {e : Ent} (a : At A i e) : At (A ++ B) i e := by
 induction a with
 | z => exact .z
 | s _ ih => exact .s ih
theorem At.get {A : List Ent} {i : Nat} {e : Ent} (h : A[i]? = some e) : At A i e := by
 induction A generalizing i with
 | nil => simp at h
 | cons x A ih => cases i with
  | zero => simp at h; subst h; exact .z
  | succ i => exact .s (ih (by simpa using h))
theorem At.mem {A : List Ent} {e : Ent} (h : e ∈ A) : ∃ i, At A i e := by
 obtain ⟨i, hi⟩ := List.mem_iff_getElem?.1 h
 exact ⟨i, At.get hi⟩

end Go.Vc
end
