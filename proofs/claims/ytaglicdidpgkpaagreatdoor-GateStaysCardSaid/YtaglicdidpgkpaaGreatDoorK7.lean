/- GateStays: what is proved and its parts, laid together by a program of ours: F F Hp Hs Lp -/
import Derived.Test.YtaglicdidpgkpaaGreatDoorK6
set_option autoImplicit false
set_option linter.all false
/- Denotations of functions of the program, printed by a program of ours, and that they are the model's. -/
section
set_option linter.unusedVariables false
set_option maxRecDepth 100000
namespace Go.Proofs.YtaglicdidpgkpaaGreatDoor
open Go Go.Vc
def G_portcullisref11_Cover (c0 : OA → Nat → Nat → Int → (OA → Nat → Nat → H → Prop) → H → Prop) (a0_0 : Int) (a0_1 : Int) (a0_2 : Int) (a0_3p : OA) (a0_3l : Nat) (a0_3c : Nat) (a0_4 : List Int) (Q : OA → Nat → Nat → H → Prop) (h : H) : Prop := ∀ n10 h11, hnew h n10 (.int .i64 a0_0 :: .int .i64 a0_1 :: .int .i64 a0_2 :: .slice a0_3p a0_3l a0_3c :: (ints .u8 a0_4 ++ [])) h11 → ∃ i13, hc h11 ⟨n10, 0, none⟩ = some (.int .i64 i13) ∧ ∃ i14, hc h11 ⟨n10, 1, none⟩ = some (.int .i64 i14) ∧ ∀ n15 h16, hnew h11 n15 [.int .u8 80, .int .u8 67, .int .u8 85, .int .u8 76, .int .u8 1, .int .u8 (IntKind.u8.wrap i13), .int .u8 (IntKind.u8.wrap i14), .int .u8 0] h16 → ∃ i18, hc h16 ⟨n10, 2, none⟩ = some (.int .i64 i18) ∧ c0 (some (Addr.mk n15 0 none)) 8 8 i18 (fun o19 n20 n21 h22 => ∃ o23 n24 n25, hc h22 ⟨n10, 3, none⟩ = some (.slice o23 n24 n25) ∧ c0 o19 n20 n21 (↑n24 : Int) (fun o26 n27 n28 h29 => ∃ o30 n31 n32, hc h29 ⟨n10, 3, none⟩ = some (.slice o30 n31 n32) ∧ ∃ (l33 : List Value), hsv h29 o30 1 n31 l33 ∧ pApp h29 1 [.int .u8 0] 1 o26 n27 n28 n31 l33 fun o34 n35 n36 h37 => Q o34 n35 n36 h37) h22) h16
theorem E_portcullisref11_Cover : ∀ c0 a0_0 a0_1 a0_2 a0_3p a0_3l a0_3c a0_4 Q h, G_portcullisref11_Cover c0 a0_0 a0_1 a0_2 a0_3p a0_3l a0_3c a0_4 Q h = Dbody PP [(203, W [.slc, .int .i64] [.slc] c0)] [] Tryz.f163 [.agg [.c (.int .i64 a0_0), .c (.int .i64 a0_1), .c (.int .i64 a0_2), .c (.slice a0_3p a0_3l a0_3c), .row .u8 32 a0_4]] (decR [.slc] Q) h := by intros; kernel_rfl
def F_portcullisref11_Cover := G_portcullisref11_Cover F_portcullisref11_four
theorem R_portcullisref11_Cover : RunOk PP 163 (W [.ag [.int .i64, .int .i64, .int .i64, .slc, .row .u8 32]] [.slc] F_portcullisref11_Cover) := runOk_of (TblOk.cons R_portcullisref11_four (TblOk.nil)) Tryz.func163 (by kernel_rfl) (by kernel_rfl) (E_portcullisref11_Cover _)
attribute [irreducible] F_portcullisref11_Cover
def G_portcullisref11_Tagged (c0 : Int → Int → Int → OA → Nat → Nat → List Int → (OA → Nat → Nat → H → Prop) → H → Prop) (a0_0 : Int) (a0_1 : Int) (a0_2 : Int) (a0_3p : OA) (a0_3l : Nat) (a0_3c : Nat) (a0_4 : List Int) (Q : OA → Nat → Nat → H → Prop) (h : H) : Prop := ∀ n10 h11, hnew h n10 (.int .i64 a0_0 :: .int .i64 a0_1 :: .int .i64 a0_2 :: .slice a0_3p a0_3l a0_3c :: (ints .u8 a0_4 ++ [])) h11 → ∃ i13, hc h11 ⟨n10, 0, none⟩ = some (.int .i64 i13) ∧ ∃ i14, hc h11 ⟨n10, 1, none⟩ = some (.int .i64 i14) ∧ ∃ i15, hc h11 ⟨n10, 2, none⟩ = some (.int .i64 i15) ∧ ∃ o16 n17 n18, hc h11 ⟨n10, 3, none⟩ = some (.slice o16 n17 n18) ∧ ∃ (l19 : List Int), l19.length = 32 ∧ hrow h11 ⟨n10, 4, none⟩ .u8 l19 ∧ c0 i13 i14 i15 o16 n17 n18 l19 (fun o20 n21 n22 h23 => ∀ (J24 : JT), (∀ (o25 : OA) (n26 n27 : Nat) (i28 : Int) (h29 : H), (if ltI i28 32 = true then 0 ≤ i28 ∧ i28 < (↑32 : Int) ∧ ∃ i30, hc h29 (((Addr.mk n10 0 none).add 4).add (i28.toNat * 1)) = some (.int .u8 i30) ∧ ∀ n31 h32, hnew h29 n31 [.int .u8 i30] h32 → ∃ (l34 : List Value), hsv h32 (some (Addr.mk n31 0 none)) 1 1 l34 ∧ pApp h32 1 [.int .u8 0] 1 o25 n26 n27 1 l34 fun o35 n36 n37 h38 => J24 [.dv (.one (.slice o35 n36 n37)), .dv (.one (.int .i64 (IntKind.i64.wrap (i28 + 1))))] h38 else Q o25 n26 n27 h29) → J24 [.dv (.one (.slice o25 n26 n27)), .dv (.one (.int .i64 i28))] h29) → J24 [.dv (.one (.slice o20 n21 n22)), .dv (.one (.int .i64 0))] h23) h11
theorem E_portcullisref11_Tagged : ∀ c0 a0_0 a0_1 a0_2 a0_3p a0_3l a0_3c a0_4 Q h, G_portcullisref11_Tagged c0 a0_0 a0_1 a0_2 a0_3p a0_3l a0_3c a0_4 Q h = Dbody PP [(163, W [.ag [.int .i64, .int .i64, .int .i64, .slc, .row .u8 32]] [.slc] c0)] [(58, [(3, .sc (.slc)), (4, .sc (.int .i64))])] Tryz.f89 [.agg [.c (.int .i64 a0_0), .c (.int .i64 a0_1), .c (.int .i64 a0_2), .c (.slice a0_3p a0_3l a0_3c), .row .u8 32 a0_4]] (decR [.slc] Q) h := by intros; kernel_rfl
def F_portcullisref11_Tagged := G_portcullisref11_Tagged F_portcullisref11_Cover
theorem R_portcullisref11_Tagged : RunOk PP 89 (W [.ag [.int .i64, .int .i64, .int .i64, .slc, .row .u8 32]] [.slc] F_portcullisref11_Tagged) := runOk_of (TblOk.cons R_portcullisref11_Cover (TblOk.nil)) Tryz.func89 (by kernel_rfl) (by kernel_rfl) (E_portcullisref11_Tagged _)
attribute [irreducible] F_portcullisref11_Tagged
def G_portcullisref11_May (a0_0 : Int) (a0_1 : Int) (a0_2 : Int) (a0_3p : OA) (a0_3l : Nat) (a0_3c : Nat) (a0_4 : List Int) (Q : Int → H → Prop) (h : H) : Prop := ∀ n9 h10, hnew h n9 (.int .i64 a0_0 :: .int .i64 a0_1 :: .int .i64 a0_2 :: .slice a0_3p a0_3l a0_3c :: (ints .u8 a0_4 ++ [])) h10 → ∀ (J12 : JT), (∀ (h13 : H), (∃ o14 n15 n16, hc h13 ⟨n9, 3, none⟩ = some (.slice o14 n15 n16) ∧ if ltI 524240 n15 = true then Q 4 h13 else Q 0 h13) → J12 [] h13) → ∃ i19, hc h10 ⟨n9, 0, none⟩ = some (.int .i64 i19) ∧ if ltI i19 0 = true then Q 2 h10 else ∃ i20, hc h10 ⟨n9, 0, none⟩ = some (.int .i64 i20) ∧ if ltI 7 i20 = true then Q 2 h10 else ∃ i21, hc h10 ⟨n9, 1, none⟩ = some (.int .i64 i21) ∧ if ltI i21 0 = true then Q 2 h10 else ∃ i22, hc h10 ⟨n9, 1, none⟩ = some (.int .i64 i22) ∧ if ltI 63 i22 = true then Q 2 h10 else ∃ i23, hc h10 ⟨n9, 2, none⟩ = some (.int .i64 i23) ∧ if ltI i23 0 = true then Q 2 h10 else ∃ i24, hc h10 ⟨n9, 2, none⟩ = some (.int .i64 i24) ∧ ∀ (i25 : Int), i25 = 4294967295 → if ltI i25 i24 = true then Q 2 h10 else J12 [] h10
theorem E_portcullisref11_May : ∀ a0_0 a0_1 a0_2 a0_3p a0_3l a0_3c a0_4 Q h, G_portcullisref11_May a0_0 a0_1 a0_2 a0_3p a0_3l a0_3c a0_4 Q h = Dbody PP [] [(3, [])] Tryz.f37 [.agg [.c (.int .i64 a0_0), .c (.int .i64 a0_1), .c (.int .i64 a0_2), .c (.slice a0_3p a0_3l a0_3c), .row .u8 32 a0_4]] (decR [.int .i64] Q) h := by intros; kernel_rfl
def F_portcullisref11_May := G_portcullisref11_May
theorem R_portcullisref11_May : RunOk PP 37 (W [.ag [.int .i64, .int .i64, .int .i64, .slc, .row .u8 32]] [.int .i64] F_portcullisref11_May) := runOk_of (TblOk.nil) Tryz.func37 (by kernel_rfl) (by kernel_rfl) (E_portcullisref11_May)
attribute [irreducible] F_portcullisref11_May
def G_portcullisref11_Make (c0 : Int → Int → Int → OA → Nat → Nat → List Int → (Int → H → Prop) → H → Prop) (c1 : OA → Nat → Nat → OA → Nat → Nat → (List Int → H → Prop) → H → Prop) (c2 : Int → Int → Int → OA → Nat → Nat → List Int → (OA → Nat → Nat → H → Prop) → H → Prop) (c3 : Int → Int → Int → OA → Nat → Nat → List Int → (OA → Nat → Nat → H → Prop) → H → Prop) (a0p : OA) (a0l : Nat) (a0c : Nat) (a1_0 : Int) (a1_1 : Int) (a1_2 : Int) (a1_3p : OA) (a1_3l : Nat) (a1_3c : Nat) (a1_4 : List Int) (Q : OA → Nat → Nat → Int → H → Prop) (h : H) : Prop := ∀ n16 h17, hnew h n16 (.int .i64 a1_0 :: .int .i64 a1_1 :: .int .i64 a1_2 :: .slice a1_3p a1_3l a1_3c :: (ints .u8 a1_4 ++ [])) h17 → ∃ i19, hc h17 ⟨n16, 0, none⟩ = some (.int .i64 i19) ∧ ∃ i20, hc h17 ⟨n16, 1, none⟩ = some (.int .i64 i20) ∧ ∃ i21, hc h17 ⟨n16, 2, none⟩ = some (.int .i64 i21) ∧ ∃ o22 n23 n24, hc h17 ⟨n16, 3, none⟩ = some (.slice o22 n23 n24) ∧ ∃ (l25 : List Int), l25.length = 32 ∧ hrow h17 ⟨n16, 4, none⟩ .u8 l25 ∧ c0 i19 i20 i21 o22 n23 n24 l25 (fun i26 h27 => if (i26 != 0) = true then Q none 0 0 i26 h27 else ∃ i28, hc h27 ⟨n16, 0, none⟩ = some (.int .i64 i28) ∧ ∃ i29, hc h27 ⟨n16, 1, none⟩ = some (.int .i64 i29) ∧ ∃ i30, hc h27 ⟨n16, 2, none⟩ = some (.int .i64 i30) ∧ ∃ o31 n32 n33, hc h27 ⟨n16, 3, none⟩ = some (.slice o31 n32 n33) ∧ ∃ (l34 : List Int), l34.length = 32 ∧ hrow h27 ⟨n16, 4, none⟩ .u8 l34 ∧ c3 i28 i29 i30 o31 n32 n33 l34 (fun o35 n36 n37 h38 => c1 a0p a0l a0c o35 n36 n37 (fun l39 h40 => hcan h40 ⟨n16, 4, none⟩ 32 ∧ ∀ h41, h41 = hwr h40 ⟨n16, 4, none⟩ (ints .u8 l39 ++ []) → ∃ i43, hc h41 ⟨n16, 0, none⟩ = some (.int .i64 i43) ∧ ∃ i44, hc h41 ⟨n16, 1, none⟩ = some (.int .i64 i44) ∧ ∃ i45, hc h41 ⟨n16, 2, none⟩ = some (.int .i64 i45) ∧ ∃ o46 n47 n48, hc h41 ⟨n16, 3, none⟩ = some (.slice o46 n47 n48) ∧ ∃ (l49 : List Int), l49.length = 32 ∧ hrow h41 ⟨n16, 4, none⟩ .u8 l49 ∧ c2 i43 i44 i45 o46 n47 n48 l49 (fun o50 n51 n52 h53 => Q o50 n51 n52 0 h53) h41) h38) h27) h17
theorem E_portcullisref11_Make : ∀ c0 c1 c2 c3 a0p a0l a0c a1_0 a1_1 a1_2 a1_3p a1_3l a1_3c a1_4 Q h, G_portcullisref11_Make c0 c1 c2 c3 a0p a0l a0c a1_0 a1_1 a1_2 a1_3p a1_3l a1_3c a1_4 Q h = Dbody PP [(37, W [.ag [.int .i64, .int .i64, .int .i64, .slc, .row .u8 32]] [.int .i64] c0), (41, W [.slc, .slc] [.ag [.row .u8 32]] c1), (89, W [.ag [.int .i64, .int .i64, .int .i64, .slc, .row .u8 32]] [.slc] c2), (163, W [.ag [.int .i64, .int .i64, .int .i64, .slc, .row .u8 32]] [.slc] c3)] [] Tryz.f90 [.one (.slice a0p a0l a0c), .agg [.c (.int .i64 a1_0), .c (.int .i64 a1_1), .c (.int .i64 a1_2), .c (.slice a1_3p a1_3l a1_3c), .row .u8 32 a1_4]] (decR [.slc, .int .i64] Q) h := by intros; kernel_rfl
def F_portcullisref11_Make := G_portcullisref11_Make F_portcullisref11_May F_portcullisref03_Of F_portcullisref11_Tagged F_portcullisref11_Cover
theorem R_portcullisref11_Make : RunOk PP 90 (W [.slc, .ag [.int .i64, .int .i64, .int .i64, .slc, .row .u8 32]] [.slc, .int .i64] F_portcullisref11_Make) := runOk_of (TblOk.cons R_portcullisref11_May (TblOk.cons R_portcullisref03_Of (TblOk.cons R_portcullisref11_Tagged (TblOk.cons R_portcullisref11_Cover (TblOk.nil))))) Tryz.func90 (by kernel_rfl) (by kernel_rfl) (E_portcullisref11_Make _ _ _ _)
attribute [irreducible] F_portcullisref11_Make
def G_portcullislaw13_awake (c0 : Addr → Addr → OA → Nat → Nat → (Int → Int → Int → OA → Nat → Nat → List Int → Int → H → Prop) → H → Prop) (c1 : OA → Nat → Nat → (OA → Int → Int → H → Prop) → H → Prop) (c2 : Addr → (OA → Int → H → Prop) → H → Prop) (c3 : Int → Int → Int → Int → Int → Int → Int → (OA → Int → H → Prop) → H → Prop) (c4 : Int → Int → Int → OA → Nat → Nat → List Int → (OA → Nat → Nat → H → Prop) → H → Prop) (c5 : OA → Nat → Nat → Int → Int → Int → OA → Nat → Nat → List Int → (OA → Nat → Nat → Int → H → Prop) → H → Prop) (Q : Bool → H → Prop) (h : H) : Prop := c3 8 2 3 10 4 5 0 (fun o8 i9 h10 => ∀ n11 h12, hnew h10 n11 [.int .u8 7] h12 → ∀ n14 h15, hnew h12 n14 [.int .i64 1, .slice (some (Addr.mk n11 0 none)) 1 1] h15 → c1 (some (Addr.mk n14 0 none)) 1 1 (fun o17 i18 i19 h20 => ∀ (J21 : JT), (∀ (h22 : H), (∃ p23, o8 = some p23 ∧ c2 p23 (fun o24 i25 h26 => ∀ (J27 : JT), (∀ (h28 : H), c4 1 1 5 none 0 0 (zeros 32) (fun o29 n30 n31 h32 => ∃ p33, o24 = some p33 ∧ ∃ p34, o17 = some p34 ∧ c0 p33 p34 o29 n30 n31 (fun i35 i36 i37 o38 n39 n40 l41 i42 h43 => ∀ n44 h45, hnew h43 n44 (.int .i64 0 :: .int .i64 0 :: .int .i64 0 :: .slice none 0 0 :: ints .u8 (zeros 32)) h45 → hcan h45 ⟨n44, 0, none⟩ 36 ∧ ∀ h47, h47 = hwr h45 ⟨n44, 0, none⟩ (.int .i64 i35 :: .int .i64 i36 :: .int .i64 i37 :: .slice o38 n39 n40 :: (ints .u8 l41 ++ [])) → ∀ n49 h50, hnew h47 n49 [.int .u8 7] h50 → c5 (some (Addr.mk n49 0 none)) 1 1 1 1 5 none 0 0 (zeros 32) (fun o52 n53 n54 i55 h56 => ∃ p57, o24 = some p57 ∧ ∃ p58, o17 = some p58 ∧ c0 p57 p58 o52 n53 n54 (fun i59 i60 i61 o62 n63 n64 l65 i66 h67 => ∀ n68 h69, hnew h67 n68 (.int .i64 0 :: .int .i64 0 :: .int .i64 0 :: .slice none 0 0 :: ints .u8 (zeros 32)) h69 → hcan h69 ⟨n68, 0, none⟩ 36 ∧ ∀ h71, h71 = hwr h69 ⟨n68, 0, none⟩ (.int .i64 i59 :: .int .i64 i60 :: .int .i64 i61 :: .slice o62 n63 n64 :: (ints .u8 l65 ++ [])) → ∃ p73, o24 = some p73 ∧ ∃ p74, o17 = some p74 ∧ c0 p73 p74 none 0 0 (fun i75 i76 i77 o78 n79 n80 l81 i82 h83 => ∀ n84 h85, hnew h83 n84 (.int .i64 0 :: .int .i64 0 :: .int .i64 0 :: .slice none 0 0 :: ints .u8 (zeros 32)) h85 → hcan h85 ⟨n84, 0, none⟩ 36 ∧ ∀ h87, h87 = hwr h85 ⟨n84, 0, none⟩ (.int .i64 i75 :: .int .i64 i76 :: .int .i64 i77 :: .slice o78 n79 n80 :: (ints .u8 l81 ++ [])) → if (i42 == 15) = true then if (i66 == 0) = true then ∃ i89, hc h87 ⟨n68, 2, none⟩ = some (.int .i64 i89) ∧ if (i89 == 5) = true then Q (i82 == 6) h87 else Q false h87 else Q false h87 else Q false h87) h71) h56) h50) h32) h28 → J27 [] h28) → if (i25 != 0) = true then Q false h26 else if o24.isNone = true then Q false h26 else J27 [] h26) h22) → J21 [] h22) → if (i9 != 0) = true then Q false h20 else if (i18 != 0) = true then Q false h20 else if o8.isNone = true then Q false h20 else if o17.isNone = true then Q false h20 else J21 [] h20) h15) h
theorem E_portcullislaw13_awake : ∀ c0 c1 c2 c3 c4 c5 Q h, G_portcullislaw13_awake c0 c1 c2 c3 c4 c5 Q h = Dbody PP [(34, W [.addr, .addr, .slc] [.ag [.int .i64, .int .i64, .int .i64, .slc, .row .u8 32], .int .i64] c0), (55, W [.slc] [.ptr, .int .i64, .int .i64] c1), (63, W [.addr] [.ptr, .int .i64] c2), (88, W [.ag [.int .i64, .int .i64, .int .i64, .int .i64, .int .i64, .int .i64, .int .i64]] [.ptr, .int .i64] c3), (89, W [.ag [.int .i64, .int .i64, .int .i64, .slc, .row .u8 32]] [.slc] c4), (90, W [.slc, .ag [.int .i64, .int .i64, .int .i64, .slc, .row .u8 32]] [.slc, .int .i64] c5)] [(15, []), (63, [])] Tryz.f30 [] (decR [.bool] Q) h := by intros; kernel_rfl
def F_portcullislaw13_awake := G_portcullislaw13_awake F_gate_Check F_keys_New F_store_Mount F_chip_New F_portcullisref11_Tagged F_portcullisref11_Make
theorem R_portcullislaw13_awake : RunOk PP 30 (W [] [.bool] F_portcullislaw13_awake) := runOk_of (TblOk.cons R_gate_Check (TblOk.cons R_keys_New (TblOk.cons R_store_Mount (TblOk.cons R_chip_New (TblOk.cons R_portcullisref11_Tagged (TblOk.cons R_portcullisref11_Make (TblOk.nil))))))) Tryz.func30 (by kernel_rfl) (by kernel_rfl) (E_portcullislaw13_awake _ _ _ _ _ _)
attribute [irreducible] F_portcullislaw13_awake
def G_portcullislaw13_scene (c0 : OA → Nat → Nat → (OA → Int → Int → H → Prop) → H → Prop) (c1 : Int → Int → Int → Int → Int → Int → Int → OA → Nat → Nat → OA → Nat → Nat → OA → Nat → Nat → (OA → Int → H → Prop) → H → Prop) (c2 : Addr → (OA → Int → H → Prop) → H → Prop) (a0_0 : Int) (a0_1 : Int) (a0_2 : Int) (a0_3 : Int) (a0_4 : Int) (a0_5 : Int) (a0_6 : Int) (a0_7p : OA) (a0_7l : Nat) (a0_7c : Nat) (a0_8p : OA) (a0_8l : Nat) (a0_8c : Nat) (a0_9p : OA) (a0_9l : Nat) (a0_9c : Nat) (a0_10p : OA) (a0_10l : Nat) (a0_10c : Nat) (Q : OA → OA → OA → Bool → H → Prop) (h : H) : Prop := ∀ n24 h25, hnew h n24 [.int .i64 a0_0, .int .i64 a0_1, .int .i64 a0_2, .int .i64 a0_3, .int .i64 a0_4, .int .i64 a0_5, .int .i64 a0_6, .slice a0_7p a0_7l a0_7c, .slice a0_8p a0_8l a0_8c, .slice a0_9p a0_9l a0_9c, .slice a0_10p a0_10l a0_10c] h25 → ∃ i27, hc h25 ⟨n24, 0, none⟩ = some (.int .i64 i27) ∧ ∃ i28, hc h25 ⟨n24, 1, none⟩ = some (.int .i64 i28) ∧ ∃ i29, hc h25 ⟨n24, 2, none⟩ = some (.int .i64 i29) ∧ ∃ i30, hc h25 ⟨n24, 3, none⟩ = some (.int .i64 i30) ∧ ∃ i31, hc h25 ⟨n24, 4, none⟩ = some (.int .i64 i31) ∧ ∃ i32, hc h25 ⟨n24, 5, none⟩ = some (.int .i64 i32) ∧ ∃ i33, hc h25 ⟨n24, 6, none⟩ = some (.int .i64 i33) ∧ ∃ o34 n35 n36, hc h25 ⟨n24, 7, none⟩ = some (.slice o34 n35 n36) ∧ ∃ o37 n38 n39, hc h25 ⟨n24, 8, none⟩ = some (.slice o37 n38 n39) ∧ ∃ o40 n41 n42, hc h25 ⟨n24, 9, none⟩ = some (.slice o40 n41 n42) ∧ c1 i27 i28 i29 i30 i31 i32 i33 o34 n35 n36 o37 n38 n39 o40 n41 n42 (fun o43 i44 h45 => ∃ o46 n47 n48, hc h45 ⟨n24, 10, none⟩ = some (.slice o46 n47 n48) ∧ c0 o46 n47 n48 (fun o49 i50 i51 h52 => ∀ (J53 : JT), (∀ (h54 : H), (∃ p55, o43 = some p55 ∧ c2 p55 (fun o56 i57 h58 => if (i57 == 0) = true then Q o43 o56 o49 (!o56.isNone) h58 else Q o43 o56 o49 false h58) h54) → J53 [] h54) → if (i44 != 0) = true then Q none none none false h52 else if (i50 != 0) = true then Q none none none false h52 else if o43.isNone = true then Q none none none false h52 else if o49.isNone = true then Q none none none false h52 else J53 [] h52) h45) h25
theorem E_portcullislaw13_scene : ∀ c0 c1 c2 a0_0 a0_1 a0_2 a0_3 a0_4 a0_5 a0_6 a0_7p a0_7l a0_7c a0_8p a0_8l a0_8c a0_9p a0_9l a0_9c a0_10p a0_10l a0_10c Q h, G_portcullislaw13_scene c0 c1 c2 a0_0 a0_1 a0_2 a0_3 a0_4 a0_5 a0_6 a0_7p a0_7l a0_7c a0_8p a0_8l a0_8c a0_9p a0_9l a0_9c a0_10p a0_10l a0_10c Q h = Dbody PP [(55, W [.slc] [.ptr, .int .i64, .int .i64] c0), (60, W [.ag [.int .i64, .int .i64, .int .i64, .int .i64, .int .i64, .int .i64, .int .i64], .ag [.slc, .slc, .slc]] [.ptr, .int .i64] c1), (63, W [.addr] [.ptr, .int .i64] c2)] [(15, [])] Tryz.f31 [.agg [.c (.int .i64 a0_0), .c (.int .i64 a0_1), .c (.int .i64 a0_2), .c (.int .i64 a0_3), .c (.int .i64 a0_4), .c (.int .i64 a0_5), .c (.int .i64 a0_6), .c (.slice a0_7p a0_7l a0_7c), .c (.slice a0_8p a0_8l a0_8c), .c (.slice a0_9p a0_9l a0_9c), .c (.slice a0_10p a0_10l a0_10c)]] (decR [.ptr, .ptr, .ptr, .bool] Q) h := by intros; kernel_rfl
def F_portcullislaw13_scene := G_portcullislaw13_scene F_keys_New F_chip_Lay F_store_Mount
theorem R_portcullislaw13_scene : RunOk PP 31 (W [.ag [.int .i64, .int .i64, .int .i64, .int .i64, .int .i64, .int .i64, .int .i64, .slc, .slc, .slc, .slc]] [.ptr, .ptr, .ptr, .bool] F_portcullislaw13_scene) := runOk_of (TblOk.cons R_keys_New (TblOk.cons R_chip_Lay (TblOk.cons R_store_Mount (TblOk.nil)))) Tryz.func31 (by kernel_rfl) (by kernel_rfl) (E_portcullislaw13_scene _ _ _)
attribute [irreducible] F_portcullislaw13_scene
def G_portcullislaw13_may (c0 : Int → Int → Int → Int → Int → Int → Int → OA → Nat → Nat → OA → Nat → Nat → OA → Nat → Nat → (OA → Int → H → Prop) → H → Prop) (c1 : OA → Nat → Nat → (OA → Int → Int → H → Prop) → H → Prop) (a0_0 : Int) (a0_1 : Int) (a0_2 : Int) (a0_3 : Int) (a0_4 : Int) (a0_5 : Int) (a0_6 : Int) (a0_7p : OA) (a0_7l : Nat) (a0_7c : Nat) (a0_8p : OA) (a0_8l : Nat) (a0_8c : Nat) (a0_9p : OA) (a0_9l : Nat) (a0_9c : Nat) (a0_10p : OA) (a0_10l : Nat) (a0_10c : Nat) (Q : OA → OA → Bool → H → Prop) (h : H) : Prop := ∀ n23 h24, hnew h n23 [.int .i64 a0_0, .int .i64 a0_1, .int .i64 a0_2, .int .i64 a0_3, .int .i64 a0_4, .int .i64 a0_5, .int .i64 a0_6, .slice a0_7p a0_7l a0_7c, .slice a0_8p a0_8l a0_8c, .slice a0_9p a0_9l a0_9c, .slice a0_10p a0_10l a0_10c] h24 → ∃ i26, hc h24 ⟨n23, 0, none⟩ = some (.int .i64 i26) ∧ ∃ i27, hc h24 ⟨n23, 1, none⟩ = some (.int .i64 i27) ∧ ∃ i28, hc h24 ⟨n23, 2, none⟩ = some (.int .i64 i28) ∧ ∃ i29, hc h24 ⟨n23, 3, none⟩ = some (.int .i64 i29) ∧ ∃ i30, hc h24 ⟨n23, 4, none⟩ = some (.int .i64 i30) ∧ ∃ i31, hc h24 ⟨n23, 5, none⟩ = some (.int .i64 i31) ∧ ∃ i32, hc h24 ⟨n23, 6, none⟩ = some (.int .i64 i32) ∧ ∃ o33 n34 n35, hc h24 ⟨n23, 7, none⟩ = some (.slice o33 n34 n35) ∧ ∃ o36 n37 n38, hc h24 ⟨n23, 8, none⟩ = some (.slice o36 n37 n38) ∧ ∃ o39 n40 n41, hc h24 ⟨n23, 9, none⟩ = some (.slice o39 n40 n41) ∧ c0 i26 i27 i28 i29 i30 i31 i32 o33 n34 n35 o36 n37 n38 o39 n40 n41 (fun o42 i43 h44 => ∃ o45 n46 n47, hc h44 ⟨n23, 10, none⟩ = some (.slice o45 n46 n47) ∧ c1 o45 n46 n47 (fun o48 i49 i50 h51 => if (i43 == 0) = true then Q o42 o48 (i49 == 0) h51 else Q o42 o48 false h51) h44) h24
theorem E_portcullislaw13_may : ∀ c0 c1 a0_0 a0_1 a0_2 a0_3 a0_4 a0_5 a0_6 a0_7p a0_7l a0_7c a0_8p a0_8l a0_8c a0_9p a0_9l a0_9c a0_10p a0_10l a0_10c Q h, G_portcullislaw13_may c0 c1 a0_0 a0_1 a0_2 a0_3 a0_4 a0_5 a0_6 a0_7p a0_7l a0_7c a0_8p a0_8l a0_8c a0_9p a0_9l a0_9c a0_10p a0_10l a0_10c Q h = Dbody PP [(61, W [.ag [.int .i64, .int .i64, .int .i64, .int .i64, .int .i64, .int .i64, .int .i64], .ag [.slc, .slc, .slc]] [.ptr, .int .i64] c0), (62, W [.slc] [.ptr, .int .i64, .int .i64] c1)] [] Tryz.f32 [.agg [.c (.int .i64 a0_0), .c (.int .i64 a0_1), .c (.int .i64 a0_2), .c (.int .i64 a0_3), .c (.int .i64 a0_4), .c (.int .i64 a0_5), .c (.int .i64 a0_6), .c (.slice a0_7p a0_7l a0_7c), .c (.slice a0_8p a0_8l a0_8c), .c (.slice a0_9p a0_9l a0_9c), .c (.slice a0_10p a0_10l a0_10c)]] (decR [.ptr, .ptr, .bool] Q) h := by intros; kernel_rfl
def F_portcullislaw13_may := G_portcullislaw13_may F_portcullisref04_Lay F_portcullisref12_New
theorem R_portcullislaw13_may : RunOk PP 32 (W [.ag [.int .i64, .int .i64, .int .i64, .int .i64, .int .i64, .int .i64, .int .i64, .slc, .slc, .slc, .slc]] [.ptr, .ptr, .bool] F_portcullislaw13_may) := runOk_of (TblOk.cons R_portcullisref04_Lay (TblOk.cons R_portcullisref12_New (TblOk.nil))) Tryz.func32 (by kernel_rfl) (by kernel_rfl) (E_portcullislaw13_may _ _)
attribute [irreducible] F_portcullislaw13_may
def G_portcullisref11_Same (a0_0 : Int) (a0_1 : Int) (a0_2 : Int) (a0_3p : OA) (a0_3l : Nat) (a0_3c : Nat) (a0_4 : List Int) (a1_0 : Int) (a1_1 : Int) (a1_2 : Int) (a1_3p : OA) (a1_3l : Nat) (a1_3c : Nat) (a1_4 : List Int) (Q : Bool → H → Prop) (h : H) : Prop := ∀ n16 h17, hnew h n16 (.int .i64 a0_0 :: .int .i64 a0_1 :: .int .i64 a0_2 :: .slice a0_3p a0_3l a0_3c :: (ints .u8 a0_4 ++ [])) h17 → ∀ n19 h20, hnew h17 n19 (.int .i64 a1_0 :: .int .i64 a1_1 :: .int .i64 a1_2 :: .slice a1_3p a1_3l a1_3c :: (ints .u8 a1_4 ++ [])) h20 → ∃ i22, hc h20 ⟨n16, 0, none⟩ = some (.int .i64 i22) ∧ ∃ i23, hc h20 ⟨n19, 0, none⟩ = some (.int .i64 i23) ∧ if (i22 == i23) = true then ∃ i24, hc h20 ⟨n16, 1, none⟩ = some (.int .i64 i24) ∧ ∃ i25, hc h20 ⟨n19, 1, none⟩ = some (.int .i64 i25) ∧ if (i24 == i25) = true then ∃ i26, hc h20 ⟨n16, 2, none⟩ = some (.int .i64 i26) ∧ ∃ i27, hc h20 ⟨n19, 2, none⟩ = some (.int .i64 i27) ∧ if (i26 == i27) = true then ∃ o28 n29 n30, hc h20 ⟨n16, 3, none⟩ = some (.slice o28 n29 n30) ∧ ∃ (l31 : List Int), hsv h20 o28 1 n29 (ints .u8 l31) ∧ ∃ o32 n33 n34, hc h20 ⟨n19, 3, none⟩ = some (.slice o32 n33 n34) ∧ ∃ (l35 : List Int), hsv h20 o32 1 n33 (ints .u8 l35) ∧ if ((bytesOf l31).toList == (bytesOf l35).toList) = true then ∃ (l36 : List Int), l36.length = 32 ∧ hrow h20 ⟨n16, 4, none⟩ .u8 l36 ∧ ∃ (l37 : List Int), l37.length = 32 ∧ hrow h20 ⟨n19, 4, none⟩ .u8 l37 ∧ Q (l36 == l37) h20 else Q false h20 else Q false h20 else Q false h20 else Q false h20
theorem E_portcullisref11_Same : ∀ a0_0 a0_1 a0_2 a0_3p a0_3l a0_3c a0_4 a1_0 a1_1 a1_2 a1_3p a1_3l a1_3c a1_4 Q h, G_portcullisref11_Same a0_0 a0_1 a0_2 a0_3p a0_3l a0_3c a0_4 a1_0 a1_1 a1_2 a1_3p a1_3l a1_3c a1_4 Q h = Dbody PP [] [] Tryz.f35 [.agg [.c (.int .i64 a0_0), .c (.int .i64 a0_1), .c (.int .i64 a0_2), .c (.slice a0_3p a0_3l a0_3c), .row .u8 32 a0_4], .agg [.c (.int .i64 a1_0), .c (.int .i64 a1_1), .c (.int .i64 a1_2), .c (.slice a1_3p a1_3l a1_3c), .row .u8 32 a1_4]] (decR [.bool] Q) h := by intros; kernel_rfl
def F_portcullisref11_Same := G_portcullisref11_Same
theorem R_portcullisref11_Same : RunOk PP 35 (W [.ag [.int .i64, .int .i64, .int .i64, .slc, .row .u8 32], .ag [.int .i64, .int .i64, .int .i64, .slc, .row .u8 32]] [.bool] F_portcullisref11_Same) := runOk_of (TblOk.nil) Tryz.func35 (by kernel_rfl) (by kernel_rfl) (E_portcullisref11_Same)
attribute [irreducible] F_portcullisref11_Same
def G_store_Store_BumpTo_1 (c0 : Addr → (Int → H → Prop) → H → Prop) (a0 : Int) (a1 : Addr) (a2 : Addr) (Q : Int → H → Prop) (h : H) : Prop := if ltI a0 0 = true then Q 2 h else ∃ i6, hc h a1 = some (.int .i64 i6) ∧ if ltI i6 a0 = true then ∃ o7, hc h a2 = some (.pointer o7) ∧ ∃ p8, o7 = some p8 ∧ c0 p8 (fun i9 h10 => if ltI i9 a0 = true then Q 10 h10 else Q 0 h10) h else Q 0 h
theorem E_store_Store_BumpTo_1 : ∀ c0 a0 a1 a2 Q h, G_store_Store_BumpTo_1 c0 a0 a1 a2 Q h = Dbody PP [(40, W [.addr] [.int .i64] c0)] [] Tryz.f112 [.one (.int .i64 a0), .addr a1, .addr a2] (decR [.int .i64] Q) h := by intros; kernel_rfl
def F_store_Store_BumpTo_1 := G_store_Store_BumpTo_1 F_store_Store_Last
theorem R_store_Store_BumpTo_1 : RunOk PP 112 (W [.int .i64, .addr, .addr] [.int .i64] F_store_Store_BumpTo_1) := runOk_of (TblOk.cons R_store_Store_Last (TblOk.nil)) Tryz.func112 (by kernel_rfl) (by kernel_rfl) (E_store_Store_BumpTo_1 _)
attribute [irreducible] F_store_Store_BumpTo_1
def G_cell_Value (c0 : Int → Int → Int → (List Int → H → Prop) → H → Prop) (a0 : Int) (a1 : Int) (Q : List Int → Int → H → Prop) (h : H) : Prop := ∀ n5 h6, hnew h n5 (ints .u8 (zeros 32)) h6 → if ltI a0 0 = true then hcan h6 ⟨n5, 0, none⟩ 32 ∧ ∀ h8, h8 = hwr h6 ⟨n5, 0, none⟩ (ints .u8 (zeros 32)) → ∃ (l10 : List Int), l10.length = 32 ∧ hrow h8 ⟨n5, 0, none⟩ .u8 l10 ∧ Q l10 2 h8 else if ltI 8 a0 = true then hcan h6 ⟨n5, 0, none⟩ 32 ∧ ∀ h11, h11 = hwr h6 ⟨n5, 0, none⟩ (ints .u8 (zeros 32)) → ∃ (l13 : List Int), l13.length = 32 ∧ hrow h11 ⟨n5, 0, none⟩ .u8 l13 ∧ Q l13 2 h11 else if ltI a1 1 = true then hcan h6 ⟨n5, 0, none⟩ 32 ∧ ∀ h14, h14 = hwr h6 ⟨n5, 0, none⟩ (ints .u8 (zeros 32)) → ∃ (l16 : List Int), l16.length = 32 ∧ hrow h14 ⟨n5, 0, none⟩ .u8 l16 ∧ Q l16 2 h14 else ∀ (i17 : Int), i17 = 4611686018427387904 → if ltI i17 a1 = true then hcan h6 ⟨n5, 0, none⟩ 32 ∧ ∀ h19, h19 = hwr h6 ⟨n5, 0, none⟩ (ints .u8 (zeros 32)) → ∃ (l21 : List Int), l21.length = 32 ∧ hrow h19 ⟨n5, 0, none⟩ .u8 l21 ∧ Q l21 2 h19 else c0 2 a0 a1 (fun l22 h23 => hcan h23 ⟨n5, 0, none⟩ 32 ∧ ∀ h24, h24 = hwr h23 ⟨n5, 0, none⟩ (ints .u8 l22 ++ []) → ∃ (l26 : List Int), l26.length = 32 ∧ hrow h24 ⟨n5, 0, none⟩ .u8 l26 ∧ Q l26 0 h24) h6
theorem E_cell_Value : ∀ c0 a0 a1 Q h, G_cell_Value c0 a0 a1 Q h = Dbody PP [(210, W [.int .u8, .int .i64, .int .i64] [.ag [.row .u8 32]] c0)] [] Tryz.f181 [.one (.int .i64 a0), .one (.int .i64 a1)] (decR [.ag [.row .u8 32], .int .i64] Q) h := by intros; kernel_rfl
def F_cell_Value := G_cell_Value F_cell_laid
theorem R_cell_Value : RunOk PP 181 (W [.int .i64, .int .i64] [.ag [.row .u8 32], .int .i64] F_cell_Value) := runOk_of (TblOk.cons R_cell_laid (TblOk.nil)) Tryz.func181 (by kernel_rfl) (by kernel_rfl) (E_cell_Value _)
attribute [irreducible] F_cell_Value
def G_chip_Chip_Program (c0 : Addr → (Value → Int → H → Prop) → H → Prop) (c1 : Addr → Int → Int → (Int → H → Prop) → H → Prop) (a0 : Addr) (a1 : Int) (a2 : Int) (a3_0 : List Int) (Q : Int → H → Prop) (h : H) : Prop := ∀ n8 h9, hnew h n8 (ints .u8 a3_0 ++ []) h9 → c1 a0 a1 a2 (fun i11 h12 => if (i11 != 0) = true then Q i11 h12 else c0 a0 (fun v13 i14 h15 => ∃ o16 n17 n18, hc h15 (a0.add 7) = some (.slice o16 n17 n18) ∧ ∃ p19, o16 = some p19 ∧ 0 ≤ a1 ∧ a1 < (↑n17 : Int) ∧ ∃ o20 n21 n22, hc h15 (p19.add (a1.toNat * 1)) = some (.slice o20 n21 n22) ∧ ∃ p23, o20 = some p23 ∧ 0 ≤ a2 ∧ a2 < (↑n21 : Int) ∧ ∃ (l24 : List Int), l24.length = 32 ∧ hrow h15 (p23.add (a2.toNat * 32)) .u8 l24 ∧ ∀ n25 h26, hnew h15 n25 (ints .u8 (zeros 32)) h26 → hcan h26 ⟨n25, 0, none⟩ 32 ∧ ∀ h28, h28 = hwr h26 ⟨n25, 0, none⟩ (ints .u8 l24 ++ []) → ∃ (l30 : List Int), l30.length = 32 ∧ hrow h28 ⟨n25, 0, none⟩ .u8 l30 ∧ ∀ n31 h32, hnew h28 n31 (ints .u8 (zeros 32)) h32 → hcan h32 ⟨n31, 0, none⟩ 32 ∧ ∀ h34, h34 = hwr h32 ⟨n31, 0, none⟩ (ints .u8 l30 ++ []) → ∀ (J36 : JT), (∀ (i37 : Int) (h38 : H), (if ltI i37 32 = true then 0 ≤ i37 ∧ i37 < (↑32 : Int) ∧ ∃ i39, hc h38 ((Addr.mk n31 0 none).add (i37.toNat * 1)) = some (.int .u8 i39) ∧ 0 ≤ i37 ∧ i37 < (↑32 : Int) ∧ ∃ i40, hc h38 ((Addr.mk n8 0 none).add (i37.toNat * 1)) = some (.int .u8 i40) ∧ callFn PP v13 [DV.one (.int .i64 i37)] (fun l41 h42 => ∃ (x43 : DV), ∃ (l44 : List DV), l41 = x43 :: l44 ∧ ∃ (i45 : Int), x43 = DV.one (.int .u8 i45) ∧ l44 = [] ∧ hcs h42 ((Addr.mk n8 0 none).add (i37.toNat * 1)) [.int .u8 i40] ∧ hcs h42 ((Addr.mk n31 0 none).add (i37.toNat * 1)) [.int .u8 i39] ∧ 0 ≤ i37 ∧ i37 < (↑32 : Int) ∧ hcan h42 ((Addr.mk n31 0 none).add (i37.toNat * 1)) 1 ∧ ∀ h46, h46 = hwr h42 ((Addr.mk n31 0 none).add (i37.toNat * 1)) [.int .u8 (bits .andNot .u8 i39 (bits .andNot .u8 i45 i40))] → J36 [.dv (.one (.int .i64 (IntKind.i64.wrap (i37 + 1))))] h46) h38 else ∃ (l48 : List Int), l48.length = 32 ∧ hrow h38 ⟨n31, 0, none⟩ .u8 l48 ∧ ∃ (l49 : List Int), l49.length = 32 ∧ hrow h38 ⟨n25, 0, none⟩ .u8 l49 ∧ if (!l48 == l49) = true then ∃ o50 n51 n52, hc h38 (a0.add 7) = some (.slice o50 n51 n52) ∧ ∃ p53, o50 = some p53 ∧ 0 ≤ a1 ∧ a1 < (↑n51 : Int) ∧ ∃ o54 n55 n56, hc h38 (p53.add (a1.toNat * 1)) = some (.slice o54 n55 n56) ∧ ∃ (l57 : List Int), l57.length = 32 ∧ hrow h38 ⟨n31, 0, none⟩ .u8 l57 ∧ ∃ p58, o54 = some p58 ∧ 0 ≤ a2 ∧ a2 < (↑n55 : Int) ∧ hcan h38 (p58.add (a2.toNat * 32)) 32 ∧ ∀ h59, h59 = hwr h38 (p58.add (a2.toNat * 32)) (ints .u8 l57 ++ []) → Q i14 h59 else Q i14 h38) → J36 [.dv (.one (.int .i64 i37))] h38) → J36 [.dv (.one (.int .i64 0))] h34) h12) h9
theorem E_chip_Chip_Program : ∀ c0 c1 a0 a1 a2 a3_0 Q h, G_chip_Chip_Program c0 c1 a0 a1 a2 a3_0 Q h = Dbody PP [(84, W [.addr] [.fn, .int .i64] c0), (211, W [.addr, .int .i64, .int .i64] [.int .i64] c1)] [(506, [(39, .sc (.int .i64))])] Tryz.f182 [.addr a0, .one (.int .i64 a1), .one (.int .i64 a2), .agg [.row .u8 32 a3_0]] (decR [.int .i64] Q) h := by intros; kernel_rfl
def F_chip_Chip_Program := G_chip_Chip_Program F_chip_Chip_begins F_chip_Chip_asksCell
theorem R_chip_Chip_Program : RunOk PP 182 (W [.addr, .int .i64, .int .i64, .ag [.row .u8 32]] [.int .i64] F_chip_Chip_Program) := runOk_of (TblOk.cons R_chip_Chip_begins (TblOk.cons R_chip_Chip_asksCell (TblOk.nil))) Tryz.func182 (by kernel_rfl) (by kernel_rfl) (E_chip_Chip_Program _ _)
attribute [irreducible] F_chip_Chip_Program
def G_log_found_target (a0_0 : Int) (a0_1 : List Int) (a0_2 : Int) (a0_3 : Bool) (a0_4 : Int) (a0_5 : Int) (a0_6 : List Int) (a0_7 : Int) (a0_8 : Bool) (a0_9 : Int) (a0_10 : Int) (Q : Int → H → Prop) (h : H) : Prop := ∀ n13 h14, hnew h n13 (.int .i64 a0_0 :: (ints .i64 a0_1 ++ .int .i64 a0_2 :: .bool a0_3 :: .int .i64 a0_4 :: .int .i64 a0_5 :: (ints .i64 a0_6 ++ [.int .i64 a0_7, .bool a0_8, .int .i64 a0_9, .int .i64 a0_10]))) h14 → ∃ i16, hc h14 ⟨n13, 26, none⟩ = some (.int .i64 i16) ∧ if (i16 == 0) = true then Q 1 h14 else Q 0 h14
theorem E_log_found_target : ∀ a0_0 a0_1 a0_2 a0_3 a0_4 a0_5 a0_6 a0_7 a0_8 a0_9 a0_10 Q h, G_log_found_target a0_0 a0_1 a0_2 a0_3 a0_4 a0_5 a0_6 a0_7 a0_8 a0_9 a0_10 Q h = Dbody PP [] [] Tryz.f213 [.agg [.c (.int .i64 a0_0), .row .i64 9 a0_1, .c (.int .i64 a0_2), .c (.bool a0_3), .c (.int .i64 a0_4), .c (.int .i64 a0_5), .row .i64 9 a0_6, .c (.int .i64 a0_7), .c (.bool a0_8), .c (.int .i64 a0_9), .c (.int .i64 a0_10)]] (decR [.int .i64] Q) h := by intros; kernel_rfl
def F_log_found_target := G_log_found_target
theorem R_log_found_target : RunOk PP 213 (W [.ag [.int .i64, .row .i64 9, .int .i64, .bool, .int .i64, .int .i64, .row .i64 9, .int .i64, .bool, .int .i64, .int .i64]] [.int .i64] F_log_found_target) := runOk_of (TblOk.nil) Tryz.func213 (by kernel_rfl) (by kernel_rfl) (E_log_found_target)
attribute [irreducible] F_log_found_target
def G_log_Log_worn (c0 : Addr → (Int → Int → Int → Int → Int → Int → Int → H → Prop) → H → Prop) (c1 : Int → List Int → Int → Bool → Int → Int → List Int → Int → Bool → Int → Int → (Int → List Int → Int → Bool → Int → H → Prop) → H → Prop) (c2 : Addr → Int → (Int → Int → H → Prop) → H → Prop) (c3 : Int → List Int → Int → Bool → Int → Int → List Int → Int → Bool → Int → Int → (Int → H → Prop) → H → Prop) (a0 : Addr) (a1_0 : Int) (a1_1 : List Int) (a1_2 : Int) (a1_3 : Bool) (a1_4 : Int) (a1_5 : Int) (a1_6 : List Int) (a1_7 : Int) (a1_8 : Bool) (a1_9 : Int) (a1_10 : Int) (Q : Bool → H → Prop) (h : H) : Prop := ∀ n18 h19, hnew h n18 (.int .i64 a1_0 :: (ints .i64 a1_1 ++ .int .i64 a1_2 :: .bool a1_3 :: .int .i64 a1_4 :: .int .i64 a1_5 :: (ints .i64 a1_6 ++ [.int .i64 a1_7, .bool a1_8, .int .i64 a1_9, .int .i64 a1_10]))) h19 → ∃ o21, hc h19 a0 = some (.pointer o21) ∧ ∃ i22, hc h19 ⟨n18, 0, none⟩ = some (.int .i64 i22) ∧ ∃ (l23 : List Int), l23.length = 9 ∧ hrow h19 ⟨n18, 1, none⟩ .i64 l23 ∧ ∃ i24, hc h19 ⟨n18, 10, none⟩ = some (.int .i64 i24) ∧ ∃ b25, hc h19 ⟨n18, 11, none⟩ = some (.bool b25) ∧ ∃ i26, hc h19 ⟨n18, 12, none⟩ = some (.int .i64 i26) ∧ ∃ i27, hc h19 ⟨n18, 13, none⟩ = some (.int .i64 i27) ∧ ∃ (l28 : List Int), l28.length = 9 ∧ hrow h19 ⟨n18, 14, none⟩ .i64 l28 ∧ ∃ i29, hc h19 ⟨n18, 23, none⟩ = some (.int .i64 i29) ∧ ∃ b30, hc h19 ⟨n18, 24, none⟩ = some (.bool b30) ∧ ∃ i31, hc h19 ⟨n18, 25, none⟩ = some (.int .i64 i31) ∧ ∃ i32, hc h19 ⟨n18, 26, none⟩ = some (.int .i64 i32) ∧ c3 i22 l23 i24 b25 i26 i27 l28 i29 b30 i31 i32 (fun i33 h34 => hcs h34 a0 [.pointer o21] ∧ ∃ p35, o21 = some p35 ∧ c2 p35 i33 (fun i36 i37 h38 => ∃ i39, hc h38 ⟨n18, 0, none⟩ = some (.int .i64 i39) ∧ ∃ (l40 : List Int), l40.length = 9 ∧ hrow h38 ⟨n18, 1, none⟩ .i64 l40 ∧ ∃ i41, hc h38 ⟨n18, 10, none⟩ = some (.int .i64 i41) ∧ ∃ b42, hc h38 ⟨n18, 11, none⟩ = some (.bool b42) ∧ ∃ i43, hc h38 ⟨n18, 12, none⟩ = some (.int .i64 i43) ∧ ∃ i44, hc h38 ⟨n18, 13, none⟩ = some (.int .i64 i44) ∧ ∃ (l45 : List Int), l45.length = 9 ∧ hrow h38 ⟨n18, 14, none⟩ .i64 l45 ∧ ∃ i46, hc h38 ⟨n18, 23, none⟩ = some (.int .i64 i46) ∧ ∃ b47, hc h38 ⟨n18, 24, none⟩ = some (.bool b47) ∧ ∃ i48, hc h38 ⟨n18, 25, none⟩ = some (.int .i64 i48) ∧ ∃ i49, hc h38 ⟨n18, 26, none⟩ = some (.int .i64 i49) ∧ c3 i39 l40 i41 b42 i43 i44 l45 i46 b47 i48 i49 (fun i50 h51 => 0 ≤ i50 ∧ i50 < (↑2 : Int) ∧ ∃ b52, hc h51 (((Addr.mk n18 0 none).add (i50.toNat * 13)).add 11) = some (.bool b52) ∧ if (!b52) = true then ∃ o53, hc h51 a0 = some (.pointer o53) ∧ ∃ p54, o53 = some p54 ∧ c0 p54 (fun i55 i56 i57 i58 i59 i60 i61 h62 => if leI i60 i36 = true then Q true h62 else ∃ i63, hc h62 ⟨n18, 0, none⟩ = some (.int .i64 i63) ∧ ∃ (l64 : List Int), l64.length = 9 ∧ hrow h62 ⟨n18, 1, none⟩ .i64 l64 ∧ ∃ i65, hc h62 ⟨n18, 10, none⟩ = some (.int .i64 i65) ∧ ∃ b66, hc h62 ⟨n18, 11, none⟩ = some (.bool b66) ∧ ∃ i67, hc h62 ⟨n18, 12, none⟩ = some (.int .i64 i67) ∧ ∃ i68, hc h62 ⟨n18, 13, none⟩ = some (.int .i64 i68) ∧ ∃ (l69 : List Int), l69.length = 9 ∧ hrow h62 ⟨n18, 14, none⟩ .i64 l69 ∧ ∃ i70, hc h62 ⟨n18, 23, none⟩ = some (.int .i64 i70) ∧ ∃ b71, hc h62 ⟨n18, 24, none⟩ = some (.bool b71) ∧ ∃ i72, hc h62 ⟨n18, 25, none⟩ = some (.int .i64 i72) ∧ ∃ i73, hc h62 ⟨n18, 26, none⟩ = some (.int .i64 i73) ∧ c1 i63 l64 i65 b66 i67 i68 l69 i70 b71 i72 i73 (fun i74 l75 i76 b77 i78 h79 => ∀ (i80 : Int), i80 = 4611686018427387904 → Q (leI i80 i74) h79) h62) h51 else ∃ i82, hc h51 ⟨n18, 0, none⟩ = some (.int .i64 i82) ∧ ∃ (l83 : List Int), l83.length = 9 ∧ hrow h51 ⟨n18, 1, none⟩ .i64 l83 ∧ ∃ i84, hc h51 ⟨n18, 10, none⟩ = some (.int .i64 i84) ∧ ∃ b85, hc h51 ⟨n18, 11, none⟩ = some (.bool b85) ∧ ∃ i86, hc h51 ⟨n18, 12, none⟩ = some (.int .i64 i86) ∧ ∃ i87, hc h51 ⟨n18, 13, none⟩ = some (.int .i64 i87) ∧ ∃ (l88 : List Int), l88.length = 9 ∧ hrow h51 ⟨n18, 14, none⟩ .i64 l88 ∧ ∃ i89, hc h51 ⟨n18, 23, none⟩ = some (.int .i64 i89) ∧ ∃ b90, hc h51 ⟨n18, 24, none⟩ = some (.bool b90) ∧ ∃ i91, hc h51 ⟨n18, 25, none⟩ = some (.int .i64 i91) ∧ ∃ i92, hc h51 ⟨n18, 26, none⟩ = some (.int .i64 i92) ∧ c1 i82 l83 i84 b85 i86 i87 l88 i89 b90 i91 i92 (fun i93 l94 i95 b96 i97 h98 => ∀ (i99 : Int), i99 = 4611686018427387904 → Q (leI i99 i93) h98) h51) h38) h34) h19
theorem E_log_Log_worn : ∀ c0 c1 c2 c3 a0 a1_0 a1_1 a1_2 a1_3 a1_4 a1_5 a1_6 a1_7 a1_8 a1_9 a1_10 Q h, G_log_Log_worn c0 c1 c2 c3 a0 a1_0 a1_1 a1_2 a1_3 a1_4 a1_5 a1_6 a1_7 a1_8 a1_9 a1_10 Q h = Dbody PP [(105, W [.addr] [.ag [.int .i64, .int .i64, .int .i64, .int .i64, .int .i64, .int .i64, .int .i64]] c0), (174, W [.ag [.int .i64, .row .i64 9, .int .i64, .bool, .int .i64, .int .i64, .row .i64 9, .int .i64, .bool, .int .i64, .int .i64]] [.ag [.int .i64, .row .i64 9, .int .i64, .bool, .int .i64]] c1), (212, W [.addr, .int .i64] [.int .i64, .int .i64] c2), (213, W [.ag [.int .i64, .row .i64 9, .int .i64, .bool, .int .i64, .int .i64, .row .i64 9, .int .i64, .bool, .int .i64, .int .i64]] [.int .i64] c3)] [] Tryz.f183 [.addr a0, .agg [.c (.int .i64 a1_0), .row .i64 9 a1_1, .c (.int .i64 a1_2), .c (.bool a1_3), .c (.int .i64 a1_4), .c (.int .i64 a1_5), .row .i64 9 a1_6, .c (.int .i64 a1_7), .c (.bool a1_8), .c (.int .i64 a1_9), .c (.int .i64 a1_10)]] (decR [.bool] Q) h := by intros; kernel_rfl
def F_log_Log_worn := G_log_Log_worn F_chip_Chip_Config F_log_found_info F_chip_Chip_Erases F_log_found_target
theorem R_log_Log_worn : RunOk PP 183 (W [.addr, .ag [.int .i64, .row .i64 9, .int .i64, .bool, .int .i64, .int .i64, .row .i64 9, .int .i64, .bool, .int .i64, .int .i64]] [.bool] F_log_Log_worn) := runOk_of (TblOk.cons R_chip_Chip_Config (TblOk.cons R_log_found_info (TblOk.cons R_chip_Chip_Erases (TblOk.cons R_log_found_target (TblOk.nil))))) Tryz.func183 (by kernel_rfl) (by kernel_rfl) (E_log_Log_worn _ _ _ _)
attribute [irreducible] F_log_Log_worn
def G_chip_Chip_Erase (c0 : Addr → Int → Int → (Int → H → Prop) → H → Prop) (c1 : Addr → (Value → Int → H → Prop) → H → Prop) (a0 : Addr) (a1 : Int) (Q : Int → H → Prop) (h : H) : Prop := ∃ o6 n7 n8, hc h (a0.add 7) = some (.slice o6 n7 n8) ∧ c0 a0 a1 (↑n7 : Int) (fun i9 h10 => if (i9 != 0) = true then Q i9 h10 else ∃ o11 n12 n13, hc h10 (a0.add 8) = some (.slice o11 n12 n13) ∧ ∃ p14, o11 = some p14 ∧ 0 ≤ a1 ∧ a1 < (↑n12 : Int) ∧ ∃ i15, hc h10 (p14.add (a1.toNat * 1)) = some (.int .i64 i15) ∧ ∃ i16, hc h10 (a0.add 5) = some (.int .i64 i16) ∧ if leI i16 i15 = true then Q 9 h10 else c1 a0 (fun v17 i18 h19 => ∃ o20 n21 n22, hc h19 (a0.add 8) = some (.slice o20 n21 n22) ∧ ∃ p23, o20 = some p23 ∧ 0 ≤ a1 ∧ a1 < (↑n21 : Int) ∧ ∃ i24, hc h19 (p23.add (a1.toNat * 1)) = some (.int .i64 i24) ∧ ∃ p25, o20 = some p25 ∧ 0 ≤ a1 ∧ a1 < (↑n21 : Int) ∧ hcan h19 (p25.add (a1.toNat * 1)) 1 ∧ ∀ h26, h26 = hwr h19 (p25.add (a1.toNat * 1)) [.int .i64 (IntKind.i64.wrap (i24 + 1))] → ∃ o28 n29 n30, hc h26 (a0.add 7) = some (.slice o28 n29 n30) ∧ ∃ p31, o28 = some p31 ∧ 0 ≤ a1 ∧ a1 < (↑n29 : Int) ∧ ∃ o32 n33 n34, hc h26 (p31.add (a1.toNat * 1)) = some (.slice o32 n33 n34) ∧ ∀ (J35 : JT), (∀ (i36 : Int) (h37 : H), (if ltI i36 n33 = true then ∃ o38 n39 n40, hc h37 (a0.add 7) = some (.slice o38 n39 n40) ∧ ∃ p41, o38 = some p41 ∧ 0 ≤ a1 ∧ a1 < (↑n39 : Int) ∧ ∃ o42 n43 n44, hc h37 (p41.add (a1.toNat * 1)) = some (.slice o42 n43 n44) ∧ ∃ p45, o42 = some p45 ∧ 0 ≤ i36 ∧ i36 < n43 ∧ ∀ (J46 : JT), (∀ (i47 : Int) (h48 : H), (if ltI i47 32 = true then 0 ≤ i47 ∧ i47 < (↑32 : Int) ∧ ∃ i49, hc h48 ((p45.add (i36.toNat * 32)).add (i47.toNat * 1)) = some (.int .u8 i49) ∧ callFn PP v17 [DV.one (.int .i64 (IntKind.i64.wrap (IntKind.i64.wrap (i36 * 32) + i47)))] (fun l50 h51 => ∃ (x52 : DV), ∃ (l53 : List DV), l50 = x52 :: l53 ∧ ∃ (i54 : Int), x52 = DV.one (.int .u8 i54) ∧ l53 = [] ∧ hcs h51 ((p45.add (i36.toNat * 32)).add (i47.toNat * 1)) [.int .u8 i49] ∧ 0 ≤ i47 ∧ i47 < (↑32 : Int) ∧ hcan h51 ((p45.add (i36.toNat * 32)).add (i47.toNat * 1)) 1 ∧ ∀ h55, h55 = hwr h51 ((p45.add (i36.toNat * 32)).add (i47.toNat * 1)) [.int .u8 (bits .or .u8 i49 i54)] → J46 [.dv (.one (.int .i64 (IntKind.i64.wrap (i47 + 1))))] h55) h48 else J35 [.dv (.one (.int .i64 (IntKind.i64.wrap (i36 + 1))))] h48) → J46 [.dv (.one (.int .i64 i47))] h48) → J46 [.dv (.one (.int .i64 0))] h37 else Q i18 h37) → J35 [.dv (.one (.int .i64 i36))] h37) → J35 [.dv (.one (.int .i64 0))] h26) h10) h
theorem E_chip_Chip_Erase : ∀ c0 c1 a0 a1 Q h, G_chip_Chip_Erase c0 c1 a0 a1 Q h = Dbody PP [(83, W [.addr, .int .i64, .int .i64] [.int .i64] c0), (84, W [.addr] [.fn, .int .i64] c1)] [(506, [(61, .sc (.int .i64))]), (259278, [(74, .sc (.int .i64))])] Tryz.f214 [.addr a0, .one (.int .i64 a1)] (decR [.int .i64] Q) h := by intros; kernel_rfl
def F_chip_Chip_Erase := G_chip_Chip_Erase F_chip_Chip_asked F_chip_Chip_begins
theorem R_chip_Chip_Erase : RunOk PP 214 (W [.addr, .int .i64] [.int .i64] F_chip_Chip_Erase) := runOk_of (TblOk.cons R_chip_Chip_asked (TblOk.cons R_chip_Chip_begins (TblOk.nil))) Tryz.func214 (by kernel_rfl) (by kernel_rfl) (E_chip_Chip_Erase _ _)
attribute [irreducible] F_chip_Chip_Erase
def G_log_Log_turn_1 (c0 : Int → Int → (List Int → Int → H → Prop) → H → Prop) (c1 : Addr → Int → Int → List Int → (Int → H → Prop) → H → Prop) (a0 : Int) (a1 : Int) (a2 : Addr) (a3 : Addr) (a4 : Addr) (Q : Int → H → Prop) (h : H) : Prop := c0 a0 a1 (fun l9 i10 h11 => ∀ n12 h13, hnew h11 n12 (ints .u8 (zeros 32)) h13 → hcan h13 ⟨n12, 0, none⟩ 32 ∧ ∀ h15, h15 = hwr h13 ⟨n12, 0, none⟩ (ints .u8 l9 ++ []) → if (i10 != 0) = true then Q i10 h15 else ∃ i17, hc h15 a2 = some (.int .i64 i17) ∧ hcan h15 a2 1 ∧ ∀ h18, h18 = hwr h15 a2 [.int .i64 (IntKind.i64.wrap (i17 + 1))] → ∃ o20, hc h18 a3 = some (.pointer o20) ∧ ∃ p21, o20 = some p21 ∧ ∃ o22, hc h18 p21 = some (.pointer o22) ∧ ∃ i23, hc h18 a4 = some (.int .i64 i23) ∧ ∃ i24, hc h18 a2 = some (.int .i64 i24) ∧ ∃ (l25 : List Int), l25.length = 32 ∧ hrow h18 ⟨n12, 0, none⟩ .u8 l25 ∧ ∃ p26, o22 = some p26 ∧ c1 p26 i23 (IntKind.i64.wrap (i24 - 1)) l25 (fun i27 h28 => Q i27 h28) h18) h
theorem E_log_Log_turn_1 : ∀ c0 c1 a0 a1 a2 a3 a4 Q h, G_log_Log_turn_1 c0 c1 a0 a1 a2 a3 a4 Q h = Dbody PP [(181, W [.int .i64, .int .i64] [.ag [.row .u8 32], .int .i64] c0), (182, W [.addr, .int .i64, .int .i64, .ag [.row .u8 32]] [.int .i64] c1)] [] Tryz.f215 [.one (.int .i64 a0), .one (.int .i64 a1), .addr a2, .addr a3, .addr a4] (decR [.int .i64] Q) h := by intros; kernel_rfl
def F_log_Log_turn_1 := G_log_Log_turn_1 F_cell_Value F_chip_Chip_Program
theorem R_log_Log_turn_1 : RunOk PP 215 (W [.int .i64, .int .i64, .addr, .addr, .addr] [.int .i64] F_log_Log_turn_1) := runOk_of (TblOk.cons R_cell_Value (TblOk.cons R_chip_Chip_Program (TblOk.nil))) Tryz.func215 (by kernel_rfl) (by kernel_rfl) (E_log_Log_turn_1 _ _)
attribute [irreducible] F_log_Log_turn_1
def G_cell_Head (c0 : Int → Int → Int → (List Int → H → Prop) → H → Prop) (a0 : Int) (Q : List Int → Int → H → Prop) (h : H) : Prop := ∀ n4 h5, hnew h n4 (ints .u8 (zeros 32)) h5 → if ltI a0 1 = true then hcan h5 ⟨n4, 0, none⟩ 32 ∧ ∀ h7, h7 = hwr h5 ⟨n4, 0, none⟩ (ints .u8 (zeros 32)) → ∃ (l9 : List Int), l9.length = 32 ∧ hrow h7 ⟨n4, 0, none⟩ .u8 l9 ∧ Q l9 2 h7 else ∀ (i10 : Int), i10 = 4611686018427387904 → if ltI i10 a0 = true then hcan h5 ⟨n4, 0, none⟩ 32 ∧ ∀ h12, h12 = hwr h5 ⟨n4, 0, none⟩ (ints .u8 (zeros 32)) → ∃ (l14 : List Int), l14.length = 32 ∧ hrow h12 ⟨n4, 0, none⟩ .u8 l14 ∧ Q l14 2 h12 else c0 1 0 a0 (fun l15 h16 => hcan h16 ⟨n4, 0, none⟩ 32 ∧ ∀ h17, h17 = hwr h16 ⟨n4, 0, none⟩ (ints .u8 l15 ++ []) → ∃ (l19 : List Int), l19.length = 32 ∧ hrow h17 ⟨n4, 0, none⟩ .u8 l19 ∧ Q l19 0 h17) h5
theorem E_cell_Head : ∀ c0 a0 Q h, G_cell_Head c0 a0 Q h = Dbody PP [(210, W [.int .u8, .int .i64, .int .i64] [.ag [.row .u8 32]] c0)] [] Tryz.f216 [.one (.int .i64 a0)] (decR [.ag [.row .u8 32], .int .i64] Q) h := by intros; kernel_rfl
def F_cell_Head := G_cell_Head F_cell_laid
theorem R_cell_Head : RunOk PP 216 (W [.int .i64] [.ag [.row .u8 32], .int .i64] F_cell_Head) := runOk_of (TblOk.cons R_cell_laid (TblOk.nil)) Tryz.func216 (by kernel_rfl) (by kernel_rfl) (E_cell_Head _)
attribute [irreducible] F_cell_Head
def G_log_Log_turn (c0 : Addr → (Int → Int → Int → Int → Int → Int → Int → H → Prop) → H → Prop) (c1 : Int → List Int → Int → Bool → Int → Int → List Int → Int → Bool → Int → Int → (Int → List Int → Int → Bool → Int → H → Prop) → H → Prop) (c2 : Addr → Int → Int → List Int → (Int → H → Prop) → H → Prop) (c3 : Int → List Int → Int → Bool → Int → Int → List Int → Int → Bool → Int → Int → (Int → H → Prop) → H → Prop) (c4 : Addr → Int → (Int → H → Prop) → H → Prop) (c5 : Int → Int → Addr → Addr → Addr → (Int → H → Prop) → H → Prop) (c6 : Int → (List Int → Int → H → Prop) → H → Prop) (a0 : Addr) (a1_0 : Int) (a1_1 : List Int) (a1_2 : Int) (a1_3 : Bool) (a1_4 : Int) (a1_5 : Int) (a1_6 : List Int) (a1_7 : Int) (a1_8 : Bool) (a1_9 : Int) (a1_10 : Int) (a2 : Int) (a3 : Int) (Q : Int → H → Prop) (h : H) : Prop := ∀ n23 h24, hnew h n23 [.pointer (some a0)] h24 → ∀ n26 h27, hnew h24 n26 (.int .i64 a1_0 :: (ints .i64 a1_1 ++ .int .i64 a1_2 :: .bool a1_3 :: .int .i64 a1_4 :: .int .i64 a1_5 :: (ints .i64 a1_6 ++ [.int .i64 a1_7, .bool a1_8, .int .i64 a1_9, .int .i64 a1_10]))) h27 → ∃ i29, hc h27 ⟨n26, 0, none⟩ = some (.int .i64 i29) ∧ ∃ (l30 : List Int), l30.length = 9 ∧ hrow h27 ⟨n26, 1, none⟩ .i64 l30 ∧ ∃ i31, hc h27 ⟨n26, 10, none⟩ = some (.int .i64 i31) ∧ ∃ b32, hc h27 ⟨n26, 11, none⟩ = some (.bool b32) ∧ ∃ i33, hc h27 ⟨n26, 12, none⟩ = some (.int .i64 i33) ∧ ∃ i34, hc h27 ⟨n26, 13, none⟩ = some (.int .i64 i34) ∧ ∃ (l35 : List Int), l35.length = 9 ∧ hrow h27 ⟨n26, 14, none⟩ .i64 l35 ∧ ∃ i36, hc h27 ⟨n26, 23, none⟩ = some (.int .i64 i36) ∧ ∃ b37, hc h27 ⟨n26, 24, none⟩ = some (.bool b37) ∧ ∃ i38, hc h27 ⟨n26, 25, none⟩ = some (.int .i64 i38) ∧ ∃ i39, hc h27 ⟨n26, 26, none⟩ = some (.int .i64 i39) ∧ c3 i29 l30 i31 b32 i33 i34 l35 i36 b37 i38 i39 (fun i40 h41 => ∀ n42 h43, hnew h41 n42 [.int .i64 0] h43 → hcan h43 ⟨n42, 0, none⟩ 1 ∧ ∀ h45, h45 = hwr h43 ⟨n42, 0, none⟩ [.int .i64 i40] → ∀ (J47 : JT), (∀ (h48 : H), (∀ n49 h50, hnew h48 n49 [.int .i64 0] h50 → hcan h50 ⟨n49, 0, none⟩ 1 ∧ ∀ h52, h52 = hwr h50 ⟨n49, 0, none⟩ [.int .i64 1] → ∃ i54, hc h52 ⟨n26, 0, none⟩ = some (.int .i64 i54) ∧ ∃ (l55 : List Int), l55.length = 9 ∧ hrow h52 ⟨n26, 1, none⟩ .i64 l55 ∧ ∃ i56, hc h52 ⟨n26, 10, none⟩ = some (.int .i64 i56) ∧ ∃ b57, hc h52 ⟨n26, 11, none⟩ = some (.bool b57) ∧ ∃ i58, hc h52 ⟨n26, 12, none⟩ = some (.int .i64 i58) ∧ ∃ i59, hc h52 ⟨n26, 13, none⟩ = some (.int .i64 i59) ∧ ∃ (l60 : List Int), l60.length = 9 ∧ hrow h52 ⟨n26, 14, none⟩ .i64 l60 ∧ ∃ i61, hc h52 ⟨n26, 23, none⟩ = some (.int .i64 i61) ∧ ∃ b62, hc h52 ⟨n26, 24, none⟩ = some (.bool b62) ∧ ∃ i63, hc h52 ⟨n26, 25, none⟩ = some (.int .i64 i63) ∧ ∃ i64, hc h52 ⟨n26, 26, none⟩ = some (.int .i64 i64) ∧ c1 i54 l55 i56 b57 i58 i59 l60 i61 b62 i63 i64 (fun i65 l66 i67 b68 i69 h70 => ∀ n71 h72, hnew h70 n71 (ints .i64 (zeros 9)) h72 → hcan h72 ⟨n71, 0, none⟩ 9 ∧ ∀ h74, h74 = hwr h72 ⟨n71, 0, none⟩ (ints .i64 l66 ++ []) → 0 ≤ a2 ∧ a2 < (↑9 : Int) ∧ hcan h74 ((Addr.mk n71 0 none).add (a2.toNat * 1)) 1 ∧ ∀ h76, h76 = hwr h74 ((Addr.mk n71 0 none).add (a2.toNat * 1)) [.int .i64 a3] → ∃ o78, hc h76 ⟨n23, 0, none⟩ = some (.pointer o78) ∧ ∃ p79, o78 = some p79 ∧ ∃ o80, hc h76 p79 = some (.pointer o80) ∧ ∃ p81, o80 = some p81 ∧ c0 p81 (fun i82 i83 i84 i85 i86 i87 i88 h89 => ∀ (J90 : JT), (∀ (i91 : Int) (h92 : H), (if ltI i91 (IntKind.i64.wrap (i83 + 1)) = true then 0 ≤ i91 ∧ i91 < (↑9 : Int) ∧ ∃ i93, hc h92 ((Addr.mk n71 0 none).add (i91.toNat * 1)) = some (.int .i64 i93) ∧ if (i93 == 0) = true then J90 [.dv (.one (.int .i64 (IntKind.i64.wrap (i91 + 1))))] h92 else 0 ≤ i91 ∧ i91 < (↑9 : Int) ∧ ∃ i94, hc h92 ((Addr.mk n71 0 none).add (i91.toNat * 1)) = some (.int .i64 i94) ∧ c5 i91 i94 (Addr.mk n49 0 none) (Addr.mk n23 0 none) (Addr.mk n42 0 none) (fun i95 h96 => if (i95 != 0) = true then Q i95 h96 else J90 [.dv (.one (.int .i64 (IntKind.i64.wrap (i91 + 1))))] h96) h92 else ∃ i97, hc h92 ⟨n26, 0, none⟩ = some (.int .i64 i97) ∧ ∃ (l98 : List Int), l98.length = 9 ∧ hrow h92 ⟨n26, 1, none⟩ .i64 l98 ∧ ∃ i99, hc h92 ⟨n26, 10, none⟩ = some (.int .i64 i99) ∧ ∃ b100, hc h92 ⟨n26, 11, none⟩ = some (.bool b100) ∧ ∃ i101, hc h92 ⟨n26, 12, none⟩ = some (.int .i64 i101) ∧ ∃ i102, hc h92 ⟨n26, 13, none⟩ = some (.int .i64 i102) ∧ ∃ (l103 : List Int), l103.length = 9 ∧ hrow h92 ⟨n26, 14, none⟩ .i64 l103 ∧ ∃ i104, hc h92 ⟨n26, 23, none⟩ = some (.int .i64 i104) ∧ ∃ b105, hc h92 ⟨n26, 24, none⟩ = some (.bool b105) ∧ ∃ i106, hc h92 ⟨n26, 25, none⟩ = some (.int .i64 i106) ∧ ∃ i107, hc h92 ⟨n26, 26, none⟩ = some (.int .i64 i107) ∧ c1 i97 l98 i99 b100 i101 i102 l103 i104 b105 i106 i107 (fun i108 l109 i110 b111 i112 h113 => c6 (IntKind.i64.wrap (i108 + 1)) (fun l114 i115 h116 => ∀ n117 h118, hnew h116 n117 (ints .u8 (zeros 32)) h118 → hcan h118 ⟨n117, 0, none⟩ 32 ∧ ∀ h120, h120 = hwr h118 ⟨n117, 0, none⟩ (ints .u8 l114 ++ []) → if (i115 != 0) = true then Q i115 h120 else ∃ o122, hc h120 ⟨n23, 0, none⟩ = some (.pointer o122) ∧ ∃ p123, o122 = some p123 ∧ ∃ o124, hc h120 p123 = some (.pointer o124) ∧ ∃ i125, hc h120 ⟨n42, 0, none⟩ = some (.int .i64 i125) ∧ ∃ (l126 : List Int), l126.length = 32 ∧ hrow h120 ⟨n117, 0, none⟩ .u8 l126 ∧ ∃ p127, o124 = some p127 ∧ c2 p127 i125 0 l126 (fun i128 h129 => Q i128 h129) h120) h113) h92) → J90 [.dv (.one (.int .i64 i91))] h92) → J90 [.dv (.one (.int .i64 0))] h89) h76) h52) → J47 [] h48) → ∃ i134, hc h45 ⟨n42, 0, none⟩ = some (.int .i64 i134) ∧ 0 ≤ i134 ∧ i134 < (↑2 : Int) ∧ ∃ b135, hc h45 (((Addr.mk n26 0 none).add (i134.toNat * 13)).add 11) = some (.bool b135) ∧ if (!b135) = true then ∃ o136, hc h45 ⟨n23, 0, none⟩ = some (.pointer o136) ∧ ∃ p137, o136 = some p137 ∧ ∃ o138, hc h45 p137 = some (.pointer o138) ∧ ∃ i139, hc h45 ⟨n42, 0, none⟩ = some (.int .i64 i139) ∧ ∃ p140, o138 = some p140 ∧ c4 p140 i139 (fun i141 h142 => if (i141 != 0) = true then Q i141 h142 else J47 [] h142) h45 else J47 [] h45) h27
theorem E_log_Log_turn : ∀ c0 c1 c2 c3 c4 c5 c6 a0 a1_0 a1_1 a1_2 a1_3 a1_4 a1_5 a1_6 a1_7 a1_8 a1_9 a1_10 a2 a3 Q h, G_log_Log_turn c0 c1 c2 c3 c4 c5 c6 a0 a1_0 a1_1 a1_2 a1_3 a1_4 a1_5 a1_6 a1_7 a1_8 a1_9 a1_10 a2 a3 Q h = Dbody PP [(105, W [.addr] [.ag [.int .i64, .int .i64, .int .i64, .int .i64, .int .i64, .int .i64, .int .i64]] c0), (174, W [.ag [.int .i64, .row .i64 9, .int .i64, .bool, .int .i64, .int .i64, .row .i64 9, .int .i64, .bool, .int .i64, .int .i64]] [.ag [.int .i64, .row .i64 9, .int .i64, .bool, .int .i64]] c1), (182, W [.addr, .int .i64, .int .i64, .ag [.row .u8 32]] [.int .i64] c2), (213, W [.ag [.int .i64, .row .i64 9, .int .i64, .bool, .int .i64, .int .i64, .row .i64 9, .int .i64, .bool, .int .i64, .int .i64]] [.int .i64] c3), (214, W [.addr, .int .i64] [.int .i64] c4), (215, W [.int .i64, .int .i64, .addr, .addr, .addr] [.int .i64] c5), (216, W [.int .i64] [.ag [.row .u8 32], .int .i64] c6)] [(7, []), (2042, [(49, .sc (.int .i64))])] Tryz.f184 [.addr a0, .agg [.c (.int .i64 a1_0), .row .i64 9 a1_1, .c (.int .i64 a1_2), .c (.bool a1_3), .c (.int .i64 a1_4), .c (.int .i64 a1_5), .row .i64 9 a1_6, .c (.int .i64 a1_7), .c (.bool a1_8), .c (.int .i64 a1_9), .c (.int .i64 a1_10)], .one (.int .i64 a2), .one (.int .i64 a3)] (decR [.int .i64] Q) h := by intros; kernel_rfl
def F_log_Log_turn := G_log_Log_turn F_chip_Chip_Config F_log_found_info F_chip_Chip_Program F_log_found_target F_chip_Chip_Erase F_log_Log_turn_1 F_cell_Head
theorem R_log_Log_turn : RunOk PP 184 (W [.addr, .ag [.int .i64, .row .i64 9, .int .i64, .bool, .int .i64, .int .i64, .row .i64 9, .int .i64, .bool, .int .i64, .int .i64], .int .i64, .int .i64] [.int .i64] F_log_Log_turn) := runOk_of (TblOk.cons R_chip_Chip_Config (TblOk.cons R_log_found_info (TblOk.cons R_chip_Chip_Program (TblOk.cons R_log_found_target (TblOk.cons R_chip_Chip_Erase (TblOk.cons R_log_Log_turn_1 (TblOk.cons R_cell_Head (TblOk.nil)))))))) Tryz.func184 (by kernel_rfl) (by kernel_rfl) (E_log_Log_turn _ _ _ _ _ _ _)
attribute [irreducible] F_log_Log_turn
def G_log_Log_Lay (c0 : Addr → (Int → Int → Int → Int → Int → Int → Int → H → Prop) → H → Prop) (c1 : Addr → (Int → List Int → Int → Bool → Int → Int → List Int → Int → Bool → Int → Int → Int → H → Prop) → H → Prop) (c2 : Addr → Int → (Bool → H → Prop) → H → Prop) (c3 : Int → List Int → Int → Bool → Int → Int → List Int → Int → Bool → Int → Int → (Int → List Int → Int → Bool → Int → H → Prop) → H → Prop) (c4 : Int → Int → (List Int → Int → H → Prop) → H → Prop) (c5 : Addr → Int → Int → List Int → (Int → H → Prop) → H → Prop) (c6 : Addr → Int → List Int → Int → Bool → Int → Int → List Int → Int → Bool → Int → Int → (Bool → H → Prop) → H → Prop) (c7 : Addr → Int → List Int → Int → Bool → Int → Int → List Int → Int → Bool → Int → Int → Int → Int → (Int → H → Prop) → H → Prop) (a0 : Addr) (a1 : Int) (a2 : Int) (Q : Int → H → Prop) (h : H) : Prop := c1 a0 (fun i13 l14 i15 b16 i17 i18 l19 i20 b21 i22 i23 i24 h25 => ∀ n26 h27, hnew h25 n26 (.int .i64 0 :: (ints .i64 (zeros 9) ++ .int .i64 0 :: .bool false :: .int .i64 0 :: .int .i64 0 :: (ints .i64 (zeros 9) ++ [.int .i64 0, .bool false, .int .i64 0, .int .i64 0]))) h27 → hcan h27 ⟨n26, 0, none⟩ 27 ∧ ∀ h29, h29 = hwr h27 ⟨n26, 0, none⟩ (.int .i64 i13 :: (ints .i64 l14 ++ .int .i64 i15 :: .bool b16 :: .int .i64 i17 :: .int .i64 i18 :: (ints .i64 l19 ++ [.int .i64 i20, .bool b21, .int .i64 i22, .int .i64 i23]))) → if (i24 != 0) = true then Q i24 h29 else ∀ (J31 : JT), (∀ (b32 : Bool) (h33 : H), (if b32 = true then Q 2 h33 else ∃ i34, hc h33 ⟨n26, 0, none⟩ = some (.int .i64 i34) ∧ ∃ (l35 : List Int), l35.length = 9 ∧ hrow h33 ⟨n26, 1, none⟩ .i64 l35 ∧ ∃ i36, hc h33 ⟨n26, 10, none⟩ = some (.int .i64 i36) ∧ ∃ b37, hc h33 ⟨n26, 11, none⟩ = some (.bool b37) ∧ ∃ i38, hc h33 ⟨n26, 12, none⟩ = some (.int .i64 i38) ∧ ∃ i39, hc h33 ⟨n26, 13, none⟩ = some (.int .i64 i39) ∧ ∃ (l40 : List Int), l40.length = 9 ∧ hrow h33 ⟨n26, 14, none⟩ .i64 l40 ∧ ∃ i41, hc h33 ⟨n26, 23, none⟩ = some (.int .i64 i41) ∧ ∃ b42, hc h33 ⟨n26, 24, none⟩ = some (.bool b42) ∧ ∃ i43, hc h33 ⟨n26, 25, none⟩ = some (.int .i64 i43) ∧ ∃ i44, hc h33 ⟨n26, 26, none⟩ = some (.int .i64 i44) ∧ c3 i34 l35 i36 b37 i38 i39 l40 i41 b42 i43 i44 (fun i45 l46 i47 b48 i49 h50 => 0 ≤ a1 ∧ a1 < (↑9 : Int) ∧ if leI a2 (l46.getD a1.toNat 0) = true then Q 11 h50 else ∃ i51, hc h50 ⟨n26, 0, none⟩ = some (.int .i64 i51) ∧ ∃ (l52 : List Int), l52.length = 9 ∧ hrow h50 ⟨n26, 1, none⟩ .i64 l52 ∧ ∃ i53, hc h50 ⟨n26, 10, none⟩ = some (.int .i64 i53) ∧ ∃ b54, hc h50 ⟨n26, 11, none⟩ = some (.bool b54) ∧ ∃ i55, hc h50 ⟨n26, 12, none⟩ = some (.int .i64 i55) ∧ ∃ i56, hc h50 ⟨n26, 13, none⟩ = some (.int .i64 i56) ∧ ∃ (l57 : List Int), l57.length = 9 ∧ hrow h50 ⟨n26, 14, none⟩ .i64 l57 ∧ ∃ i58, hc h50 ⟨n26, 23, none⟩ = some (.int .i64 i58) ∧ ∃ b59, hc h50 ⟨n26, 24, none⟩ = some (.bool b59) ∧ ∃ i60, hc h50 ⟨n26, 25, none⟩ = some (.int .i64 i60) ∧ ∃ i61, hc h50 ⟨n26, 26, none⟩ = some (.int .i64 i61) ∧ c3 i51 l52 i53 b54 i55 i56 l57 i58 b59 i60 i61 (fun i62 l63 i64 b65 i66 h67 => ∀ n68 h69, hnew h67 n68 (.int .i64 0 :: (ints .i64 (zeros 9) ++ [.int .i64 0, .bool false, .int .i64 0])) h69 → hcan h69 ⟨n68, 0, none⟩ 13 ∧ ∀ h71, h71 = hwr h69 ⟨n68, 0, none⟩ (.int .i64 i62 :: (ints .i64 l63 ++ [.int .i64 i64, .bool b65, .int .i64 i66])) → ∀ (J73 : JT), (∀ (b74 : Bool) (h75 : H), (if b74 = true then c4 a1 a2 (fun l76 i77 h78 => ∀ n79 h80, hnew h78 n79 (ints .u8 (zeros 32)) h80 → hcan h80 ⟨n79, 0, none⟩ 32 ∧ ∀ h82, h82 = hwr h80 ⟨n79, 0, none⟩ (ints .u8 l76 ++ []) → if (i77 != 0) = true then Q i77 h82 else ∃ o84, hc h82 a0 = some (.pointer o84) ∧ ∃ i85, hc h82 ⟨n26, 26, none⟩ = some (.int .i64 i85) ∧ ∃ i86, hc h82 ⟨n68, 10, none⟩ = some (.int .i64 i86) ∧ ∃ (l87 : List Int), l87.length = 32 ∧ hrow h82 ⟨n79, 0, none⟩ .u8 l87 ∧ ∃ p88, o84 = some p88 ∧ c5 p88 i85 i86 l87 (fun i89 h90 => Q i89 h90) h82) h75 else ∃ i91, hc h75 ⟨n26, 0, none⟩ = some (.int .i64 i91) ∧ ∃ (l92 : List Int), l92.length = 9 ∧ hrow h75 ⟨n26, 1, none⟩ .i64 l92 ∧ ∃ i93, hc h75 ⟨n26, 10, none⟩ = some (.int .i64 i93) ∧ ∃ b94, hc h75 ⟨n26, 11, none⟩ = some (.bool b94) ∧ ∃ i95, hc h75 ⟨n26, 12, none⟩ = some (.int .i64 i95) ∧ ∃ i96, hc h75 ⟨n26, 13, none⟩ = some (.int .i64 i96) ∧ ∃ (l97 : List Int), l97.length = 9 ∧ hrow h75 ⟨n26, 14, none⟩ .i64 l97 ∧ ∃ i98, hc h75 ⟨n26, 23, none⟩ = some (.int .i64 i98) ∧ ∃ b99, hc h75 ⟨n26, 24, none⟩ = some (.bool b99) ∧ ∃ i100, hc h75 ⟨n26, 25, none⟩ = some (.int .i64 i100) ∧ ∃ i101, hc h75 ⟨n26, 26, none⟩ = some (.int .i64 i101) ∧ c6 a0 i91 l92 i93 b94 i95 i96 l97 i98 b99 i100 i101 (fun b102 h103 => if b102 = true then Q 9 h103 else ∃ i104, hc h103 ⟨n26, 0, none⟩ = some (.int .i64 i104) ∧ ∃ (l105 : List Int), l105.length = 9 ∧ hrow h103 ⟨n26, 1, none⟩ .i64 l105 ∧ ∃ i106, hc h103 ⟨n26, 10, none⟩ = some (.int .i64 i106) ∧ ∃ b107, hc h103 ⟨n26, 11, none⟩ = some (.bool b107) ∧ ∃ i108, hc h103 ⟨n26, 12, none⟩ = some (.int .i64 i108) ∧ ∃ i109, hc h103 ⟨n26, 13, none⟩ = some (.int .i64 i109) ∧ ∃ (l110 : List Int), l110.length = 9 ∧ hrow h103 ⟨n26, 14, none⟩ .i64 l110 ∧ ∃ i111, hc h103 ⟨n26, 23, none⟩ = some (.int .i64 i111) ∧ ∃ b112, hc h103 ⟨n26, 24, none⟩ = some (.bool b112) ∧ ∃ i113, hc h103 ⟨n26, 25, none⟩ = some (.int .i64 i113) ∧ ∃ i114, hc h103 ⟨n26, 26, none⟩ = some (.int .i64 i114) ∧ c7 a0 i104 l105 i106 b107 i108 i109 l110 i111 b112 i113 i114 a1 a2 (fun i115 h116 => Q i115 h116) h103) h75) → J73 [.dv (.one (.bool b74))] h75) → ∃ i119, hc h71 ⟨n26, 26, none⟩ = some (.int .i64 i119) ∧ if leI 0 i119 = true then ∃ i120, hc h71 ⟨n68, 10, none⟩ = some (.int .i64 i120) ∧ ∃ o121, hc h71 a0 = some (.pointer o121) ∧ ∃ p122, o121 = some p122 ∧ c0 p122 (fun i123 i124 i125 i126 i127 i128 i129 h130 => hcs h130 ⟨n68, 10, none⟩ [.int .i64 i120] ∧ J73 [.dv (.one (.bool (ltI i120 i123)))] h130) h71 else J73 [.dv (.one (.bool false))] h71) h50) h33) → J31 [.dv (.one (.bool b32))] h33) → c2 a0 a1 (fun b133 h134 => if (!b133) = true then J31 [.dv (.one (.bool true))] h134 else if ltI a2 1 = true then J31 [.dv (.one (.bool true))] h134 else ∀ (i135 : Int), i135 = 4611686018427387904 → J31 [.dv (.one (.bool (ltI i135 a2)))] h134) h29) h
theorem E_log_Log_Lay : ∀ c0 c1 c2 c3 c4 c5 c6 c7 a0 a1 a2 Q h, G_log_Log_Lay c0 c1 c2 c3 c4 c5 c6 c7 a0 a1 a2 Q h = Dbody PP [(105, W [.addr] [.ag [.int .i64, .int .i64, .int .i64, .int .i64, .int .i64, .int .i64, .int .i64]] c0), (172, W [.addr] [.ag [.int .i64, .row .i64 9, .int .i64, .bool, .int .i64, .int .i64, .row .i64 9, .int .i64, .bool, .int .i64, .int .i64], .int .i64] c1), (173, W [.addr, .int .i64] [.bool] c2), (174, W [.ag [.int .i64, .row .i64 9, .int .i64, .bool, .int .i64, .int .i64, .row .i64 9, .int .i64, .bool, .int .i64, .int .i64]] [.ag [.int .i64, .row .i64 9, .int .i64, .bool, .int .i64]] c3), (181, W [.int .i64, .int .i64] [.ag [.row .u8 32], .int .i64] c4), (182, W [.addr, .int .i64, .int .i64, .ag [.row .u8 32]] [.int .i64] c5), (183, W [.addr, .ag [.int .i64, .row .i64 9, .int .i64, .bool, .int .i64, .int .i64, .row .i64 9, .int .i64, .bool, .int .i64, .int .i64]] [.bool] c6), (184, W [.addr, .ag [.int .i64, .row .i64 9, .int .i64, .bool, .int .i64, .int .i64, .row .i64 9, .int .i64, .bool, .int .i64, .int .i64], .int .i64, .int .i64] [.int .i64] c7)] [(61, [(57, .sc (.bool))]), (115, [(21, .sc (.bool))])] Tryz.f113 [.addr a0, .one (.int .i64 a1), .one (.int .i64 a2)] (decR [.int .i64] Q) h := by intros; kernel_rfl
def F_log_Log_Lay := G_log_Log_Lay F_chip_Chip_Config F_log_Log_look F_log_Log_slot F_log_found_info F_cell_Value F_chip_Chip_Program F_log_Log_worn F_log_Log_turn
theorem R_log_Log_Lay : RunOk PP 113 (W [.addr, .int .i64, .int .i64] [.int .i64] F_log_Log_Lay) := runOk_of (TblOk.cons R_chip_Chip_Config (TblOk.cons R_log_Log_look (TblOk.cons R_log_Log_slot (TblOk.cons R_log_found_info (TblOk.cons R_cell_Value (TblOk.cons R_chip_Chip_Program (TblOk.cons R_log_Log_worn (TblOk.cons R_log_Log_turn (TblOk.nil))))))))) Tryz.func113 (by kernel_rfl) (by kernel_rfl) (E_log_Log_Lay _ _ _ _ _ _ _ _)
attribute [irreducible] F_log_Log_Lay
def G_fuse_Raise (c0 : Addr → Int → (Int → H → Prop) → H → Prop) (c1 : Addr → (Int → Int → Int → Int → Int → Int → Int → H → Prop) → H → Prop) (c2 : Addr → Int → Int → (Int → H → Prop) → H → Prop) (c3 : Addr → Int → (Int → Int → Int → H → Prop) → H → Prop) (a0 : Addr) (a1 : Int) (a2 : Int) (Q : Int → H → Prop) (h : H) : Prop := c1 a0 (fun i9 i10 i11 i12 i13 i14 i15 h16 => c2 a0 a1 i10 (fun i17 h18 => if (i17 != 0) = true then Q i17 h18 else ∀ (J19 : JT), (∀ (h20 : H), (∀ (J21 : JT), (∀ (h22 : H), c3 a0 a1 (fun i23 i24 i25 h26 => if (i25 != 0) = true then Q i25 h26 else if leI a2 i23 = true then Q i25 h26 else c0 a0 i24 (fun i27 h28 => if (i27 != 0) = true then Q i27 h28 else J21 [] h28) h26) h22 → J21 [] h22) → J21 [] h20) → J19 [] h20) → if ltI a2 0 = true then Q 2 h18 else c1 a0 (fun i33 i34 i35 i36 i37 i38 i39 h40 => if ltI i35 a2 = true then Q 2 h40 else J19 [] h40) h18) h16) h
theorem E_fuse_Raise : ∀ c0 c1 c2 c3 a0 a1 a2 Q h, G_fuse_Raise c0 c1 c2 c3 a0 a1 a2 Q h = Dbody PP [(28, W [.addr, .int .i64] [.int .i64] c0), (105, W [.addr] [.ag [.int .i64, .int .i64, .int .i64, .int .i64, .int .i64, .int .i64, .int .i64]] c1), (170, W [.addr, .int .i64, .int .i64] [.int .i64] c2), (171, W [.addr, .int .i64] [.int .i64, .int .i64, .int .i64] c3)] [(7, []), (30, [])] Tryz.f114 [.addr a0, .one (.int .i64 a1), .one (.int .i64 a2)] (decR [.int .i64] Q) h := by intros; kernel_rfl
def F_fuse_Raise := G_fuse_Raise F_chip_Chip_Blow F_chip_Chip_Config F_fuse_asked F_fuse_row
theorem R_fuse_Raise : RunOk PP 114 (W [.addr, .int .i64, .int .i64] [.int .i64] F_fuse_Raise) := runOk_of (TblOk.cons R_chip_Chip_Blow (TblOk.cons R_chip_Chip_Config (TblOk.cons R_fuse_asked (TblOk.cons R_fuse_row (TblOk.nil))))) Tryz.func114 (by kernel_rfl) (by kernel_rfl) (E_fuse_Raise _ _ _ _)
attribute [irreducible] F_fuse_Raise
end Go.Proofs.YtaglicdidpgkpaaGreatDoor
end

/- Denotations of functions of the program, printed by a program of ours, and that they are the model's. -/
section
set_option linter.unusedVariables false
set_option maxRecDepth 100000
namespace Go.Proofs.YtaglicdidpgkpaaGreatDoor
open Go Go.Vc
def G_store_Store_BumpTo (c0 : Addr → Int → (Int → Int → H → Prop) → H → Prop) (c1 : Addr → (Int → Int → Int → Int → Int → Int → Int → H → Prop) → H → Prop) (c2 : Int → Addr → Addr → (Int → H → Prop) → H → Prop) (c3 : Addr → Int → Int → (Int → H → Prop) → H → Prop) (c4 : Addr → Int → Int → (Int → H → Prop) → H → Prop) (a0 : Addr) (a1 : Int) (a2 : Int) (Q : Int → H → Prop) (h : H) : Prop := ∀ n10 h11, hnew h n10 [.pointer (some a0)] h11 → ∃ o13, hc h11 ⟨n10, 0, none⟩ = some (.pointer o13) ∧ ∃ p14, o13 = some p14 ∧ c0 p14 a1 (fun i15 i16 h17 => ∀ n18 h19, hnew h17 n18 [.int .i64 0] h19 → hcan h19 ⟨n18, 0, none⟩ 1 ∧ ∀ h21, h21 = hwr h19 ⟨n18, 0, none⟩ [.int .i64 i15] → if (i16 != 0) = true then Q i16 h21 else ∀ (J23 : JT), (∀ (h24 : H), (∃ o25, hc h24 ⟨n10, 0, none⟩ = some (.pointer o25) ∧ ∃ p26, o25 = some p26 ∧ ∃ o27, hc h24 (p26.add 1) = some (.pointer o27) ∧ ∃ p28, o27 = some p28 ∧ c3 p28 a1 a2 (fun i29 h30 => if (i29 != 0) = true then Q i29 h30 else ∃ o31, hc h30 ⟨n10, 0, none⟩ = some (.pointer o31) ∧ ∃ p32, o31 = some p32 ∧ ∃ o33, hc h30 p32 = some (.pointer o33) ∧ ∃ o34, hc h30 ⟨n10, 0, none⟩ = some (.pointer o34) ∧ ∃ p35, o34 = some p35 ∧ ∃ o36, hc h30 p35 = some (.pointer o36) ∧ ∃ p37, o36 = some p37 ∧ c1 p37 (fun i38 i39 i40 i41 i42 i43 i44 h45 => hcs h45 p32 [.pointer o33] ∧ hcs h45 ⟨n10, 0, none⟩ [.pointer o31] ∧ i41 ≠ 0 ∧ ∃ p46, o33 = some p46 ∧ c4 p46 a1 (IntKind.i64.wrap (a2.tdiv i41)) (fun i47 h48 => Q i47 h48) h45) h30) h24) → J23 [] h24) → c2 a2 (Addr.mk n18 0 none) (Addr.mk n10 0 none) (fun i51 h52 => if (i51 != 0) = true then Q i51 h52 else ∃ i53, hc h52 ⟨n18, 0, none⟩ = some (.int .i64 i53) ∧ if leI a2 i53 = true then Q i51 h52 else J23 [] h52) h21) h11
theorem E_store_Store_BumpTo : ∀ c0 c1 c2 c3 c4 a0 a1 a2 Q h, G_store_Store_BumpTo c0 c1 c2 c3 c4 a0 a1 a2 Q h = Dbody PP [(38, W [.addr, .int .i64] [.int .i64, .int .i64] c0), (105, W [.addr] [.ag [.int .i64, .int .i64, .int .i64, .int .i64, .int .i64, .int .i64, .int .i64]] c1), (112, W [.int .i64, .addr, .addr] [.int .i64] c2), (113, W [.addr, .int .i64, .int .i64] [.int .i64] c3), (114, W [.addr, .int .i64, .int .i64] [.int .i64] c4)] [(31, [])] Tryz.f44 [.addr a0, .one (.int .i64 a1), .one (.int .i64 a2)] (decR [.int .i64] Q) h := by intros; kernel_rfl
def F_store_Store_BumpTo := G_store_Store_BumpTo F_store_Store_Read F_chip_Chip_Config F_store_Store_BumpTo_1 F_log_Log_Lay F_fuse_Raise
theorem R_store_Store_BumpTo : RunOk PP 44 (W [.addr, .int .i64, .int .i64] [.int .i64] F_store_Store_BumpTo) := runOk_of (TblOk.cons R_store_Store_Read (TblOk.cons R_chip_Chip_Config (TblOk.cons R_store_Store_BumpTo_1 (TblOk.cons R_log_Log_Lay (TblOk.cons R_fuse_Raise (TblOk.nil)))))) Tryz.func44 (by kernel_rfl) (by kernel_rfl) (E_store_Store_BumpTo _ _ _ _ _)
attribute [irreducible] F_store_Store_BumpTo
def G_fuse_Revoke (c0 : Addr → Int → (Int → H → Prop) → H → Prop) (c1 : Addr → Int → (Bool → Int → H → Prop) → H → Prop) (c2 : Addr → Int → (Int → H → Prop) → H → Prop) (a0 : Addr) (a1 : Int) (Q : Int → H → Prop) (h : H) : Prop := c1 a0 a1 (fun b7 i8 h9 => if (i8 != 0) = true then Q i8 h9 else if b7 = true then Q i8 h9 else c2 a0 a1 (fun i10 h11 => c0 a0 i10 (fun i12 h13 => Q i12 h13) h11) h9) h
theorem E_fuse_Revoke : ∀ c0 c1 c2 a0 a1 Q h, G_fuse_Revoke c0 c1 c2 a0 a1 Q h = Dbody PP [(28, W [.addr, .int .i64] [.int .i64] c0), (108, W [.addr, .int .i64] [.bool, .int .i64] c1), (176, W [.addr, .int .i64] [.int .i64] c2)] [] Tryz.f115 [.addr a0, .one (.int .i64 a1)] (decR [.int .i64] Q) h := by intros; kernel_rfl
def F_fuse_Revoke := G_fuse_Revoke F_chip_Chip_Blow F_fuse_Revoked F_fuse_of
theorem R_fuse_Revoke : RunOk PP 115 (W [.addr, .int .i64] [.int .i64] F_fuse_Revoke) := runOk_of (TblOk.cons R_chip_Chip_Blow (TblOk.cons R_fuse_Revoked (TblOk.cons R_fuse_of (TblOk.nil)))) Tryz.func115 (by kernel_rfl) (by kernel_rfl) (E_fuse_Revoke _ _ _)
attribute [irreducible] F_fuse_Revoke
def G_store_Store_Revoke (c0 : Addr → Int → Int → (Int → H → Prop) → H → Prop) (c1 : Addr → (Int → Int → Int → Int → Int → Int → Int → H → Prop) → H → Prop) (c2 : Addr → Int → (Int → H → Prop) → H → Prop) (a0 : Addr) (a1 : Int) (Q : Int → H → Prop) (h : H) : Prop := ∃ o7, hc h a0 = some (.pointer o7) ∧ ∃ p8, o7 = some p8 ∧ c1 p8 (fun i9 i10 i11 i12 i13 i14 i15 h16 => c0 a0 a1 i13 (fun i17 h18 => if (i17 != 0) = true then Q i17 h18 else ∃ o19, hc h18 a0 = some (.pointer o19) ∧ ∃ p20, o19 = some p20 ∧ c2 p20 a1 (fun i21 h22 => Q i21 h22) h18) h16) h
theorem E_store_Store_Revoke : ∀ c0 c1 c2 a0 a1 Q h, G_store_Store_Revoke c0 c1 c2 a0 a1 Q h = Dbody PP [(104, W [.addr, .int .i64, .int .i64] [.int .i64] c0), (105, W [.addr] [.ag [.int .i64, .int .i64, .int .i64, .int .i64, .int .i64, .int .i64, .int .i64]] c1), (115, W [.addr, .int .i64] [.int .i64] c2)] [] Tryz.f45 [.addr a0, .one (.int .i64 a1)] (decR [.int .i64] Q) h := by intros; kernel_rfl
def F_store_Store_Revoke := G_store_Store_Revoke F_store_Store_asked F_chip_Chip_Config F_fuse_Revoke
theorem R_store_Store_Revoke : RunOk PP 45 (W [.addr, .int .i64] [.int .i64] F_store_Store_Revoke) := runOk_of (TblOk.cons R_store_Store_asked (TblOk.cons R_chip_Chip_Config (TblOk.cons R_fuse_Revoke (TblOk.nil)))) Tryz.func45 (by kernel_rfl) (by kernel_rfl) (E_store_Store_Revoke _ _ _)
attribute [irreducible] F_store_Store_Revoke
def G_portcullislaw13_GateStays (c0 : Addr → (Int → H → Prop) → H → Prop) (c1 : (Bool → H → Prop) → H → Prop) (c2 : Int → Int → Int → Int → Int → Int → Int → OA → Nat → Nat → OA → Nat → Nat → OA → Nat → Nat → OA → Nat → Nat → (OA → OA → OA → Bool → H → Prop) → H → Prop) (c3 : Int → Int → Int → Int → Int → Int → Int → OA → Nat → Nat → OA → Nat → Nat → OA → Nat → Nat → OA → Nat → Nat → (OA → OA → Bool → H → Prop) → H → Prop) (c4 : Addr → Addr → OA → Nat → Nat → (Int → Int → Int → OA → Nat → Nat → List Int → Int → H → Prop) → H → Prop) (c5 : Int → Int → Int → OA → Nat → Nat → List Int → Int → Int → Int → OA → Nat → Nat → List Int → (Bool → H → Prop) → H → Prop) (c6 : Addr → Int → Int → (Int → H → Prop) → H → Prop) (c7 : Addr → Int → (Int → H → Prop) → H → Prop) (a0_0 : Int) (a0_1 : Int) (a0_2 : Int) (a0_3 : Int) (a0_4 : Int) (a0_5 : Int) (a0_6 : Int) (a0_7p : OA) (a0_7l : Nat) (a0_7c : Nat) (a0_8p : OA) (a0_8l : Nat) (a0_8c : Nat) (a0_9p : OA) (a0_9l : Nat) (a0_9c : Nat) (a0_10p : OA) (a0_10l : Nat) (a0_10c : Nat) (a1p : OA) (a1l : Nat) (a1c : Nat) (a2 : Int) (a3 : Int) (a4 : Int) (Q : Bool → H → Prop) (h : H) : Prop := ∀ n35 h36, hnew h n35 [.int .i64 a0_0, .int .i64 a0_1, .int .i64 a0_2, .int .i64 a0_3, .int .i64 a0_4, .int .i64 a0_5, .int .i64 a0_6, .slice a0_7p a0_7l a0_7c, .slice a0_8p a0_8l a0_8c, .slice a0_9p a0_9l a0_9c, .slice a0_10p a0_10l a0_10c] h36 → c1 (fun b38 h39 => if (!b38) = true then Q false h39 else ∃ i40, hc h39 ⟨n35, 0, none⟩ = some (.int .i64 i40) ∧ ∃ i41, hc h39 ⟨n35, 1, none⟩ = some (.int .i64 i41) ∧ ∃ i42, hc h39 ⟨n35, 2, none⟩ = some (.int .i64 i42) ∧ ∃ i43, hc h39 ⟨n35, 3, none⟩ = some (.int .i64 i43) ∧ ∃ i44, hc h39 ⟨n35, 4, none⟩ = some (.int .i64 i44) ∧ ∃ i45, hc h39 ⟨n35, 5, none⟩ = some (.int .i64 i45) ∧ ∃ i46, hc h39 ⟨n35, 6, none⟩ = some (.int .i64 i46) ∧ ∃ o47 n48 n49, hc h39 ⟨n35, 7, none⟩ = some (.slice o47 n48 n49) ∧ ∃ o50 n51 n52, hc h39 ⟨n35, 8, none⟩ = some (.slice o50 n51 n52) ∧ ∃ o53 n54 n55, hc h39 ⟨n35, 9, none⟩ = some (.slice o53 n54 n55) ∧ ∃ o56 n57 n58, hc h39 ⟨n35, 10, none⟩ = some (.slice o56 n57 n58) ∧ c2 i40 i41 i42 i43 i44 i45 i46 o47 n48 n49 o50 n51 n52 o53 n54 n55 o56 n57 n58 (fun o59 o60 o61 b62 h63 => ∃ i64, hc h63 ⟨n35, 0, none⟩ = some (.int .i64 i64) ∧ ∃ i65, hc h63 ⟨n35, 1, none⟩ = some (.int .i64 i65) ∧ ∃ i66, hc h63 ⟨n35, 2, none⟩ = some (.int .i64 i66) ∧ ∃ i67, hc h63 ⟨n35, 3, none⟩ = some (.int .i64 i67) ∧ ∃ i68, hc h63 ⟨n35, 4, none⟩ = some (.int .i64 i68) ∧ ∃ i69, hc h63 ⟨n35, 5, none⟩ = some (.int .i64 i69) ∧ ∃ i70, hc h63 ⟨n35, 6, none⟩ = some (.int .i64 i70) ∧ ∃ o71 n72 n73, hc h63 ⟨n35, 7, none⟩ = some (.slice o71 n72 n73) ∧ ∃ o74 n75 n76, hc h63 ⟨n35, 8, none⟩ = some (.slice o74 n75 n76) ∧ ∃ o77 n78 n79, hc h63 ⟨n35, 9, none⟩ = some (.slice o77 n78 n79) ∧ ∃ o80 n81 n82, hc h63 ⟨n35, 10, none⟩ = some (.slice o80 n81 n82) ∧ c3 i64 i65 i66 i67 i68 i69 i70 o71 n72 n73 o74 n75 n76 o77 n78 n79 o80 n81 n82 (fun o83 o84 b85 h86 => if (!b62 == b85) = true then Q false h86 else if (!b85) = true then Q true h86 else ∃ p87, o60 = some p87 ∧ ∃ p88, o61 = some p88 ∧ c4 p87 p88 a1p a1l a1c (fun i89 i90 i91 o92 n93 n94 l95 i96 h97 => ∀ n98 h99, hnew h97 n98 (.int .i64 0 :: .int .i64 0 :: .int .i64 0 :: .slice none 0 0 :: ints .u8 (zeros 32)) h99 → hcan h99 ⟨n98, 0, none⟩ 36 ∧ ∀ h101, h101 = hwr h99 ⟨n98, 0, none⟩ (.int .i64 i89 :: .int .i64 i90 :: .int .i64 i91 :: .slice o92 n93 n94 :: (ints .u8 l95 ++ [])) → ∃ p103, o60 = some p103 ∧ c6 p103 a2 a3 (fun i104 h105 => ∃ p106, o59 = some p106 ∧ c0 p106 (fun i107 h108 => ∃ p109, o60 = some p109 ∧ ∃ p110, o61 = some p110 ∧ c4 p109 p110 a1p a1l a1c (fun i111 i112 i113 o114 n115 n116 l117 i118 h119 => ∀ n120 h121, hnew h119 n120 (.int .i64 0 :: .int .i64 0 :: .int .i64 0 :: .slice none 0 0 :: ints .u8 (zeros 32)) h121 → hcan h121 ⟨n120, 0, none⟩ 36 ∧ ∀ h123, h123 = hwr h121 ⟨n120, 0, none⟩ (.int .i64 i111 :: .int .i64 i112 :: .int .i64 i113 :: .slice o114 n115 n116 :: (ints .u8 l117 ++ [])) → ∀ (J125 : JT), (∀ (h126 : H), (∀ (J127 : JT), (∀ (h128 : H), (∃ p129, o60 = some p129 ∧ c7 p129 a4 (fun i130 h131 => ∃ p132, o60 = some p132 ∧ ∃ p133, o61 = some p133 ∧ c4 p132 p133 a1p a1l a1c (fun i134 i135 i136 o137 n138 n139 l140 i141 h142 => ∀ n143 h144, hnew h142 n143 (.int .i64 0 :: .int .i64 0 :: .int .i64 0 :: .slice none 0 0 :: ints .u8 (zeros 32)) h144 → hcan h144 ⟨n143, 0, none⟩ 36 ∧ ∀ h146, h146 = hwr h144 ⟨n143, 0, none⟩ (.int .i64 i134 :: .int .i64 i135 :: .int .i64 i136 :: .slice o137 n138 n139 :: (ints .u8 l140 ++ [])) → ∀ (J148 : JT), (∀ (h149 : H), (if (i130 != 0) = true then Q true h149 else if (i118 != 0) = true then Q true h149 else ∃ i150, hc h149 ⟨n120, 1, none⟩ = some (.int .i64 i150) ∧ if (i150 != a4) = true then Q true h149 else Q (i141 == 14) h149) → J148 [] h149) → if (i141 == 0) = true then if (i118 != 0) = true then Q false h146 else if (i130 == 0) = true then ∃ i153, hc h146 ⟨n143, 1, none⟩ = some (.int .i64 i153) ∧ if (i153 == a4) = true then Q false h146 else J148 [] h146 else J148 [] h146 else J148 [] h146) h131) h128) → J127 [] h128) → if (i118 == 0) = true then ∃ i156, hc h126 ⟨n98, 0, none⟩ = some (.int .i64 i156) ∧ ∃ i157, hc h126 ⟨n98, 1, none⟩ = some (.int .i64 i157) ∧ ∃ i158, hc h126 ⟨n98, 2, none⟩ = some (.int .i64 i158) ∧ ∃ o159 n160 n161, hc h126 ⟨n98, 3, none⟩ = some (.slice o159 n160 n161) ∧ ∃ (l162 : List Int), l162.length = 32 ∧ hrow h126 ⟨n98, 4, none⟩ .u8 l162 ∧ ∃ i163, hc h126 ⟨n120, 0, none⟩ = some (.int .i64 i163) ∧ ∃ i164, hc h126 ⟨n120, 1, none⟩ = some (.int .i64 i164) ∧ ∃ i165, hc h126 ⟨n120, 2, none⟩ = some (.int .i64 i165) ∧ ∃ o166 n167 n168, hc h126 ⟨n120, 3, none⟩ = some (.slice o166 n167 n168) ∧ ∃ (l169 : List Int), l169.length = 32 ∧ hrow h126 ⟨n120, 4, none⟩ .u8 l169 ∧ c5 i156 i157 i158 o159 n160 n161 l162 i163 i164 i165 o166 n167 n168 l169 (fun b170 h171 => if (!b170) = true then Q false h171 else ∃ p172, o59 = some p172 ∧ c0 p172 (fun i173 h174 => if (i173 != i107) = true then Q false h174 else J127 [] h174) h171) h126 else ∃ p175, o59 = some p175 ∧ c0 p175 (fun i176 h177 => if (i176 != i107) = true then Q false h177 else J127 [] h177) h126) → J125 [] h126) → if (i104 == 0) = true then if (i118 == 0) = true then ∃ i180, hc h123 ⟨n120, 0, none⟩ = some (.int .i64 i180) ∧ if (i180 == a2) = true then ∃ i181, hc h123 ⟨n120, 2, none⟩ = some (.int .i64 i181) ∧ if ltI i181 a3 = true then Q false h123 else if (i118 == 0) = true then if (i96 != 0) = true then Q false h123 else J125 [] h123 else J125 [] h123 else if (i118 == 0) = true then if (i96 != 0) = true then Q false h123 else J125 [] h123 else J125 [] h123 else if (i118 == 0) = true then if (i96 != 0) = true then Q false h123 else J125 [] h123 else J125 [] h123 else if (i118 == 0) = true then if (i96 != 0) = true then Q false h123 else J125 [] h123 else J125 [] h123) h108) h105) h101) h86) h63) h39) h36
theorem E_portcullislaw13_GateStays : ∀ c0 c1 c2 c3 c4 c5 c6 c7 a0_0 a0_1 a0_2 a0_3 a0_4 a0_5 a0_6 a0_7p a0_7l a0_7c a0_8p a0_8l a0_8c a0_9p a0_9l a0_9c a0_10p a0_10l a0_10c a1p a1l a1c a2 a3 a4 Q h, G_portcullislaw13_GateStays c0 c1 c2 c3 c4 c5 c6 c7 a0_0 a0_1 a0_2 a0_3 a0_4 a0_5 a0_6 a0_7p a0_7l a0_7c a0_8p a0_8l a0_8c a0_9p a0_9l a0_9c a0_10p a0_10l a0_10c a1p a1l a1c a2 a3 a4 Q h = Dbody PP [(23, W [.addr] [.int .i64] c0), (30, W [] [.bool] c1), (31, W [.ag [.int .i64, .int .i64, .int .i64, .int .i64, .int .i64, .int .i64, .int .i64, .slc, .slc, .slc, .slc]] [.ptr, .ptr, .ptr, .bool] c2), (32, W [.ag [.int .i64, .int .i64, .int .i64, .int .i64, .int .i64, .int .i64, .int .i64, .slc, .slc, .slc, .slc]] [.ptr, .ptr, .bool] c3), (34, W [.addr, .addr, .slc] [.ag [.int .i64, .int .i64, .int .i64, .slc, .row .u8 32], .int .i64] c4), (35, W [.ag [.int .i64, .int .i64, .int .i64, .slc, .row .u8 32], .ag [.int .i64, .int .i64, .int .i64, .slc, .row .u8 32]] [.bool] c5), (44, W [.addr, .int .i64, .int .i64] [.int .i64] c6), (45, W [.addr, .int .i64] [.int .i64] c7)] [(2047, []), (4095, []), (32767, [])] Tryz.f9 [.agg [.c (.int .i64 a0_0), .c (.int .i64 a0_1), .c (.int .i64 a0_2), .c (.int .i64 a0_3), .c (.int .i64 a0_4), .c (.int .i64 a0_5), .c (.int .i64 a0_6), .c (.slice a0_7p a0_7l a0_7c), .c (.slice a0_8p a0_8l a0_8c), .c (.slice a0_9p a0_9l a0_9c), .c (.slice a0_10p a0_10l a0_10c)], .one (.slice a1p a1l a1c), .one (.int .i64 a2), .one (.int .i64 a3), .one (.int .i64 a4)] (decR [.bool] Q) h := by intros; kernel_rfl
def F_portcullislaw13_GateStays := G_portcullislaw13_GateStays F_chip_Chip_Acts F_portcullislaw13_awake F_portcullislaw13_scene F_portcullislaw13_may F_gate_Check F_portcullisref11_Same F_store_Store_BumpTo F_store_Store_Revoke
theorem R_portcullislaw13_GateStays : RunOk PP 9 (W [.ag [.int .i64, .int .i64, .int .i64, .int .i64, .int .i64, .int .i64, .int .i64, .slc, .slc, .slc, .slc], .slc, .int .i64, .int .i64, .int .i64] [.bool] F_portcullislaw13_GateStays) := runOk_of (TblOk.cons R_chip_Chip_Acts (TblOk.cons R_portcullislaw13_awake (TblOk.cons R_portcullislaw13_scene (TblOk.cons R_portcullislaw13_may (TblOk.cons R_gate_Check (TblOk.cons R_portcullisref11_Same (TblOk.cons R_store_Store_BumpTo (TblOk.cons R_store_Store_Revoke (TblOk.nil))))))))) Tryz.func9 (by kernel_rfl) (by kernel_rfl) (E_portcullislaw13_GateStays _ _ _ _ _ _ _ _)
attribute [irreducible] F_portcullislaw13_GateStays
def G_chip_Lay_1 (a0p : OA) (a0l : Nat) (a0c : Nat) (a1 : Addr) (Q : Bool → H → Prop) (h : H) : Prop := ∃ i6, hc h a1 = some (.int .i64 i6) ∧ Q ((↑a0l : Int) != i6) h
theorem E_chip_Lay_1 : ∀ a0p a0l a0c a1 Q h, G_chip_Lay_1 a0p a0l a0c a1 Q h = Dbody PP [] [] Tryz.f137 [.one (.slice a0p a0l a0c), .addr a1] (decR [.bool] Q) h := by intros; kernel_rfl
def F_chip_Lay_1 := G_chip_Lay_1
theorem R_chip_Lay_1 : RunOk PP 137 (W [.slc, .addr] [.bool] F_chip_Lay_1) := runOk_of (TblOk.nil) Tryz.func137 (by kernel_rfl) (by kernel_rfl) (E_chip_Lay_1)
attribute [irreducible] F_chip_Lay_1
def G_chip_Lay_2 (a0 : Int) (Q : Bool → H → Prop) (h : H) : Prop := Q (ltI a0 0) h
theorem E_chip_Lay_2 : ∀ a0 Q h, G_chip_Lay_2 a0 Q h = Dbody PP [] [] Tryz.f139 [.one (.int .i64 a0)] (decR [.bool] Q) h := by intros; kernel_rfl
def F_chip_Lay_2 := G_chip_Lay_2
theorem R_chip_Lay_2 : RunOk PP 139 (W [.int .i64] [.bool] F_chip_Lay_2) := runOk_of (TblOk.nil) Tryz.func139 (by kernel_rfl) (by kernel_rfl) (E_chip_Lay_2)
attribute [irreducible] F_chip_Lay_2
def G_chip_Chip_begins_1 (a0 : Int) (Q : Int → H → Prop) (h : H) : Prop := Q 255 h
theorem E_chip_Chip_begins_1 : ∀ a0 Q h, G_chip_Chip_begins_1 a0 Q h = Dbody PP [] [] Tryz.f159 [.one (.int .i64 a0)] (decR [.int .u8] Q) h := by intros; kernel_rfl
def F_chip_Chip_begins_1 := G_chip_Chip_begins_1
theorem R_chip_Chip_begins_1 : RunOk PP 159 (W [.int .i64] [.int .u8] F_chip_Chip_begins_1) := runOk_of (TblOk.nil) Tryz.func159 (by kernel_rfl) (by kernel_rfl) (E_chip_Chip_begins_1)
attribute [irreducible] F_chip_Chip_begins_1
def G_chip_Chip_begins_2 (a0 : Int) (a1 : Addr) (Q : Int → H → Prop) (h : H) : Prop := ∃ o4 n5 n6, hc h a1 = some (.slice o4 n5 n6) ∧ if ((↑n5 : Int) == 0) = true then Q 0 h else ∃ o7 n8 n9, hc h a1 = some (.slice o7 n8 n9) ∧ ∃ o10 n11 n12, hc h a1 = some (.slice o10 n11 n12) ∧ (↑n11 : Int) ≠ 0 ∧ ∃ p13, o7 = some p13 ∧ 0 ≤ a0.tmod (↑n11 : Int) ∧ a0.tmod (↑n11 : Int) < (↑n8 : Int) ∧ ∃ i14, hc h (p13.add ((a0.tmod (↑n11 : Int)).toNat * 1)) = some (.int .u8 i14) ∧ Q i14 h
theorem E_chip_Chip_begins_2 : ∀ a0 a1 Q h, G_chip_Chip_begins_2 a0 a1 Q h = Dbody PP [] [] Tryz.f160 [.one (.int .i64 a0), .addr a1] (decR [.int .u8] Q) h := by intros; kernel_rfl
def F_chip_Chip_begins_2 := G_chip_Chip_begins_2
theorem R_chip_Chip_begins_2 : RunOk PP 160 (W [.int .i64, .addr] [.int .u8] F_chip_Chip_begins_2) := runOk_of (TblOk.nil) Tryz.func160 (by kernel_rfl) (by kernel_rfl) (E_chip_Chip_begins_2)
attribute [irreducible] F_chip_Chip_begins_2
end Go.Proofs.YtaglicdidpgkpaaGreatDoor
end

/- Blocks of memory as lists of cells, and what loads, stores and allocations do to them. Own work; generic over any program. -/
section
set_option linter.unusedVariables false
namespace Go.Vc

def Blk (h : H) (b : Nat) (vs : List Value) : Prop :=
 ∃ t lo n, h[b]? = some (.cells vs.toArray t (lo, lo + n)) ∧ ∀ i, i < vs.length → ¬ (lo ≤ i ∧ i < lo + n)

abbrev at_ (b o : Nat) : Addr := ⟨b, o, none⟩

@[simp] theorem add_mk (b o n : Nat) : (Addr.mk b o none).add n = Addr.mk b (o + n) none := by
 unfold Addr.add; split
 ·rename_i h; subst h; rfl
 ·rfl

theorem Blk.lt {h : H} {b : Nat} {vs : List Value} (k : Blk h b vs) : b < h.size := by
 obtain ⟨t, lo, hi, hb, _⟩ := k
 exact (Array.getElem?_eq_some_iff.1 hb).1
theorem Blk.of_eq {h h' : H} {b : Nat} {vs : List Value} (k : Blk h b vs) (e : h'[b]? = h[b]?) : Blk h' b vs := by
 obtain ⟨t, lo, hi, hb, hf⟩ := k
 exact ⟨t, lo, hi, by rw [e]; exact hb, hf⟩

theorem Blk.hc {h : H} {b : Nat} {vs : List Value} (k : Blk h b vs) (o : Nat) : hc h ⟨b, o, none⟩ = vs[o]? := by
 obtain ⟨t, lo, hi, hb, _⟩ := k
 simp [Vc.hc, hb]
theorem Blk.hf {h : H} {b : Nat} {vs : List Value} (k : Blk h b vs) {o : Nat} (ho : o < vs.length) : hf h ⟨b, o, none⟩ = false := by
 obtain ⟨t, lo, hi, hb, hfz⟩ := k
 have := hfz o ho
 simp only [Vc.hf, hb]
 simp only [Bool.and_eq_false_imp, decide_eq_true_eq, decide_eq_false_iff_not]
 intro h1 h2; exact this ⟨h1, h2⟩
theorem Blk.can {h : H} {b : Nat} {vs : List Value} (k : Blk h b vs) {o n : Nat} (ho : o + n ≤ vs.length) : hcan h ⟨b, o, none⟩ n := by
 intro i hi
 have hl : o + i < vs.length := by omega
 rw [add_mk, k.hc, k.hf hl]
 simp [List.getElem?_eq_getElem hl]
theorem Blk.hcs {h : H} {b : Nat} {vs : List Value} (k : Blk h b vs) {o : Nat} {xs : List Value} (e : ∀ i, i < xs.length → vs[o + i]? = xs[i]?) : hcs h ⟨b, o, none⟩ xs := by
 intro i v hv
 rw [add_mk, k.hc, e i (List.getElem?_eq_some_iff.1 hv).1, hv]

/-! ### Writing -/
def splice (vs : List Value) : Nat → List Value → List Value
 | _, [] => vs
 | o, x :: r => splice (vs.set o x) (o + 1) r
@[simp] theorem splice_nil (vs : List Value) (o : Nat) : splice vs o [] = vs := rfl
@[simp] theorem splice_cons (vs : List Value) (o : Nat) (x : Value) (r : List Value) : splice vs o (x :: r) = splice (vs.set o x) (o + 1) r := rfl
@[simp] theorem splice_length (vs : List Value) (o : Nat) (xs : List Value) : (splice vs o xs).length = vs.length := by
 induction xs generalizing vs o with
 | nil => rfl
 | cons x r ih => simp [ih]
theorem splice_get (vs : List Value) (o : Nat) (xs : List Value) (i : Nat) : (splice vs o xs)[i]? = if o ≤ i ∧ i < o + xs.length ∧ i < vs.length then xs[i - o]? else vs[i]? := by
 induction xs generalizing vs o with
 | nil =>
  have : ¬ (o ≤ i ∧ i < o + ([] : List Value).length ∧ i < vs.length) := by simp; omega
  rw [if_neg this]; rfl
 | cons x r ih =>
  rw [splice_cons, ih]
  simp only [List.length_cons, List.length_set]
  by_cases h1 : o = i
  ·subst h1
   rw [if_neg (by omega)]
   by_cases h2 : o < vs.length
   ·rw [if_pos (by omega)]; simp [h2]
   ·rw [if_neg (by omega)]
    have : (vs.set o x) = vs := List.set_eq_of_length_le (by omega)
    rw [this]
  ·rw [List.getElem?_set_ne h1]
   by_cases h2 : o + 1 ≤ i ∧ i < o + 1 + r.length ∧ i < vs.length
   ·rw [if_pos h2, if_pos (by omega)]
    have : i - o = (i - (o + 1)) + 1 := by omega
    rw [this]; simp
   ·rw [if_neg h2, if_neg (by omega)]
theorem splice_all (vs xs : List Value) (h : xs.length = vs.length) : splice vs 0 xs = xs := by
 apply List.ext_getElem?
 intro i
 rw [splice_get]
 split
 ·simp
 ·rename_i hn
  rw [List.getElem?_eq_none (by omega), List.getElem?_eq_none (by omega)]
theorem splice_append (a b c xs : List Value) (h : xs.length = b.length) : splice (a ++ b ++ c) a.length xs = a ++ xs ++ c := by
 apply List.ext_getElem?
 intro i
 rw [splice_get]
 simp only [List.length_append]
 split
 ·rename_i hh
  rw [List.append_assoc, List.getElem?_append_right hh.1, List.getElem?_append_left (by omega)]
 ·rename_i hh
  rw [List.append_assoc, List.append_assoc]
  by_cases h1 : i < a.length
  ·rw [List.getElem?_append_left h1, List.getElem?_append_left h1]
  ·rw [List.getElem?_append_right (by omega), List.getElem?_append_right (by omega)]
   by_cases h2 : i - a.length < b.length
   ·omega
   ·rw [List.getElem?_append_right (by omega), List.getElem?_append_right (by omega), h]

theorem hs_eq {h : H} {b : Nat} {vs : List Value} (k : Blk h b vs) (o : Nat) (v : Value) : Blk (hs h ⟨b, o, none⟩ v) b (vs.set o v) := by
 obtain ⟨t, lo, hi, hb, hfz⟩ := k
 refine ⟨t, lo, hi, ?_, by simpa using hfz⟩
 simp only [hs, Array.getElem?_modify, hb]
 simp
theorem hs_ne (h : H) (a : Addr) (v : Value) {x : Nat} (hx : x ≠ a.block) : (hs h a v)[x]? = h[x]? := by
 simp only [hs, Array.getElem?_modify]
 rw [if_neg (by omega)]
theorem hs_size (h : H) (a : Addr) (v : Value) : (hs h a v).size = h.size := by simp [hs]
theorem hwrFrom_blk {h : H} {b : Nat} {vs : List Value} (k : Blk h b vs) (o : Nat) (xs : List Value) (j : Nat) : Blk (hwrFrom h ⟨b, o, none⟩ j xs) b (splice vs (o + j) xs) := by
 induction xs generalizing h vs j with
 | nil => exact k
 | cons x r ih =>
  simp only [hwrFrom, splice_cons, add_mk]
  exact ih (hs_eq k (o + j) x) (j + 1)
theorem add_block (a : Addr) (n : Nat) : (a.add n).block = a.block := by unfold Addr.add; split <;> rfl
theorem hwrFrom_ne (h : H) (a : Addr) (j : Nat) (xs : List Value) {x : Nat} (hx : x ≠ a.block) : (hwrFrom h a j xs)[x]? = h[x]? := by
 induction xs generalizing h j with
 | nil => rfl
 | cons y r ih => simp only [hwrFrom]; rw [ih, hs_ne]; rw [add_block]; exact hx
theorem hwrFrom_size (h : H) (a : Addr) (j : Nat) (xs : List Value) : (hwrFrom h a j xs).size = h.size := by
 induction xs generalizing h j with
 | nil => rfl
 | cons y r ih => simp only [hwrFrom]; rw [ih, hs_size]
theorem Blk.wr {h : H} {b : Nat} {vs : List Value} (k : Blk h b vs) (o : Nat) (xs : List Value) : Blk (hwr h ⟨b, o, none⟩ xs) b (splice vs o xs) := hwrFrom_blk k o xs 0
theorem hwr_ne (h : H) (a : Addr) (xs : List Value) {x : Nat} (hx : x ≠ a.block) : (hwr h a xs)[x]? = h[x]? := hwrFrom_ne h a 0 xs hx
theorem hwr_size (h : H) (a : Addr) (xs : List Value) : (hwr h a xs).size = h.size := hwrFrom_size h a 0 xs
theorem Blk.wr_ne {h : H} {b : Nat} {vs : List Value} (k : Blk h b vs) {a : Addr} {xs : List Value} (hx : b ≠ a.block) : Blk (hwr h a xs) b vs := k.of_eq (hwr_ne h a xs hx)

/-! ### What is left alone -/
structure Ext (S : Nat → Prop) (h h' : H) : Prop where
 size : h.size ≤ h'.size
 eq : ∀ b, b < h.size → ¬ S b → h'[b]? = h[b]?
abbrev none_ : Nat → Prop := fun _ => False
theorem Ext.refl (S : Nat → Prop) (h : H) : Ext S h h := ⟨Nat.le_refl _, fun _ _ _ => rfl⟩
theorem Ext.trans {S : Nat → Prop} {h h' h'' : H} (a : Ext S h h') (b : Ext S h' h'') : Ext S h h'' :=
 ⟨Nat.le_trans a.size b.size, fun x hx hs => by rw [b.eq x (Nat.lt_of_lt_of_le hx a.size) hs, a.eq x hx hs]⟩
theorem Ext.mono {S T : Nat → Prop} {h h' : H} (a : Ext S h h') (st : ∀ b, b < h.size → S b → T b) : Ext T h h' :=
 ⟨a.size, fun x hx hs => a.eq x hx fun h => hs (st x hx h)⟩
theorem Ext.comp {S T : Nat → Prop} {h h' h'' : H} (a : Ext S h h') (b : Ext T h' h'') (st : ∀ x, x < h.size → T x → S x) : Ext S h h'' :=
 ⟨Nat.le_trans a.size b.size, fun x hx hs => by rw [b.eq x (Nat.lt_of_lt_of_le hx a.size) (fun t => hs (st x hx t)), a.eq x hx hs]⟩
theorem Ext.blk {S : Nat → Prop} {h h' : H} (a : Ext S h h') {b : Nat} {vs : List Value} (k : Blk h b vs) (hb : ¬ S b) : Blk h' b vs := k.of_eq (a.eq b k.lt hb)
theorem Ext.wr (h : H) (b o : Nat) (xs : List Value) : Ext (fun x => x = b) h (hwr h ⟨b, o, none⟩ xs) :=
 ⟨by rw [hwr_size]; exact Nat.le_refl _, fun x _ hx => hwr_ne h _ xs hx⟩
theorem hnew.size {h h' : H} {b : Nat} {c : List Value} (n : hnew h b c h') : h'.size = h.size + 1 := by
 obtain ⟨_, t, lo, hi, _, rfl⟩ := n; simp
theorem hnew.b {h h' : H} {b : Nat} {c : List Value} (n : hnew h b c h') : b = h.size := n.1
theorem hnew.ext {h h' : H} {b : Nat} {c : List Value} (n : hnew h b c h') : Ext none_ h h' := by
 refine ⟨by rw [n.size]; omega, ?_⟩
 obtain ⟨_, t, lo, hi, _, rfl⟩ := n
 intro x hx _
 rw [Array.getElem?_push]; rw [if_neg (by omega)]
theorem hnew.blk {h h' : H} {b : Nat} {c : List Value} (n : hnew h b c h') : Blk h' b c := by
 obtain ⟨rfl, t, lo, hi, hf, rfl⟩ := n
 exact ⟨t, lo, hi, by simp, hf⟩
theorem Blk.ne {h : H} {b b' : Nat} {vs vs' : List Value} (k : Blk h b vs) (k' : ¬ b' < h.size) : b ≠ b' := fun e => k' (e ▸ k.lt)

/-! ### Rows of integers -/
@[simp] theorem ints_nil (k : IntKind) : ints k [] = [] := rfl
@[simp] theorem ints_cons (k : IntKind) (n : Int) (r : List Int) : ints k (n :: r) = .int k n :: ints k r := rfl
@[simp] theorem ints_length (k : IntKind) (ns : List Int) : (ints k ns).length = ns.length := by simp [ints]
@[simp] theorem ints_append (k : IntKind) (a b : List Int) : ints k (a ++ b) = ints k a ++ ints k b := by simp [ints]
theorem ints_get (k : IntKind) (ns : List Int) (i : Nat) : (ints k ns)[i]? = ns[i]?.map (Value.int k) := by simp [ints]
@[simp] theorem zeros_length (n : Nat) : (zeros n).length = n := by simp [zeros]
theorem Blk.hrow {h : H} {b : Nat} {vs : List Value} (k : Blk h b vs) {o : Nat} {kd : IntKind} {ns : List Int} (e : ∀ i, i < ns.length → vs[o + i]? = ns[i]?.map (Value.int kd)) : hrow h ⟨b, o, none⟩ kd ns := by
 apply k.hcs
 intro i hi
 rw [e i (by simpa using hi), ints_get]
@[simp] theorem oneCell_int (k : IntKind) (n : Int) : (Value.int k n).oneCell' = true := rfl
end Go.Vc
end

/- Slices: what they hold, who owns it, and appending. Own work; generic over any program. -/
section
set_option linter.unusedVariables false
namespace Go.Vc

theorem hc_congr {h h' : H} {a : Addr} (e : h'[a.block]? = h[a.block]?) : hc h' a = hc h a := by simp only [hc, e]
theorem hc_lt {h : H} {a : Addr} {v : Value} (e : hc h a = some v) : a.block < h.size := by
 rcases Nat.lt_or_ge a.block h.size with k | k
 ·exact k
 ·simp [hc, Array.getElem?_eq_none k] at e
theorem hc_ext {S : Nat → Prop} {h h' : H} (x : Ext S h h') {a : Addr} {v : Value} (e : hc h a = some v) (hs : ¬ S a.block) : hc h' a = some v := by
 rw [hc_congr (x.eq _ (hc_lt e) hs), e]
theorem hcs_ext {S : Nat → Prop} {h h' : H} (x : Ext S h h') {a : Addr} {vs : List Value} (e : hcs h a vs) (hs : ¬ S a.block) : hcs h' a vs := by
 intro i v hv
 exact hc_ext x (e i v hv) (by rw [add_block]; exact hs)
theorem hsv_ext {S : Nat → Prop} {h h' : H} (x : Ext S h h') {p : Option Addr} {sz l : Nat} {vs : List Value} (e : hsv h p sz l vs) (hs : ∀ q, p = some q → ¬ S q.block) : hsv h' p sz l vs := by
 obtain ⟨h1, h2, h3⟩ := e
 refine ⟨h1, h2, ?_⟩
 rcases h3 with h3 | ⟨q, hq, h3⟩
 ·exact Or.inl h3
 ·exact Or.inr ⟨q, hq, hcs_ext x h3 (hs q hq)⟩
theorem hsv_none {h : H} {sz l : Nat} {vs : List Value} (e : hsv h none sz l vs) : vs = [] := by
 obtain ⟨_, _, h3⟩ := e
 rcases h3 with h3 | ⟨q, hq, _⟩
 ·exact h3
 ·cases hq
theorem hsv_get {h : H} {p : Option Addr} {sz l : Nat} {vs : List Value} (e : hsv h p sz l vs) {i : Nat} {v : Value} (hi : vs[i]? = some v) : ∃ q, p = some q ∧ hc h (q.add i) = some v := by
 obtain ⟨_, _, h3⟩ := e
 rcases h3 with h3 | ⟨q, hq, h3⟩
 ·subst h3; simp at hi
 ·exact ⟨q, hq, h3 i v hi⟩
def OwnS (h : H) (p : Option Addr) (l c sz : Nat) (vs : List Value) (bs : List Nat) : Prop :=
 vs.length = l * sz ∧ l ≤ c ∧ (∀ v, v ∈ vs → v.oneCell' = true) ∧
  ((l = 0 ∧ c = 0 ∧ bs = []) ∨ ∃ b rest, p = some ⟨b, 0, none⟩ ∧ bs = [b] ∧ Blk h b (vs ++ rest) ∧ (c - l) * sz ≤ rest.length)
theorem OwnS.hsv {h : H} {p : Option Addr} {l c sz : Nat} {vs : List Value} {bs : List Nat} (o : OwnS h p l c sz vs bs) : hsv h p sz l vs := by
 obtain ⟨h1, h2, h3, h4⟩ := o
 refine ⟨h1, h3, ?_⟩
 rcases h4 with ⟨rfl, _, _⟩ | ⟨b, rest, rfl, _, k, _⟩
 ·left; apply List.eq_nil_of_length_eq_zero; simp [h1]
 ·right
  exact ⟨_, rfl, k.hcs fun i hi => by rw [Nat.zero_add, List.getElem?_append_left hi]⟩
theorem OwnS.lt {h : H} {p : Option Addr} {l c sz : Nat} {vs : List Value} {bs : List Nat} (o : OwnS h p l c sz vs bs) : ∀ b, b ∈ bs → b < h.size := by
 obtain ⟨_, _, _, h4⟩ := o
 rcases h4 with ⟨_, _, rfl⟩ | ⟨b, rest, _, rfl, k, _⟩
 ·intro b hb; simp at hb
 ·intro b' hb; simp at hb; subst hb; exact k.lt
theorem OwnS.ext {S : Nat → Prop} {h h' : H} (x : Ext S h h') {p : Option Addr} {l c sz : Nat} {vs : List Value} {bs : List Nat} (o : OwnS h p l c sz vs bs) (hs : ∀ b, b ∈ bs → ¬ S b) : OwnS h' p l c sz vs bs := by
 obtain ⟨h1, h2, h3, h4⟩ := o
 refine ⟨h1, h2, h3, ?_⟩
 rcases h4 with h4 | ⟨b, rest, hp, rfl, k, hr⟩
 ·exact Or.inl h4
 ·exact Or.inr ⟨b, rest, hp, rfl, x.blk k (hs b (by simp)), hr⟩
theorem OwnS.nil (h : H) (p : Option Addr) (sz : Nat) : OwnS h p 0 0 sz [] [] := ⟨by simp, Nat.le_refl _, by simp, Or.inl ⟨rfl, rfl, rfl⟩⟩

theorem flatten_replicate_length {α : Type} (n : Nat) (z : List α) : (List.replicate n z).flatten.length = n * z.length := by
 induction n with
 | zero => simp
 | succ n ih => simp [List.replicate_succ, Nat.succ_mul, ih]; omega

def newB (h : H) (bs : List Nat) : Prop := ∀ b, b ∈ bs → h.size ≤ b
theorem newB.ext {S : Nat → Prop} {h h' : H} (x : Ext S h h') {bs : List Nat} (n : newB h' bs) : newB h bs := fun b hb => Nat.le_trans x.size (n b hb)

theorem pApp_empty {h : H} {sz : Nat} {z : List Value} {B : Nat} {p : Option Addr} {n : Nat} {vs : List Value} {K : Option Addr → Nat → Nat → H → Prop}
  (hl : vs.length = n * sz) (hz : z.length = sz) (hv : ∀ v, v ∈ vs → v.oneCell' = true) (hb : n * B ≤ 2 ^ 47)
  (hk : ∀ p' c' h' bs, Ext none_ h h' → OwnS h' p' n c' sz vs bs → newB h bs → K p' n c' h') : pApp h sz z B p 0 0 n vs K := by
 unfold pApp
 by_cases hn : n = 0
 ·subst hn
  have hv0 : vs = [] := List.eq_nil_of_length_eq_zero (by simp [hl])
  subst hv0
  rw [if_pos (by simp)]
  refine ⟨Or.inl rfl, fun h' e => ?_⟩
  have e' : h' = h := by rw [e]; cases p <;> rfl
  subst e'
  exact hk _ _ _ [] (Ext.refl _ _) (OwnS.nil _ _ _) (by intro b hb; simp at hb)
 ·rw [if_neg (by omega)]
  refine ⟨by simpa using hb, [], ⟨by simp, by simp, Or.inl rfl⟩, fun c' b h' hc hw => ?_⟩
  have : (0 + n) = n := by omega
  rw [this] at hc ⊢
  refine hk _ _ _ [b] hw.ext ⟨hl, hc, hv, Or.inr ⟨b, (List.replicate (c' - (0 + n)) z).flatten, rfl, rfl, ?_, ?_⟩⟩ ?_
  ·simpa using hw.blk
  ·rw [flatten_replicate_length, hz, this]; exact Nat.le_refl _
  ·intro x hx; simp at hx; subst hx; rw [hw.b]; exact Nat.le_refl _

theorem pApp_own {h : H} {sz : Nat} {z : List Value} {B : Nat} {p : Option Addr} {l c n : Nat} {old vs : List Value} {bs : List Nat} {K : Option Addr → Nat → Nat → H → Prop}
  (o : OwnS h p l c sz old bs) (hl : vs.length = n * sz) (hz : z.length = sz) (hv : ∀ v, v ∈ vs → v.oneCell' = true) (hb : (l + n) * B ≤ 2 ^ 47)
  (hk : ∀ p' c' h' bs', Ext (fun b => b ∈ bs) h h' → OwnS h' p' (l + n) c' sz (old ++ vs) bs' → (∀ b, b ∈ bs' → b ∈ bs ∨ h.size ≤ b) → K p' (l + n) c' h') : pApp h sz z B p l c n vs K := by
 have ohs := o.hsv
 have olt := o.lt
 obtain ⟨h1, h2, h3, h4⟩ := o
 have hov : ∀ v, v ∈ old ++ vs → v.oneCell' = true := by
  intro v hm; rcases List.mem_append.1 hm with hm | hm
  ·exact h3 v hm
  ·exact hv v hm
 have hlen : (old ++ vs).length = (l + n) * sz := by simp [h1, hl, Nat.add_mul]
 unfold pApp
 split
 ·rename_i hroom
  rcases h4 with ⟨rfl, rfl, rfl⟩ | ⟨b, rest, rfl, rfl, k, hr⟩
  ·have hn : n = 0 := by omega
   subst hn
   have hv0 : vs = [] := List.eq_nil_of_length_eq_zero (by simp [hl])
   have ho0 : old = [] := List.eq_nil_of_length_eq_zero (by simp [h1])
   subst hv0; subst ho0
   refine ⟨Or.inl rfl, fun h' e => ?_⟩
   have e' : h' = h := by rw [e]; cases p <;> rfl
   subst e'
   exact hk _ _ _ [] (Ext.refl _ _) (OwnS.nil _ _ _) (by intro b hb; simp at hb)
  ·have hnr : n * sz ≤ rest.length := by
    have : n * sz ≤ (c - l) * sz := Nat.mul_le_mul_right _ (by omega)
    omega
   refine ⟨Or.inr ⟨_, rfl, ?_⟩, fun h' e => ?_⟩
   ·rw [add_mk]; apply k.can; simp [h1]; omega
   ·simp only [Option.map_some, hwrO, add_mk, Nat.zero_add] at e
    have hs : splice (old ++ rest) (l * sz) vs = (old ++ vs) ++ rest.drop (n * sz) := by
     have : old ++ rest = old ++ rest.take (n * sz) ++ rest.drop (n * sz) := by simp
     rw [this, ← h1, splice_append]
     simp [hl, Nat.min_eq_left hnr]
    have kb := k.wr (l * sz) vs
    rw [hs] at kb
    subst e
    refine hk _ _ _ [b] ⟨by rw [hwr_size]; exact Nat.le_refl _, fun x _ hx => hwr_ne _ _ _ (by simpa using hx)⟩ ⟨hlen, hroom, hov, Or.inr ⟨b, rest.drop (n * sz), rfl, rfl, kb, ?_⟩⟩ (fun x hx => Or.inl hx)
    simp
    have : c - (l + n) = (c - l) - n := by omega
    rw [this, Nat.sub_mul]; omega
 ·rename_i hroom
  refine ⟨hb, old, ohs, fun c' b h' hc hw => ?_⟩
  refine hk _ _ _ [b] (hw.ext.mono fun _ _ hf => hf.elim) ⟨hlen, hc, hov, Or.inr ⟨b, (List.replicate (c' - (l + n)) z).flatten, rfl, rfl, ?_, ?_⟩⟩ ?_
  ·exact hw.blk
  ·rw [flatten_replicate_length, hz]; exact Nat.le_refl _
  ·intro x hx; simp at hx; subst hx; right; rw [hw.b]; exact Nat.le_refl _
end Go.Vc
end

/- Loops that count up. Own work; generic over any program. -/
section
set_option linter.unusedVariables false
namespace Go.Vc
abbrev si (i : Nat) : SV := .dv (.one (.int .i64 (i : Int)))
theorem loop_up {J : List SV → H → Prop} (N : Nat) (Inv : Nat → H → Prop) (step : ∀ i h, i < N → Inv i h → (∀ h', Inv (i + 1) h' → J [si (i + 1)] h') → J [si i] h)
  (exit : ∀ h, Inv N h → J [si N] h) (i : Nat) (h : H) (hi : i ≤ N) (inv : Inv i h) : J [si i] h := by
 generalize e : N - i = n
 induction n generalizing i h with
 | zero =>
  have : i = N := by omega
  subst this; exact exit h inv
 | succ n ih => exact step i h (by omega) inv fun h' inv' => ih (i + 1) h' (by omega) inv' (by omega)
theorem wrap_succ {i : Nat} (h : i < 2 ^ 62) : IntKind.i64.wrap ((i : Int) + 1) = ((i + 1 : Nat) : Int) := by
 rw [IntKind.wrap_i64]; omega
theorem wrap_id {n : Int} (h : -(2 ^ 62) ≤ n ∧ n ≤ 2 ^ 62) : IntKind.i64.wrap n = n := by
 rw [IntKind.wrap_i64]; omega
theorem wrap_u8_id {n : Int} (h : 0 ≤ n ∧ n < 256) : IntKind.u8.wrap n = n := by
 rw [IntKind.wrap_u8]; omega

def mapTo (g : Nat → Int → Int) (i : Nat) (ns : List Int) : List Int := ns.mapIdx fun j v => if j < i then g j v else v
@[simp] theorem mapTo_length (g : Nat → Int → Int) (i : Nat) (ns : List Int) : (mapTo g i ns).length = ns.length := by simp [mapTo]
theorem mapTo_get (g : Nat → Int → Int) (i : Nat) (ns : List Int) (j : Nat) : (mapTo g i ns)[j]? = ns[j]?.map fun v => if j < i then g j v else v := by simp [mapTo]
@[simp] theorem mapTo_zero (g : Nat → Int → Int) (ns : List Int) : mapTo g 0 ns = ns := by
 apply List.ext_getElem?; intro j; rw [mapTo_get]; simp
theorem mapTo_succ (g : Nat → Int → Int) (i : Nat) (ns : List Int) (hi : i < ns.length) : (mapTo g i ns).set i (g i ns[i]) = mapTo g (i + 1) ns := by
 apply List.ext_getElem?; intro j
 by_cases h : i = j
 ·subst h; rw [List.getElem?_set_self (by simpa using hi), mapTo_get]; simp [hi]
 ·rw [List.getElem?_set_ne h, mapTo_get, mapTo_get]
  congr 1; funext v
  by_cases h1 : j < i
  ·rw [if_pos h1, if_pos (by omega)]
  ·rw [if_neg h1, if_neg (by omega)]
theorem ints_set (k : IntKind) (ns : List Int) (i : Nat) (n : Int) : (ints k ns).set i (.int k n) = ints k (ns.set i n) := by simp [ints, List.map_set]
end Go.Vc
end
