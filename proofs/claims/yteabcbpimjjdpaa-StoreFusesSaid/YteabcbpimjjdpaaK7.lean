/- StoreFuses: what is proved and its parts, laid together by a program of ours: F Hp Hs Lp Sl -/
import Derived.Test.YteabcbpimjjdpaaK6
set_option autoImplicit false
set_option linter.all false
/- Denotations of functions of the program, printed by a program of ours, and that they are the model's. -/
section
set_option linter.unusedVariables false
set_option maxRecDepth 100000
namespace Go.Proofs.Yteabcbpimjjdpaa
open Go Go.Vc
def G_portcullisref04_Fits (a0_0 : Int) (a0_1 : Int) (a0_2 : Int) (a0_3 : Int) (a0_4 : Int) (a0_5 : Int) (a0_6 : Int) (a1_0p : Option Addr) (a1_0l : Nat) (a1_0c : Nat) (a1_1p : Option Addr) (a1_1l : Nat) (a1_1c : Nat) (a1_2p : Option Addr) (a1_2l : Nat) (a1_2c : Nat) (Q : Bool → H → Prop) (h : H) : Prop := ∀ (n18 : Nat) (h19 : H), hnew h n18 [Value.int IntKind.i64 a0_0, Value.int IntKind.i64 a0_1, Value.int IntKind.i64 a0_2, Value.int IntKind.i64 a0_3, Value.int IntKind.i64 a0_4, Value.int IntKind.i64 a0_5, Value.int IntKind.i64 a0_6] h19 → ∀ (n21 : Nat) (h22 : H), hnew h19 n21 [Value.slice a1_0p a1_0l a1_0c, Value.slice a1_1p a1_1l a1_1c, Value.slice a1_2p a1_2l a1_2c] h22 → ∃ (i24 : Int), hc h22 ((Addr.mk n18 0 none).add 6) = some (Value.int IntKind.i64 i24) ∧ ∀ (J25 : List SV → H → Prop), (∀ (h26 : H), (∀ (J27 : List SV → H → Prop), (∀ (i28 : Int) (h29 : H), (if ltI i28 (IntKind.i64.wrap (2 + IntKind.i64.wrap (2 * i24))) = true then ∃ (o30 : Option Addr), ∃ (n31 : Nat), ∃ (n32 : Nat), hc h29 (Addr.mk n21 0 none) = some (Value.slice o30 n31 n32) ∧ ∃ (p33 : Addr), o30 = some p33 ∧ 0 ≤ i28 ∧ i28 < (↑n31 : Int) ∧ ∃ (o34 : Option Addr), ∃ (n35 : Nat), ∃ (n36 : Nat), hc h29 (p33.add (i28.toNat * 1)) = some (Value.slice o34 n35 n36) ∧ ∃ (i37 : Int), hc h29 (Addr.mk n18 0 none) = some (Value.int IntKind.i64 i37) ∧ if ((↑n35 : Int) != i37) = true then Q false h29 else ∃ (o38 : Option Addr), ∃ (n39 : Nat), ∃ (n40 : Nat), hc h29 ((Addr.mk n21 0 none).add 1) = some (Value.slice o38 n39 n40) ∧ ∃ (p41 : Addr), o38 = some p41 ∧ 0 ≤ i28 ∧ i28 < (↑n39 : Int) ∧ ∃ (i42 : Int), hc h29 (p41.add (i28.toNat * 1)) = some (Value.int IntKind.i64 i42) ∧ if ltI i42 0 = true then Q false h29 else J27 [SV.dv (DV.one (Value.int IntKind.i64 (IntKind.i64.wrap (i28 + 1))))] h29 else Q true h29) → J27 [SV.dv (DV.one (Value.int IntKind.i64 i28))] h29) → J27 [SV.dv (DV.one (Value.int IntKind.i64 0))] h26) → J25 [] h26) → ∃ (o47 : Option Addr), ∃ (n48 : Nat), ∃ (n49 : Nat), hc h22 (Addr.mk n21 0 none) = some (Value.slice o47 n48 n49) ∧ if ((↑n48 : Int) != IntKind.i64.wrap (2 + IntKind.i64.wrap (2 * i24))) = true then Q false h22 else ∃ (o50 : Option Addr), ∃ (n51 : Nat), ∃ (n52 : Nat), hc h22 ((Addr.mk n21 0 none).add 1) = some (Value.slice o50 n51 n52) ∧ if ((↑n51 : Int) != IntKind.i64.wrap (2 + IntKind.i64.wrap (2 * i24))) = true then Q false h22 else ∃ (o53 : Option Addr), ∃ (n54 : Nat), ∃ (n55 : Nat), hc h22 ((Addr.mk n21 0 none).add 2) = some (Value.slice o53 n54 n55) ∧ ∃ (i56 : Int), hc h22 ((Addr.mk n18 0 none).add 1) = some (Value.int IntKind.i64 i56) ∧ ∃ (i57 : Int), hc h22 ((Addr.mk n18 0 none).add 2) = some (Value.int IntKind.i64 i57) ∧ ∃ (i58 : Int), hc h22 ((Addr.mk n18 0 none).add 4) = some (Value.int IntKind.i64 i58) ∧ if ((↑n54 : Int) != IntKind.i64.wrap (IntKind.i64.wrap (i56 * i57) + i58)) = true then Q false h22 else J25 [] h22
theorem E_portcullisref04_Fits  : ∀ (a0_0 : Int) (a0_1 : Int) (a0_2 : Int) (a0_3 : Int) (a0_4 : Int) (a0_5 : Int) (a0_6 : Int) (a1_0p : Option Addr) (a1_0l : Nat) (a1_0c : Nat) (a1_1p : Option Addr) (a1_1l : Nat) (a1_1c : Nat) (a1_2p : Option Addr) (a1_2l : Nat) (a1_2c : Nat) (Q : Bool → H → Prop) (h : H), G_portcullisref04_Fits a0_0 a0_1 a0_2 a0_3 a0_4 a0_5 a0_6 a1_0p a1_0l a1_0c a1_1p a1_1l a1_1c a1_2p a1_2l a1_2c Q h = Dbody PP [] [(7, []), (122, [(6, .sc (.int .i64))])] Try.f71 [.agg [.c (.int .i64 a0_0), .c (.int .i64 a0_1), .c (.int .i64 a0_2), .c (.int .i64 a0_3), .c (.int .i64 a0_4), .c (.int .i64 a0_5), .c (.int .i64 a0_6)], .agg [.c (.slice a1_0p a1_0l a1_0c), .c (.slice a1_1p a1_1l a1_1c), .c (.slice a1_2p a1_2l a1_2c)]] (decR [.bool] Q) h := by intros; kernel_rfl
def F_portcullisref04_Fits := G_portcullisref04_Fits
theorem R_portcullisref04_Fits : RunOk PP 71 (W [.ag [.int .i64, .int .i64, .int .i64, .int .i64, .int .i64, .int .i64, .int .i64], .ag [.slc, .slc, .slc]] [.bool] F_portcullisref04_Fits) := runOk_of (T := []) (ann := [(7, []), (122, [(6, .sc (.int .i64))])]) (TblOk.nil) Try.func71 (by kernel_rfl) (by kernel_rfl) (E_portcullisref04_Fits)
attribute [irreducible] F_portcullisref04_Fits
def G_portcullisref04_CopyState (a0_0p : Option Addr) (a0_0l : Nat) (a0_0c : Nat) (a0_1p : Option Addr) (a0_1l : Nat) (a0_1c : Nat) (a0_2p : Option Addr) (a0_2l : Nat) (a0_2c : Nat) (Q : Option Addr → Nat → Nat → Option Addr → Nat → Nat → Option Addr → Nat → Nat → H → Prop) (h : H) : Prop := ∀ (n11 : Nat) (h12 : H), hnew h n11 [Value.slice a0_0p a0_0l a0_0c, Value.slice a0_1p a0_1l a0_1c, Value.slice a0_2p a0_2l a0_2c] h12 → ∀ (n14 : Nat) (h15 : H), hnew h12 n14 [Value.slice none 0 0, Value.slice none 0 0, Value.slice none 0 0] h15 → ∀ (J17 : List SV → H → Prop), (∀ (p18 : Addr) (h19 : H), (∀ (J20 : List SV → H → Prop), (∀ (i21 : Int) (h22 : H), (∃ (o23 : Option Addr), ∃ (n24 : Nat), ∃ (n25 : Nat), hc h22 (Addr.mk n11 0 none) = some (Value.slice o23 n24 n25) ∧ if ltI i21 (↑n24 : Int) = true then ∃ (o26 : Option Addr), ∃ (n27 : Nat), ∃ (n28 : Nat), hc h22 p18 = some (Value.slice o26 n27 n28) ∧ ∃ (o29 : Option Addr), ∃ (n30 : Nat), ∃ (n31 : Nat), hc h22 (Addr.mk n11 0 none) = some (Value.slice o29 n30 n31) ∧ ∃ (p32 : Addr), o29 = some p32 ∧ 0 ≤ i21 ∧ i21 < (↑n30 : Int) ∧ ∃ (o33 : Option Addr), ∃ (n34 : Nat), ∃ (n35 : Nat), hc h22 (p32.add (i21.toNat * 1)) = some (Value.slice o33 n34 n35) ∧ ∀ (n36 : Nat) (h37 : H), hnew h22 n36 [] h37 → hcs h37 (p32.add (i21.toNat * 1)) [Value.slice o33 n34 n35] ∧ hcs h37 (Addr.mk n11 0 none) [Value.slice o29 n30 n31] ∧ hcs h37 p18 [Value.slice o26 n27 n28] ∧ ∃ (l39 : List Value), hsv h37 o33 32 n34 l39 ∧ pApp h37 32 (ints IntKind.u8 (zeros 32)) 32 (some (Addr.mk n36 0 none)) 0 0 n34 l39 fun (o40 : Option Addr) (n41 n42 : Nat) (h43 : H) => hcs h43 p18 [Value.slice o26 n27 n28] ∧ ∀ (n44 : Nat) (h45 : H), hnew h43 n44 [Value.slice o40 n41 n42] h45 → hcs h45 p18 [Value.slice o26 n27 n28] ∧ ∃ (l47 : List Value), hsv h45 (some (Addr.mk n44 0 none)) 1 1 l47 ∧ pApp h45 1 [Value.slice none 0 0] 24 o26 n27 n28 1 l47 fun (o48 : Option Addr) (n49 n50 : Nat) (h51 : H) => hcan h51 p18 1 ∧ ∀ (h52 : H), h52 = hwr h51 p18 [Value.slice o48 n49 n50] → J20 [SV.dv (DV.one (Value.int IntKind.i64 (IntKind.i64.wrap (i21 + 1))))] h52 else ∃ (o54 : Option Addr), ∃ (n55 : Nat), ∃ (n56 : Nat), hc h22 p18 = some (Value.slice o54 n55 n56) ∧ ∃ (o57 : Option Addr), ∃ (n58 : Nat), ∃ (n59 : Nat), hc h22 (p18.add 1) = some (Value.slice o57 n58 n59) ∧ ∃ (o60 : Option Addr), ∃ (n61 : Nat), ∃ (n62 : Nat), hc h22 (p18.add 2) = some (Value.slice o60 n61 n62) ∧ hcan h22 (Addr.mk n14 0 none) 3 ∧ ∀ (h63 : H), h63 = hwr h22 (Addr.mk n14 0 none) [Value.slice o54 n55 n56, Value.slice o57 n58 n59, Value.slice o60 n61 n62] → ∃ (o65 : Option Addr), ∃ (n66 : Nat), ∃ (n67 : Nat), hc h63 (Addr.mk n14 0 none) = some (Value.slice o65 n66 n67) ∧ ∃ (o68 : Option Addr), ∃ (n69 : Nat), ∃ (n70 : Nat), hc h63 ((Addr.mk n14 0 none).add 1) = some (Value.slice o68 n69 n70) ∧ ∃ (o71 : Option Addr), ∃ (n72 : Nat), ∃ (n73 : Nat), hc h63 ((Addr.mk n14 0 none).add 2) = some (Value.slice o71 n72 n73) ∧ Q o65 n66 n67 o68 n69 n70 o71 n72 n73 h63) → J20 [SV.dv (DV.one (Value.int IntKind.i64 i21))] h22) → J20 [SV.dv (DV.one (Value.int IntKind.i64 0))] h19) → J17 [SV.dv (DV.addr p18)] h19) → ∃ (o78 : Option Addr), ∃ (n79 : Nat), ∃ (n80 : Nat), hc h15 ((Addr.mk n11 0 none).add 1) = some (Value.slice o78 n79 n80) ∧ ∃ (o81 : Option Addr), ∃ (n82 : Nat), ∃ (n83 : Nat), hc h15 ((Addr.mk n11 0 none).add 2) = some (Value.slice o81 n82 n83) ∧ (∀ (n84 : Nat) (h85 : H), hnew h15 n84 [] h85 → hcs h85 ((Addr.mk n11 0 none).add 2) [Value.slice o81 n82 n83] ∧ hcs h85 ((Addr.mk n11 0 none).add 1) [Value.slice o78 n79 n80] ∧ (∃ (l87 : List Value), hsv h85 o78 1 n79 l87 ∧ pApp h85 1 [Value.int IntKind.i64 0] 8 (some (Addr.mk n84 0 none)) 0 0 n79 l87 fun (o88 : Option Addr) (n89 n90 : Nat) (h91 : H) => hcs h91 ((Addr.mk n11 0 none).add 2) [Value.slice o81 n82 n83] ∧ (∀ (n92 : Nat) (h93 : H), hnew h91 n92 [] h93 → hcs h93 ((Addr.mk n11 0 none).add 2) [Value.slice o81 n82 n83] ∧ (∃ (l95 : List Value), hsv h93 o81 1 n82 l95 ∧ pApp h93 1 [Value.bool false] 1 (some (Addr.mk n92 0 none)) 0 0 n82 l95 fun (o96 : Option Addr) (n97 n98 : Nat) (h99 : H) => ∀ (n100 : Nat) (h101 : H), hnew h99 n100 [Value.slice none 0 0, Value.slice none 0 0, Value.slice none 0 0] h101 → hcan h101 (Addr.mk n100 0 none) 3 ∧ ∀ (h103 : H), h103 = hwr h101 (Addr.mk n100 0 none) [Value.slice none 0 0, Value.slice o88 n89 n90, Value.slice o96 n97 n98] → J17 [SV.dv (DV.addr (Addr.mk n100 0 none))] h103) ∧ ∀ (n105 : Nat) (h106 : H), hnew h93 n105 [Value.slice none 0 0, Value.slice none 0 0, Value.slice none 0 0] h106 → hcs h106 ((Addr.mk n11 0 none).add 2) [Value.slice o81 n82 n83] ∧ ∃ (l108 : List Value), hsv h106 o81 1 n82 l108 ∧ pApp h106 1 [Value.bool false] 1 (some (Addr.mk n92 0 none)) 0 0 n82 l108 fun (o109 : Option Addr) (n110 n111 : Nat) (h112 : H) => hcan h112 (Addr.mk n105 0 none) 3 ∧ ∀ (h113 : H), h113 = hwr h112 (Addr.mk n105 0 none) [Value.slice none 0 0, Value.slice o88 n89 n90, Value.slice o109 n110 n111] → J17 [SV.dv (DV.addr (Addr.mk n105 0 none))] h113) ∧ ∀ (n115 : Nat) (h116 : H), hnew h91 n115 [Value.slice none 0 0, Value.slice none 0 0, Value.slice none 0 0] h116 → hcs h116 ((Addr.mk n11 0 none).add 2) [Value.slice o81 n82 n83] ∧ ∀ (n118 : Nat) (h119 : H), hnew h116 n118 [] h119 → hcs h119 ((Addr.mk n11 0 none).add 2) [Value.slice o81 n82 n83] ∧ ∃ (l121 : List Value), hsv h119 o81 1 n82 l121 ∧ pApp h119 1 [Value.bool false] 1 (some (Addr.mk n118 0 none)) 0 0 n82 l121 fun (o122 : Option Addr) (n123 n124 : Nat) (h125 : H) => hcan h125 (Addr.mk n115 0 none) 3 ∧ ∀ (h126 : H), h126 = hwr h125 (Addr.mk n115 0 none) [Value.slice none 0 0, Value.slice o88 n89 n90, Value.slice o122 n123 n124] → J17 [SV.dv (DV.addr (Addr.mk n115 0 none))] h126) ∧ (∀ (n128 : Nat) (h129 : H), hnew h85 n128 [] h129 → hcs h129 ((Addr.mk n11 0 none).add 2) [Value.slice o81 n82 n83] ∧ hcs h129 ((Addr.mk n11 0 none).add 1) [Value.slice o78 n79 n80] ∧ (∃ (l131 : List Value), hsv h129 o78 1 n79 l131 ∧ pApp h129 1 [Value.int IntKind.i64 0] 8 (some (Addr.mk n84 0 none)) 0 0 n79 l131 fun (o132 : Option Addr) (n133 n134 : Nat) (h135 : H) => hcs h135 ((Addr.mk n11 0 none).add 2) [Value.slice o81 n82 n83] ∧ (∃ (l136 : List Value), hsv h135 o81 1 n82 l136 ∧ pApp h135 1 [Value.bool false] 1 (some (Addr.mk n128 0 none)) 0 0 n82 l136 fun (o137 : Option Addr) (n138 n139 : Nat) (h140 : H) => ∀ (n141 : Nat) (h142 : H), hnew h140 n141 [Value.slice none 0 0, Value.slice none 0 0, Value.slice none 0 0] h142 → hcan h142 (Addr.mk n141 0 none) 3 ∧ ∀ (h144 : H), h144 = hwr h142 (Addr.mk n141 0 none) [Value.slice none 0 0, Value.slice o132 n133 n134, Value.slice o137 n138 n139] → J17 [SV.dv (DV.addr (Addr.mk n141 0 none))] h144) ∧ ∀ (n146 : Nat) (h147 : H), hnew h135 n146 [Value.slice none 0 0, Value.slice none 0 0, Value.slice none 0 0] h147 → hcs h147 ((Addr.mk n11 0 none).add 2) [Value.slice o81 n82 n83] ∧ ∃ (l149 : List Value), hsv h147 o81 1 n82 l149 ∧ pApp h147 1 [Value.bool false] 1 (some (Addr.mk n128 0 none)) 0 0 n82 l149 fun (o150 : Option Addr) (n151 n152 : Nat) (h153 : H) => hcan h153 (Addr.mk n146 0 none) 3 ∧ ∀ (h154 : H), h154 = hwr h153 (Addr.mk n146 0 none) [Value.slice none 0 0, Value.slice o132 n133 n134, Value.slice o150 n151 n152] → J17 [SV.dv (DV.addr (Addr.mk n146 0 none))] h154) ∧ ∀ (n156 : Nat) (h157 : H), hnew h129 n156 [Value.slice none 0 0, Value.slice none 0 0, Value.slice none 0 0] h157 → hcs h157 ((Addr.mk n11 0 none).add 2) [Value.slice o81 n82 n83] ∧ hcs h157 ((Addr.mk n11 0 none).add 1) [Value.slice o78 n79 n80] ∧ ∃ (l159 : List Value), hsv h157 o78 1 n79 l159 ∧ pApp h157 1 [Value.int IntKind.i64 0] 8 (some (Addr.mk n84 0 none)) 0 0 n79 l159 fun (o160 : Option Addr) (n161 n162 : Nat) (h163 : H) => hcs h163 ((Addr.mk n11 0 none).add 2) [Value.slice o81 n82 n83] ∧ ∃ (l164 : List Value), hsv h163 o81 1 n82 l164 ∧ pApp h163 1 [Value.bool false] 1 (some (Addr.mk n128 0 none)) 0 0 n82 l164 fun (o165 : Option Addr) (n166 n167 : Nat) (h168 : H) => hcan h168 (Addr.mk n156 0 none) 3 ∧ ∀ (h169 : H), h169 = hwr h168 (Addr.mk n156 0 none) [Value.slice none 0 0, Value.slice o160 n161 n162, Value.slice o165 n166 n167] → J17 [SV.dv (DV.addr (Addr.mk n156 0 none))] h169) ∧ ∀ (n171 : Nat) (h172 : H), hnew h85 n171 [Value.slice none 0 0, Value.slice none 0 0, Value.slice none 0 0] h172 → hcs h172 ((Addr.mk n11 0 none).add 2) [Value.slice o81 n82 n83] ∧ hcs h172 ((Addr.mk n11 0 none).add 1) [Value.slice o78 n79 n80] ∧ (∃ (l174 : List Value), hsv h172 o78 1 n79 l174 ∧ pApp h172 1 [Value.int IntKind.i64 0] 8 (some (Addr.mk n84 0 none)) 0 0 n79 l174 fun (o175 : Option Addr) (n176 n177 : Nat) (h178 : H) => hcs h178 ((Addr.mk n11 0 none).add 2) [Value.slice o81 n82 n83] ∧ ∀ (n179 : Nat) (h180 : H), hnew h178 n179 [] h180 → hcs h180 ((Addr.mk n11 0 none).add 2) [Value.slice o81 n82 n83] ∧ ∃ (l182 : List Value), hsv h180 o81 1 n82 l182 ∧ pApp h180 1 [Value.bool false] 1 (some (Addr.mk n179 0 none)) 0 0 n82 l182 fun (o183 : Option Addr) (n184 n185 : Nat) (h186 : H) => hcan h186 (Addr.mk n171 0 none) 3 ∧ ∀ (h187 : H), h187 = hwr h186 (Addr.mk n171 0 none) [Value.slice none 0 0, Value.slice o175 n176 n177, Value.slice o183 n184 n185] → J17 [SV.dv (DV.addr (Addr.mk n171 0 none))] h187) ∧ ∀ (n189 : Nat) (h190 : H), hnew h172 n189 [] h190 → hcs h190 ((Addr.mk n11 0 none).add 2) [Value.slice o81 n82 n83] ∧ hcs h190 ((Addr.mk n11 0 none).add 1) [Value.slice o78 n79 n80] ∧ ∃ (l192 : List Value), hsv h190 o78 1 n79 l192 ∧ pApp h190 1 [Value.int IntKind.i64 0] 8 (some (Addr.mk n84 0 none)) 0 0 n79 l192 fun (o193 : Option Addr) (n194 n195 : Nat) (h196 : H) => hcs h196 ((Addr.mk n11 0 none).add 2) [Value.slice o81 n82 n83] ∧ ∃ (l197 : List Value), hsv h196 o81 1 n82 l197 ∧ pApp h196 1 [Value.bool false] 1 (some (Addr.mk n189 0 none)) 0 0 n82 l197 fun (o198 : Option Addr) (n199 n200 : Nat) (h201 : H) => hcan h201 (Addr.mk n171 0 none) 3 ∧ ∀ (h202 : H), h202 = hwr h201 (Addr.mk n171 0 none) [Value.slice none 0 0, Value.slice o193 n194 n195, Value.slice o198 n199 n200] → J17 [SV.dv (DV.addr (Addr.mk n171 0 none))] h202) ∧ (∀ (n204 : Nat) (h205 : H), hnew h15 n204 [] h205 → hcs h205 ((Addr.mk n11 0 none).add 2) [Value.slice o81 n82 n83] ∧ hcs h205 ((Addr.mk n11 0 none).add 1) [Value.slice o78 n79 n80] ∧ (∀ (n207 : Nat) (h208 : H), hnew h205 n207 [] h208 → hcs h208 ((Addr.mk n11 0 none).add 2) [Value.slice o81 n82 n83] ∧ hcs h208 ((Addr.mk n11 0 none).add 1) [Value.slice o78 n79 n80] ∧ (∃ (l210 : List Value), hsv h208 o78 1 n79 l210 ∧ pApp h208 1 [Value.int IntKind.i64 0] 8 (some (Addr.mk n207 0 none)) 0 0 n79 l210 fun (o211 : Option Addr) (n212 n213 : Nat) (h214 : H) => hcs h214 ((Addr.mk n11 0 none).add 2) [Value.slice o81 n82 n83] ∧ (∃ (l215 : List Value), hsv h214 o81 1 n82 l215 ∧ pApp h214 1 [Value.bool false] 1 (some (Addr.mk n204 0 none)) 0 0 n82 l215 fun (o216 : Option Addr) (n217 n218 : Nat) (h219 : H) => ∀ (n220 : Nat) (h221 : H), hnew h219 n220 [Value.slice none 0 0, Value.slice none 0 0, Value.slice none 0 0] h221 → hcan h221 (Addr.mk n220 0 none) 3 ∧ ∀ (h223 : H), h223 = hwr h221 (Addr.mk n220 0 none) [Value.slice none 0 0, Value.slice o211 n212 n213, Value.slice o216 n217 n218] → J17 [SV.dv (DV.addr (Addr.mk n220 0 none))] h223) ∧ ∀ (n225 : Nat) (h226 : H), hnew h214 n225 [Value.slice none 0 0, Value.slice none 0 0, Value.slice none 0 0] h226 → hcs h226 ((Addr.mk n11 0 none).add 2) [Value.slice o81 n82 n83] ∧ ∃ (l228 : List Value), hsv h226 o81 1 n82 l228 ∧ pApp h226 1 [Value.bool false] 1 (some (Addr.mk n204 0 none)) 0 0 n82 l228 fun (o229 : Option Addr) (n230 n231 : Nat) (h232 : H) => hcan h232 (Addr.mk n225 0 none) 3 ∧ ∀ (h233 : H), h233 = hwr h232 (Addr.mk n225 0 none) [Value.slice none 0 0, Value.slice o211 n212 n213, Value.slice o229 n230 n231] → J17 [SV.dv (DV.addr (Addr.mk n225 0 none))] h233) ∧ ∀ (n235 : Nat) (h236 : H), hnew h208 n235 [Value.slice none 0 0, Value.slice none 0 0, Value.slice none 0 0] h236 → hcs h236 ((Addr.mk n11 0 none).add 2) [Value.slice o81 n82 n83] ∧ hcs h236 ((Addr.mk n11 0 none).add 1) [Value.slice o78 n79 n80] ∧ ∃ (l238 : List Value), hsv h236 o78 1 n79 l238 ∧ pApp h236 1 [Value.int IntKind.i64 0] 8 (some (Addr.mk n207 0 none)) 0 0 n79 l238 fun (o239 : Option Addr) (n240 n241 : Nat) (h242 : H) => hcs h242 ((Addr.mk n11 0 none).add 2) [Value.slice o81 n82 n83] ∧ ∃ (l243 : List Value), hsv h242 o81 1 n82 l243 ∧ pApp h242 1 [Value.bool false] 1 (some (Addr.mk n204 0 none)) 0 0 n82 l243 fun (o244 : Option Addr) (n245 n246 : Nat) (h247 : H) => hcan h247 (Addr.mk n235 0 none) 3 ∧ ∀ (h248 : H), h248 = hwr h247 (Addr.mk n235 0 none) [Value.slice none 0 0, Value.slice o239 n240 n241, Value.slice o244 n245 n246] → J17 [SV.dv (DV.addr (Addr.mk n235 0 none))] h248) ∧ ∀ (n250 : Nat) (h251 : H), hnew h205 n250 [Value.slice none 0 0, Value.slice none 0 0, Value.slice none 0 0] h251 → hcs h251 ((Addr.mk n11 0 none).add 2) [Value.slice o81 n82 n83] ∧ hcs h251 ((Addr.mk n11 0 none).add 1) [Value.slice o78 n79 n80] ∧ ∀ (n253 : Nat) (h254 : H), hnew h251 n253 [] h254 → hcs h254 ((Addr.mk n11 0 none).add 2) [Value.slice o81 n82 n83] ∧ hcs h254 ((Addr.mk n11 0 none).add 1) [Value.slice o78 n79 n80] ∧ ∃ (l256 : List Value), hsv h254 o78 1 n79 l256 ∧ pApp h254 1 [Value.int IntKind.i64 0] 8 (some (Addr.mk n253 0 none)) 0 0 n79 l256 fun (o257 : Option Addr) (n258 n259 : Nat) (h260 : H) => hcs h260 ((Addr.mk n11 0 none).add 2) [Value.slice o81 n82 n83] ∧ ∃ (l261 : List Value), hsv h260 o81 1 n82 l261 ∧ pApp h260 1 [Value.bool false] 1 (some (Addr.mk n204 0 none)) 0 0 n82 l261 fun (o262 : Option Addr) (n263 n264 : Nat) (h265 : H) => hcan h265 (Addr.mk n250 0 none) 3 ∧ ∀ (h266 : H), h266 = hwr h265 (Addr.mk n250 0 none) [Value.slice none 0 0, Value.slice o257 n258 n259, Value.slice o262 n263 n264] → J17 [SV.dv (DV.addr (Addr.mk n250 0 none))] h266) ∧ ∀ (n268 : Nat) (h269 : H), hnew h15 n268 [Value.slice none 0 0, Value.slice none 0 0, Value.slice none 0 0] h269 → hcs h269 ((Addr.mk n11 0 none).add 2) [Value.slice o81 n82 n83] ∧ hcs h269 ((Addr.mk n11 0 none).add 1) [Value.slice o78 n79 n80] ∧ (∀ (n271 : Nat) (h272 : H), hnew h269 n271 [] h272 → hcs h272 ((Addr.mk n11 0 none).add 2) [Value.slice o81 n82 n83] ∧ hcs h272 ((Addr.mk n11 0 none).add 1) [Value.slice o78 n79 n80] ∧ (∃ (l274 : List Value), hsv h272 o78 1 n79 l274 ∧ pApp h272 1 [Value.int IntKind.i64 0] 8 (some (Addr.mk n271 0 none)) 0 0 n79 l274 fun (o275 : Option Addr) (n276 n277 : Nat) (h278 : H) => hcs h278 ((Addr.mk n11 0 none).add 2) [Value.slice o81 n82 n83] ∧ ∀ (n279 : Nat) (h280 : H), hnew h278 n279 [] h280 → hcs h280 ((Addr.mk n11 0 none).add 2) [Value.slice o81 n82 n83] ∧ ∃ (l282 : List Value), hsv h280 o81 1 n82 l282 ∧ pApp h280 1 [Value.bool false] 1 (some (Addr.mk n279 0 none)) 0 0 n82 l282 fun (o283 : Option Addr) (n284 n285 : Nat) (h286 : H) => hcan h286 (Addr.mk n268 0 none) 3 ∧ ∀ (h287 : H), h287 = hwr h286 (Addr.mk n268 0 none) [Value.slice none 0 0, Value.slice o275 n276 n277, Value.slice o283 n284 n285] → J17 [SV.dv (DV.addr (Addr.mk n268 0 none))] h287) ∧ ∀ (n289 : Nat) (h290 : H), hnew h272 n289 [] h290 → hcs h290 ((Addr.mk n11 0 none).add 2) [Value.slice o81 n82 n83] ∧ hcs h290 ((Addr.mk n11 0 none).add 1) [Value.slice o78 n79 n80] ∧ ∃ (l292 : List Value), hsv h290 o78 1 n79 l292 ∧ pApp h290 1 [Value.int IntKind.i64 0] 8 (some (Addr.mk n271 0 none)) 0 0 n79 l292 fun (o293 : Option Addr) (n294 n295 : Nat) (h296 : H) => hcs h296 ((Addr.mk n11 0 none).add 2) [Value.slice o81 n82 n83] ∧ ∃ (l297 : List Value), hsv h296 o81 1 n82 l297 ∧ pApp h296 1 [Value.bool false] 1 (some (Addr.mk n289 0 none)) 0 0 n82 l297 fun (o298 : Option Addr) (n299 n300 : Nat) (h301 : H) => hcan h301 (Addr.mk n268 0 none) 3 ∧ ∀ (h302 : H), h302 = hwr h301 (Addr.mk n268 0 none) [Value.slice none 0 0, Value.slice o293 n294 n295, Value.slice o298 n299 n300] → J17 [SV.dv (DV.addr (Addr.mk n268 0 none))] h302) ∧ ∀ (n304 : Nat) (h305 : H), hnew h269 n304 [] h305 → hcs h305 ((Addr.mk n11 0 none).add 2) [Value.slice o81 n82 n83] ∧ hcs h305 ((Addr.mk n11 0 none).add 1) [Value.slice o78 n79 n80] ∧ ∀ (n307 : Nat) (h308 : H), hnew h305 n307 [] h308 → hcs h308 ((Addr.mk n11 0 none).add 2) [Value.slice o81 n82 n83] ∧ hcs h308 ((Addr.mk n11 0 none).add 1) [Value.slice o78 n79 n80] ∧ ∃ (l310 : List Value), hsv h308 o78 1 n79 l310 ∧ pApp h308 1 [Value.int IntKind.i64 0] 8 (some (Addr.mk n307 0 none)) 0 0 n79 l310 fun (o311 : Option Addr) (n312 n313 : Nat) (h314 : H) => hcs h314 ((Addr.mk n11 0 none).add 2) [Value.slice o81 n82 n83] ∧ ∃ (l315 : List Value), hsv h314 o81 1 n82 l315 ∧ pApp h314 1 [Value.bool false] 1 (some (Addr.mk n304 0 none)) 0 0 n82 l315 fun (o316 : Option Addr) (n317 n318 : Nat) (h319 : H) => hcan h319 (Addr.mk n268 0 none) 3 ∧ ∀ (h320 : H), h320 = hwr h319 (Addr.mk n268 0 none) [Value.slice none 0 0, Value.slice o311 n312 n313, Value.slice o316 n317 n318] → J17 [SV.dv (DV.addr (Addr.mk n268 0 none))] h320
theorem E_portcullisref04_CopyState  : ∀ (a0_0p : Option Addr) (a0_0l : Nat) (a0_0c : Nat) (a0_1p : Option Addr) (a0_1l : Nat) (a0_1c : Nat) (a0_2p : Option Addr) (a0_2l : Nat) (a0_2c : Nat) (Q : (Option Addr) → Nat → Nat → (Option Addr) → Nat → Nat → (Option Addr) → Nat → Nat → H → Prop) (h : H), G_portcullisref04_CopyState a0_0p a0_0l a0_0c a0_1p a0_1l a0_1c a0_2p a0_2l a0_2c Q h = Dbody PP [] [(3, [(3, .addr)]), (58, [(4, .sc (.int .i64))])] Try.f72 [.agg [.c (.slice a0_0p a0_0l a0_0c), .c (.slice a0_1p a0_1l a0_1c), .c (.slice a0_2p a0_2l a0_2c)]] (decR [.ag [.slc, .slc, .slc]] Q) h := by intros; kernel_rfl
def F_portcullisref04_CopyState := G_portcullisref04_CopyState
theorem R_portcullisref04_CopyState : RunOk PP 72 (W [.ag [.slc, .slc, .slc]] [.ag [.slc, .slc, .slc]] F_portcullisref04_CopyState) := runOk_of (T := []) (ann := [(3, [(3, .addr)]), (58, [(4, .sc (.int .i64))])]) (TblOk.nil) Try.func72 (by kernel_rfl) (by kernel_rfl) (E_portcullisref04_CopyState)
attribute [irreducible] F_portcullisref04_CopyState
def G_portcullisref04_Lay (c_portcullisref04_May : Int → Int → Int → Int → Int → Int → Int → (Int → H → Prop) → H → Prop) (c_portcullisref04_Fits : Int → Int → Int → Int → Int → Int → Int → Option Addr → Nat → Nat → Option Addr → Nat → Nat → Option Addr → Nat → Nat → (Bool → H → Prop) → H → Prop) (c_portcullisref04_CopyState : Option Addr → Nat → Nat → Option Addr → Nat → Nat → Option Addr → Nat → Nat → (Option Addr → Nat → Nat → Option Addr → Nat → Nat → Option Addr → Nat → Nat → H → Prop) → H → Prop) (a0_0 : Int) (a0_1 : Int) (a0_2 : Int) (a0_3 : Int) (a0_4 : Int) (a0_5 : Int) (a0_6 : Int) (a1_0p : Option Addr) (a1_0l : Nat) (a1_0c : Nat) (a1_1p : Option Addr) (a1_1l : Nat) (a1_1c : Nat) (a1_2p : Option Addr) (a1_2l : Nat) (a1_2c : Nat) (Q : Option Addr → Int → H → Prop) (h : H) : Prop := ∀ (n21 : Nat) (h22 : H), hnew h n21 [Value.int IntKind.i64 a0_0, Value.int IntKind.i64 a0_1, Value.int IntKind.i64 a0_2, Value.int IntKind.i64 a0_3, Value.int IntKind.i64 a0_4, Value.int IntKind.i64 a0_5, Value.int IntKind.i64 a0_6] h22 → ∀ (n24 : Nat) (h25 : H), hnew h22 n24 [Value.slice a1_0p a1_0l a1_0c, Value.slice a1_1p a1_1l a1_1c, Value.slice a1_2p a1_2l a1_2c] h25 → ∃ (i27 : Int), hc h25 (Addr.mk n21 0 none) = some (Value.int IntKind.i64 i27) ∧ ∃ (i28 : Int), hc h25 ((Addr.mk n21 0 none).add 1) = some (Value.int IntKind.i64 i28) ∧ ∃ (i29 : Int), hc h25 ((Addr.mk n21 0 none).add 2) = some (Value.int IntKind.i64 i29) ∧ ∃ (i30 : Int), hc h25 ((Addr.mk n21 0 none).add 3) = some (Value.int IntKind.i64 i30) ∧ ∃ (i31 : Int), hc h25 ((Addr.mk n21 0 none).add 4) = some (Value.int IntKind.i64 i31) ∧ ∃ (i32 : Int), hc h25 ((Addr.mk n21 0 none).add 5) = some (Value.int IntKind.i64 i32) ∧ ∃ (i33 : Int), hc h25 ((Addr.mk n21 0 none).add 6) = some (Value.int IntKind.i64 i33) ∧ c_portcullisref04_May i27 i28 i29 i30 i31 i32 i33 (fun (i34 : Int) (h35 : H) => if (i34 != 0) = true then Q none i34 h35 else ∃ (i36 : Int), hc h35 (Addr.mk n21 0 none) = some (Value.int IntKind.i64 i36) ∧ ∃ (i37 : Int), hc h35 ((Addr.mk n21 0 none).add 1) = some (Value.int IntKind.i64 i37) ∧ ∃ (i38 : Int), hc h35 ((Addr.mk n21 0 none).add 2) = some (Value.int IntKind.i64 i38) ∧ ∃ (i39 : Int), hc h35 ((Addr.mk n21 0 none).add 3) = some (Value.int IntKind.i64 i39) ∧ ∃ (i40 : Int), hc h35 ((Addr.mk n21 0 none).add 4) = some (Value.int IntKind.i64 i40) ∧ ∃ (i41 : Int), hc h35 ((Addr.mk n21 0 none).add 5) = some (Value.int IntKind.i64 i41) ∧ ∃ (i42 : Int), hc h35 ((Addr.mk n21 0 none).add 6) = some (Value.int IntKind.i64 i42) ∧ ∃ (o43 : Option Addr), ∃ (n44 : Nat), ∃ (n45 : Nat), hc h35 (Addr.mk n24 0 none) = some (Value.slice o43 n44 n45) ∧ ∃ (o46 : Option Addr), ∃ (n47 : Nat), ∃ (n48 : Nat), hc h35 ((Addr.mk n24 0 none).add 1) = some (Value.slice o46 n47 n48) ∧ ∃ (o49 : Option Addr), ∃ (n50 : Nat), ∃ (n51 : Nat), hc h35 ((Addr.mk n24 0 none).add 2) = some (Value.slice o49 n50 n51) ∧ c_portcullisref04_Fits i36 i37 i38 i39 i40 i41 i42 o43 n44 n45 o46 n47 n48 o49 n50 n51 (fun (b52 : Bool) (h53 : H) => if (!b52) = true then Q none 5 h53 else ∃ (i54 : Int), hc h53 (Addr.mk n21 0 none) = some (Value.int IntKind.i64 i54) ∧ ∃ (i55 : Int), hc h53 ((Addr.mk n21 0 none).add 1) = some (Value.int IntKind.i64 i55) ∧ ∃ (i56 : Int), hc h53 ((Addr.mk n21 0 none).add 2) = some (Value.int IntKind.i64 i56) ∧ ∃ (i57 : Int), hc h53 ((Addr.mk n21 0 none).add 3) = some (Value.int IntKind.i64 i57) ∧ ∃ (i58 : Int), hc h53 ((Addr.mk n21 0 none).add 4) = some (Value.int IntKind.i64 i58) ∧ ∃ (i59 : Int), hc h53 ((Addr.mk n21 0 none).add 5) = some (Value.int IntKind.i64 i59) ∧ ∃ (i60 : Int), hc h53 ((Addr.mk n21 0 none).add 6) = some (Value.int IntKind.i64 i60) ∧ ∃ (o61 : Option Addr), ∃ (n62 : Nat), ∃ (n63 : Nat), hc h53 (Addr.mk n24 0 none) = some (Value.slice o61 n62 n63) ∧ ∃ (o64 : Option Addr), ∃ (n65 : Nat), ∃ (n66 : Nat), hc h53 ((Addr.mk n24 0 none).add 1) = some (Value.slice o64 n65 n66) ∧ ∃ (o67 : Option Addr), ∃ (n68 : Nat), ∃ (n69 : Nat), hc h53 ((Addr.mk n24 0 none).add 2) = some (Value.slice o67 n68 n69) ∧ c_portcullisref04_CopyState o61 n62 n63 o64 n65 n66 o67 n68 n69 (fun (o70 : Option Addr) (n71 n72 : Nat) (o73 : Option Addr) (n74 n75 : Nat) (o76 : Option Addr) (n77 n78 : Nat) (h79 : H) => hcs h79 (Addr.mk n21 0 none) [Value.int IntKind.i64 i54, Value.int IntKind.i64 i55, Value.int IntKind.i64 i56, Value.int IntKind.i64 i57, Value.int IntKind.i64 i58, Value.int IntKind.i64 i59, Value.int IntKind.i64 i60] ∧ ∀ (n80 : Nat) (h81 : H), hnew h79 n80 [Value.int IntKind.i64 i54, Value.int IntKind.i64 i55, Value.int IntKind.i64 i56, Value.int IntKind.i64 i57, Value.int IntKind.i64 i58, Value.int IntKind.i64 i59, Value.int IntKind.i64 i60, Value.slice o70 n71 n72, Value.slice o73 n74 n75, Value.slice o76 n77 n78, Value.int IntKind.i64 0, Value.bool false, Value.int IntKind.i64 (-1), Value.slice none 0 0] h81 → Q (some (Addr.mk n80 0 none)) 0 h81) h53) h35) h25
theorem E_portcullisref04_Lay (c_portcullisref04_May : Int → Int → Int → Int → Int → Int → Int → (Int → H → Prop) → H → Prop) (c_portcullisref04_Fits : Int → Int → Int → Int → Int → Int → Int → (Option Addr) → Nat → Nat → (Option Addr) → Nat → Nat → (Option Addr) → Nat → Nat → (Bool → H → Prop) → H → Prop) (c_portcullisref04_CopyState : (Option Addr) → Nat → Nat → (Option Addr) → Nat → Nat → (Option Addr) → Nat → Nat → ((Option Addr) → Nat → Nat → (Option Addr) → Nat → Nat → (Option Addr) → Nat → Nat → H → Prop) → H → Prop) : ∀ (a0_0 : Int) (a0_1 : Int) (a0_2 : Int) (a0_3 : Int) (a0_4 : Int) (a0_5 : Int) (a0_6 : Int) (a1_0p : Option Addr) (a1_0l : Nat) (a1_0c : Nat) (a1_1p : Option Addr) (a1_1l : Nat) (a1_1c : Nat) (a1_2p : Option Addr) (a1_2l : Nat) (a1_2c : Nat) (Q : (Option Addr) → Int → H → Prop) (h : H), G_portcullisref04_Lay c_portcullisref04_May c_portcullisref04_Fits c_portcullisref04_CopyState a0_0 a0_1 a0_2 a0_3 a0_4 a0_5 a0_6 a1_0p a1_0l a1_0c a1_1p a1_1l a1_1c a1_2p a1_2l a1_2c Q h = Dbody PP [(25, W [.ag [.int .i64, .int .i64, .int .i64, .int .i64, .int .i64, .int .i64, .int .i64]] [.int .i64] c_portcullisref04_May), (71, W [.ag [.int .i64, .int .i64, .int .i64, .int .i64, .int .i64, .int .i64, .int .i64], .ag [.slc, .slc, .slc]] [.bool] c_portcullisref04_Fits), (72, W [.ag [.slc, .slc, .slc]] [.ag [.slc, .slc, .slc]] c_portcullisref04_CopyState)] [] Try.f32 [.agg [.c (.int .i64 a0_0), .c (.int .i64 a0_1), .c (.int .i64 a0_2), .c (.int .i64 a0_3), .c (.int .i64 a0_4), .c (.int .i64 a0_5), .c (.int .i64 a0_6)], .agg [.c (.slice a1_0p a1_0l a1_0c), .c (.slice a1_1p a1_1l a1_1c), .c (.slice a1_2p a1_2l a1_2c)]] (decR [.ptr, .int .i64] Q) h := by intros; kernel_rfl
def F_portcullisref04_Lay := G_portcullisref04_Lay F_portcullisref04_May F_portcullisref04_Fits F_portcullisref04_CopyState
theorem R_portcullisref04_Lay : RunOk PP 32 (W [.ag [.int .i64, .int .i64, .int .i64, .int .i64, .int .i64, .int .i64, .int .i64], .ag [.slc, .slc, .slc]] [.ptr, .int .i64] F_portcullisref04_Lay) := runOk_of (T := [(25, W [.ag [.int .i64, .int .i64, .int .i64, .int .i64, .int .i64, .int .i64, .int .i64]] [.int .i64] F_portcullisref04_May), (71, W [.ag [.int .i64, .int .i64, .int .i64, .int .i64, .int .i64, .int .i64, .int .i64], .ag [.slc, .slc, .slc]] [.bool] F_portcullisref04_Fits), (72, W [.ag [.slc, .slc, .slc]] [.ag [.slc, .slc, .slc]] F_portcullisref04_CopyState)]) (ann := []) (TblOk.cons R_portcullisref04_May (TblOk.cons R_portcullisref04_Fits (TblOk.cons R_portcullisref04_CopyState (TblOk.nil)))) Try.func32 (by kernel_rfl) (by kernel_rfl) (E_portcullisref04_Lay F_portcullisref04_May F_portcullisref04_Fits F_portcullisref04_CopyState)
attribute [irreducible] F_portcullisref04_Lay
def G_portcullislaw10_values (c_store_Store_Read : Addr → Int → (Int → Int → H → Prop) → H → Prop) (a0 : Addr) (a1 : Int) (Q : Option Addr → Nat → Nat → Bool → H → Prop) (h : H) : Prop := ∀ (n5 : Nat) (h6 : H), hnew h n5 [] h6 → ∀ (J8 : List SV → H → Prop), (∀ (o9 : Option Addr) (n10 n11 : Nat) (i12 : Int) (h13 : H), (if ltI i12 a1 = true then c_store_Store_Read a0 i12 (fun (i14 i15 : Int) (h16 : H) => if (i15 != 0) = true then Q none 0 0 false h16 else ∀ (n17 : Nat) (h18 : H), hnew h16 n17 [Value.int IntKind.i64 i14] h18 → ∃ (l20 : List Value), hsv h18 (some (Addr.mk n17 0 none)) 1 1 l20 ∧ pApp h18 1 [Value.int IntKind.i64 0] 8 o9 n10 n11 1 l20 fun (o21 : Option Addr) (n22 n23 : Nat) (h24 : H) => J8 [SV.dv (DV.one (Value.slice o21 n22 n23)), SV.dv (DV.one (Value.int IntKind.i64 (IntKind.i64.wrap (i12 + 1))))] h24) h13 else Q o9 n10 n11 true h13) → J8 [SV.dv (DV.one (Value.slice o9 n10 n11)), SV.dv (DV.one (Value.int IntKind.i64 i12))] h13) → J8 [SV.dv (DV.one (Value.slice (some (Addr.mk n5 0 none)) 0 0)), SV.dv (DV.one (Value.int IntKind.i64 0))] h6
theorem E_portcullislaw10_values (c_store_Store_Read : Addr → Int → (Int → Int → H → Prop) → H → Prop) : ∀ (a0 : Addr) (a1 : Int) (Q : (Option Addr) → Nat → Nat → Bool → H → Prop) (h : H), G_portcullislaw10_values c_store_Store_Read a0 a1 Q h = Dbody PP [(68, W [.addr, .int .i64] [.int .i64, .int .i64] c_store_Store_Read)] [(58, [(6, .sc (.slc)), (7, .sc (.int .i64))])] Try.f40 [.addr a0, .one (.int .i64 a1)] (decR [.slc, .bool] Q) h := by intros; kernel_rfl
def F_portcullislaw10_values := G_portcullislaw10_values F_store_Store_Read
theorem R_portcullislaw10_values : RunOk PP 40 (W [.addr, .int .i64] [.slc, .bool] F_portcullislaw10_values) := runOk_of (T := [(68, W [.addr, .int .i64] [.int .i64, .int .i64] F_store_Store_Read)]) (ann := [(58, [(6, .sc (.slc)), (7, .sc (.int .i64))])]) (TblOk.cons R_store_Store_Read (TblOk.nil)) Try.func40 (by kernel_rfl) (by kernel_rfl) (E_portcullislaw10_values F_store_Store_Read)
attribute [irreducible] F_portcullislaw10_values
def G_portcullisref04_SameState (a0_0p : Option Addr) (a0_0l : Nat) (a0_0c : Nat) (a0_1p : Option Addr) (a0_1l : Nat) (a0_1c : Nat) (a0_2p : Option Addr) (a0_2l : Nat) (a0_2c : Nat) (a1_0p : Option Addr) (a1_0l : Nat) (a1_0c : Nat) (a1_1p : Option Addr) (a1_1l : Nat) (a1_1c : Nat) (a1_2p : Option Addr) (a1_2l : Nat) (a1_2c : Nat) (Q : Bool → H → Prop) (h : H) : Prop := ∀ (n20 : Nat) (h21 : H), hnew h n20 [Value.slice a0_0p a0_0l a0_0c, Value.slice a0_1p a0_1l a0_1c, Value.slice a0_2p a0_2l a0_2c] h21 → ∀ (n23 : Nat) (h24 : H), hnew h21 n23 [Value.slice a1_0p a1_0l a1_0c, Value.slice a1_1p a1_1l a1_1c, Value.slice a1_2p a1_2l a1_2c] h24 → ∀ (J26 : List SV → H → Prop), (∀ (h27 : H), (∀ (J28 : List SV → H → Prop), (∀ (i29 : Int) (h30 : H), (∃ (o31 : Option Addr), ∃ (n32 : Nat), ∃ (n33 : Nat), hc h30 (Addr.mk n20 0 none) = some (Value.slice o31 n32 n33) ∧ if ltI i29 (↑n32 : Int) = true then ∃ (o34 : Option Addr), ∃ (n35 : Nat), ∃ (n36 : Nat), hc h30 (Addr.mk n20 0 none) = some (Value.slice o34 n35 n36) ∧ ∃ (p37 : Addr), o34 = some p37 ∧ 0 ≤ i29 ∧ i29 < (↑n35 : Int) ∧ ∃ (o38 : Option Addr), ∃ (n39 : Nat), ∃ (n40 : Nat), hc h30 (p37.add (i29.toNat * 1)) = some (Value.slice o38 n39 n40) ∧ ∃ (o41 : Option Addr), ∃ (n42 : Nat), ∃ (n43 : Nat), hc h30 (Addr.mk n23 0 none) = some (Value.slice o41 n42 n43) ∧ ∃ (p44 : Addr), o41 = some p44 ∧ 0 ≤ i29 ∧ i29 < (↑n42 : Int) ∧ ∃ (o45 : Option Addr), ∃ (n46 : Nat), ∃ (n47 : Nat), hc h30 (p44.add (i29.toNat * 1)) = some (Value.slice o45 n46 n47) ∧ if ((↑n39 : Int) != (↑n46 : Int)) = true then Q false h30 else ∀ (J48 : List SV → H → Prop), (∀ (i49 : Int) (h50 : H), (∃ (o51 : Option Addr), ∃ (n52 : Nat), ∃ (n53 : Nat), hc h50 (Addr.mk n20 0 none) = some (Value.slice o51 n52 n53) ∧ ∃ (p54 : Addr), o51 = some p54 ∧ 0 ≤ i29 ∧ i29 < (↑n52 : Int) ∧ ∃ (o55 : Option Addr), ∃ (n56 : Nat), ∃ (n57 : Nat), hc h50 (p54.add (i29.toNat * 1)) = some (Value.slice o55 n56 n57) ∧ if ltI i49 (↑n56 : Int) = true then ∃ (o58 : Option Addr), ∃ (n59 : Nat), ∃ (n60 : Nat), hc h50 (Addr.mk n20 0 none) = some (Value.slice o58 n59 n60) ∧ ∃ (p61 : Addr), o58 = some p61 ∧ 0 ≤ i29 ∧ i29 < (↑n59 : Int) ∧ ∃ (o62 : Option Addr), ∃ (n63 : Nat), ∃ (n64 : Nat), hc h50 (p61.add (i29.toNat * 1)) = some (Value.slice o62 n63 n64) ∧ ∃ (p65 : Addr), o62 = some p65 ∧ 0 ≤ i49 ∧ i49 < (↑n63 : Int) ∧ ∃ (l66 : List Int), l66.length = 32 ∧ hrow h50 (p65.add (i49.toNat * 32)) IntKind.u8 l66 ∧ ∃ (o67 : Option Addr), ∃ (n68 : Nat), ∃ (n69 : Nat), hc h50 (Addr.mk n23 0 none) = some (Value.slice o67 n68 n69) ∧ ∃ (p70 : Addr), o67 = some p70 ∧ 0 ≤ i29 ∧ i29 < (↑n68 : Int) ∧ ∃ (o71 : Option Addr), ∃ (n72 : Nat), ∃ (n73 : Nat), hc h50 (p70.add (i29.toNat * 1)) = some (Value.slice o71 n72 n73) ∧ ∃ (p74 : Addr), o71 = some p74 ∧ 0 ≤ i49 ∧ i49 < (↑n72 : Int) ∧ ∃ (l75 : List Int), l75.length = 32 ∧ hrow h50 (p74.add (i49.toNat * 32)) IntKind.u8 l75 ∧ if (!l66 == l75) = true then Q false h50 else J48 [SV.dv (DV.one (Value.int IntKind.i64 (IntKind.i64.wrap (i49 + 1))))] h50 else J28 [SV.dv (DV.one (Value.int IntKind.i64 (IntKind.i64.wrap (i29 + 1))))] h50) → J48 [SV.dv (DV.one (Value.int IntKind.i64 i49))] h50) → J48 [SV.dv (DV.one (Value.int IntKind.i64 0))] h30 else ∀ (J78 : List SV → H → Prop), (∀ (i79 : Int) (h80 : H), (∃ (o81 : Option Addr), ∃ (n82 : Nat), ∃ (n83 : Nat), hc h80 ((Addr.mk n20 0 none).add 1) = some (Value.slice o81 n82 n83) ∧ if ltI i79 (↑n82 : Int) = true then ∃ (o84 : Option Addr), ∃ (n85 : Nat), ∃ (n86 : Nat), hc h80 ((Addr.mk n20 0 none).add 1) = some (Value.slice o84 n85 n86) ∧ ∃ (p87 : Addr), o84 = some p87 ∧ 0 ≤ i79 ∧ i79 < (↑n85 : Int) ∧ ∃ (i88 : Int), hc h80 (p87.add (i79.toNat * 1)) = some (Value.int IntKind.i64 i88) ∧ ∃ (o89 : Option Addr), ∃ (n90 : Nat), ∃ (n91 : Nat), hc h80 ((Addr.mk n23 0 none).add 1) = some (Value.slice o89 n90 n91) ∧ ∃ (p92 : Addr), o89 = some p92 ∧ 0 ≤ i79 ∧ i79 < (↑n90 : Int) ∧ ∃ (i93 : Int), hc h80 (p92.add (i79.toNat * 1)) = some (Value.int IntKind.i64 i93) ∧ if (i88 != i93) = true then Q false h80 else J78 [SV.dv (DV.one (Value.int IntKind.i64 (IntKind.i64.wrap (i79 + 1))))] h80 else ∀ (J94 : List SV → H → Prop), (∀ (i95 : Int) (h96 : H), (∃ (o97 : Option Addr), ∃ (n98 : Nat), ∃ (n99 : Nat), hc h96 ((Addr.mk n20 0 none).add 2) = some (Value.slice o97 n98 n99) ∧ if ltI i95 (↑n98 : Int) = true then ∃ (o100 : Option Addr), ∃ (n101 : Nat), ∃ (n102 : Nat), hc h96 ((Addr.mk n20 0 none).add 2) = some (Value.slice o100 n101 n102) ∧ ∃ (p103 : Addr), o100 = some p103 ∧ 0 ≤ i95 ∧ i95 < (↑n101 : Int) ∧ ∃ (b104 : Bool), hc h96 (p103.add (i95.toNat * 1)) = some (Value.bool b104) ∧ ∃ (o105 : Option Addr), ∃ (n106 : Nat), ∃ (n107 : Nat), hc h96 ((Addr.mk n23 0 none).add 2) = some (Value.slice o105 n106 n107) ∧ ∃ (p108 : Addr), o105 = some p108 ∧ 0 ≤ i95 ∧ i95 < (↑n106 : Int) ∧ ∃ (b109 : Bool), hc h96 (p108.add (i95.toNat * 1)) = some (Value.bool b109) ∧ if (!b104 == b109) = true then Q false h96 else J94 [SV.dv (DV.one (Value.int IntKind.i64 (IntKind.i64.wrap (i95 + 1))))] h96 else Q true h96) → J94 [SV.dv (DV.one (Value.int IntKind.i64 i95))] h96) → J94 [SV.dv (DV.one (Value.int IntKind.i64 0))] h80) → J78 [SV.dv (DV.one (Value.int IntKind.i64 i79))] h80) → J78 [SV.dv (DV.one (Value.int IntKind.i64 0))] h30) → J28 [SV.dv (DV.one (Value.int IntKind.i64 i29))] h30) → J28 [SV.dv (DV.one (Value.int IntKind.i64 0))] h27) → J26 [] h27) → ∃ (o118 : Option Addr), ∃ (n119 : Nat), ∃ (n120 : Nat), hc h24 (Addr.mk n20 0 none) = some (Value.slice o118 n119 n120) ∧ ∃ (o121 : Option Addr), ∃ (n122 : Nat), ∃ (n123 : Nat), hc h24 (Addr.mk n23 0 none) = some (Value.slice o121 n122 n123) ∧ if ((↑n119 : Int) != (↑n122 : Int)) = true then Q false h24 else ∃ (o124 : Option Addr), ∃ (n125 : Nat), ∃ (n126 : Nat), hc h24 ((Addr.mk n20 0 none).add 1) = some (Value.slice o124 n125 n126) ∧ ∃ (o127 : Option Addr), ∃ (n128 : Nat), ∃ (n129 : Nat), hc h24 ((Addr.mk n23 0 none).add 1) = some (Value.slice o127 n128 n129) ∧ if ((↑n125 : Int) != (↑n128 : Int)) = true then Q false h24 else ∃ (o130 : Option Addr), ∃ (n131 : Nat), ∃ (n132 : Nat), hc h24 ((Addr.mk n20 0 none).add 2) = some (Value.slice o130 n131 n132) ∧ ∃ (o133 : Option Addr), ∃ (n134 : Nat), ∃ (n135 : Nat), hc h24 ((Addr.mk n23 0 none).add 2) = some (Value.slice o133 n134 n135) ∧ if ((↑n131 : Int) != (↑n134 : Int)) = true then Q false h24 else J26 [] h24
theorem E_portcullisref04_SameState  : ∀ (a0_0p : Option Addr) (a0_0l : Nat) (a0_0c : Nat) (a0_1p : Option Addr) (a0_1l : Nat) (a0_1c : Nat) (a0_2p : Option Addr) (a0_2l : Nat) (a0_2c : Nat) (a1_0p : Option Addr) (a1_0l : Nat) (a1_0c : Nat) (a1_1p : Option Addr) (a1_1l : Nat) (a1_1c : Nat) (a1_2p : Option Addr) (a1_2l : Nat) (a1_2c : Nat) (Q : Bool → H → Prop) (h : H), G_portcullisref04_SameState a0_0p a0_0l a0_0c a0_1p a0_1l a0_1c a0_2p a0_2l a0_2c a1_0p a1_0l a1_0c a1_1p a1_1l a1_1c a1_2p a1_2l a1_2c Q h = Dbody PP [] [(3, []), (58, [(5, .sc (.int .i64))]), (122, [(7, .sc (.int .i64))]), (250, [(8, .sc (.int .i64))]), (7462, [(6, .sc (.int .i64))])] Try.f41 [.agg [.c (.slice a0_0p a0_0l a0_0c), .c (.slice a0_1p a0_1l a0_1c), .c (.slice a0_2p a0_2l a0_2c)], .agg [.c (.slice a1_0p a1_0l a1_0c), .c (.slice a1_1p a1_1l a1_1c), .c (.slice a1_2p a1_2l a1_2c)]] (decR [.bool] Q) h := by intros; kernel_rfl
def F_portcullisref04_SameState := G_portcullisref04_SameState
theorem R_portcullisref04_SameState : RunOk PP 41 (W [.ag [.slc, .slc, .slc], .ag [.slc, .slc, .slc]] [.bool] F_portcullisref04_SameState) := runOk_of (T := []) (ann := [(3, []), (58, [(5, .sc (.int .i64))]), (122, [(7, .sc (.int .i64))]), (250, [(8, .sc (.int .i64))]), (7462, [(6, .sc (.int .i64))])]) (TblOk.nil) Try.func41 (by kernel_rfl) (by kernel_rfl) (E_portcullisref04_SameState)
attribute [irreducible] F_portcullisref04_SameState
def G_portcullislaw10_StoreFuses (c_chip_Chip_Acts : Addr → (Int → H → Prop) → H → Prop) (c_chip_Lay : Int → Int → Int → Int → Int → Int → Int → Option Addr → Nat → Nat → Option Addr → Nat → Nat → Option Addr → Nat → Nat → (Option Addr → Int → H → Prop) → H → Prop) (c_chip_Chip_State : Addr → (Option Addr → Nat → Nat → Option Addr → Nat → Nat → Option Addr → Nat → Nat → H → Prop) → H → Prop) (c_portcullislaw10_awake : (Bool → H → Prop) → H → Prop) (c_portcullisref04_Lay : Int → Int → Int → Int → Int → Int → Int → Option Addr → Nat → Nat → Option Addr → Nat → Nat → Option Addr → Nat → Nat → (Option Addr → Int → H → Prop) → H → Prop) (c_store_Mount : Addr → (Option Addr → Int → H → Prop) → H → Prop) (c_portcullislaw10_values : Addr → Int → (Option Addr → Nat → Nat → Bool → H → Prop) → H → Prop) (c_portcullisref04_SameState : Option Addr → Nat → Nat → Option Addr → Nat → Nat → Option Addr → Nat → Nat → Option Addr → Nat → Nat → Option Addr → Nat → Nat → Option Addr → Nat → Nat → (Bool → H → Prop) → H → Prop) (a0_0 : Int) (a0_1 : Int) (a0_2 : Int) (a0_3 : Int) (a0_4 : Int) (a0_5 : Int) (a0_6 : Int) (a1_0p : Option Addr) (a1_0l : Nat) (a1_0c : Nat) (a1_1p : Option Addr) (a1_1l : Nat) (a1_1c : Nat) (a1_2p : Option Addr) (a1_2l : Nat) (a1_2c : Nat) (Q : Bool → H → Prop) (h : H) : Prop := ∀ (n26 : Nat) (h27 : H), hnew h n26 [Value.int IntKind.i64 a0_0, Value.int IntKind.i64 a0_1, Value.int IntKind.i64 a0_2, Value.int IntKind.i64 a0_3, Value.int IntKind.i64 a0_4, Value.int IntKind.i64 a0_5, Value.int IntKind.i64 a0_6] h27 → ∀ (n29 : Nat) (h30 : H), hnew h27 n29 [Value.slice a1_0p a1_0l a1_0c, Value.slice a1_1p a1_1l a1_1c, Value.slice a1_2p a1_2l a1_2c] h30 → c_portcullislaw10_awake (fun (b32 : Bool) (h33 : H) => if (!b32) = true then Q false h33 else ∃ (i34 : Int), hc h33 (Addr.mk n26 0 none) = some (Value.int IntKind.i64 i34) ∧ ∃ (i35 : Int), hc h33 ((Addr.mk n26 0 none).add 1) = some (Value.int IntKind.i64 i35) ∧ ∃ (i36 : Int), hc h33 ((Addr.mk n26 0 none).add 2) = some (Value.int IntKind.i64 i36) ∧ ∃ (i37 : Int), hc h33 ((Addr.mk n26 0 none).add 3) = some (Value.int IntKind.i64 i37) ∧ ∃ (i38 : Int), hc h33 ((Addr.mk n26 0 none).add 4) = some (Value.int IntKind.i64 i38) ∧ ∃ (i39 : Int), hc h33 ((Addr.mk n26 0 none).add 5) = some (Value.int IntKind.i64 i39) ∧ ∃ (i40 : Int), hc h33 ((Addr.mk n26 0 none).add 6) = some (Value.int IntKind.i64 i40) ∧ ∃ (o41 : Option Addr), ∃ (n42 : Nat), ∃ (n43 : Nat), hc h33 (Addr.mk n29 0 none) = some (Value.slice o41 n42 n43) ∧ ∃ (o44 : Option Addr), ∃ (n45 : Nat), ∃ (n46 : Nat), hc h33 ((Addr.mk n29 0 none).add 1) = some (Value.slice o44 n45 n46) ∧ ∃ (o47 : Option Addr), ∃ (n48 : Nat), ∃ (n49 : Nat), hc h33 ((Addr.mk n29 0 none).add 2) = some (Value.slice o47 n48 n49) ∧ c_chip_Lay i34 i35 i36 i37 i38 i39 i40 o41 n42 n43 o44 n45 n46 o47 n48 n49 (fun (o50 : Option Addr) (i51 : Int) (h52 : H) => if (i51 != 0) = true then ∃ (i53 : Int), hc h52 (Addr.mk n26 0 none) = some (Value.int IntKind.i64 i53) ∧ ∃ (i54 : Int), hc h52 ((Addr.mk n26 0 none).add 1) = some (Value.int IntKind.i64 i54) ∧ ∃ (i55 : Int), hc h52 ((Addr.mk n26 0 none).add 2) = some (Value.int IntKind.i64 i55) ∧ ∃ (i56 : Int), hc h52 ((Addr.mk n26 0 none).add 3) = some (Value.int IntKind.i64 i56) ∧ ∃ (i57 : Int), hc h52 ((Addr.mk n26 0 none).add 4) = some (Value.int IntKind.i64 i57) ∧ ∃ (i58 : Int), hc h52 ((Addr.mk n26 0 none).add 5) = some (Value.int IntKind.i64 i58) ∧ ∃ (i59 : Int), hc h52 ((Addr.mk n26 0 none).add 6) = some (Value.int IntKind.i64 i59) ∧ ∃ (o60 : Option Addr), ∃ (n61 : Nat), ∃ (n62 : Nat), hc h52 (Addr.mk n29 0 none) = some (Value.slice o60 n61 n62) ∧ ∃ (o63 : Option Addr), ∃ (n64 : Nat), ∃ (n65 : Nat), hc h52 ((Addr.mk n29 0 none).add 1) = some (Value.slice o63 n64 n65) ∧ ∃ (o66 : Option Addr), ∃ (n67 : Nat), ∃ (n68 : Nat), hc h52 ((Addr.mk n29 0 none).add 2) = some (Value.slice o66 n67 n68) ∧ c_portcullisref04_Lay i53 i54 i55 i56 i57 i58 i59 o60 n61 n62 o63 n64 n65 o66 n67 n68 (fun (o69 : Option Addr) (i70 : Int) (h71 : H) => if o50.isNone = true then Q (i51 == i70) h71 else Q false h71) h52 else if o50.isNone = true then Q false h52 else ∃ (p72 : Addr), o50 = some p72 ∧ c_store_Mount p72 (fun (o73 : Option Addr) (i74 : Int) (h75 : H) => ∃ (p76 : Addr), o50 = some p76 ∧ c_store_Mount p76 (fun (o77 : Option Addr) (i78 : Int) (h79 : H) => ∀ (J80 : List SV → H → Prop), (∀ (h81 : H), (∃ (i82 : Int), hc h81 ((Addr.mk n26 0 none).add 1) = some (Value.int IntKind.i64 i82) ∧ ∃ (p83 : Addr), o73 = some p83 ∧ c_portcullislaw10_values p83 i82 (fun (o84 : Option Addr) (n85 n86 : Nat) (b87 : Bool) (h88 : H) => ∃ (i89 : Int), hc h88 ((Addr.mk n26 0 none).add 1) = some (Value.int IntKind.i64 i89) ∧ ∃ (p90 : Addr), o77 = some p90 ∧ c_portcullislaw10_values p90 i89 (fun (o91 : Option Addr) (n92 n93 : Nat) (b94 : Bool) (h95 : H) => ∀ (J96 : List SV → H → Prop), (∀ (h97 : H), (∀ (J98 : List SV → H → Prop), (∀ (i99 : Int) (h100 : H), (∃ (i101 : Int), hc h100 ((Addr.mk n26 0 none).add 1) = some (Value.int IntKind.i64 i101) ∧ if ltI i99 i101 = true then ∀ (J102 : List SV → H → Prop), (∀ (i103 i104 : Int) (h105 : H), (∃ (i106 : Int), hc h105 ((Addr.mk n26 0 none).add 2) = some (Value.int IntKind.i64 i106) ∧ if ltI i104 i106 = true then ∃ (o107 : Option Addr), ∃ (n108 : Nat), ∃ (n109 : Nat), hc h105 ((Addr.mk n29 0 none).add 2) = some (Value.slice o107 n108 n109) ∧ ∃ (i110 : Int), hc h105 ((Addr.mk n26 0 none).add 2) = some (Value.int IntKind.i64 i110) ∧ ∃ (p111 : Addr), o107 = some p111 ∧ 0 ≤ IntKind.i64.wrap (IntKind.i64.wrap (i99 * i110) + i104) ∧ IntKind.i64.wrap (IntKind.i64.wrap (i99 * i110) + i104) < (↑n108 : Int) ∧ ∃ (b112 : Bool), hc h105 (p111.add ((IntKind.i64.wrap (IntKind.i64.wrap (i99 * i110) + i104)).toNat * 1)) = some (Value.bool b112) ∧ if b112 = true then J102 [SV.dv (DV.one (Value.int IntKind.i64 (IntKind.i64.wrap (i103 + 1)))), SV.dv (DV.one (Value.int IntKind.i64 (IntKind.i64.wrap (i104 + 1))))] h105 else J102 [SV.dv (DV.one (Value.int IntKind.i64 i103)), SV.dv (DV.one (Value.int IntKind.i64 (IntKind.i64.wrap (i104 + 1))))] h105 else ∃ (p113 : Addr), o84 = some p113 ∧ 0 ≤ i99 ∧ i99 < (↑n85 : Int) ∧ ∃ (i114 : Int), hc h105 (p113.add (i99.toNat * 1)) = some (Value.int IntKind.i64 i114) ∧ ∃ (p115 : Addr), o91 = some p115 ∧ 0 ≤ i99 ∧ i99 < (↑n92 : Int) ∧ ∃ (i116 : Int), hc h105 (p115.add (i99.toNat * 1)) = some (Value.int IntKind.i64 i116) ∧ if (i114 != i116) = true then Q false h105 else ∃ (p117 : Addr), o84 = some p117 ∧ 0 ≤ i99 ∧ i99 < (↑n85 : Int) ∧ ∃ (i118 : Int), hc h105 (p117.add (i99.toNat * 1)) = some (Value.int IntKind.i64 i118) ∧ ∃ (i119 : Int), hc h105 ((Addr.mk n26 0 none).add 3) = some (Value.int IntKind.i64 i119) ∧ if ltI i118 (IntKind.i64.wrap (i119 * i103)) = true then Q false h105 else J98 [SV.dv (DV.one (Value.int IntKind.i64 (IntKind.i64.wrap (i99 + 1))))] h105) → J102 [SV.dv (DV.one (Value.int IntKind.i64 i103)), SV.dv (DV.one (Value.int IntKind.i64 i104))] h105) → J102 [SV.dv (DV.one (Value.int IntKind.i64 0)), SV.dv (DV.one (Value.int IntKind.i64 0))] h100 else Q true h100) → J98 [SV.dv (DV.one (Value.int IntKind.i64 i99))] h100) → J98 [SV.dv (DV.one (Value.int IntKind.i64 0))] h97) → J96 [] h97) → if (!b87) = true then Q false h95 else if (!b94) = true then Q false h95 else ∃ (o126 : Option Addr), ∃ (n127 : Nat), ∃ (n128 : Nat), hc h95 (Addr.mk n29 0 none) = some (Value.slice o126 n127 n128) ∧ ∃ (o129 : Option Addr), ∃ (n130 : Nat), ∃ (n131 : Nat), hc h95 ((Addr.mk n29 0 none).add 1) = some (Value.slice o129 n130 n131) ∧ ∃ (o132 : Option Addr), ∃ (n133 : Nat), ∃ (n134 : Nat), hc h95 ((Addr.mk n29 0 none).add 2) = some (Value.slice o132 n133 n134) ∧ ∃ (p135 : Addr), o50 = some p135 ∧ c_chip_Chip_State p135 (fun (o136 : Option Addr) (n137 n138 : Nat) (o139 : Option Addr) (n140 n141 : Nat) (o142 : Option Addr) (n143 n144 : Nat) (h145 : H) => hcs h145 (Addr.mk n29 0 none) [Value.slice o126 n127 n128, Value.slice o129 n130 n131, Value.slice o132 n133 n134] ∧ c_portcullisref04_SameState o136 n137 n138 o139 n140 n141 o142 n143 n144 o126 n127 n128 o129 n130 n131 o132 n133 n134 (fun (b146 : Bool) (h147 : H) => if (!b146) = true then Q false h147 else J96 [] h147) h145) h95) h88) h81) → J80 [] h81) → if o73.isNone = true then Q false h79 else if o77.isNone = true then Q false h79 else if (i74 != 0) = true then Q false h79 else if (i78 != 0) = true then Q false h79 else ∃ (p150 : Addr), o50 = some p150 ∧ c_chip_Chip_Acts p150 (fun (i151 : Int) (h152 : H) => if (i151 != 0) = true then Q false h152 else J80 [] h152) h79) h75) h52) h33) h30
theorem E_portcullislaw10_StoreFuses (c_chip_Chip_Acts : Addr → (Int → H → Prop) → H → Prop) (c_chip_Lay : Int → Int → Int → Int → Int → Int → Int → (Option Addr) → Nat → Nat → (Option Addr) → Nat → Nat → (Option Addr) → Nat → Nat → ((Option Addr) → Int → H → Prop) → H → Prop) (c_chip_Chip_State : Addr → ((Option Addr) → Nat → Nat → (Option Addr) → Nat → Nat → (Option Addr) → Nat → Nat → H → Prop) → H → Prop) (c_portcullislaw10_awake : (Bool → H → Prop) → H → Prop) (c_portcullisref04_Lay : Int → Int → Int → Int → Int → Int → Int → (Option Addr) → Nat → Nat → (Option Addr) → Nat → Nat → (Option Addr) → Nat → Nat → ((Option Addr) → Int → H → Prop) → H → Prop) (c_store_Mount : Addr → ((Option Addr) → Int → H → Prop) → H → Prop) (c_portcullislaw10_values : Addr → Int → ((Option Addr) → Nat → Nat → Bool → H → Prop) → H → Prop) (c_portcullisref04_SameState : (Option Addr) → Nat → Nat → (Option Addr) → Nat → Nat → (Option Addr) → Nat → Nat → (Option Addr) → Nat → Nat → (Option Addr) → Nat → Nat → (Option Addr) → Nat → Nat → (Bool → H → Prop) → H → Prop) : ∀ (a0_0 : Int) (a0_1 : Int) (a0_2 : Int) (a0_3 : Int) (a0_4 : Int) (a0_5 : Int) (a0_6 : Int) (a1_0p : Option Addr) (a1_0l : Nat) (a1_0c : Nat) (a1_1p : Option Addr) (a1_1l : Nat) (a1_1c : Nat) (a1_2p : Option Addr) (a1_2l : Nat) (a1_2c : Nat) (Q : Bool → H → Prop) (h : H), G_portcullislaw10_StoreFuses c_chip_Chip_Acts c_chip_Lay c_chip_Chip_State c_portcullislaw10_awake c_portcullisref04_Lay c_store_Mount c_portcullislaw10_values c_portcullisref04_SameState a0_0 a0_1 a0_2 a0_3 a0_4 a0_5 a0_6 a1_0p a1_0l a1_0c a1_1p a1_1l a1_1c a1_2p a1_2l a1_2c Q h = Dbody PP [(16, W [.addr] [.int .i64] c_chip_Chip_Acts), (21, W [.ag [.int .i64, .int .i64, .int .i64, .int .i64, .int .i64, .int .i64, .int .i64], .ag [.slc, .slc, .slc]] [.ptr, .int .i64] c_chip_Lay), (24, W [.addr] [.ag [.slc, .slc, .slc]] c_chip_Chip_State), (31, W [] [.bool] c_portcullislaw10_awake), (32, W [.ag [.int .i64, .int .i64, .int .i64, .int .i64, .int .i64, .int .i64, .int .i64], .ag [.slc, .slc, .slc]] [.ptr, .int .i64] c_portcullisref04_Lay), (36, W [.addr] [.ptr, .int .i64] c_store_Mount), (40, W [.addr, .int .i64] [.slc, .bool] c_portcullislaw10_values), (41, W [.ag [.slc, .slc, .slc], .ag [.slc, .slc, .slc]] [.bool] c_portcullisref04_SameState)] [(255, []), (2047, []), (32762, [(16, .sc (.int .i64))]), (8387146, [(17, .sc (.int .i64)), (18, .sc (.int .i64))])] Try.f9 [.agg [.c (.int .i64 a0_0), .c (.int .i64 a0_1), .c (.int .i64 a0_2), .c (.int .i64 a0_3), .c (.int .i64 a0_4), .c (.int .i64 a0_5), .c (.int .i64 a0_6)], .agg [.c (.slice a1_0p a1_0l a1_0c), .c (.slice a1_1p a1_1l a1_1c), .c (.slice a1_2p a1_2l a1_2c)]] (decR [.bool] Q) h := by intros; kernel_rfl
def F_portcullislaw10_StoreFuses := G_portcullislaw10_StoreFuses F_chip_Chip_Acts F_chip_Lay F_chip_Chip_State F_portcullislaw10_awake F_portcullisref04_Lay F_store_Mount F_portcullislaw10_values F_portcullisref04_SameState
theorem R_portcullislaw10_StoreFuses : RunOk PP 9 (W [.ag [.int .i64, .int .i64, .int .i64, .int .i64, .int .i64, .int .i64, .int .i64], .ag [.slc, .slc, .slc]] [.bool] F_portcullislaw10_StoreFuses) := runOk_of (T := [(16, W [.addr] [.int .i64] F_chip_Chip_Acts), (21, W [.ag [.int .i64, .int .i64, .int .i64, .int .i64, .int .i64, .int .i64, .int .i64], .ag [.slc, .slc, .slc]] [.ptr, .int .i64] F_chip_Lay), (24, W [.addr] [.ag [.slc, .slc, .slc]] F_chip_Chip_State), (31, W [] [.bool] F_portcullislaw10_awake), (32, W [.ag [.int .i64, .int .i64, .int .i64, .int .i64, .int .i64, .int .i64, .int .i64], .ag [.slc, .slc, .slc]] [.ptr, .int .i64] F_portcullisref04_Lay), (36, W [.addr] [.ptr, .int .i64] F_store_Mount), (40, W [.addr, .int .i64] [.slc, .bool] F_portcullislaw10_values), (41, W [.ag [.slc, .slc, .slc], .ag [.slc, .slc, .slc]] [.bool] F_portcullisref04_SameState)]) (ann := [(255, []), (2047, []), (32762, [(16, .sc (.int .i64))]), (8387146, [(17, .sc (.int .i64)), (18, .sc (.int .i64))])]) (TblOk.cons R_chip_Chip_Acts (TblOk.cons R_chip_Lay (TblOk.cons R_chip_Chip_State (TblOk.cons R_portcullislaw10_awake (TblOk.cons R_portcullisref04_Lay (TblOk.cons R_store_Mount (TblOk.cons R_portcullislaw10_values (TblOk.cons R_portcullisref04_SameState (TblOk.nil))))))))) Try.func9 (by kernel_rfl) (by kernel_rfl) (E_portcullislaw10_StoreFuses F_chip_Chip_Acts F_chip_Lay F_chip_Chip_State F_portcullislaw10_awake F_portcullisref04_Lay F_store_Mount F_portcullislaw10_values F_portcullisref04_SameState)
attribute [irreducible] F_portcullislaw10_StoreFuses
def G_chip_Lay_1 (a0p : Option Addr) (a0l : Nat) (a0c : Nat) (a1 : Addr) (Q : Bool → H → Prop) (h : H) : Prop := ∃ (i6 : Int), hc h a1 = some (Value.int IntKind.i64 i6) ∧ Q ((↑a0l : Int) != i6) h
theorem E_chip_Lay_1  : ∀ (a0p : Option Addr) (a0l : Nat) (a0c : Nat) (a1 : Addr) (Q : Bool → H → Prop) (h : H), G_chip_Lay_1 a0p a0l a0c a1 Q h = Dbody PP [] [] Try.f59 [.one (.slice a0p a0l a0c), .addr a1] (decR [.bool] Q) h := by intros; kernel_rfl
def F_chip_Lay_1 := G_chip_Lay_1
theorem R_chip_Lay_1 : RunOk PP 59 (W [.slc, .addr] [.bool] F_chip_Lay_1) := runOk_of (T := []) (ann := []) (TblOk.nil) Try.func59 (by kernel_rfl) (by kernel_rfl) (E_chip_Lay_1)
attribute [irreducible] F_chip_Lay_1
def G_chip_Lay_2 (a0 : Int) (Q : Bool → H → Prop) (h : H) : Prop := Q (ltI a0 0) h
theorem E_chip_Lay_2  : ∀ (a0 : Int) (Q : Bool → H → Prop) (h : H), G_chip_Lay_2 a0 Q h = Dbody PP [] [] Try.f61 [.one (.int .i64 a0)] (decR [.bool] Q) h := by intros; kernel_rfl
def F_chip_Lay_2 := G_chip_Lay_2
theorem R_chip_Lay_2 : RunOk PP 61 (W [.int .i64] [.bool] F_chip_Lay_2) := runOk_of (T := []) (ann := []) (TblOk.nil) Try.func61 (by kernel_rfl) (by kernel_rfl) (E_chip_Lay_2)
attribute [irreducible] F_chip_Lay_2
def G_chip_Chip_begins_1 (a0 : Int) (Q : Int → H → Prop) (h : H) : Prop := Q 255 h
theorem E_chip_Chip_begins_1  : ∀ (a0 : Int) (Q : Int → H → Prop) (h : H), G_chip_Chip_begins_1 a0 Q h = Dbody PP [] [] Try.f107 [.one (.int .i64 a0)] (decR [.int .u8] Q) h := by intros; kernel_rfl
def F_chip_Chip_begins_1 := G_chip_Chip_begins_1
theorem R_chip_Chip_begins_1 : RunOk PP 107 (W [.int .i64] [.int .u8] F_chip_Chip_begins_1) := runOk_of (T := []) (ann := []) (TblOk.nil) Try.func107 (by kernel_rfl) (by kernel_rfl) (E_chip_Chip_begins_1)
attribute [irreducible] F_chip_Chip_begins_1
def G_chip_Chip_begins_2 (a0 : Int) (a1 : Addr) (Q : Int → H → Prop) (h : H) : Prop := ∃ (o4 : Option Addr), ∃ (n5 : Nat), ∃ (n6 : Nat), hc h a1 = some (Value.slice o4 n5 n6) ∧ if ((↑n5 : Int) == 0) = true then Q 0 h else ∃ (o7 : Option Addr), ∃ (n8 : Nat), ∃ (n9 : Nat), hc h a1 = some (Value.slice o7 n8 n9) ∧ ∃ (o10 : Option Addr), ∃ (n11 : Nat), ∃ (n12 : Nat), hc h a1 = some (Value.slice o10 n11 n12) ∧ (↑n11 : Int) ≠ 0 ∧ ∃ (p13 : Addr), o7 = some p13 ∧ 0 ≤ a0.tmod (↑n11 : Int) ∧ a0.tmod (↑n11 : Int) < (↑n8 : Int) ∧ ∃ (i14 : Int), hc h (p13.add ((a0.tmod (↑n11 : Int)).toNat * 1)) = some (Value.int IntKind.u8 i14) ∧ Q i14 h
theorem E_chip_Chip_begins_2  : ∀ (a0 : Int) (a1 : Addr) (Q : Int → H → Prop) (h : H), G_chip_Chip_begins_2 a0 a1 Q h = Dbody PP [] [] Try.f108 [.one (.int .i64 a0), .addr a1] (decR [.int .u8] Q) h := by intros; kernel_rfl
def F_chip_Chip_begins_2 := G_chip_Chip_begins_2
theorem R_chip_Chip_begins_2 : RunOk PP 108 (W [.int .i64, .addr] [.int .u8] F_chip_Chip_begins_2) := runOk_of (T := []) (ann := []) (TblOk.nil) Try.func108 (by kernel_rfl) (by kernel_rfl) (E_chip_Chip_begins_2)
attribute [irreducible] F_chip_Chip_begins_2
end Go.Proofs.Yteabcbpimjjdpaa
end

/- Blocks of memory as lists of cells, and what loads, stores and allocations do to them. Own work; generic over any program. -/
section
set_option linter.unusedVariables false
namespace Go.Vc

/-- Block b holds just these cells, and none of them is frozen. -/
def Blk (h : H) (b : Nat) (vs : List Value) : Prop :=
  ∃ t lo hi, h[b]? = some (.cells vs.toArray t (lo, hi)) ∧ ∀ i, i < vs.length → ¬ (lo ≤ i ∧ i < hi)

abbrev at_ (b o : Nat) : Addr := ⟨b, o, none⟩

@[simp] theorem add_mk (b o n : Nat) : (Addr.mk b o none).add n = Addr.mk b (o + n) none := by
  unfold Addr.add; split
  · rename_i h; subst h; rfl
  · rfl

theorem Blk.lt {h : H} {b : Nat} {vs : List Value} (k : Blk h b vs) : b < h.size := by
  obtain ⟨t, lo, hi, hb, _⟩ := k
  exact (Array.getElem?_eq_some_iff.1 hb).1
theorem Blk.of_eq {h h' : H} {b : Nat} {vs : List Value} (k : Blk h b vs) (e : h'[b]? = h[b]?) : Blk h' b vs := by
  obtain ⟨t, lo, hi, hb, hf⟩ := k
  exact ⟨t, lo, hi, by rw [e]; exact hb, hf⟩

theorem Blk.hc {h : H} {b : Nat} {vs : List Value} (k : Blk h b vs) (o : Nat) : hc h ⟨b, o, none⟩ = vs[o]? := by
  obtain ⟨t, lo, hi, hb, _⟩ := k
  simp [Vc.hc, hb]
theorem Blk.hf {h : H} {b : Nat} {vs : List Value} (k : Blk h b vs) {o : Nat} (ho : o < vs.length) : hf h ⟨b, o, none⟩ = false := by
  obtain ⟨t, lo, hi, hb, hfz⟩ := k
  have := hfz o ho
  simp only [Vc.hf, hb]
  simp only [Bool.and_eq_false_imp, decide_eq_true_eq, decide_eq_false_iff_not]
  intro h1 h2; exact this ⟨h1, h2⟩
theorem Blk.can {h : H} {b : Nat} {vs : List Value} (k : Blk h b vs) {o n : Nat} (ho : o + n ≤ vs.length) : hcan h ⟨b, o, none⟩ n := by
  intro i hi
  have hl : o + i < vs.length := by omega
  rw [add_mk, k.hc, k.hf hl]
  simp [List.getElem?_eq_getElem hl]
theorem Blk.hcs {h : H} {b : Nat} {vs : List Value} (k : Blk h b vs) {o : Nat} {xs : List Value} (e : ∀ i, i < xs.length → vs[o + i]? = xs[i]?) : hcs h ⟨b, o, none⟩ xs := by
  intro i v hv
  rw [add_mk, k.hc, e i (List.getElem?_eq_some_iff.1 hv).1, hv]

/-! ### Writing -/
/-- Cells put in the place of others. -/
def splice (vs : List Value) : Nat → List Value → List Value
  | _, [] => vs
  | o, x :: r => splice (vs.set o x) (o + 1) r
@[simp] theorem splice_nil (vs : List Value) (o : Nat) : splice vs o [] = vs := rfl
@[simp] theorem splice_cons (vs : List Value) (o : Nat) (x : Value) (r : List Value) : splice vs o (x :: r) = splice (vs.set o x) (o + 1) r := rfl
@[simp] theorem splice_length (vs : List Value) (o : Nat) (xs : List Value) : (splice vs o xs).length = vs.length := by
  induction xs generalizing vs o with
  | nil => rfl
  | cons x r ih => simp [ih]
theorem splice_get (vs : List Value) (o : Nat) (xs : List Value) (i : Nat) : (splice vs o xs)[i]? = if o ≤ i ∧ i < o + xs.length ∧ i < vs.length then xs[i - o]? else vs[i]? := by
  induction xs generalizing vs o with
  | nil =>
    have : ¬ (o ≤ i ∧ i < o + ([] : List Value).length ∧ i < vs.length) := by simp; omega
    rw [if_neg this]; rfl
  | cons x r ih =>
    rw [splice_cons, ih]
    simp only [List.length_cons, List.length_set]
    by_cases h1 : o = i
    · subst h1
      rw [if_neg (by omega)]
      by_cases h2 : o < vs.length
      · rw [if_pos (by omega)]; simp [h2]
      · rw [if_neg (by omega)]
        have : (vs.set o x) = vs := List.set_eq_of_length_le (by omega)
        rw [this]
    · rw [List.getElem?_set_ne h1]
      by_cases h2 : o + 1 ≤ i ∧ i < o + 1 + r.length ∧ i < vs.length
      · rw [if_pos h2, if_pos (by omega)]
        have : i - o = (i - (o + 1)) + 1 := by omega
        rw [this]; simp
      · rw [if_neg h2, if_neg (by omega)]
theorem splice_all (vs xs : List Value) (h : xs.length = vs.length) : splice vs 0 xs = xs := by
  apply List.ext_getElem?
  intro i
  rw [splice_get]
  split
  · simp
  · rename_i hn
    rw [List.getElem?_eq_none (by omega), List.getElem?_eq_none (by omega)]
theorem splice_append (a b c xs : List Value) (h : xs.length = b.length) : splice (a ++ b ++ c) a.length xs = a ++ xs ++ c := by
  apply List.ext_getElem?
  intro i
  rw [splice_get]
  simp only [List.length_append]
  split
  · rename_i hh
    rw [List.append_assoc, List.getElem?_append_right hh.1, List.getElem?_append_left (by omega)]
  · rename_i hh
    rw [List.append_assoc, List.append_assoc]
    by_cases h1 : i < a.length
    · rw [List.getElem?_append_left h1, List.getElem?_append_left h1]
    · rw [List.getElem?_append_right (by omega), List.getElem?_append_right (by omega)]
      by_cases h2 : i - a.length < b.length
      · omega
      · rw [List.getElem?_append_right (by omega), List.getElem?_append_right (by omega), h]

theorem hs_eq {h : H} {b : Nat} {vs : List Value} (k : Blk h b vs) (o : Nat) (v : Value) : Blk (hs h ⟨b, o, none⟩ v) b (vs.set o v) := by
  obtain ⟨t, lo, hi, hb, hfz⟩ := k
  refine ⟨t, lo, hi, ?_, by simpa using hfz⟩
  simp only [hs, Array.getElem?_modify, hb]
  simp
theorem hs_ne (h : H) (a : Addr) (v : Value) {x : Nat} (hx : x ≠ a.block) : (hs h a v)[x]? = h[x]? := by
  simp only [hs, Array.getElem?_modify]
  rw [if_neg (by omega)]
theorem hs_size (h : H) (a : Addr) (v : Value) : (hs h a v).size = h.size := by simp [hs]
theorem hwrFrom_blk {h : H} {b : Nat} {vs : List Value} (k : Blk h b vs) (o : Nat) (xs : List Value) (j : Nat) : Blk (hwrFrom h ⟨b, o, none⟩ j xs) b (splice vs (o + j) xs) := by
  induction xs generalizing h vs j with
  | nil => exact k
  | cons x r ih =>
    simp only [hwrFrom, splice_cons, add_mk]
    exact ih (hs_eq k (o + j) x) (j + 1)
theorem add_block (a : Addr) (n : Nat) : (a.add n).block = a.block := by unfold Addr.add; split <;> rfl
theorem hwrFrom_ne (h : H) (a : Addr) (j : Nat) (xs : List Value) {x : Nat} (hx : x ≠ a.block) : (hwrFrom h a j xs)[x]? = h[x]? := by
  induction xs generalizing h j with
  | nil => rfl
  | cons y r ih => simp only [hwrFrom]; rw [ih, hs_ne]; rw [add_block]; exact hx
theorem hwrFrom_size (h : H) (a : Addr) (j : Nat) (xs : List Value) : (hwrFrom h a j xs).size = h.size := by
  induction xs generalizing h j with
  | nil => rfl
  | cons y r ih => simp only [hwrFrom]; rw [ih, hs_size]
theorem Blk.wr {h : H} {b : Nat} {vs : List Value} (k : Blk h b vs) (o : Nat) (xs : List Value) : Blk (hwr h ⟨b, o, none⟩ xs) b (splice vs o xs) := hwrFrom_blk k o xs 0
theorem hwr_ne (h : H) (a : Addr) (xs : List Value) {x : Nat} (hx : x ≠ a.block) : (hwr h a xs)[x]? = h[x]? := hwrFrom_ne h a 0 xs hx
theorem hwr_size (h : H) (a : Addr) (xs : List Value) : (hwr h a xs).size = h.size := hwrFrom_size h a 0 xs
theorem Blk.wr_ne {h : H} {b : Nat} {vs : List Value} (k : Blk h b vs) {a : Addr} {xs : List Value} (hx : b ≠ a.block) : Blk (hwr h a xs) b vs := k.of_eq (hwr_ne h a xs hx)

/-! ### What is left alone -/
/-- From h to h' only these blocks, and new ones, may differ. -/
structure Ext (S : Nat → Prop) (h h' : H) : Prop where
  size : h.size ≤ h'.size
  eq : ∀ b, b < h.size → ¬ S b → h'[b]? = h[b]?
abbrev none_ : Nat → Prop := fun _ => False
theorem Ext.refl (S : Nat → Prop) (h : H) : Ext S h h := ⟨Nat.le_refl _, fun _ _ _ => rfl⟩
theorem Ext.trans {S : Nat → Prop} {h h' h'' : H} (a : Ext S h h') (b : Ext S h' h'') : Ext S h h'' :=
  ⟨Nat.le_trans a.size b.size, fun x hx hs => by rw [b.eq x (Nat.lt_of_lt_of_le hx a.size) hs, a.eq x hx hs]⟩
theorem Ext.mono {S T : Nat → Prop} {h h' : H} (a : Ext S h h') (st : ∀ b, b < h.size → S b → T b) : Ext T h h' :=
  ⟨a.size, fun x hx hs => a.eq x hx fun h => hs (st x hx h)⟩
/-- A change of blocks that are new, or allowed, is no change of old ones. -/
theorem Ext.comp {S T : Nat → Prop} {h h' h'' : H} (a : Ext S h h') (b : Ext T h' h'') (st : ∀ x, x < h.size → T x → S x) : Ext S h h'' :=
  ⟨Nat.le_trans a.size b.size, fun x hx hs => by rw [b.eq x (Nat.lt_of_lt_of_le hx a.size) (fun t => hs (st x hx t)), a.eq x hx hs]⟩
theorem Ext.blk {S : Nat → Prop} {h h' : H} (a : Ext S h h') {b : Nat} {vs : List Value} (k : Blk h b vs) (hb : ¬ S b) : Blk h' b vs := k.of_eq (a.eq b k.lt hb)
theorem Ext.wr (h : H) (b o : Nat) (xs : List Value) : Ext (fun x => x = b) h (hwr h ⟨b, o, none⟩ xs) :=
  ⟨by rw [hwr_size]; exact Nat.le_refl _, fun x _ hx => hwr_ne h _ xs hx⟩
theorem hnew.size {h h' : H} {b : Nat} {c : List Value} (n : hnew h b c h') : h'.size = h.size + 1 := by
  obtain ⟨_, t, lo, hi, _, rfl⟩ := n; simp
theorem hnew.b {h h' : H} {b : Nat} {c : List Value} (n : hnew h b c h') : b = h.size := n.1
theorem hnew.ext {h h' : H} {b : Nat} {c : List Value} (n : hnew h b c h') : Ext none_ h h' := by
  refine ⟨by rw [n.size]; omega, ?_⟩
  obtain ⟨_, t, lo, hi, _, rfl⟩ := n
  intro x hx _
  rw [Array.getElem?_push]; rw [if_neg (by omega)]
theorem hnew.blk {h h' : H} {b : Nat} {c : List Value} (n : hnew h b c h') : Blk h' b c := by
  obtain ⟨rfl, t, lo, hi, hf, rfl⟩ := n
  exact ⟨t, lo, hi, by simp, hf⟩
theorem Blk.ne {h : H} {b b' : Nat} {vs vs' : List Value} (k : Blk h b vs) (k' : ¬ b' < h.size) : b ≠ b' := fun e => k' (e ▸ k.lt)

/-! ### Rows of integers -/
@[simp] theorem ints_nil (k : IntKind) : ints k [] = [] := rfl
@[simp] theorem ints_cons (k : IntKind) (n : Int) (r : List Int) : ints k (n :: r) = .int k n :: ints k r := rfl
@[simp] theorem ints_length (k : IntKind) (ns : List Int) : (ints k ns).length = ns.length := by simp [ints]
@[simp] theorem ints_append (k : IntKind) (a b : List Int) : ints k (a ++ b) = ints k a ++ ints k b := by simp [ints]
theorem ints_get (k : IntKind) (ns : List Int) (i : Nat) : (ints k ns)[i]? = ns[i]?.map (Value.int k) := by simp [ints]
@[simp] theorem zeros_length (n : Nat) : (zeros n).length = n := by simp [zeros]
theorem Blk.hrow {h : H} {b : Nat} {vs : List Value} (k : Blk h b vs) {o : Nat} {kd : IntKind} {ns : List Int} (e : ∀ i, i < ns.length → vs[o + i]? = ns[i]?.map (Value.int kd)) : hrow h ⟨b, o, none⟩ kd ns := by
  apply k.hcs
  intro i hi
  rw [e i (by simpa using hi), ints_get]
@[simp] theorem oneCell_int (k : IntKind) (n : Int) : (Value.int k n).oneCell' = true := rfl
end Go.Vc
end

/- Slices: what they hold, who owns it, and appending. Own work; generic over any program. -/
section
set_option linter.unusedVariables false
namespace Go.Vc

theorem hc_congr {h h' : H} {a : Addr} (e : h'[a.block]? = h[a.block]?) : hc h' a = hc h a := by simp only [hc, e]
theorem hc_lt {h : H} {a : Addr} {v : Value} (e : hc h a = some v) : a.block < h.size := by
  rcases Nat.lt_or_ge a.block h.size with k | k
  · exact k
  · simp [hc, Array.getElem?_eq_none k] at e
theorem hc_ext {S : Nat → Prop} {h h' : H} (x : Ext S h h') {a : Addr} {v : Value} (e : hc h a = some v) (hs : ¬ S a.block) : hc h' a = some v := by
  rw [hc_congr (x.eq _ (hc_lt e) hs), e]
theorem hcs_ext {S : Nat → Prop} {h h' : H} (x : Ext S h h') {a : Addr} {vs : List Value} (e : hcs h a vs) (hs : ¬ S a.block) : hcs h' a vs := by
  intro i v hv
  exact hc_ext x (e i v hv) (by rw [add_block]; exact hs)
theorem hsv_ext {S : Nat → Prop} {h h' : H} (x : Ext S h h') {p : Option Addr} {sz l : Nat} {vs : List Value} (e : hsv h p sz l vs) (hs : ∀ q, p = some q → ¬ S q.block) : hsv h' p sz l vs := by
  obtain ⟨h1, h2, h3⟩ := e
  refine ⟨h1, h2, ?_⟩
  rcases h3 with h3 | ⟨q, hq, h3⟩
  · exact Or.inl h3
  · exact Or.inr ⟨q, hq, hcs_ext x h3 (hs q hq)⟩
theorem hsv_none {h : H} {sz l : Nat} {vs : List Value} (e : hsv h none sz l vs) : vs = [] := by
  obtain ⟨_, _, h3⟩ := e
  rcases h3 with h3 | ⟨q, hq, _⟩
  · exact h3
  · cases hq
theorem hsv_get {h : H} {p : Option Addr} {sz l : Nat} {vs : List Value} (e : hsv h p sz l vs) {i : Nat} {v : Value} (hi : vs[i]? = some v) : ∃ q, p = some q ∧ hc h (q.add i) = some v := by
  obtain ⟨_, _, h3⟩ := e
  rcases h3 with h3 | ⟨q, hq, h3⟩
  · subst h3; simp at hi
  · exact ⟨q, hq, h3 i v hi⟩
/-- A slice whose cells lie at the head of a block of their own (bs: that block, if there is one). -/
def OwnS (h : H) (p : Option Addr) (l c sz : Nat) (vs : List Value) (bs : List Nat) : Prop :=
  vs.length = l * sz ∧ l ≤ c ∧ (∀ v, v ∈ vs → v.oneCell' = true) ∧
    ((l = 0 ∧ c = 0 ∧ bs = []) ∨ ∃ b rest, p = some ⟨b, 0, none⟩ ∧ bs = [b] ∧ Blk h b (vs ++ rest) ∧ (c - l) * sz ≤ rest.length)
theorem OwnS.hsv {h : H} {p : Option Addr} {l c sz : Nat} {vs : List Value} {bs : List Nat} (o : OwnS h p l c sz vs bs) : hsv h p sz l vs := by
  obtain ⟨h1, h2, h3, h4⟩ := o
  refine ⟨h1, h3, ?_⟩
  rcases h4 with ⟨rfl, _, _⟩ | ⟨b, rest, rfl, _, k, _⟩
  · left; apply List.eq_nil_of_length_eq_zero; simp [h1]
  · right
    exact ⟨_, rfl, k.hcs fun i hi => by rw [Nat.zero_add, List.getElem?_append_left hi]⟩
theorem OwnS.lt {h : H} {p : Option Addr} {l c sz : Nat} {vs : List Value} {bs : List Nat} (o : OwnS h p l c sz vs bs) : ∀ b, b ∈ bs → b < h.size := by
  obtain ⟨_, _, _, h4⟩ := o
  rcases h4 with ⟨_, _, rfl⟩ | ⟨b, rest, _, rfl, k, _⟩
  · intro b hb; simp at hb
  · intro b' hb; simp at hb; subst hb; exact k.lt
theorem OwnS.ext {S : Nat → Prop} {h h' : H} (x : Ext S h h') {p : Option Addr} {l c sz : Nat} {vs : List Value} {bs : List Nat} (o : OwnS h p l c sz vs bs) (hs : ∀ b, b ∈ bs → ¬ S b) : OwnS h' p l c sz vs bs := by
  obtain ⟨h1, h2, h3, h4⟩ := o
  refine ⟨h1, h2, h3, ?_⟩
  rcases h4 with h4 | ⟨b, rest, hp, rfl, k, hr⟩
  · exact Or.inl h4
  · exact Or.inr ⟨b, rest, hp, rfl, x.blk k (hs b (by simp)), hr⟩
theorem OwnS.nil (h : H) (p : Option Addr) (sz : Nat) : OwnS h p 0 0 sz [] [] := ⟨by simp, Nat.le_refl _, by simp, Or.inl ⟨rfl, rfl, rfl⟩⟩

theorem flatten_replicate_length {α : Type} (n : Nat) (z : List α) : (List.replicate n z).flatten.length = n * z.length := by
  induction n with
  | zero => simp
  | succ n ih => simp [List.replicate_succ, Nat.succ_mul, ih]; omega

/-- Blocks that are new. -/
def newB (h : H) (bs : List Nat) : Prop := ∀ b, b ∈ bs → h.size ≤ b
theorem newB.ext {S : Nat → Prop} {h h' : H} (x : Ext S h h') {bs : List Nat} (n : newB h' bs) : newB h bs := fun b hb => Nat.le_trans x.size (n b hb)

/-- Cells are appended to an empty slice without room. -/
theorem pApp_empty {h : H} {sz : Nat} {z : List Value} {B : Nat} {p : Option Addr} {n : Nat} {vs : List Value} {K : Option Addr → Nat → Nat → H → Prop}
    (hl : vs.length = n * sz) (hz : z.length = sz) (hv : ∀ v, v ∈ vs → v.oneCell' = true) (hb : n * B ≤ 2 ^ 47)
    (hk : ∀ p' c' h' bs, Ext none_ h h' → OwnS h' p' n c' sz vs bs → newB h bs → K p' n c' h') : pApp h sz z B p 0 0 n vs K := by
  unfold pApp
  by_cases hn : n = 0
  · subst hn
    have hv0 : vs = [] := List.eq_nil_of_length_eq_zero (by simp [hl])
    subst hv0
    rw [if_pos (by simp)]
    refine ⟨Or.inl rfl, fun h' e => ?_⟩
    have e' : h' = h := by rw [e]; cases p <;> rfl
    subst e'
    exact hk _ _ _ [] (Ext.refl _ _) (OwnS.nil _ _ _) (by intro b hb; simp at hb)
  · rw [if_neg (by omega)]
    refine ⟨by simpa using hb, [], ⟨by simp, by simp, Or.inl rfl⟩, fun c' b h' hc hw => ?_⟩
    have : (0 + n) = n := by omega
    rw [this] at hc ⊢
    refine hk _ _ _ [b] hw.ext ⟨hl, hc, hv, Or.inr ⟨b, (List.replicate (c' - (0 + n)) z).flatten, rfl, rfl, ?_, ?_⟩⟩ ?_
    · simpa using hw.blk
    · rw [flatten_replicate_length, hz, this]; exact Nat.le_refl _
    · intro x hx; simp at hx; subst hx; rw [hw.b]; exact Nat.le_refl _

/-- Cells are appended to a slice that is owned. -/
theorem pApp_own {h : H} {sz : Nat} {z : List Value} {B : Nat} {p : Option Addr} {l c n : Nat} {old vs : List Value} {bs : List Nat} {K : Option Addr → Nat → Nat → H → Prop}
    (o : OwnS h p l c sz old bs) (hl : vs.length = n * sz) (hz : z.length = sz) (hv : ∀ v, v ∈ vs → v.oneCell' = true) (hb : (l + n) * B ≤ 2 ^ 47)
    (hk : ∀ p' c' h' bs', Ext (fun b => b ∈ bs) h h' → OwnS h' p' (l + n) c' sz (old ++ vs) bs' → (∀ b, b ∈ bs' → b ∈ bs ∨ h.size ≤ b) → K p' (l + n) c' h') : pApp h sz z B p l c n vs K := by
  have ohs := o.hsv
  have olt := o.lt
  obtain ⟨h1, h2, h3, h4⟩ := o
  have hov : ∀ v, v ∈ old ++ vs → v.oneCell' = true := by
    intro v hm; rcases List.mem_append.1 hm with hm | hm
    · exact h3 v hm
    · exact hv v hm
  have hlen : (old ++ vs).length = (l + n) * sz := by simp [h1, hl, Nat.add_mul]
  unfold pApp
  split
  · rename_i hroom
    rcases h4 with ⟨rfl, rfl, rfl⟩ | ⟨b, rest, rfl, rfl, k, hr⟩
    · have hn : n = 0 := by omega
      subst hn
      have hv0 : vs = [] := List.eq_nil_of_length_eq_zero (by simp [hl])
      have ho0 : old = [] := List.eq_nil_of_length_eq_zero (by simp [h1])
      subst hv0; subst ho0
      refine ⟨Or.inl rfl, fun h' e => ?_⟩
      have e' : h' = h := by rw [e]; cases p <;> rfl
      subst e'
      exact hk _ _ _ [] (Ext.refl _ _) (OwnS.nil _ _ _) (by intro b hb; simp at hb)
    · have hnr : n * sz ≤ rest.length := by
        have : n * sz ≤ (c - l) * sz := Nat.mul_le_mul_right _ (by omega)
        omega
      refine ⟨Or.inr ⟨_, rfl, ?_⟩, fun h' e => ?_⟩
      · rw [add_mk]; apply k.can; simp [h1]; omega
      · simp only [Option.map_some, hwrO, add_mk, Nat.zero_add] at e
        have hs : splice (old ++ rest) (l * sz) vs = (old ++ vs) ++ rest.drop (n * sz) := by
          have : old ++ rest = old ++ rest.take (n * sz) ++ rest.drop (n * sz) := by simp
          rw [this, ← h1, splice_append]
          simp [hl, Nat.min_eq_left hnr]
        have kb := k.wr (l * sz) vs
        rw [hs] at kb
        subst e
        refine hk _ _ _ [b] ⟨by rw [hwr_size]; exact Nat.le_refl _, fun x _ hx => hwr_ne _ _ _ (by simpa using hx)⟩ ⟨hlen, hroom, hov, Or.inr ⟨b, rest.drop (n * sz), rfl, rfl, kb, ?_⟩⟩ (fun x hx => Or.inl hx)
        simp
        have : c - (l + n) = (c - l) - n := by omega
        rw [this, Nat.sub_mul]; omega
  · rename_i hroom
    refine ⟨hb, old, ohs, fun c' b h' hc hw => ?_⟩
    refine hk _ _ _ [b] (hw.ext.mono fun _ _ hf => hf.elim) ⟨hlen, hc, hov, Or.inr ⟨b, (List.replicate (c' - (l + n)) z).flatten, rfl, rfl, ?_, ?_⟩⟩ ?_
    · exact hw.blk
    · rw [flatten_replicate_length, hz]; exact Nat.le_refl _
    · intro x hx; simp at hx; subst hx; right; rw [hw.b]; exact Nat.le_refl _
end Go.Vc
end

/- Loops that count up. Own work; generic over any program. -/
section
set_option linter.unusedVariables false
namespace Go.Vc
abbrev si (i : Nat) : SV := .dv (.one (.int .i64 (i : Int)))
theorem loop_up {J : List SV → H → Prop} (N : Nat) (Inv : Nat → H → Prop) (step : ∀ i h, i < N → Inv i h → (∀ h', Inv (i + 1) h' → J [si (i + 1)] h') → J [si i] h)
    (exit : ∀ h, Inv N h → J [si N] h) (i : Nat) (h : H) (hi : i ≤ N) (inv : Inv i h) : J [si i] h := by
  generalize e : N - i = n
  induction n generalizing i h with
  | zero =>
    have : i = N := by omega
    subst this; exact exit h inv
  | succ n ih => exact step i h (by omega) inv fun h' inv' => ih (i + 1) h' (by omega) inv' (by omega)
theorem wrap_succ {i : Nat} (h : i < 2 ^ 62) : IntKind.i64.wrap ((i : Int) + 1) = ((i + 1 : Nat) : Int) := by
  rw [IntKind.wrap_i64]; omega
theorem wrap_id {n : Int} (h : -(2 ^ 62) ≤ n ∧ n ≤ 2 ^ 62) : IntKind.i64.wrap n = n := by
  rw [IntKind.wrap_i64]; omega
/-- The first i entries are mapped. -/
def mapTo (g : Nat → Int → Int) (i : Nat) (ns : List Int) : List Int := ns.mapIdx fun j v => if j < i then g j v else v
@[simp] theorem mapTo_length (g : Nat → Int → Int) (i : Nat) (ns : List Int) : (mapTo g i ns).length = ns.length := by simp [mapTo]
theorem mapTo_get (g : Nat → Int → Int) (i : Nat) (ns : List Int) (j : Nat) : (mapTo g i ns)[j]? = ns[j]?.map fun v => if j < i then g j v else v := by simp [mapTo]
@[simp] theorem mapTo_zero (g : Nat → Int → Int) (ns : List Int) : mapTo g 0 ns = ns := by
  apply List.ext_getElem?; intro j; rw [mapTo_get]; simp
theorem mapTo_succ (g : Nat → Int → Int) (i : Nat) (ns : List Int) (hi : i < ns.length) : (mapTo g i ns).set i (g i ns[i]) = mapTo g (i + 1) ns := by
  apply List.ext_getElem?; intro j
  by_cases h : i = j
  · subst h; rw [List.getElem?_set_self (by simpa using hi), mapTo_get]; simp [hi]
  · rw [List.getElem?_set_ne h, mapTo_get, mapTo_get]
    congr 1; funext v
    by_cases h1 : j < i
    · rw [if_pos h1, if_pos (by omega)]
    · rw [if_neg h1, if_neg (by omega)]
theorem ints_set (k : IntKind) (ns : List Int) (i : Nat) (n : Int) : (ints k ns).set i (.int k n) = ints k (ns.set i n) := by simp [ints, List.map_set]
end Go.Vc
end

/- Assertions: a list of things that own blocks, none twice; all else is as it was in a base heap. Own work; generic over any program. -/
section
set_option linter.unusedVariables false
namespace Go.Vc

@[simp] theorem oneCell_slice (p : Option Addr) (l c : Nat) : (Value.slice p l c).oneCell' = true := rfl
@[simp] theorem oneCell_bool (b : Bool) : (Value.bool b).oneCell' = true := rfl
@[simp] theorem oneCell_ptr (p : Option Addr) : (Value.pointer p).oneCell' = true := rfl
@[simp] theorem oneCell_str (s : ByteArray) : (Value.string s).oneCell' = true := rfl

inductive Tag where
  | blk (b : Nat) (vs : List Value)
  | sl (p : Option Addr) (l c sz : Nat) (vs : List Value)
  | of (n : Nat)

/-- Something that lies in memory: what it says of a heap and of the blocks that it owns. -/
structure Ent where
  tag : Tag
  P : H → (Nat → Prop) → Prop
  st : ∀ {h h' : H} {f : Nat → Prop}, P h f → (∀ b, f b → h'[b]? = h[b]?) → P h' f
  lt : ∀ {h : H} {f : Nat → Prop} {b : Nat}, P h f → f b → b < h.size

def SatX : List Ent → H → (Nat → Prop) → Prop
  | [], _, O => ∀ b, ¬ O b
  | e :: A, h, O => ∃ f g, e.P h f ∧ SatX A h g ∧ (∀ b, f b → ¬ g b) ∧ (∀ b, O b ↔ f b ∨ g b)

theorem SatX.st {A : List Ent} {h h' : H} {O : Nat → Prop} (s : SatX A h O) (e : ∀ b, O b → h'[b]? = h[b]?) : SatX A h' O := by
  induction A generalizing O with
  | nil => exact s
  | cons x A ih =>
    obtain ⟨f, g, hp, hg, hd, ho⟩ := s
    exact ⟨f, g, x.st hp fun b hb => e b ((ho b).2 (Or.inl hb)), ih hg fun b hb => e b ((ho b).2 (Or.inr hb)), hd, ho⟩
theorem SatX.lt {A : List Ent} {h : H} {O : Nat → Prop} (s : SatX A h O) {b : Nat} (hb : O b) : b < h.size := by
  induction A generalizing O with
  | nil => exact absurd hb (s b)
  | cons x A ih =>
    obtain ⟨f, g, hp, hg, hd, ho⟩ := s
    rcases (ho b).1 hb with k | k
    · exact x.lt hp k
    · exact ih hg k
theorem SatX.iff {A : List Ent} {h : H} {O O' : Nat → Prop} (s : SatX A h O) (e : ∀ b, O b ↔ O' b) : SatX A h O' := by
  have : O = O' := funext fun b => propext (e b)
  exact this ▸ s
theorem SatX.append {A B : List Ent} {h : H} {O : Nat → Prop} : SatX (A ++ B) h O ↔ ∃ f g, SatX A h f ∧ SatX B h g ∧ (∀ b, f b → ¬ g b) ∧ (∀ b, O b ↔ f b ∨ g b) := by
  induction A generalizing O with
  | nil =>
    constructor
    · intro s; exact ⟨fun _ => False, O, fun _ x => x, s, fun _ x => x.elim, fun b => by simp⟩
    · rintro ⟨f, g, hf, hg, _, ho⟩
      refine hg.iff fun b => ?_
      rw [ho]; constructor
      · exact Or.inr
      · rintro (k | k)
        · exact absurd k (hf b)
        · exact k
  | cons x A ih =>
    constructor
    · rintro ⟨f, g, hp, hg, hd, ho⟩
      obtain ⟨f', g', h1, h2, h3, h4⟩ := ih.1 hg
      refine ⟨fun b => f b ∨ f' b, g', ⟨f, f', hp, h1, fun b k k' => hd b k ((h4 b).2 (Or.inl k')), fun b => Iff.rfl⟩, h2, ?_, ?_⟩
      · rintro b (k | k) k'
        · exact hd b k ((h4 b).2 (Or.inr k'))
        · exact h3 b k k'
      · intro b; rw [ho, h4, or_assoc]
    · rintro ⟨f, g, ⟨f1, f2, hp, h1, h2, h3⟩, hg, hd, ho⟩
      refine ⟨f1, fun b => f2 b ∨ g b, hp, ih.2 ⟨f2, g, h1, hg, fun b k k' => hd b ((h3 b).2 (Or.inr k)) k', fun b => Iff.rfl⟩, ?_, ?_⟩
      · rintro b k (k' | k')
        · exact h2 b k k'
        · exact hd b ((h3 b).2 (Or.inl k)) k'
      · intro b; rw [ho, h3, or_assoc]

/-- The thing at a place of the list. -/
inductive At : List Ent → Nat → Ent → Prop where
  | z {A : List Ent} {e : Ent} : At (e :: A) 0 e
  | s {A : List Ent} {e x : Ent} {i : Nat} : At A i e → At (x :: A) (i + 1) e
def put : List Ent → Nat → Ent → List Ent
  | [], _, _ => []
  | _ :: A, 0, e => e :: A
  | x :: A, i + 1, e => x :: put A i e
@[simp] theorem put_zero (x e : Ent) (A : List Ent) : put (x :: A) 0 e = e :: A := rfl
@[simp] theorem put_succ (x e : Ent) (A : List Ent) (i : Nat) : put (x :: A) (i + 1) e = x :: put A i e := rfl
theorem At.put {A : List Ent} {i : Nat} {e : Ent} (a : At A i e) (x : Ent) : At (Vc.put A i x) i x := by
  induction a with
  | z => exact .z
  | s _ ih => exact .s ih
theorem At.put_ne {A : List Ent} {i j : Nat} {e : Ent} (a : At A i e) (hj : i ≠ j) (x : Ent) : At (Vc.put A j x) i e := by
  induction a generalizing j with
  | z => cases j with
    | zero => exact absurd rfl hj
    | succ j => exact .z
  | s q ih => cases j with
    | zero => exact .s q
    | succ j => exact .s (ih (by omega))
@[simp] theorem put_put (A : List Ent) (i : Nat) (x y : Ent) : put (put A i x) i y = put A i y := by
  induction A generalizing i with
  | nil => rfl
  | cons a A ih => cases i with
    | zero => rfl
    | succ i => simp [ih]
theorem At.put_self {A : List Ent} {i : Nat} {e : Ent} (a : At A i e) : Vc.put A i e = A := by
  induction a with
  | z => rfl
  | s _ ih => simp [ih]

/-- A thing taken out of the list, and another one put in its place. -/
theorem SatX.take {A : List Ent} {i : Nat} {e : Ent} (a : At A i e) {h : H} {O : Nat → Prop} (s : SatX A h O) :
    ∃ f g : Nat → Prop, e.P h f ∧ (∀ b, f b → ¬ g b) ∧ (∀ b, O b ↔ f b ∨ g b) ∧
      ∀ (e' : Ent) (h' : H) (f' : Nat → Prop), e'.P h' f' → (∀ b, g b → h'[b]? = h[b]?) → (∀ b, f' b → ¬ g b) → SatX (Vc.put A i e') h' (fun b => f' b ∨ g b) := by
  induction a generalizing O with
  | z =>
    obtain ⟨f, g, hp, hg, hd, ho⟩ := s
    exact ⟨f, g, hp, hd, ho, fun e' h' f' hp' hsame hd' => ⟨f', g, hp', hg.st hsame, hd', fun b => Iff.rfl⟩⟩
  | s a ih =>
    obtain ⟨f, g, hp, hg, hd, ho⟩ := s
    obtain ⟨f1, g1, h1, h2, h3, h4⟩ := ih hg
    refine ⟨f1, fun b => f b ∨ g1 b, h1, ?_, ?_, ?_⟩
    · rintro b k (k' | k')
      · exact hd b k' ((h3 b).2 (Or.inl k))
      · exact h2 b k k'
    · intro b; rw [ho, h3]; constructor
      · rintro (k | k | k) <;> simp [k]
      · rintro (k | k | k) <;> simp [k]
    · intro e' h' f' hp' hsame hd'
      refine ⟨f, fun b => f' b ∨ g1 b, Ent.st _ hp fun b k => hsame b (Or.inl k), h4 e' h' f' hp' (fun b k => hsame b (Or.inr k)) (fun b k k' => hd' b k (Or.inr k')), ?_, ?_⟩
      · rintro b k (k' | k')
        · exact hd' b k' (Or.inl k)
        · exact hd b k ((h3 b).2 (Or.inr k'))
      · intro b; constructor
        · rintro (k | k | k) <;> simp [k]
        · rintro (k | k | k) <;> simp [k]

/-! ### With a base -/
/-- The things lie in new blocks; all blocks of the base heap are as they were. -/
def Sat (h0 : H) (A : List Ent) (h : H) : Prop := Ext none_ h0 h ∧ ∃ O, SatX A h O ∧ ∀ b, O b → h0.size ≤ b

theorem Sat.init (h : H) : Sat h [] h := ⟨Ext.refl _ _, fun _ => False, fun _ x => x, fun _ x => x.elim⟩
theorem Sat.ex {h0 h : H} {A : List Ent} (s : Sat h0 A h) : Ext none_ h0 h := s.1
theorem Sat.ext {h0 h h' : H} {A : List Ent} (s : Sat h0 A h) (x : Ext none_ h h') : Sat h0 A h' := by
  obtain ⟨s1, O, s2, s3⟩ := s
  exact ⟨s1.trans x, O, s2.st fun b hb => x.eq b (s2.lt hb) (fun y => y), s3⟩
theorem Sat.add {h0 h h' : H} {A : List Ent} (s : Sat h0 A h) (x : Ext none_ h h') {e : Ent} {f : Nat → Prop} (p : e.P h' f) (n : ∀ b, f b → h.size ≤ b) : Sat h0 (e :: A) h' := by
  obtain ⟨s1, O, s2, s3⟩ := s
  refine ⟨s1.trans x, fun b => f b ∨ O b, ⟨f, O, p, s2.st fun b hb => x.eq b (s2.lt hb) (fun y => y), ?_, fun b => Iff.rfl⟩, ?_⟩
  · intro b k k'; have := n b k; have := s2.lt k'; omega
  · rintro b (k | k)
    · have := n b k; have := s1.size; omega
    · exact s3 b k
theorem Sat.drop {h0 h : H} {A : List Ent} {e : Ent} (s : Sat h0 (e :: A) h) : Sat h0 A h := by
  obtain ⟨s1, O, ⟨f, g, _, hg, _, ho⟩, s3⟩ := s
  exact ⟨s1, g, hg, fun b hb => s3 b ((ho b).2 (Or.inr hb))⟩
theorem Sat.sub {h0 h : H} {A B : List Ent} (s : Sat h0 A h) (p : B.Sublist A) : Sat h0 B h := by
  obtain ⟨s1, O, s2, s3⟩ := s
  have : ∃ O', SatX B h O' ∧ ∀ b, O' b → O b := by
    clear s3
    induction p generalizing O with
    | slnil => exact ⟨O, s2, fun _ x => x⟩
    | cons a _ ih =>
      obtain ⟨f, g, hp, hg, hd, ho⟩ := s2
      obtain ⟨O', h1, h2⟩ := ih g hg
      exact ⟨O', h1, fun b hb => (ho b).2 (Or.inr (h2 b hb))⟩
    | cons_cons a _ ih =>
      obtain ⟨f, g, hp, hg, hd, ho⟩ := s2
      obtain ⟨O', h1, h2⟩ := ih g hg
      exact ⟨fun b => f b ∨ O' b, ⟨f, O', hp, h1, fun b k k' => hd b k (h2 b k'), fun b => Iff.rfl⟩, fun b hb => (ho b).2 (hb.imp id (h2 b))⟩
  obtain ⟨O', h1, h2⟩ := this
  exact ⟨s1, O', h1, fun b hb => s3 b (h2 b hb)⟩
theorem Sat.nil {h0 h : H} {A : List Ent} (s : Sat h0 A h) : Sat h0 [] h := ⟨s.1, fun _ => False, fun _ x => x, fun _ x => x.elim⟩
theorem Sat.perm {h0 h : H} {A B : List Ent} (s : Sat h0 A h) (p : A.Perm B) : Sat h0 B h := by
  obtain ⟨s1, O, s2, s3⟩ := s
  refine ⟨s1, O, ?_, s3⟩
  clear s3
  induction p generalizing O with
  | nil => exact s2
  | cons x _ ih =>
    obtain ⟨f, g, hp, hg, hd, ho⟩ := s2
    exact ⟨f, g, hp, ih g hg, hd, ho⟩
  | swap x y l =>
    obtain ⟨f, g, hp, ⟨f1, g1, hp1, hg1, hd1, ho1⟩, hd, ho⟩ := s2
    refine ⟨f1, fun b => f b ∨ g1 b, hp1, ⟨f, g1, hp, hg1, fun b k k' => hd b k ((ho1 b).2 (Or.inr k')), fun b => Iff.rfl⟩, ?_, ?_⟩
    · rintro b k (k' | k')
      · exact hd b k' ((ho1 b).2 (Or.inl k))
      · exact hd1 b k k'
    · intro b; rw [ho, ho1]; constructor
      · rintro (k | k | k) <;> simp [k]
      · rintro (k | k | k) <;> simp [k]
  | trans _ _ ih1 ih2 => exact ih2 O (ih1 O s2)
theorem Sat.takeK {h0 h : H} {A : List Ent} (s : Sat h0 A h) {i : Nat} {e : Ent} (a : At A i e) : ∃ f : Nat → Prop, e.P h f ∧ (∀ b, f b → h0.size ≤ b) ∧
    ∀ (h' : H) (e' : Ent) (f' : Nat → Prop), e'.P h' f' → (∀ b, f' b → f b ∨ h.size ≤ b) → Ext f h h' → Sat h0 (Vc.put A i e') h' := by
  obtain ⟨s1, O, s2, s3⟩ := s
  obtain ⟨f, g, hp, hd, ho, hk⟩ := s2.take a
  refine ⟨f, hp, fun b hb => s3 b ((ho b).2 (Or.inl hb)), fun h' e' f' hp' hn hx => ?_⟩
  have hg : ∀ b, g b → b < h.size := fun b hb => s2.lt ((ho b).2 (Or.inr hb))
  refine ⟨s1.comp hx (fun b hb hf => ?_), _, hk e' h' f' hp' (fun b hb => hx.eq b (hg b hb) (fun hf => hd b hf hb)) ?_, ?_⟩
  · have := s3 b ((ho b).2 (Or.inl hf)); omega
  · intro b k1 k2
    rcases hn b k1 with k | k
    · exact hd b k k2
    · have := hg b k2; omega
  · rintro b (k1 | k1)
    · rcases hn b k1 with k | k
      · exact s3 b ((ho b).2 (Or.inl k))
      · have := s1.size; omega
    · exact s3 b ((ho b).2 (Or.inr k1))
theorem Sat.take {h0 h : H} {A : List Ent} (s : Sat h0 A h) {i : Nat} {e : Ent} (a : At A i e) : ∃ f, e.P h f ∧ ∀ b, f b → h0.size ≤ b := by
  obtain ⟨f, h1, h2, _⟩ := s.takeK a
  exact ⟨f, h1, h2⟩
/-- One thing becomes another one: only its own blocks, and new ones, change. -/
theorem Sat.upd {h0 h h' : H} {A : List Ent} (s : Sat h0 A h) {i : Nat} {e e' : Ent} (a : At A i e)
    (k : ∀ f, e.P h f → ∃ f', e'.P h' f' ∧ (∀ b, f' b → f b ∨ h.size ≤ b) ∧ Ext f h h') : Sat h0 (Vc.put A i e') h' := by
  obtain ⟨f, hp, _, hk⟩ := s.takeK a
  obtain ⟨f', h1, h2, h3⟩ := k f hp
  exact hk h' e' f' h1 h2 h3
/-- The same heap, read otherwise. -/
theorem Sat.as {h0 h : H} {A : List Ent} (s : Sat h0 A h) {i : Nat} {e e' : Ent} (a : At A i e) (k : ∀ f, e.P h f → e'.P h f) : Sat h0 (Vc.put A i e') h :=
  s.upd a fun f hp => ⟨f, k f hp, fun _ => Or.inl, Ext.refl _ _⟩

/-! ### A block; a slice -/
@[irreducible] def blkP (b : Nat) (vs : List Value) (h : H) (f : Nat → Prop) : Prop := Blk h b vs ∧ ∀ x, f x ↔ x = b
def blk (b : Nat) (vs : List Value) : Ent where
  tag := .blk b vs
  P := blkP b vs
  st := by unfold blkP; rintro h h' f ⟨k, e⟩ hs; exact ⟨k.of_eq (hs b ((e b).2 rfl)), e⟩
  lt := by unfold blkP; rintro h f x ⟨k, e⟩ hx; rw [(e x).1 hx]; exact k.lt
theorem blk_P {b : Nat} {vs : List Value} {h : H} {f : Nat → Prop} : (blk b vs).P h f ↔ Blk h b vs ∧ ∀ x, f x ↔ x = b := by
  show blkP b vs h f ↔ _; unfold blkP; rfl
@[irreducible] def slP (p : Option Addr) (l c sz : Nat) (vs : List Value) (h : H) (f : Nat → Prop) : Prop := ∃ bs, OwnS h p l c sz vs bs ∧ ∀ x, f x ↔ x ∈ bs
def slE (p : Option Addr) (l c sz : Nat) (vs : List Value) : Ent where
  tag := .sl p l c sz vs
  P := slP p l c sz vs
  st := by
    unfold slP; rintro h h' f ⟨bs, ⟨h1, h2, h3, h4⟩, e⟩ hs
    refine ⟨bs, ⟨h1, h2, h3, ?_⟩, e⟩
    rcases h4 with h4 | ⟨b, rest, e1, rfl, k, e2⟩
    · exact Or.inl h4
    · exact Or.inr ⟨b, rest, e1, rfl, k.of_eq (hs b ((e b).2 (by simp))), e2⟩
  lt := by unfold slP; rintro h f x ⟨bs, o, e⟩ hx; exact o.lt x ((e x).1 hx)
theorem slE_P {p : Option Addr} {l c sz : Nat} {vs : List Value} {h : H} {f : Nat → Prop} : (slE p l c sz vs).P h f ↔ ∃ bs, OwnS h p l c sz vs bs ∧ ∀ x, f x ↔ x ∈ bs := by
  show slP p l c sz vs h f ↔ _; unfold slP; rfl
@[irreducible] def exP {α : Type} (φ : α → Prop) (F : α → List Ent) (h : H) (f : Nat → Prop) : Prop := ∃ a, φ a ∧ SatX (F a) h f
/-- Things whose places nobody need know. -/
def exE {α : Type} (n : Nat) (φ : α → Prop) (F : α → List Ent) : Ent where
  tag := .of n
  P := exP φ F
  st := by unfold exP; rintro h h' f ⟨a, ha, s⟩ hs; exact ⟨a, ha, s.st hs⟩
  lt := by unfold exP; rintro h f x ⟨a, ha, s⟩ hx; exact s.lt hx
theorem exE_P {α : Type} {n : Nat} {φ : α → Prop} {F : α → List Ent} {h : H} {f : Nat → Prop} : (exE n φ F).P h f ↔ ∃ a, φ a ∧ SatX (F a) h f := by
  show exP φ F h f ↔ _; unfold exP; rfl
theorem Sat.open_ {h0 h : H} {A : List Ent} {α : Type} {n : Nat} {φ : α → Prop} {F : α → List Ent} (s : Sat h0 (exE n φ F :: A) h) : ∃ a, φ a ∧ Sat h0 (F a ++ A) h := by
  obtain ⟨s1, O, ⟨f, g, hp, hg, hd, ho⟩, s3⟩ := s
  obtain ⟨a, ha, s⟩ := exE_P.1 hp
  exact ⟨a, ha, s1, O, SatX.append.2 ⟨f, g, s, hg, hd, ho⟩, s3⟩
theorem Sat.close {h0 h : H} {A : List Ent} {α : Type} {n : Nat} {φ : α → Prop} {F : α → List Ent} (a : α) (ha : φ a) (s : Sat h0 (F a ++ A) h) : Sat h0 (exE n φ F :: A) h := by
  obtain ⟨s1, O, s2, s3⟩ := s
  obtain ⟨f, g, hf, hg, hd, ho⟩ := SatX.append.1 s2
  exact ⟨s1, O, ⟨f, g, exE_P.2 ⟨a, ha, hf⟩, hg, hd, ho⟩, s3⟩
/-- Moved to the front. -/
def del : List Ent → Nat → List Ent
  | [], _ => []
  | _ :: A, 0 => A
  | x :: A, i + 1 => x :: del A i
theorem At.perm {A : List Ent} {i : Nat} {e : Ent} (a : At A i e) : A.Perm (e :: del A i) := by
  induction a with
  | z => exact .refl _
  | s _ ih => exact (ih.cons _).trans (.swap _ _ _)
theorem At.perm_put {A : List Ent} {i : Nat} {e : Ent} (a : At A i e) (x : Ent) : (x :: del A i).Perm (Vc.put A i x) := by
  induction a with
  | z => exact .refl _
  | s _ ih => exact (List.Perm.swap _ _ _).trans (ih.cons _)
theorem Sat.front {h0 h : H} {A : List Ent} (s : Sat h0 A h) {i : Nat} {e : Ent} (a : At A i e) : Sat h0 (e :: del A i) h := s.perm a.perm
theorem Sat.back {h0 h : H} {A : List Ent} {i : Nat} {e x : Ent} (a : At A i e) (s : Sat h0 (x :: del A i) h) : Sat h0 (Vc.put A i x) h := s.perm (a.perm_put x)

/-! ### Steps -/
theorem Sat.new {h0 h h' : H} {A : List Ent} (s : Sat h0 A h) {b : Nat} {vs : List Value} (n : hnew h b vs h') : Sat h0 (blk b vs :: A) h' :=
  s.add n.ext (blk_P.2 ⟨n.blk, fun _ => Iff.rfl⟩) fun x hx => by rw [hx, n.b]; exact Nat.le_refl _
theorem Sat.blkOf {h0 h : H} {A : List Ent} (s : Sat h0 A h) {i b : Nat} {vs : List Value} (a : At A i (blk b vs)) : Blk h b vs := by
  obtain ⟨f, hp, _⟩ := s.take a
  exact (blk_P.1 hp).1
theorem Sat.old {h0 h : H} {A : List Ent} (s : Sat h0 A h) {i b : Nat} {vs : List Value} (a : At A i (blk b vs)) : h0.size ≤ b := by
  obtain ⟨f, hp, hl⟩ := s.take a
  exact hl b (((blk_P.1 hp).2 b).2 rfl)
theorem Sat.ld {h0 h : H} {A : List Ent} (s : Sat h0 A h) {i b : Nat} {vs : List Value} (a : At A i (blk b vs)) {o : Nat} {v : Value} (e : vs[o]? = some v) : hc h ⟨b, o, none⟩ = some v := by
  rw [(s.blkOf a).hc, e]
theorem Sat.cs1 {h0 h : H} {A : List Ent} (s : Sat h0 A h) {i b : Nat} {vs : List Value} (a : At A i (blk b vs)) {o : Nat} {xs : List Value} (e : ∀ i, i < xs.length → vs[o + i]? = xs[i]?) : hcs h ⟨b, o, none⟩ xs := (s.blkOf a).hcs e
theorem Sat.cs {h0 h : H} {A : List Ent} (s : Sat h0 A h) {i b : Nat} {vs : List Value} (a : At A i (blk b vs)) {o : Nat} {xs : List Value} (e : (vs.drop o).take xs.length = xs) : hcs h ⟨b, o, none⟩ xs := by
  refine s.cs1 a fun i hi => ?_
  have : ((vs.drop o).take xs.length)[i]? = xs[i]? := by rw [e]
  rw [List.getElem?_take_of_lt hi, List.getElem?_drop] at this
  exact this
theorem Sat.row {h0 h : H} {A : List Ent} (s : Sat h0 A h) {i b : Nat} {vs : List Value} (a : At A i (blk b vs)) {o : Nat} {k : IntKind} {ns : List Int} (e : ∀ i, i < ns.length → vs[o + i]? = ns[i]?.map (Value.int k)) : hrow h ⟨b, o, none⟩ k ns := (s.blkOf a).hrow e
theorem Sat.can {h0 h : H} {A : List Ent} (s : Sat h0 A h) {i b : Nat} {vs : List Value} (a : At A i (blk b vs)) {o n : Nat} (e : o + n ≤ vs.length) : hcan h ⟨b, o, none⟩ n := (s.blkOf a).can e
theorem Sat.wr {h0 h h' : H} {A : List Ent} (s : Sat h0 A h) {i b : Nat} {vs : List Value} (a : At A i (blk b vs)) {o : Nat} {xs : List Value} (e : h' = hwr h ⟨b, o, none⟩ xs) : Sat h0 (Vc.put A i (blk b (splice vs o xs))) h' := by
  subst e
  refine s.upd a fun f hp => ?_
  obtain ⟨k, hf⟩ := blk_P.1 hp
  refine ⟨f, blk_P.2 ⟨k.wr o xs, hf⟩, fun _ => Or.inl, (Ext.wr h b o xs).mono fun x _ hx => (hf x).2 hx⟩
theorem Sat.sv {h0 h : H} {A : List Ent} (s : Sat h0 A h) {i : Nat} {p : Option Addr} {l c sz : Nat} {vs : List Value} (a : At A i (slE p l c sz vs)) : hsv h p sz l vs := by
  obtain ⟨f, hp, _⟩ := s.take a
  obtain ⟨bs, o, _⟩ := slE_P.1 hp
  exact o.hsv
theorem Sat.base {h0 h : H} {A : List Ent} (s : Sat h0 A h) {p : Option Addr} {sz l : Nat} {vs : List Value} (e : hsv h0 p sz l vs) : hsv h p sz l vs := hsv_ext s.1 e fun _ _ x => x
theorem Sat.own {h0 h h' : H} {A : List Ent} (s : Sat h0 A h) (x : Ext none_ h h') {p : Option Addr} {l c sz : Nat} {vs : List Value} {bs : List Nat} (o : OwnS h' p l c sz vs bs) (n : newB h bs) : Sat h0 (slE p l c sz vs :: A) h' :=
  s.add x (f := fun x => x ∈ bs) (slE_P.2 ⟨bs, o, fun _ => Iff.rfl⟩) n
/-- Cells are appended to a slice that is owned. -/
theorem Sat.app {h0 h : H} {A : List Ent} (s : Sat h0 A h) {i : Nat} {p : Option Addr} {l c n sz : Nat} {old vs z : List Value} {B : Nat} (a : At A i (slE p l c sz old)) {K : Option Addr → Nat → Nat → H → Prop}
    (hl : vs.length = n * sz) (hz : z.length = sz) (hv : ∀ v, v ∈ vs → v.oneCell' = true) (hb : (l + n) * B ≤ 2 ^ 47)
    (k : ∀ p' c' h', Sat h0 (Vc.put A i (slE p' (l + n) c' sz (old ++ vs))) h' → K p' (l + n) c' h') : pApp h sz z B p l c n vs K := by
  obtain ⟨f, hp, _, hk⟩ := s.takeK a
  obtain ⟨bs, o, hf⟩ := slE_P.1 hp
  refine pApp_own o hl hz hv hb fun p' c' h' bs' hx ho hn => k _ _ _ ?_
  refine hk h' _ (fun x => x ∈ bs') (slE_P.2 ⟨bs', ho, fun _ => Iff.rfl⟩) (fun b hb => ?_) (hx.mono fun x _ hx => (hf x).2 hx)
  rcases hn b hb with h1 | h1
  · exact Or.inl ((hf b).2 h1)
  · exact Or.inr h1
/-- Cells appended to an empty slice without room. -/
theorem Sat.app_new {h0 h : H} {A : List Ent} (s : Sat h0 A h) {p : Option Addr} {n sz : Nat} {vs z : List Value} {B : Nat} {K : Option Addr → Nat → Nat → H → Prop}
    (hl : vs.length = n * sz) (hz : z.length = sz) (hv : ∀ v, v ∈ vs → v.oneCell' = true) (hb : n * B ≤ 2 ^ 47)
    (k : ∀ p' c' h', Sat h0 (slE p' n c' sz vs :: A) h' → K p' n c' h') : pApp h sz z B p 0 0 n vs K :=
  pApp_empty hl hz hv hb fun p' c' h' bs x o nb => k p' c' h' (s.own x o nb)
theorem At.app {A B : List Ent} {i : Nat} {e : Ent} (a : At A i e) : At (A ++ B) i e := by
  induction a with
  | z => exact .z
  | s _ ih => exact .s ih
theorem At.get {A : List Ent} {i : Nat} {e : Ent} (h : A[i]? = some e) : At A i e := by
  induction A generalizing i with
  | nil => simp at h
  | cons x A ih => cases i with
    | zero => simp at h; subst h; exact .z
    | succ i => exact .s (ih (by simpa using h))
theorem At.mem {A : List Ent} {e : Ent} (h : e ∈ A) : ∃ i, At A i e := by
  obtain ⟨i, hi⟩ := List.mem_iff_getElem?.1 h
  exact ⟨i, At.get hi⟩

end Go.Vc
end
