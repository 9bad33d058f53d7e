/- LogWhole: what is proved and its parts, laid together by a program of ours: F Hp Hs Lp Sl Mt Rd Re -/
import Derived.ProofKit
import Derived.SizedLaws
import Derived.Test.YteabcbpimjjdpaaK5
set_option autoImplicit false
set_option linter.all false
/- Denotations of functions of the program, printed by a program of ours, and that they are the model's. -/
section
set_option linter.unusedVariables false
set_option maxRecDepth 100000
namespace Go.Proofs.Yteabcbpimjjdpaa
open Go Go.Vc
def G_portcullislaw09_LogWhole (c_portcullislaw09_fixed : (Bool → H → Prop) → H → Prop) (c_log_Mount : Addr → (Option Addr → Int → H → Prop) → H → Prop) (c_portcullislaw09_round : Int → Int → (Int → H → Prop) → H → Prop) (c_chip_Chip_Acts : Addr → (Int → H → Prop) → H → Prop) (c_chip_Chip_Cut : Addr → Int → Option Addr → Nat → Nat → (H → Prop) → H → Prop) (c_log_Log_Lay : Addr → Int → Int → (Int → H → Prop) → H → Prop) (c_chip_Chip_Restore : Addr → (H → Prop) → H → Prop) (c_chip_Lay : Int → Int → Int → Int → Int → Int → Int → Option Addr → Nat → Nat → Option Addr → Nat → Nat → Option Addr → Nat → Nat → (Option Addr → Int → H → Prop) → H → Prop) (c_portcullisref08_Sound : Option Addr → Nat → Nat → (Bool → H → Prop) → H → Prop) (c_portcullislaw09_numbers : Addr → Int → (Option Addr → Nat → Nat → Bool → H → Prop) → H → Prop) (c_chip_Chip_State : Addr → (Option Addr → Nat → Nat → Option Addr → Nat → Nat → Option Addr → Nat → Nat → H → Prop) → H → Prop) (a0_0 : Int) (a0_1 : Int) (a0_2 : Int) (a0_3 : Int) (a0_4 : Int) (a0_5 : Int) (a0_6 : Int) (a1_0p : Option Addr) (a1_0l : Nat) (a1_0c : Nat) (a1_1p : Option Addr) (a1_1l : Nat) (a1_1c : Nat) (a1_2p : Option Addr) (a1_2l : Nat) (a1_2c : Nat) (a2p : Option Addr) (a2l : Nat) (a2c : Nat) (Q : Bool → H → Prop) (h : H) : Prop := ∀ (n32 : Nat) (h33 : H), hnew h n32 [Value.int IntKind.i64 a0_0, Value.int IntKind.i64 a0_1, Value.int IntKind.i64 a0_2, Value.int IntKind.i64 a0_3, Value.int IntKind.i64 a0_4, Value.int IntKind.i64 a0_5, Value.int IntKind.i64 a0_6] h33 → ∀ (n35 : Nat) (h36 : H), hnew h33 n35 [Value.slice a1_0p a1_0l a1_0c, Value.slice a1_1p a1_1l a1_1c, Value.slice a1_2p a1_2l a1_2c] h36 → c_portcullislaw09_fixed (fun (b38 : Bool) (h39 : H) => ∃ (i40 : Int), hc h39 (Addr.mk n32 0 none) = some (Value.int IntKind.i64 i40) ∧ ∃ (i41 : Int), hc h39 ((Addr.mk n32 0 none).add 1) = some (Value.int IntKind.i64 i41) ∧ ∃ (i42 : Int), hc h39 ((Addr.mk n32 0 none).add 2) = some (Value.int IntKind.i64 i42) ∧ ∃ (i43 : Int), hc h39 ((Addr.mk n32 0 none).add 3) = some (Value.int IntKind.i64 i43) ∧ ∃ (i44 : Int), hc h39 ((Addr.mk n32 0 none).add 4) = some (Value.int IntKind.i64 i44) ∧ ∃ (i45 : Int), hc h39 ((Addr.mk n32 0 none).add 5) = some (Value.int IntKind.i64 i45) ∧ ∃ (i46 : Int), hc h39 ((Addr.mk n32 0 none).add 6) = some (Value.int IntKind.i64 i46) ∧ ∃ (o47 : Option Addr), ∃ (n48 : Nat), ∃ (n49 : Nat), hc h39 (Addr.mk n35 0 none) = some (Value.slice o47 n48 n49) ∧ ∃ (o50 : Option Addr), ∃ (n51 : Nat), ∃ (n52 : Nat), hc h39 ((Addr.mk n35 0 none).add 1) = some (Value.slice o50 n51 n52) ∧ ∃ (o53 : Option Addr), ∃ (n54 : Nat), ∃ (n55 : Nat), hc h39 ((Addr.mk n35 0 none).add 2) = some (Value.slice o53 n54 n55) ∧ c_chip_Lay i40 i41 i42 i43 i44 i45 i46 o47 n48 n49 o50 n51 n52 o53 n54 n55 (fun (o56 : Option Addr) (i57 : Int) (h58 : H) => ∀ (J59 : List SV → H → Prop), (∀ (h60 : H), (∃ (o61 : Option Addr), ∃ (n62 : Nat), ∃ (n63 : Nat), hc h60 (Addr.mk n35 0 none) = some (Value.slice o61 n62 n63) ∧ ∃ (p64 : Addr), o61 = some p64 ∧ (0 : Int) ≤ 0 ∧ 0 < (↑n62 : Int) ∧ ∃ (o65 : Option Addr), ∃ (n66 : Nat), ∃ (n67 : Nat), hc h60 p64 = some (Value.slice o65 n66 n67) ∧ c_portcullisref08_Sound o65 n66 n67 (fun (b68 : Bool) (h69 : H) => ∃ (o70 : Option Addr), ∃ (n71 : Nat), ∃ (n72 : Nat), hc h69 (Addr.mk n35 0 none) = some (Value.slice o70 n71 n72) ∧ ∃ (p73 : Addr), o70 = some p73 ∧ (0 : Int) ≤ 1 ∧ 1 < (↑n71 : Int) ∧ ∃ (o74 : Option Addr), ∃ (n75 : Nat), ∃ (n76 : Nat), hc h69 (p73.add 1) = some (Value.slice o74 n75 n76) ∧ c_portcullisref08_Sound o74 n75 n76 (fun (b77 : Bool) (h78 : H) => ∀ (J79 : List SV → H → Prop), (∀ (h80 : H), (∃ (p81 : Addr), o56 = some p81 ∧ c_log_Mount p81 (fun (o82 : Option Addr) (i83 : Int) (h84 : H) => ∀ (J85 : List SV → H → Prop), (∀ (h86 : H), (∃ (i87 : Int), hc h86 ((Addr.mk n32 0 none).add 1) = some (Value.int IntKind.i64 i87) ∧ ∃ (p88 : Addr), o82 = some p88 ∧ c_portcullislaw09_numbers p88 i87 (fun (o89 : Option Addr) (n90 n91 : Nat) (b92 : Bool) (h93 : H) => ∀ (J94 : List SV → H → Prop), (∀ (o95 o96 : Option Addr) (n97 n98 : Nat) (i99 : Int) (h100 : H), (if ltI i99 (↑a2l : Int) = true then if (!b92) = true then Q false h100 else ∃ (p101 : Addr), a2p = some p101 ∧ 0 ≤ i99 ∧ i99 < (↑a2l : Int) ∧ ∃ (i102 : Int), hc h100 (p101.add (i99.toNat * 4)) = some (Value.int IntKind.i64 i102) ∧ ∃ (i103 : Int), hc h100 ((Addr.mk n32 0 none).add 1) = some (Value.int IntKind.i64 i103) ∧ c_portcullislaw09_round i102 (IntKind.i64.wrap (i103 + 1)) (fun (i104 : Int) (h105 : H) => ∃ (p106 : Addr), o96 = some p106 ∧ 0 ≤ i104 ∧ i104 < (↑n97 : Int) ∧ ∃ (i107 : Int), hc h105 (p106.add (i104.toNat * 1)) = some (Value.int IntKind.i64 i107) ∧ ∀ (i108 : Int), i108 = 4611686018427387904 → if leI i108 i107 = true then J94 [SV.dv (DV.one (Value.pointer o95)), SV.dv (DV.one (Value.slice o96 n97 n98)), SV.dv (DV.one (Value.int IntKind.i64 (IntKind.i64.wrap (i99 + 1))))] h105 else ∃ (p110 : Addr), o96 = some p110 ∧ 0 ≤ i104 ∧ i104 < (↑n97 : Int) ∧ ∃ (i111 : Int), hc h105 (p110.add (i104.toNat * 1)) = some (Value.int IntKind.i64 i111) ∧ ∃ (p112 : Addr), a2p = some p112 ∧ 0 ≤ i99 ∧ i99 < (↑a2l : Int) ∧ ∃ (i113 : Int), hc h105 ((p112.add (i99.toNat * 4)).add 1) = some (Value.int IntKind.i64 i113) ∧ ∃ (p114 : Addr), o96 = some p114 ∧ 0 ≤ i104 ∧ i104 < (↑n97 : Int) ∧ ∃ (i115 : Int), hc h105 (p114.add (i104.toNat * 1)) = some (Value.int IntKind.i64 i115) ∧ ∀ (i116 : Int), i116 = 4611686018427387903 → c_portcullislaw09_round i113 1000 (fun (i118 : Int) (h119 : H) => hcs h119 (p114.add (i104.toNat * 1)) [Value.int IntKind.i64 i115] ∧ hcs h119 (p110.add (i104.toNat * 1)) [Value.int IntKind.i64 i111] ∧ ∃ (p120 : Addr), o56 = some p120 ∧ c_chip_Chip_Acts p120 (fun (i121 : Int) (h122 : H) => ∃ (p123 : Addr), a2p = some p123 ∧ 0 ≤ i99 ∧ i99 < (↑a2l : Int) ∧ ∃ (i124 : Int), hc h122 ((p123.add (i99.toNat * 4)).add 2) = some (Value.int IntKind.i64 i124) ∧ ∃ (p125 : Addr), a2p = some p125 ∧ 0 ≤ i99 ∧ i99 < (↑a2l : Int) ∧ ∃ (o126 : Option Addr), ∃ (n127 : Nat), ∃ (n128 : Nat), hc h122 ((p125.add (i99.toNat * 4)).add 3) = some (Value.slice o126 n127 n128) ∧ ∃ (p129 : Addr), o56 = some p129 ∧ c_chip_Chip_Cut p129 i124 o126 n127 n128 (fun (h130 : H) => ∃ (p131 : Addr), o95 = some p131 ∧ c_log_Log_Lay p131 i104 (IntKind.i64.wrap (IntKind.i64.wrap (i111 + 1) + if IntKind.i64.wrap (i116 - i115) < i118 then IntKind.i64.wrap (i116 - i115) else i118)) (fun (i132 : Int) (h133 : H) => ∀ (J134 : List SV → H → Prop), (∀ (h135 : H), (∃ (p136 : Addr), o56 = some p136 ∧ c_chip_Chip_Restore p136 (fun (h137 : H) => ∃ (p138 : Addr), o56 = some p138 ∧ c_chip_Chip_Cut p138 (-1) none 0 0 (fun (h139 : H) => ∃ (p140 : Addr), o56 = some p140 ∧ c_log_Mount p140 (fun (o141 : Option Addr) (i142 : Int) (h143 : H) => ∀ (J144 : List SV → H → Prop), (∀ (h145 : H), (∃ (i146 : Int), hc h145 ((Addr.mk n32 0 none).add 1) = some (Value.int IntKind.i64 i146) ∧ ∃ (p147 : Addr), o141 = some p147 ∧ c_portcullislaw09_numbers p147 i146 (fun (o148 : Option Addr) (n149 n150 : Nat) (b151 : Bool) (h152 : H) => ∃ (i153 : Int), hc h152 ((Addr.mk n32 0 none).add 1) = some (Value.int IntKind.i64 i153) ∧ ∃ (p154 : Addr), o141 = some p154 ∧ c_portcullislaw09_numbers p154 i153 (fun (o155 : Option Addr) (n156 n157 : Nat) (b158 : Bool) (h159 : H) => ∀ (J160 : List SV → H → Prop), (∀ (h161 : H), (∀ (J162 : List SV → H → Prop), (∀ (i163 : Int) (h164 : H), (if ltI i163 (↑n149 : Int) = true then ∃ (p165 : Addr), o155 = some p165 ∧ 0 ≤ i163 ∧ i163 < (↑n156 : Int) ∧ ∃ (i166 : Int), hc h164 (p165.add (i163.toNat * 1)) = some (Value.int IntKind.i64 i166) ∧ ∃ (p167 : Addr), o148 = some p167 ∧ 0 ≤ i163 ∧ i163 < (↑n149 : Int) ∧ ∃ (i168 : Int), hc h164 (p167.add (i163.toNat * 1)) = some (Value.int IntKind.i64 i168) ∧ if (i166 != i168) = true then Q false h164 else if (i163 != i104) = true then ∃ (p169 : Addr), o148 = some p169 ∧ 0 ≤ i163 ∧ i163 < (↑n149 : Int) ∧ ∃ (i170 : Int), hc h164 (p169.add (i163.toNat * 1)) = some (Value.int IntKind.i64 i170) ∧ ∃ (p171 : Addr), o96 = some p171 ∧ 0 ≤ i163 ∧ i163 < (↑n97 : Int) ∧ ∃ (i172 : Int), hc h164 (p171.add (i163.toNat * 1)) = some (Value.int IntKind.i64 i172) ∧ if (i170 != i172) = true then Q false h164 else if (i163 == i104) = true then ∃ (p173 : Addr), o148 = some p173 ∧ 0 ≤ i163 ∧ i163 < (↑n149 : Int) ∧ ∃ (i174 : Int), hc h164 (p173.add (i163.toNat * 1)) = some (Value.int IntKind.i64 i174) ∧ if (i174 != IntKind.i64.wrap (IntKind.i64.wrap (i111 + 1) + if IntKind.i64.wrap (i116 - i115) < i118 then IntKind.i64.wrap (i116 - i115) else i118)) = true then ∃ (p175 : Addr), o148 = some p175 ∧ 0 ≤ i163 ∧ i163 < (↑n149 : Int) ∧ ∃ (i176 : Int), hc h164 (p175.add (i163.toNat * 1)) = some (Value.int IntKind.i64 i176) ∧ ∃ (p177 : Addr), o96 = some p177 ∧ 0 ≤ i163 ∧ i163 < (↑n97 : Int) ∧ ∃ (i178 : Int), hc h164 (p177.add (i163.toNat * 1)) = some (Value.int IntKind.i64 i178) ∧ if (i176 != i178) = true then Q false h164 else if (i132 == 0) = true then Q false h164 else if (i132 == 9) = true then ∃ (p179 : Addr), o148 = some p179 ∧ 0 ≤ i163 ∧ i163 < (↑n149 : Int) ∧ ∃ (i180 : Int), hc h164 (p179.add (i163.toNat * 1)) = some (Value.int IntKind.i64 i180) ∧ ∃ (p181 : Addr), o96 = some p181 ∧ 0 ≤ i163 ∧ i163 < (↑n97 : Int) ∧ ∃ (i182 : Int), hc h164 (p181.add (i163.toNat * 1)) = some (Value.int IntKind.i64 i182) ∧ if (i180 != i182) = true then Q false h164 else J162 [SV.dv (DV.one (Value.int IntKind.i64 (IntKind.i64.wrap (i163 + 1))))] h164 else J162 [SV.dv (DV.one (Value.int IntKind.i64 (IntKind.i64.wrap (i163 + 1))))] h164 else if (i132 == 9) = true then ∃ (p183 : Addr), o148 = some p183 ∧ 0 ≤ i163 ∧ i163 < (↑n149 : Int) ∧ ∃ (i184 : Int), hc h164 (p183.add (i163.toNat * 1)) = some (Value.int IntKind.i64 i184) ∧ ∃ (p185 : Addr), o96 = some p185 ∧ 0 ≤ i163 ∧ i163 < (↑n97 : Int) ∧ ∃ (i186 : Int), hc h164 (p185.add (i163.toNat * 1)) = some (Value.int IntKind.i64 i186) ∧ if (i184 != i186) = true then Q false h164 else J162 [SV.dv (DV.one (Value.int IntKind.i64 (IntKind.i64.wrap (i163 + 1))))] h164 else J162 [SV.dv (DV.one (Value.int IntKind.i64 (IntKind.i64.wrap (i163 + 1))))] h164 else if (i132 == 9) = true then ∃ (p187 : Addr), o148 = some p187 ∧ 0 ≤ i163 ∧ i163 < (↑n149 : Int) ∧ ∃ (i188 : Int), hc h164 (p187.add (i163.toNat * 1)) = some (Value.int IntKind.i64 i188) ∧ ∃ (p189 : Addr), o96 = some p189 ∧ 0 ≤ i163 ∧ i163 < (↑n97 : Int) ∧ ∃ (i190 : Int), hc h164 (p189.add (i163.toNat * 1)) = some (Value.int IntKind.i64 i190) ∧ if (i188 != i190) = true then Q false h164 else J162 [SV.dv (DV.one (Value.int IntKind.i64 (IntKind.i64.wrap (i163 + 1))))] h164 else J162 [SV.dv (DV.one (Value.int IntKind.i64 (IntKind.i64.wrap (i163 + 1))))] h164 else if (i163 == i104) = true then ∃ (p191 : Addr), o148 = some p191 ∧ 0 ≤ i163 ∧ i163 < (↑n149 : Int) ∧ ∃ (i192 : Int), hc h164 (p191.add (i163.toNat * 1)) = some (Value.int IntKind.i64 i192) ∧ if (i192 != IntKind.i64.wrap (IntKind.i64.wrap (i111 + 1) + if IntKind.i64.wrap (i116 - i115) < i118 then IntKind.i64.wrap (i116 - i115) else i118)) = true then ∃ (p193 : Addr), o148 = some p193 ∧ 0 ≤ i163 ∧ i163 < (↑n149 : Int) ∧ ∃ (i194 : Int), hc h164 (p193.add (i163.toNat * 1)) = some (Value.int IntKind.i64 i194) ∧ ∃ (p195 : Addr), o96 = some p195 ∧ 0 ≤ i163 ∧ i163 < (↑n97 : Int) ∧ ∃ (i196 : Int), hc h164 (p195.add (i163.toNat * 1)) = some (Value.int IntKind.i64 i196) ∧ if (i194 != i196) = true then Q false h164 else if (i132 == 0) = true then Q false h164 else if (i132 == 9) = true then ∃ (p197 : Addr), o148 = some p197 ∧ 0 ≤ i163 ∧ i163 < (↑n149 : Int) ∧ ∃ (i198 : Int), hc h164 (p197.add (i163.toNat * 1)) = some (Value.int IntKind.i64 i198) ∧ ∃ (p199 : Addr), o96 = some p199 ∧ 0 ≤ i163 ∧ i163 < (↑n97 : Int) ∧ ∃ (i200 : Int), hc h164 (p199.add (i163.toNat * 1)) = some (Value.int IntKind.i64 i200) ∧ if (i198 != i200) = true then Q false h164 else J162 [SV.dv (DV.one (Value.int IntKind.i64 (IntKind.i64.wrap (i163 + 1))))] h164 else J162 [SV.dv (DV.one (Value.int IntKind.i64 (IntKind.i64.wrap (i163 + 1))))] h164 else if (i132 == 9) = true then ∃ (p201 : Addr), o148 = some p201 ∧ 0 ≤ i163 ∧ i163 < (↑n149 : Int) ∧ ∃ (i202 : Int), hc h164 (p201.add (i163.toNat * 1)) = some (Value.int IntKind.i64 i202) ∧ ∃ (p203 : Addr), o96 = some p203 ∧ 0 ≤ i163 ∧ i163 < (↑n97 : Int) ∧ ∃ (i204 : Int), hc h164 (p203.add (i163.toNat * 1)) = some (Value.int IntKind.i64 i204) ∧ if (i202 != i204) = true then Q false h164 else J162 [SV.dv (DV.one (Value.int IntKind.i64 (IntKind.i64.wrap (i163 + 1))))] h164 else J162 [SV.dv (DV.one (Value.int IntKind.i64 (IntKind.i64.wrap (i163 + 1))))] h164 else if (i132 == 9) = true then ∃ (p205 : Addr), o148 = some p205 ∧ 0 ≤ i163 ∧ i163 < (↑n149 : Int) ∧ ∃ (i206 : Int), hc h164 (p205.add (i163.toNat * 1)) = some (Value.int IntKind.i64 i206) ∧ ∃ (p207 : Addr), o96 = some p207 ∧ 0 ≤ i163 ∧ i163 < (↑n97 : Int) ∧ ∃ (i208 : Int), hc h164 (p207.add (i163.toNat * 1)) = some (Value.int IntKind.i64 i208) ∧ if (i206 != i208) = true then Q false h164 else J162 [SV.dv (DV.one (Value.int IntKind.i64 (IntKind.i64.wrap (i163 + 1))))] h164 else J162 [SV.dv (DV.one (Value.int IntKind.i64 (IntKind.i64.wrap (i163 + 1))))] h164 else J94 [SV.dv (DV.one (Value.pointer o141)), SV.dv (DV.one (Value.slice o148 n149 n150)), SV.dv (DV.one (Value.int IntKind.i64 (IntKind.i64.wrap (i99 + 1))))] h164) → J162 [SV.dv (DV.one (Value.int IntKind.i64 i163))] h164) → J162 [SV.dv (DV.one (Value.int IntKind.i64 0))] h161) → J160 [] h161) → if (!b151) = true then Q false h159 else if (!b158) = true then Q false h159 else J160 [] h159) h152) h145) → J144 [] h145) → if o141.isNone = true then Q false h143 else if (i142 != 0) = true then Q false h143 else J144 [] h143) h139) h137) h135) → J134 [] h135) → if (i132 != 0) = true then if (i132 != 8) = true then if (i132 != 9) = true then Q false h133 else if (i132 == 9) = true then ∃ (p217 : Addr), o56 = some p217 ∧ c_chip_Chip_Acts p217 (fun (i218 : Int) (h219 : H) => if (i218 != i121) = true then Q false h219 else J134 [] h219) h133 else J134 [] h133 else if (i132 == 9) = true then ∃ (p220 : Addr), o56 = some p220 ∧ c_chip_Chip_Acts p220 (fun (i221 : Int) (h222 : H) => if (i221 != i121) = true then Q false h222 else J134 [] h222) h133 else J134 [] h133 else if (i132 == 9) = true then ∃ (p223 : Addr), o56 = some p223 ∧ c_chip_Chip_Acts p223 (fun (i224 : Int) (h225 : H) => if (i224 != i121) = true then Q false h225 else J134 [] h225) h133 else J134 [] h133) h130) h122) h119) h105) h100 else ∃ (p226 : Addr), o56 = some p226 ∧ c_chip_Chip_State p226 (fun (o227 : Option Addr) (n228 n229 : Nat) (o230 : Option Addr) (n231 n232 : Nat) (o233 : Option Addr) (n234 n235 : Nat) (h236 : H) => ∀ (n237 : Nat) (h238 : H), hnew h236 n237 [Value.slice none 0 0, Value.slice none 0 0, Value.slice none 0 0] h238 → hcan h238 (Addr.mk n237 0 none) 3 ∧ ∀ (h240 : H), h240 = hwr h238 (Addr.mk n237 0 none) [Value.slice o227 n228 n229, Value.slice o230 n231 n232, Value.slice o233 n234 n235] → ∃ (o242 : Option Addr), ∃ (n243 : Nat), ∃ (n244 : Nat), hc h240 (Addr.mk n237 0 none) = some (Value.slice o242 n243 n244) ∧ ∃ (p245 : Addr), o242 = some p245 ∧ (0 : Int) ≤ 0 ∧ 0 < (↑n243 : Int) ∧ ∃ (o246 : Option Addr), ∃ (n247 : Nat), ∃ (n248 : Nat), hc h240 p245 = some (Value.slice o246 n247 n248) ∧ c_portcullisref08_Sound o246 n247 n248 (fun (b249 : Bool) (h250 : H) => ∃ (o251 : Option Addr), ∃ (n252 : Nat), ∃ (n253 : Nat), hc h250 (Addr.mk n237 0 none) = some (Value.slice o251 n252 n253) ∧ ∃ (p254 : Addr), o251 = some p254 ∧ (0 : Int) ≤ 1 ∧ 1 < (↑n252 : Int) ∧ ∃ (o255 : Option Addr), ∃ (n256 : Nat), ∃ (n257 : Nat), hc h250 (p254.add 1) = some (Value.slice o255 n256 n257) ∧ c_portcullisref08_Sound o255 n256 n257 (fun (b258 : Bool) (h259 : H) => if b249 = true then Q b258 h259 else Q false h259) h250) h240) h100) → J94 [SV.dv (DV.one (Value.pointer o95)), SV.dv (DV.one (Value.slice o96 n97 n98)), SV.dv (DV.one (Value.int IntKind.i64 i99))] h100) → J94 [SV.dv (DV.one (Value.pointer o82)), SV.dv (DV.one (Value.slice o89 n90 n91)), SV.dv (DV.one (Value.int IntKind.i64 0))] h93) h86) → J85 [] h86) → if o82.isNone = true then Q false h84 else if (i83 != 0) = true then Q false h84 else J85 [] h84) h80) → J79 [] h80) → if (!b68) = true then Q true h78 else if (!b77) = true then Q true h78 else J79 [] h78) h69) h60) → J59 [] h60) → if (!b38) = true then if b38 = true then Q (o56.isNone == (i57 != 0)) h58 else Q false h58 else if o56.isNone = true then if b38 = true then Q (o56.isNone == (i57 != 0)) h58 else Q false h58 else if (i57 != 0) = true then if b38 = true then Q (o56.isNone == (i57 != 0)) h58 else Q false h58 else J59 [] h58) h39) h36
theorem E_portcullislaw09_LogWhole (c_portcullislaw09_fixed : (Bool → H → Prop) → H → Prop) (c_log_Mount : Addr → ((Option Addr) → Int → H → Prop) → H → Prop) (c_portcullislaw09_round : Int → Int → (Int → H → Prop) → H → Prop) (c_chip_Chip_Acts : Addr → (Int → H → Prop) → H → Prop) (c_chip_Chip_Cut : Addr → Int → (Option Addr) → Nat → Nat → (H → Prop) → H → Prop) (c_log_Log_Lay : Addr → Int → Int → (Int → H → Prop) → H → Prop) (c_chip_Chip_Restore : Addr → (H → Prop) → H → Prop) (c_chip_Lay : Int → Int → Int → Int → Int → Int → Int → (Option Addr) → Nat → Nat → (Option Addr) → Nat → Nat → (Option Addr) → Nat → Nat → ((Option Addr) → Int → H → Prop) → H → Prop) (c_portcullisref08_Sound : (Option Addr) → Nat → Nat → (Bool → H → Prop) → H → Prop) (c_portcullislaw09_numbers : Addr → Int → ((Option Addr) → Nat → Nat → Bool → H → Prop) → H → Prop) (c_chip_Chip_State : Addr → ((Option Addr) → Nat → Nat → (Option Addr) → Nat → Nat → (Option Addr) → Nat → Nat → H → Prop) → H → Prop) : ∀ (a0_0 : Int) (a0_1 : Int) (a0_2 : Int) (a0_3 : Int) (a0_4 : Int) (a0_5 : Int) (a0_6 : Int) (a1_0p : Option Addr) (a1_0l : Nat) (a1_0c : Nat) (a1_1p : Option Addr) (a1_1l : Nat) (a1_1c : Nat) (a1_2p : Option Addr) (a1_2l : Nat) (a1_2c : Nat) (a2p : Option Addr) (a2l : Nat) (a2c : Nat) (Q : Bool → H → Prop) (h : H), G_portcullislaw09_LogWhole c_portcullislaw09_fixed c_log_Mount c_portcullislaw09_round c_chip_Chip_Acts c_chip_Chip_Cut c_log_Log_Lay c_chip_Chip_Restore c_chip_Lay c_portcullisref08_Sound c_portcullislaw09_numbers c_chip_Chip_State a0_0 a0_1 a0_2 a0_3 a0_4 a0_5 a0_6 a1_0p a1_0l a1_0c a1_1p a1_1l a1_1c a1_2p a1_2l a1_2c a2p a2l a2c Q h = Dbody PP [(10, W [] [.bool] c_portcullislaw09_fixed), (12, W [.addr] [.ptr, .int .i64] c_log_Mount), (13, W [.int .i64, .int .i64] [.int .i64] c_portcullislaw09_round), (16, W [.addr] [.int .i64] c_chip_Chip_Acts), (17, W [.addr, .int .i64, .slc] [] c_chip_Chip_Cut), (18, W [.addr, .int .i64, .int .i64] [.int .i64] c_log_Log_Lay), (19, W [.addr] [] c_chip_Chip_Restore), (21, W [.ag [.int .i64, .int .i64, .int .i64, .int .i64, .int .i64, .int .i64, .int .i64], .ag [.slc, .slc, .slc]] [.ptr, .int .i64] c_chip_Lay), (22, W [.slc] [.bool] c_portcullisref08_Sound), (23, W [.addr, .int .i64] [.slc, .bool] c_portcullislaw09_numbers), (24, W [.addr] [.ag [.slc, .slc, .slc]] c_chip_Chip_State)] [(15, []), (127, []), (511, []), (16378, [(12, .sc (.ptr)), (14, .sc (.slc)), (16, .sc (.int .i64))]), (33542783, []), (536684543, []), (4293476351, []), (68695621626, [(25, .sc (.int .i64))])] Try.f4 [.agg [.c (.int .i64 a0_0), .c (.int .i64 a0_1), .c (.int .i64 a0_2), .c (.int .i64 a0_3), .c (.int .i64 a0_4), .c (.int .i64 a0_5), .c (.int .i64 a0_6)], .agg [.c (.slice a1_0p a1_0l a1_0c), .c (.slice a1_1p a1_1l a1_1c), .c (.slice a1_2p a1_2l a1_2c)], .one (.slice a2p a2l a2c)] (decR [.bool] Q) h := by intros; kernel_rfl
def F_portcullislaw09_LogWhole := G_portcullislaw09_LogWhole F_portcullislaw09_fixed F_log_Mount F_portcullislaw09_round F_chip_Chip_Acts F_chip_Chip_Cut F_log_Log_Lay F_chip_Chip_Restore F_chip_Lay F_portcullisref08_Sound F_portcullislaw09_numbers F_chip_Chip_State
theorem R_portcullislaw09_LogWhole : RunOk PP 4 (W [.ag [.int .i64, .int .i64, .int .i64, .int .i64, .int .i64, .int .i64, .int .i64], .ag [.slc, .slc, .slc], .slc] [.bool] F_portcullislaw09_LogWhole) := runOk_of (T := [(10, W [] [.bool] F_portcullislaw09_fixed), (12, W [.addr] [.ptr, .int .i64] F_log_Mount), (13, W [.int .i64, .int .i64] [.int .i64] F_portcullislaw09_round), (16, W [.addr] [.int .i64] F_chip_Chip_Acts), (17, W [.addr, .int .i64, .slc] [] F_chip_Chip_Cut), (18, W [.addr, .int .i64, .int .i64] [.int .i64] F_log_Log_Lay), (19, W [.addr] [] F_chip_Chip_Restore), (21, W [.ag [.int .i64, .int .i64, .int .i64, .int .i64, .int .i64, .int .i64, .int .i64], .ag [.slc, .slc, .slc]] [.ptr, .int .i64] F_chip_Lay), (22, W [.slc] [.bool] F_portcullisref08_Sound), (23, W [.addr, .int .i64] [.slc, .bool] F_portcullislaw09_numbers), (24, W [.addr] [.ag [.slc, .slc, .slc]] F_chip_Chip_State)]) (ann := [(15, []), (127, []), (511, []), (16378, [(12, .sc (.ptr)), (14, .sc (.slc)), (16, .sc (.int .i64))]), (33542783, []), (536684543, []), (4293476351, []), (68695621626, [(25, .sc (.int .i64))])]) (TblOk.cons R_portcullislaw09_fixed (TblOk.cons R_log_Mount (TblOk.cons R_portcullislaw09_round (TblOk.cons R_chip_Chip_Acts (TblOk.cons R_chip_Chip_Cut (TblOk.cons R_log_Log_Lay (TblOk.cons R_chip_Chip_Restore (TblOk.cons R_chip_Lay (TblOk.cons R_portcullisref08_Sound (TblOk.cons R_portcullislaw09_numbers (TblOk.cons R_chip_Chip_State (TblOk.nil)))))))))))) Try.func4 (by kernel_rfl) (by kernel_rfl) (E_portcullislaw09_LogWhole F_portcullislaw09_fixed F_log_Mount F_portcullislaw09_round F_chip_Chip_Acts F_chip_Chip_Cut F_log_Log_Lay F_chip_Chip_Restore F_chip_Lay F_portcullisref08_Sound F_portcullislaw09_numbers F_chip_Chip_State)
attribute [irreducible] F_portcullislaw09_LogWhole
def G_chip_Lay_1 (a0p : Option Addr) (a0l : Nat) (a0c : Nat) (a1 : Addr) (Q : Bool → H → Prop) (h : H) : Prop := ∃ (i6 : Int), hc h a1 = some (Value.int IntKind.i64 i6) ∧ Q ((↑a0l : Int) != i6) h
theorem E_chip_Lay_1  : ∀ (a0p : Option Addr) (a0l : Nat) (a0c : Nat) (a1 : Addr) (Q : Bool → H → Prop) (h : H), G_chip_Lay_1 a0p a0l a0c a1 Q h = Dbody PP [] [] Try.f59 [.one (.slice a0p a0l a0c), .addr a1] (decR [.bool] Q) h := by intros; kernel_rfl
def F_chip_Lay_1 := G_chip_Lay_1
theorem R_chip_Lay_1 : RunOk PP 59 (W [.slc, .addr] [.bool] F_chip_Lay_1) := runOk_of (T := []) (ann := []) (TblOk.nil) Try.func59 (by kernel_rfl) (by kernel_rfl) (E_chip_Lay_1)
attribute [irreducible] F_chip_Lay_1
def G_chip_Lay_2 (a0 : Int) (Q : Bool → H → Prop) (h : H) : Prop := Q (ltI a0 0) h
theorem E_chip_Lay_2  : ∀ (a0 : Int) (Q : Bool → H → Prop) (h : H), G_chip_Lay_2 a0 Q h = Dbody PP [] [] Try.f61 [.one (.int .i64 a0)] (decR [.bool] Q) h := by intros; kernel_rfl
def F_chip_Lay_2 := G_chip_Lay_2
theorem R_chip_Lay_2 : RunOk PP 61 (W [.int .i64] [.bool] F_chip_Lay_2) := runOk_of (T := []) (ann := []) (TblOk.nil) Try.func61 (by kernel_rfl) (by kernel_rfl) (E_chip_Lay_2)
attribute [irreducible] F_chip_Lay_2
def G_chip_Chip_begins_1 (a0 : Int) (Q : Int → H → Prop) (h : H) : Prop := Q 255 h
theorem E_chip_Chip_begins_1  : ∀ (a0 : Int) (Q : Int → H → Prop) (h : H), G_chip_Chip_begins_1 a0 Q h = Dbody PP [] [] Try.f107 [.one (.int .i64 a0)] (decR [.int .u8] Q) h := by intros; kernel_rfl
def F_chip_Chip_begins_1 := G_chip_Chip_begins_1
theorem R_chip_Chip_begins_1 : RunOk PP 107 (W [.int .i64] [.int .u8] F_chip_Chip_begins_1) := runOk_of (T := []) (ann := []) (TblOk.nil) Try.func107 (by kernel_rfl) (by kernel_rfl) (E_chip_Chip_begins_1)
attribute [irreducible] F_chip_Chip_begins_1
def G_chip_Chip_begins_2 (a0 : Int) (a1 : Addr) (Q : Int → H → Prop) (h : H) : Prop := ∃ (o4 : Option Addr), ∃ (n5 : Nat), ∃ (n6 : Nat), hc h a1 = some (Value.slice o4 n5 n6) ∧ if ((↑n5 : Int) == 0) = true then Q 0 h else ∃ (o7 : Option Addr), ∃ (n8 : Nat), ∃ (n9 : Nat), hc h a1 = some (Value.slice o7 n8 n9) ∧ ∃ (o10 : Option Addr), ∃ (n11 : Nat), ∃ (n12 : Nat), hc h a1 = some (Value.slice o10 n11 n12) ∧ (↑n11 : Int) ≠ 0 ∧ ∃ (p13 : Addr), o7 = some p13 ∧ 0 ≤ a0.tmod (↑n11 : Int) ∧ a0.tmod (↑n11 : Int) < (↑n8 : Int) ∧ ∃ (i14 : Int), hc h (p13.add ((a0.tmod (↑n11 : Int)).toNat * 1)) = some (Value.int IntKind.u8 i14) ∧ Q i14 h
theorem E_chip_Chip_begins_2  : ∀ (a0 : Int) (a1 : Addr) (Q : Int → H → Prop) (h : H), G_chip_Chip_begins_2 a0 a1 Q h = Dbody PP [] [] Try.f108 [.one (.int .i64 a0), .addr a1] (decR [.int .u8] Q) h := by intros; kernel_rfl
def F_chip_Chip_begins_2 := G_chip_Chip_begins_2
theorem R_chip_Chip_begins_2 : RunOk PP 108 (W [.int .i64, .addr] [.int .u8] F_chip_Chip_begins_2) := runOk_of (T := []) (ann := []) (TblOk.nil) Try.func108 (by kernel_rfl) (by kernel_rfl) (E_chip_Chip_begins_2)
attribute [irreducible] F_chip_Chip_begins_2
end Go.Proofs.Yteabcbpimjjdpaa
end

/- Blocks of memory as lists of cells, and what loads, stores and allocations do to them. Own work; generic over any program. -/
section
set_option linter.unusedVariables false
namespace Go.Vc

/-- Block b holds just these cells, and none of them is frozen. -/
def Blk (h : H) (b : Nat) (vs : List Value) : Prop :=
  ∃ t lo hi, h[b]? = some (.cells vs.toArray t (lo, hi)) ∧ ∀ i, i < vs.length → ¬ (lo ≤ i ∧ i < hi)

abbrev at_ (b o : Nat) : Addr := ⟨b, o, none⟩

@[simp] theorem add_mk (b o n : Nat) : (Addr.mk b o none).add n = Addr.mk b (o + n) none := by
  unfold Addr.add; split
  · rename_i h; subst h; rfl
  · rfl

theorem Blk.lt {h : H} {b : Nat} {vs : List Value} (k : Blk h b vs) : b < h.size := by
  obtain ⟨t, lo, hi, hb, _⟩ := k
  exact (Array.getElem?_eq_some_iff.1 hb).1
theorem Blk.of_eq {h h' : H} {b : Nat} {vs : List Value} (k : Blk h b vs) (e : h'[b]? = h[b]?) : Blk h' b vs := by
  obtain ⟨t, lo, hi, hb, hf⟩ := k
  exact ⟨t, lo, hi, by rw [e]; exact hb, hf⟩

theorem Blk.hc {h : H} {b : Nat} {vs : List Value} (k : Blk h b vs) (o : Nat) : hc h ⟨b, o, none⟩ = vs[o]? := by
  obtain ⟨t, lo, hi, hb, _⟩ := k
  simp [Vc.hc, hb]
theorem Blk.hf {h : H} {b : Nat} {vs : List Value} (k : Blk h b vs) {o : Nat} (ho : o < vs.length) : hf h ⟨b, o, none⟩ = false := by
  obtain ⟨t, lo, hi, hb, hfz⟩ := k
  have := hfz o ho
  simp only [Vc.hf, hb]
  simp only [Bool.and_eq_false_imp, decide_eq_true_eq, decide_eq_false_iff_not]
  intro h1 h2; exact this ⟨h1, h2⟩
theorem Blk.can {h : H} {b : Nat} {vs : List Value} (k : Blk h b vs) {o n : Nat} (ho : o + n ≤ vs.length) : hcan h ⟨b, o, none⟩ n := by
  intro i hi
  have hl : o + i < vs.length := by omega
  rw [add_mk, k.hc, k.hf hl]
  simp [List.getElem?_eq_getElem hl]
theorem Blk.hcs {h : H} {b : Nat} {vs : List Value} (k : Blk h b vs) {o : Nat} {xs : List Value} (e : ∀ i, i < xs.length → vs[o + i]? = xs[i]?) : hcs h ⟨b, o, none⟩ xs := by
  intro i v hv
  rw [add_mk, k.hc, e i (List.getElem?_eq_some_iff.1 hv).1, hv]

/-! ### Writing -/
/-- Cells put in the place of others. -/
def splice (vs : List Value) : Nat → List Value → List Value
  | _, [] => vs
  | o, x :: r => splice (vs.set o x) (o + 1) r
@[simp] theorem splice_nil (vs : List Value) (o : Nat) : splice vs o [] = vs := rfl
@[simp] theorem splice_cons (vs : List Value) (o : Nat) (x : Value) (r : List Value) : splice vs o (x :: r) = splice (vs.set o x) (o + 1) r := rfl
@[simp] theorem splice_length (vs : List Value) (o : Nat) (xs : List Value) : (splice vs o xs).length = vs.length := by
  induction xs generalizing vs o with
  | nil => rfl
  | cons x r ih => simp [ih]
theorem splice_get (vs : List Value) (o : Nat) (xs : List Value) (i : Nat) : (splice vs o xs)[i]? = if o ≤ i ∧ i < o + xs.length ∧ i < vs.length then xs[i - o]? else vs[i]? := by
  induction xs generalizing vs o with
  | nil =>
    have : ¬ (o ≤ i ∧ i < o + ([] : List Value).length ∧ i < vs.length) := by simp; omega
    rw [if_neg this]; rfl
  | cons x r ih =>
    rw [splice_cons, ih]
    simp only [List.length_cons, List.length_set]
    by_cases h1 : o = i
    · subst h1
      rw [if_neg (by omega)]
      by_cases h2 : o < vs.length
      · rw [if_pos (by omega)]; simp [h2]
      · rw [if_neg (by omega)]
        have : (vs.set o x) = vs := List.set_eq_of_length_le (by omega)
        rw [this]
    · rw [List.getElem?_set_ne h1]
      by_cases h2 : o + 1 ≤ i ∧ i < o + 1 + r.length ∧ i < vs.length
      · rw [if_pos h2, if_pos (by omega)]
        have : i - o = (i - (o + 1)) + 1 := by omega
        rw [this]; simp
      · rw [if_neg h2, if_neg (by omega)]
theorem splice_all (vs xs : List Value) (h : xs.length = vs.length) : splice vs 0 xs = xs := by
  apply List.ext_getElem?
  intro i
  rw [splice_get]
  split
  · simp
  · rename_i hn
    rw [List.getElem?_eq_none (by omega), List.getElem?_eq_none (by omega)]
theorem splice_append (a b c xs : List Value) (h : xs.length = b.length) : splice (a ++ b ++ c) a.length xs = a ++ xs ++ c := by
  apply List.ext_getElem?
  intro i
  rw [splice_get]
  simp only [List.length_append]
  split
  · rename_i hh
    rw [List.append_assoc, List.getElem?_append_right hh.1, List.getElem?_append_left (by omega)]
  · rename_i hh
    rw [List.append_assoc, List.append_assoc]
    by_cases h1 : i < a.length
    · rw [List.getElem?_append_left h1, List.getElem?_append_left h1]
    · rw [List.getElem?_append_right (by omega), List.getElem?_append_right (by omega)]
      by_cases h2 : i - a.length < b.length
      · omega
      · rw [List.getElem?_append_right (by omega), List.getElem?_append_right (by omega), h]

theorem hs_eq {h : H} {b : Nat} {vs : List Value} (k : Blk h b vs) (o : Nat) (v : Value) : Blk (hs h ⟨b, o, none⟩ v) b (vs.set o v) := by
  obtain ⟨t, lo, hi, hb, hfz⟩ := k
  refine ⟨t, lo, hi, ?_, by simpa using hfz⟩
  simp only [hs, Array.getElem?_modify, hb]
  simp
theorem hs_ne (h : H) (a : Addr) (v : Value) {x : Nat} (hx : x ≠ a.block) : (hs h a v)[x]? = h[x]? := by
  simp only [hs, Array.getElem?_modify]
  rw [if_neg (by omega)]
theorem hs_size (h : H) (a : Addr) (v : Value) : (hs h a v).size = h.size := by simp [hs]
theorem hwrFrom_blk {h : H} {b : Nat} {vs : List Value} (k : Blk h b vs) (o : Nat) (xs : List Value) (j : Nat) : Blk (hwrFrom h ⟨b, o, none⟩ j xs) b (splice vs (o + j) xs) := by
  induction xs generalizing h vs j with
  | nil => exact k
  | cons x r ih =>
    simp only [hwrFrom, splice_cons, add_mk]
    exact ih (hs_eq k (o + j) x) (j + 1)
theorem add_block (a : Addr) (n : Nat) : (a.add n).block = a.block := by unfold Addr.add; split <;> rfl
theorem hwrFrom_ne (h : H) (a : Addr) (j : Nat) (xs : List Value) {x : Nat} (hx : x ≠ a.block) : (hwrFrom h a j xs)[x]? = h[x]? := by
  induction xs generalizing h j with
  | nil => rfl
  | cons y r ih => simp only [hwrFrom]; rw [ih, hs_ne]; rw [add_block]; exact hx
theorem hwrFrom_size (h : H) (a : Addr) (j : Nat) (xs : List Value) : (hwrFrom h a j xs).size = h.size := by
  induction xs generalizing h j with
  | nil => rfl
  | cons y r ih => simp only [hwrFrom]; rw [ih, hs_size]
theorem Blk.wr {h : H} {b : Nat} {vs : List Value} (k : Blk h b vs) (o : Nat) (xs : List Value) : Blk (hwr h ⟨b, o, none⟩ xs) b (splice vs o xs) := hwrFrom_blk k o xs 0
theorem hwr_ne (h : H) (a : Addr) (xs : List Value) {x : Nat} (hx : x ≠ a.block) : (hwr h a xs)[x]? = h[x]? := hwrFrom_ne h a 0 xs hx
theorem hwr_size (h : H) (a : Addr) (xs : List Value) : (hwr h a xs).size = h.size := hwrFrom_size h a 0 xs
theorem Blk.wr_ne {h : H} {b : Nat} {vs : List Value} (k : Blk h b vs) {a : Addr} {xs : List Value} (hx : b ≠ a.block) : Blk (hwr h a xs) b vs := k.of_eq (hwr_ne h a xs hx)

/-! ### What is left alone -/
/-- From h to h' only these blocks, and new ones, may differ. -/
structure Ext (S : Nat → Prop) (h h' : H) : Prop where
  size : h.size ≤ h'.size
  eq : ∀ b, b < h.size → ¬ S b → h'[b]? = h[b]?
abbrev none_ : Nat → Prop := fun _ => False
theorem Ext.refl (S : Nat → Prop) (h : H) : Ext S h h := ⟨Nat.le_refl _, fun _ _ _ => rfl⟩
theorem Ext.trans {S : Nat → Prop} {h h' h'' : H} (a : Ext S h h') (b : Ext S h' h'') : Ext S h h'' :=
  ⟨Nat.le_trans a.size b.size, fun x hx hs => by rw [b.eq x (Nat.lt_of_lt_of_le hx a.size) hs, a.eq x hx hs]⟩
theorem Ext.mono {S T : Nat → Prop} {h h' : H} (a : Ext S h h') (st : ∀ b, b < h.size → S b → T b) : Ext T h h' :=
  ⟨a.size, fun x hx hs => a.eq x hx fun h => hs (st x hx h)⟩
/-- A change of blocks that are new, or allowed, is no change of old ones. -/
theorem Ext.comp {S T : Nat → Prop} {h h' h'' : H} (a : Ext S h h') (b : Ext T h' h'') (st : ∀ x, x < h.size → T x → S x) : Ext S h h'' :=
  ⟨Nat.le_trans a.size b.size, fun x hx hs => by rw [b.eq x (Nat.lt_of_lt_of_le hx a.size) (fun t => hs (st x hx t)), a.eq x hx hs]⟩
theorem Ext.blk {S : Nat → Prop} {h h' : H} (a : Ext S h h') {b : Nat} {vs : List Value} (k : Blk h b vs) (hb : ¬ S b) : Blk h' b vs := k.of_eq (a.eq b k.lt hb)
theorem Ext.wr (h : H) (b o : Nat) (xs : List Value) : Ext (fun x => x = b) h (hwr h ⟨b, o, none⟩ xs) :=
  ⟨by rw [hwr_size]; exact Nat.le_refl _, fun x _ hx => hwr_ne h _ xs hx⟩
theorem hnew.size {h h' : H} {b : Nat} {c : List Value} (n : hnew h b c h') : h'.size = h.size + 1 := by
  obtain ⟨_, t, lo, hi, _, rfl⟩ := n; simp
theorem hnew.b {h h' : H} {b : Nat} {c : List Value} (n : hnew h b c h') : b = h.size := n.1
theorem hnew.ext {h h' : H} {b : Nat} {c : List Value} (n : hnew h b c h') : Ext none_ h h' := by
  refine ⟨by rw [n.size]; omega, ?_⟩
  obtain ⟨_, t, lo, hi, _, rfl⟩ := n
  intro x hx _
  rw [Array.getElem?_push]; rw [if_neg (by omega)]
theorem hnew.blk {h h' : H} {b : Nat} {c : List Value} (n : hnew h b c h') : Blk h' b c := by
  obtain ⟨rfl, t, lo, hi, hf, rfl⟩ := n
  exact ⟨t, lo, hi, by simp, hf⟩
theorem Blk.ne {h : H} {b b' : Nat} {vs vs' : List Value} (k : Blk h b vs) (k' : ¬ b' < h.size) : b ≠ b' := fun e => k' (e ▸ k.lt)

/-! ### Rows of integers -/
@[simp] theorem ints_nil (k : IntKind) : ints k [] = [] := rfl
@[simp] theorem ints_cons (k : IntKind) (n : Int) (r : List Int) : ints k (n :: r) = .int k n :: ints k r := rfl
@[simp] theorem ints_length (k : IntKind) (ns : List Int) : (ints k ns).length = ns.length := by simp [ints]
@[simp] theorem ints_append (k : IntKind) (a b : List Int) : ints k (a ++ b) = ints k a ++ ints k b := by simp [ints]
theorem ints_get (k : IntKind) (ns : List Int) (i : Nat) : (ints k ns)[i]? = ns[i]?.map (Value.int k) := by simp [ints]
@[simp] theorem zeros_length (n : Nat) : (zeros n).length = n := by simp [zeros]
theorem Blk.hrow {h : H} {b : Nat} {vs : List Value} (k : Blk h b vs) {o : Nat} {kd : IntKind} {ns : List Int} (e : ∀ i, i < ns.length → vs[o + i]? = ns[i]?.map (Value.int kd)) : hrow h ⟨b, o, none⟩ kd ns := by
  apply k.hcs
  intro i hi
  rw [e i (by simpa using hi), ints_get]
@[simp] theorem oneCell_int (k : IntKind) (n : Int) : (Value.int k n).oneCell' = true := rfl
end Go.Vc
end

/- Slices: what they hold, who owns it, and appending. Own work; generic over any program. -/
section
set_option linter.unusedVariables false
namespace Go.Vc

theorem hc_congr {h h' : H} {a : Addr} (e : h'[a.block]? = h[a.block]?) : hc h' a = hc h a := by simp only [hc, e]
theorem hc_lt {h : H} {a : Addr} {v : Value} (e : hc h a = some v) : a.block < h.size := by
  rcases Nat.lt_or_ge a.block h.size with k | k
  · exact k
  · simp [hc, Array.getElem?_eq_none k] at e
theorem hc_ext {S : Nat → Prop} {h h' : H} (x : Ext S h h') {a : Addr} {v : Value} (e : hc h a = some v) (hs : ¬ S a.block) : hc h' a = some v := by
  rw [hc_congr (x.eq _ (hc_lt e) hs), e]
theorem hcs_ext {S : Nat → Prop} {h h' : H} (x : Ext S h h') {a : Addr} {vs : List Value} (e : hcs h a vs) (hs : ¬ S a.block) : hcs h' a vs := by
  intro i v hv
  exact hc_ext x (e i v hv) (by rw [add_block]; exact hs)
theorem hsv_ext {S : Nat → Prop} {h h' : H} (x : Ext S h h') {p : Option Addr} {sz l : Nat} {vs : List Value} (e : hsv h p sz l vs) (hs : ∀ q, p = some q → ¬ S q.block) : hsv h' p sz l vs := by
  obtain ⟨h1, h2, h3⟩ := e
  refine ⟨h1, h2, ?_⟩
  rcases h3 with h3 | ⟨q, hq, h3⟩
  · exact Or.inl h3
  · exact Or.inr ⟨q, hq, hcs_ext x h3 (hs q hq)⟩
theorem hsv_none {h : H} {sz l : Nat} {vs : List Value} (e : hsv h none sz l vs) : vs = [] := by
  obtain ⟨_, _, h3⟩ := e
  rcases h3 with h3 | ⟨q, hq, _⟩
  · exact h3
  · cases hq
theorem hsv_get {h : H} {p : Option Addr} {sz l : Nat} {vs : List Value} (e : hsv h p sz l vs) {i : Nat} {v : Value} (hi : vs[i]? = some v) : ∃ q, p = some q ∧ hc h (q.add i) = some v := by
  obtain ⟨_, _, h3⟩ := e
  rcases h3 with h3 | ⟨q, hq, h3⟩
  · subst h3; simp at hi
  · exact ⟨q, hq, h3 i v hi⟩
/-- A slice whose cells lie at the head of a block of their own (bs: that block, if there is one). -/
def OwnS (h : H) (p : Option Addr) (l c sz : Nat) (vs : List Value) (bs : List Nat) : Prop :=
  vs.length = l * sz ∧ l ≤ c ∧ (∀ v, v ∈ vs → v.oneCell' = true) ∧
    ((l = 0 ∧ c = 0 ∧ bs = []) ∨ ∃ b rest, p = some ⟨b, 0, none⟩ ∧ bs = [b] ∧ Blk h b (vs ++ rest) ∧ (c - l) * sz ≤ rest.length)
theorem OwnS.hsv {h : H} {p : Option Addr} {l c sz : Nat} {vs : List Value} {bs : List Nat} (o : OwnS h p l c sz vs bs) : hsv h p sz l vs := by
  obtain ⟨h1, h2, h3, h4⟩ := o
  refine ⟨h1, h3, ?_⟩
  rcases h4 with ⟨rfl, _, _⟩ | ⟨b, rest, rfl, _, k, _⟩
  · left; apply List.eq_nil_of_length_eq_zero; simp [h1]
  · right
    exact ⟨_, rfl, k.hcs fun i hi => by rw [Nat.zero_add, List.getElem?_append_left hi]⟩
theorem OwnS.lt {h : H} {p : Option Addr} {l c sz : Nat} {vs : List Value} {bs : List Nat} (o : OwnS h p l c sz vs bs) : ∀ b, b ∈ bs → b < h.size := by
  obtain ⟨_, _, _, h4⟩ := o
  rcases h4 with ⟨_, _, rfl⟩ | ⟨b, rest, _, rfl, k, _⟩
  · intro b hb; simp at hb
  · intro b' hb; simp at hb; subst hb; exact k.lt
theorem OwnS.ext {S : Nat → Prop} {h h' : H} (x : Ext S h h') {p : Option Addr} {l c sz : Nat} {vs : List Value} {bs : List Nat} (o : OwnS h p l c sz vs bs) (hs : ∀ b, b ∈ bs → ¬ S b) : OwnS h' p l c sz vs bs := by
  obtain ⟨h1, h2, h3, h4⟩ := o
  refine ⟨h1, h2, h3, ?_⟩
  rcases h4 with h4 | ⟨b, rest, hp, rfl, k, hr⟩
  · exact Or.inl h4
  · exact Or.inr ⟨b, rest, hp, rfl, x.blk k (hs b (by simp)), hr⟩
theorem OwnS.nil (h : H) (p : Option Addr) (sz : Nat) : OwnS h p 0 0 sz [] [] := ⟨by simp, Nat.le_refl _, by simp, Or.inl ⟨rfl, rfl, rfl⟩⟩

theorem flatten_replicate_length {α : Type} (n : Nat) (z : List α) : (List.replicate n z).flatten.length = n * z.length := by
  induction n with
  | zero => simp
  | succ n ih => simp [List.replicate_succ, Nat.succ_mul, ih]; omega

/-- Blocks that are new. -/
def newB (h : H) (bs : List Nat) : Prop := ∀ b, b ∈ bs → h.size ≤ b
theorem newB.ext {S : Nat → Prop} {h h' : H} (x : Ext S h h') {bs : List Nat} (n : newB h' bs) : newB h bs := fun b hb => Nat.le_trans x.size (n b hb)

/-- Cells are appended to an empty slice without room. -/
theorem pApp_empty {h : H} {sz : Nat} {z : List Value} {B : Nat} {p : Option Addr} {n : Nat} {vs : List Value} {K : Option Addr → Nat → Nat → H → Prop}
    (hl : vs.length = n * sz) (hz : z.length = sz) (hv : ∀ v, v ∈ vs → v.oneCell' = true) (hb : n * B ≤ 2 ^ 47)
    (hk : ∀ p' c' h' bs, Ext none_ h h' → OwnS h' p' n c' sz vs bs → newB h bs → K p' n c' h') : pApp h sz z B p 0 0 n vs K := by
  unfold pApp
  by_cases hn : n = 0
  · subst hn
    have hv0 : vs = [] := List.eq_nil_of_length_eq_zero (by simp [hl])
    subst hv0
    rw [if_pos (by simp)]
    refine ⟨Or.inl rfl, fun h' e => ?_⟩
    have e' : h' = h := by rw [e]; cases p <;> rfl
    subst e'
    exact hk _ _ _ [] (Ext.refl _ _) (OwnS.nil _ _ _) (by intro b hb; simp at hb)
  · rw [if_neg (by omega)]
    refine ⟨by simpa using hb, [], ⟨by simp, by simp, Or.inl rfl⟩, fun c' b h' hc hw => ?_⟩
    have : (0 + n) = n := by omega
    rw [this] at hc ⊢
    refine hk _ _ _ [b] hw.ext ⟨hl, hc, hv, Or.inr ⟨b, (List.replicate (c' - (0 + n)) z).flatten, rfl, rfl, ?_, ?_⟩⟩ ?_
    · simpa using hw.blk
    · rw [flatten_replicate_length, hz, this]; exact Nat.le_refl _
    · intro x hx; simp at hx; subst hx; rw [hw.b]; exact Nat.le_refl _

/-- Cells are appended to a slice that is owned. -/
theorem pApp_own {h : H} {sz : Nat} {z : List Value} {B : Nat} {p : Option Addr} {l c n : Nat} {old vs : List Value} {bs : List Nat} {K : Option Addr → Nat → Nat → H → Prop}
    (o : OwnS h p l c sz old bs) (hl : vs.length = n * sz) (hz : z.length = sz) (hv : ∀ v, v ∈ vs → v.oneCell' = true) (hb : (l + n) * B ≤ 2 ^ 47)
    (hk : ∀ p' c' h' bs', Ext (fun b => b ∈ bs) h h' → OwnS h' p' (l + n) c' sz (old ++ vs) bs' → (∀ b, b ∈ bs' → b ∈ bs ∨ h.size ≤ b) → K p' (l + n) c' h') : pApp h sz z B p l c n vs K := by
  have ohs := o.hsv
  have olt := o.lt
  obtain ⟨h1, h2, h3, h4⟩ := o
  have hov : ∀ v, v ∈ old ++ vs → v.oneCell' = true := by
    intro v hm; rcases List.mem_append.1 hm with hm | hm
    · exact h3 v hm
    · exact hv v hm
  have hlen : (old ++ vs).length = (l + n) * sz := by simp [h1, hl, Nat.add_mul]
  unfold pApp
  split
  · rename_i hroom
    rcases h4 with ⟨rfl, rfl, rfl⟩ | ⟨b, rest, rfl, rfl, k, hr⟩
    · have hn : n = 0 := by omega
      subst hn
      have hv0 : vs = [] := List.eq_nil_of_length_eq_zero (by simp [hl])
      have ho0 : old = [] := List.eq_nil_of_length_eq_zero (by simp [h1])
      subst hv0; subst ho0
      refine ⟨Or.inl rfl, fun h' e => ?_⟩
      have e' : h' = h := by rw [e]; cases p <;> rfl
      subst e'
      exact hk _ _ _ [] (Ext.refl _ _) (OwnS.nil _ _ _) (by intro b hb; simp at hb)
    · have hnr : n * sz ≤ rest.length := by
        have : n * sz ≤ (c - l) * sz := Nat.mul_le_mul_right _ (by omega)
        omega
      refine ⟨Or.inr ⟨_, rfl, ?_⟩, fun h' e => ?_⟩
      · rw [add_mk]; apply k.can; simp [h1]; omega
      · simp only [Option.map_some, hwrO, add_mk, Nat.zero_add] at e
        have hs : splice (old ++ rest) (l * sz) vs = (old ++ vs) ++ rest.drop (n * sz) := by
          have : old ++ rest = old ++ rest.take (n * sz) ++ rest.drop (n * sz) := by simp
          rw [this, ← h1, splice_append]
          simp [hl, Nat.min_eq_left hnr]
        have kb := k.wr (l * sz) vs
        rw [hs] at kb
        subst e
        refine hk _ _ _ [b] ⟨by rw [hwr_size]; exact Nat.le_refl _, fun x _ hx => hwr_ne _ _ _ (by simpa using hx)⟩ ⟨hlen, hroom, hov, Or.inr ⟨b, rest.drop (n * sz), rfl, rfl, kb, ?_⟩⟩ (fun x hx => Or.inl hx)
        simp
        have : c - (l + n) = (c - l) - n := by omega
        rw [this, Nat.sub_mul]; omega
  · rename_i hroom
    refine ⟨hb, old, ohs, fun c' b h' hc hw => ?_⟩
    refine hk _ _ _ [b] (hw.ext.mono fun _ _ hf => hf.elim) ⟨hlen, hc, hov, Or.inr ⟨b, (List.replicate (c' - (l + n)) z).flatten, rfl, rfl, ?_, ?_⟩⟩ ?_
    · exact hw.blk
    · rw [flatten_replicate_length, hz]; exact Nat.le_refl _
    · intro x hx; simp at hx; subst hx; right; rw [hw.b]; exact Nat.le_refl _
end Go.Vc
end

/- Loops that count up. Own work; generic over any program. -/
section
set_option linter.unusedVariables false
namespace Go.Vc
abbrev si (i : Nat) : SV := .dv (.one (.int .i64 (i : Int)))
theorem loop_up {J : List SV → H → Prop} (N : Nat) (Inv : Nat → H → Prop) (step : ∀ i h, i < N → Inv i h → (∀ h', Inv (i + 1) h' → J [si (i + 1)] h') → J [si i] h)
    (exit : ∀ h, Inv N h → J [si N] h) (i : Nat) (h : H) (hi : i ≤ N) (inv : Inv i h) : J [si i] h := by
  generalize e : N - i = n
  induction n generalizing i h with
  | zero =>
    have : i = N := by omega
    subst this; exact exit h inv
  | succ n ih => exact step i h (by omega) inv fun h' inv' => ih (i + 1) h' (by omega) inv' (by omega)
theorem wrap_succ {i : Nat} (h : i < 2 ^ 62) : IntKind.i64.wrap ((i : Int) + 1) = ((i + 1 : Nat) : Int) := by
  rw [IntKind.wrap_i64]; omega
theorem wrap_id {n : Int} (h : -(2 ^ 62) ≤ n ∧ n ≤ 2 ^ 62) : IntKind.i64.wrap n = n := by
  rw [IntKind.wrap_i64]; omega
theorem wrap_u8_id {n : Int} (h : 0 ≤ n ∧ n < 256) : IntKind.u8.wrap n = n := by
  rw [IntKind.wrap_u8]; omega

/-- The first i entries are mapped. -/
def mapTo (g : Nat → Int → Int) (i : Nat) (ns : List Int) : List Int := ns.mapIdx fun j v => if j < i then g j v else v
@[simp] theorem mapTo_length (g : Nat → Int → Int) (i : Nat) (ns : List Int) : (mapTo g i ns).length = ns.length := by simp [mapTo]
theorem mapTo_get (g : Nat → Int → Int) (i : Nat) (ns : List Int) (j : Nat) : (mapTo g i ns)[j]? = ns[j]?.map fun v => if j < i then g j v else v := by simp [mapTo]
@[simp] theorem mapTo_zero (g : Nat → Int → Int) (ns : List Int) : mapTo g 0 ns = ns := by
  apply List.ext_getElem?; intro j; rw [mapTo_get]; simp
theorem mapTo_succ (g : Nat → Int → Int) (i : Nat) (ns : List Int) (hi : i < ns.length) : (mapTo g i ns).set i (g i ns[i]) = mapTo g (i + 1) ns := by
  apply List.ext_getElem?; intro j
  by_cases h : i = j
  · subst h; rw [List.getElem?_set_self (by simpa using hi), mapTo_get]; simp [hi]
  · rw [List.getElem?_set_ne h, mapTo_get, mapTo_get]
    congr 1; funext v
    by_cases h1 : j < i
    · rw [if_pos h1, if_pos (by omega)]
    · rw [if_neg h1, if_neg (by omega)]
theorem ints_set (k : IntKind) (ns : List Int) (i : Nat) (n : Int) : (ints k ns).set i (.int k n) = ints k (ns.set i n) := by simp [ints, List.map_set]
end Go.Vc
end

/- Assertions: a list of things that own blocks, none twice; all else is as it was in a base heap. Own work; generic over any program. -/
section
set_option linter.unusedVariables false
namespace Go.Vc

@[simp] theorem oneCell_slice (p : Option Addr) (l c : Nat) : (Value.slice p l c).oneCell' = true := rfl
@[simp] theorem oneCell_bool (b : Bool) : (Value.bool b).oneCell' = true := rfl
@[simp] theorem oneCell_ptr (p : Option Addr) : (Value.pointer p).oneCell' = true := rfl
@[simp] theorem oneCell_str (s : ByteArray) : (Value.string s).oneCell' = true := rfl

inductive Tag where
  | blk (b : Nat) (vs : List Value)
  | sl (p : Option Addr) (l c sz : Nat) (vs : List Value)
  | of (n : Nat)

/-- Something that lies in memory: what it says of a heap and of the blocks that it owns. -/
structure Ent where
  tag : Tag
  P : H → (Nat → Prop) → Prop
  st : ∀ {h h' : H} {f : Nat → Prop}, P h f → (∀ b, f b → h'[b]? = h[b]?) → P h' f
  lt : ∀ {h : H} {f : Nat → Prop} {b : Nat}, P h f → f b → b < h.size

def SatX : List Ent → H → (Nat → Prop) → Prop
  | [], _, O => ∀ b, ¬ O b
  | e :: A, h, O => ∃ f g, e.P h f ∧ SatX A h g ∧ (∀ b, f b → ¬ g b) ∧ (∀ b, O b ↔ f b ∨ g b)

theorem SatX.st {A : List Ent} {h h' : H} {O : Nat → Prop} (s : SatX A h O) (e : ∀ b, O b → h'[b]? = h[b]?) : SatX A h' O := by
  induction A generalizing O with
  | nil => exact s
  | cons x A ih =>
    obtain ⟨f, g, hp, hg, hd, ho⟩ := s
    exact ⟨f, g, x.st hp fun b hb => e b ((ho b).2 (Or.inl hb)), ih hg fun b hb => e b ((ho b).2 (Or.inr hb)), hd, ho⟩
theorem SatX.lt {A : List Ent} {h : H} {O : Nat → Prop} (s : SatX A h O) {b : Nat} (hb : O b) : b < h.size := by
  induction A generalizing O with
  | nil => exact absurd hb (s b)
  | cons x A ih =>
    obtain ⟨f, g, hp, hg, hd, ho⟩ := s
    rcases (ho b).1 hb with k | k
    · exact x.lt hp k
    · exact ih hg k
theorem SatX.iff {A : List Ent} {h : H} {O O' : Nat → Prop} (s : SatX A h O) (e : ∀ b, O b ↔ O' b) : SatX A h O' := by
  have : O = O' := funext fun b => propext (e b)
  exact this ▸ s
theorem SatX.append {A B : List Ent} {h : H} {O : Nat → Prop} : SatX (A ++ B) h O ↔ ∃ f g, SatX A h f ∧ SatX B h g ∧ (∀ b, f b → ¬ g b) ∧ (∀ b, O b ↔ f b ∨ g b) := by
  induction A generalizing O with
  | nil =>
    constructor
    · intro s; exact ⟨fun _ => False, O, fun _ x => x, s, fun _ x => x.elim, fun b => by simp⟩
    · rintro ⟨f, g, hf, hg, _, ho⟩
      refine hg.iff fun b => ?_
      rw [ho]; constructor
      · exact Or.inr
      · rintro (k | k)
        · exact absurd k (hf b)
        · exact k
  | cons x A ih =>
    constructor
    · rintro ⟨f, g, hp, hg, hd, ho⟩
      obtain ⟨f', g', h1, h2, h3, h4⟩ := ih.1 hg
      refine ⟨fun b => f b ∨ f' b, g', ⟨f, f', hp, h1, fun b k k' => hd b k ((h4 b).2 (Or.inl k')), fun b => Iff.rfl⟩, h2, ?_, ?_⟩
      · rintro b (k | k) k'
        · exact hd b k ((h4 b).2 (Or.inr k'))
        · exact h3 b k k'
      · intro b; rw [ho, h4, or_assoc]
    · rintro ⟨f, g, ⟨f1, f2, hp, h1, h2, h3⟩, hg, hd, ho⟩
      refine ⟨f1, fun b => f2 b ∨ g b, hp, ih.2 ⟨f2, g, h1, hg, fun b k k' => hd b ((h3 b).2 (Or.inr k)) k', fun b => Iff.rfl⟩, ?_, ?_⟩
      · rintro b k (k' | k')
        · exact h2 b k k'
        · exact hd b ((h3 b).2 (Or.inl k)) k'
      · intro b; rw [ho, h3, or_assoc]

/-- The thing at a place of the list. -/
inductive At : List Ent → Nat → Ent → Prop where
  | z {A : List Ent} {e : Ent} : At (e :: A) 0 e
  | s {A : List Ent} {e x : Ent} {i : Nat} : At A i e → At (x :: A) (i + 1) e
def put : List Ent → Nat → Ent → List Ent
  | [], _, _ => []
  | _ :: A, 0, e => e :: A
  | x :: A, i + 1, e => x :: put A i e
@[simp] theorem put_zero (x e : Ent) (A : List Ent) : put (x :: A) 0 e = e :: A := rfl
@[simp] theorem put_succ (x e : Ent) (A : List Ent) (i : Nat) : put (x :: A) (i + 1) e = x :: put A i e := rfl
theorem At.put {A : List Ent} {i : Nat} {e : Ent} (a : At A i e) (x : Ent) : At (Vc.put A i x) i x := by
  induction a with
  | z => exact .z
  | s _ ih => exact .s ih
theorem At.put_ne {A : List Ent} {i j : Nat} {e : Ent} (a : At A i e) (hj : i ≠ j) (x : Ent) : At (Vc.put A j x) i e := by
  induction a generalizing j with
  | z => cases j with
    | zero => exact absurd rfl hj
    | succ j => exact .z
  | s q ih => cases j with
    | zero => exact .s q
    | succ j => exact .s (ih (by omega))
@[simp] theorem put_put (A : List Ent) (i : Nat) (x y : Ent) : put (put A i x) i y = put A i y := by
  induction A generalizing i with
  | nil => rfl
  | cons a A ih => cases i with
    | zero => rfl
    | succ i => simp [ih]
theorem At.put_self {A : List Ent} {i : Nat} {e : Ent} (a : At A i e) : Vc.put A i e = A := by
  induction a with
  | z => rfl
  | s _ ih => simp [ih]

/-- A thing taken out of the list, and another one put in its place. -/
theorem SatX.take {A : List Ent} {i : Nat} {e : Ent} (a : At A i e) {h : H} {O : Nat → Prop} (s : SatX A h O) :
    ∃ f g : Nat → Prop, e.P h f ∧ (∀ b, f b → ¬ g b) ∧ (∀ b, O b ↔ f b ∨ g b) ∧
      ∀ (e' : Ent) (h' : H) (f' : Nat → Prop), e'.P h' f' → (∀ b, g b → h'[b]? = h[b]?) → (∀ b, f' b → ¬ g b) → SatX (Vc.put A i e') h' (fun b => f' b ∨ g b) := by
  induction a generalizing O with
  | z =>
    obtain ⟨f, g, hp, hg, hd, ho⟩ := s
    exact ⟨f, g, hp, hd, ho, fun e' h' f' hp' hsame hd' => ⟨f', g, hp', hg.st hsame, hd', fun b => Iff.rfl⟩⟩
  | s a ih =>
    obtain ⟨f, g, hp, hg, hd, ho⟩ := s
    obtain ⟨f1, g1, h1, h2, h3, h4⟩ := ih hg
    refine ⟨f1, fun b => f b ∨ g1 b, h1, ?_, ?_, ?_⟩
    · rintro b k (k' | k')
      · exact hd b k' ((h3 b).2 (Or.inl k))
      · exact h2 b k k'
    · intro b; rw [ho, h3]; constructor
      · rintro (k | k | k) <;> simp [k]
      · rintro (k | k | k) <;> simp [k]
    · intro e' h' f' hp' hsame hd'
      refine ⟨f, fun b => f' b ∨ g1 b, Ent.st _ hp fun b k => hsame b (Or.inl k), h4 e' h' f' hp' (fun b k => hsame b (Or.inr k)) (fun b k k' => hd' b k (Or.inr k')), ?_, ?_⟩
      · rintro b k (k' | k')
        · exact hd' b k' (Or.inl k)
        · exact hd b k ((h3 b).2 (Or.inr k'))
      · intro b; constructor
        · rintro (k | k | k) <;> simp [k]
        · rintro (k | k | k) <;> simp [k]

/-! ### With a base -/
/-- The things lie in new blocks; all blocks of the base heap are as they were. -/
def Sat (h0 : H) (A : List Ent) (h : H) : Prop := Ext none_ h0 h ∧ ∃ O, SatX A h O ∧ ∀ b, O b → h0.size ≤ b

theorem Sat.init (h : H) : Sat h [] h := ⟨Ext.refl _ _, fun _ => False, fun _ x => x, fun _ x => x.elim⟩
theorem Sat.ex {h0 h : H} {A : List Ent} (s : Sat h0 A h) : Ext none_ h0 h := s.1
theorem Sat.ext {h0 h h' : H} {A : List Ent} (s : Sat h0 A h) (x : Ext none_ h h') : Sat h0 A h' := by
  obtain ⟨s1, O, s2, s3⟩ := s
  exact ⟨s1.trans x, O, s2.st fun b hb => x.eq b (s2.lt hb) (fun y => y), s3⟩
theorem Sat.add {h0 h h' : H} {A : List Ent} (s : Sat h0 A h) (x : Ext none_ h h') {e : Ent} {f : Nat → Prop} (p : e.P h' f) (n : ∀ b, f b → h.size ≤ b) : Sat h0 (e :: A) h' := by
  obtain ⟨s1, O, s2, s3⟩ := s
  refine ⟨s1.trans x, fun b => f b ∨ O b, ⟨f, O, p, s2.st fun b hb => x.eq b (s2.lt hb) (fun y => y), ?_, fun b => Iff.rfl⟩, ?_⟩
  · intro b k k'; have := n b k; have := s2.lt k'; omega
  · rintro b (k | k)
    · have := n b k; have := s1.size; omega
    · exact s3 b k
theorem Sat.drop {h0 h : H} {A : List Ent} {e : Ent} (s : Sat h0 (e :: A) h) : Sat h0 A h := by
  obtain ⟨s1, O, ⟨f, g, _, hg, _, ho⟩, s3⟩ := s
  exact ⟨s1, g, hg, fun b hb => s3 b ((ho b).2 (Or.inr hb))⟩
theorem Sat.sub {h0 h : H} {A B : List Ent} (s : Sat h0 A h) (p : B.Sublist A) : Sat h0 B h := by
  obtain ⟨s1, O, s2, s3⟩ := s
  have : ∃ O', SatX B h O' ∧ ∀ b, O' b → O b := by
    clear s3
    induction p generalizing O with
    | slnil => exact ⟨O, s2, fun _ x => x⟩
    | cons a _ ih =>
      obtain ⟨f, g, hp, hg, hd, ho⟩ := s2
      obtain ⟨O', h1, h2⟩ := ih g hg
      exact ⟨O', h1, fun b hb => (ho b).2 (Or.inr (h2 b hb))⟩
    | cons_cons a _ ih =>
      obtain ⟨f, g, hp, hg, hd, ho⟩ := s2
      obtain ⟨O', h1, h2⟩ := ih g hg
      exact ⟨fun b => f b ∨ O' b, ⟨f, O', hp, h1, fun b k k' => hd b k (h2 b k'), fun b => Iff.rfl⟩, fun b hb => (ho b).2 (hb.imp id (h2 b))⟩
  obtain ⟨O', h1, h2⟩ := this
  exact ⟨s1, O', h1, fun b hb => s3 b (h2 b hb)⟩
theorem Sat.nil {h0 h : H} {A : List Ent} (s : Sat h0 A h) : Sat h0 [] h := ⟨s.1, fun _ => False, fun _ x => x, fun _ x => x.elim⟩
theorem Sat.perm {h0 h : H} {A B : List Ent} (s : Sat h0 A h) (p : A.Perm B) : Sat h0 B h := by
  obtain ⟨s1, O, s2, s3⟩ := s
  refine ⟨s1, O, ?_, s3⟩
  clear s3
  induction p generalizing O with
  | nil => exact s2
  | cons x _ ih =>
    obtain ⟨f, g, hp, hg, hd, ho⟩ := s2
    exact ⟨f, g, hp, ih g hg, hd, ho⟩
  | swap x y l =>
    obtain ⟨f, g, hp, ⟨f1, g1, hp1, hg1, hd1, ho1⟩, hd, ho⟩ := s2
    refine ⟨f1, fun b => f b ∨ g1 b, hp1, ⟨f, g1, hp, hg1, fun b k k' => hd b k ((ho1 b).2 (Or.inr k')), fun b => Iff.rfl⟩, ?_, ?_⟩
    · rintro b k (k' | k')
      · exact hd b k' ((ho1 b).2 (Or.inl k))
      · exact hd1 b k k'
    · intro b; rw [ho, ho1]; constructor
      · rintro (k | k | k) <;> simp [k]
      · rintro (k | k | k) <;> simp [k]
  | trans _ _ ih1 ih2 => exact ih2 O (ih1 O s2)
theorem Sat.takeK {h0 h : H} {A : List Ent} (s : Sat h0 A h) {i : Nat} {e : Ent} (a : At A i e) : ∃ f : Nat → Prop, e.P h f ∧ (∀ b, f b → h0.size ≤ b) ∧
    ∀ (h' : H) (e' : Ent) (f' : Nat → Prop), e'.P h' f' → (∀ b, f' b → f b ∨ h.size ≤ b) → Ext f h h' → Sat h0 (Vc.put A i e') h' := by
  obtain ⟨s1, O, s2, s3⟩ := s
  obtain ⟨f, g, hp, hd, ho, hk⟩ := s2.take a
  refine ⟨f, hp, fun b hb => s3 b ((ho b).2 (Or.inl hb)), fun h' e' f' hp' hn hx => ?_⟩
  have hg : ∀ b, g b → b < h.size := fun b hb => s2.lt ((ho b).2 (Or.inr hb))
  refine ⟨s1.comp hx (fun b hb hf => ?_), _, hk e' h' f' hp' (fun b hb => hx.eq b (hg b hb) (fun hf => hd b hf hb)) ?_, ?_⟩
  · have := s3 b ((ho b).2 (Or.inl hf)); omega
  · intro b k1 k2
    rcases hn b k1 with k | k
    · exact hd b k k2
    · have := hg b k2; omega
  · rintro b (k1 | k1)
    · rcases hn b k1 with k | k
      · exact s3 b ((ho b).2 (Or.inl k))
      · have := s1.size; omega
    · exact s3 b ((ho b).2 (Or.inr k1))
theorem Sat.take {h0 h : H} {A : List Ent} (s : Sat h0 A h) {i : Nat} {e : Ent} (a : At A i e) : ∃ f, e.P h f ∧ ∀ b, f b → h0.size ≤ b := by
  obtain ⟨f, h1, h2, _⟩ := s.takeK a
  exact ⟨f, h1, h2⟩
/-- One thing becomes another one: only its own blocks, and new ones, change. -/
theorem Sat.upd {h0 h h' : H} {A : List Ent} (s : Sat h0 A h) {i : Nat} {e e' : Ent} (a : At A i e)
    (k : ∀ f, e.P h f → ∃ f', e'.P h' f' ∧ (∀ b, f' b → f b ∨ h.size ≤ b) ∧ Ext f h h') : Sat h0 (Vc.put A i e') h' := by
  obtain ⟨f, hp, _, hk⟩ := s.takeK a
  obtain ⟨f', h1, h2, h3⟩ := k f hp
  exact hk h' e' f' h1 h2 h3
/-- The same heap, read otherwise. -/
theorem Sat.as {h0 h : H} {A : List Ent} (s : Sat h0 A h) {i : Nat} {e e' : Ent} (a : At A i e) (k : ∀ f, e.P h f → e'.P h f) : Sat h0 (Vc.put A i e') h :=
  s.upd a fun f hp => ⟨f, k f hp, fun _ => Or.inl, Ext.refl _ _⟩

/-! ### A block; a slice -/
@[irreducible] def blkP (b : Nat) (vs : List Value) (h : H) (f : Nat → Prop) : Prop := Blk h b vs ∧ ∀ x, f x ↔ x = b
def blk (b : Nat) (vs : List Value) : Ent where
  tag := .blk b vs
  P := blkP b vs
  st := by unfold blkP; rintro h h' f ⟨k, e⟩ hs; exact ⟨k.of_eq (hs b ((e b).2 rfl)), e⟩
  lt := by unfold blkP; rintro h f x ⟨k, e⟩ hx; rw [(e x).1 hx]; exact k.lt
theorem blk_P {b : Nat} {vs : List Value} {h : H} {f : Nat → Prop} : (blk b vs).P h f ↔ Blk h b vs ∧ ∀ x, f x ↔ x = b := by
  show blkP b vs h f ↔ _; unfold blkP; rfl
@[irreducible] def slP (p : Option Addr) (l c sz : Nat) (vs : List Value) (h : H) (f : Nat → Prop) : Prop := ∃ bs, OwnS h p l c sz vs bs ∧ ∀ x, f x ↔ x ∈ bs
def slE (p : Option Addr) (l c sz : Nat) (vs : List Value) : Ent where
  tag := .sl p l c sz vs
  P := slP p l c sz vs
  st := by
    unfold slP; rintro h h' f ⟨bs, ⟨h1, h2, h3, h4⟩, e⟩ hs
    refine ⟨bs, ⟨h1, h2, h3, ?_⟩, e⟩
    rcases h4 with h4 | ⟨b, rest, e1, rfl, k, e2⟩
    · exact Or.inl h4
    · exact Or.inr ⟨b, rest, e1, rfl, k.of_eq (hs b ((e b).2 (by simp))), e2⟩
  lt := by unfold slP; rintro h f x ⟨bs, o, e⟩ hx; exact o.lt x ((e x).1 hx)
theorem slE_P {p : Option Addr} {l c sz : Nat} {vs : List Value} {h : H} {f : Nat → Prop} : (slE p l c sz vs).P h f ↔ ∃ bs, OwnS h p l c sz vs bs ∧ ∀ x, f x ↔ x ∈ bs := by
  show slP p l c sz vs h f ↔ _; unfold slP; rfl
@[irreducible] def exP {α : Type} (φ : α → Prop) (F : α → List Ent) (h : H) (f : Nat → Prop) : Prop := ∃ a, φ a ∧ SatX (F a) h f
/-- Things whose places nobody need know. -/
def exE {α : Type} (n : Nat) (φ : α → Prop) (F : α → List Ent) : Ent where
  tag := .of n
  P := exP φ F
  st := by unfold exP; rintro h h' f ⟨a, ha, s⟩ hs; exact ⟨a, ha, s.st hs⟩
  lt := by unfold exP; rintro h f x ⟨a, ha, s⟩ hx; exact s.lt hx
theorem exE_P {α : Type} {n : Nat} {φ : α → Prop} {F : α → List Ent} {h : H} {f : Nat → Prop} : (exE n φ F).P h f ↔ ∃ a, φ a ∧ SatX (F a) h f := by
  show exP φ F h f ↔ _; unfold exP; rfl
theorem Sat.open_ {h0 h : H} {A : List Ent} {α : Type} {n : Nat} {φ : α → Prop} {F : α → List Ent} (s : Sat h0 (exE n φ F :: A) h) : ∃ a, φ a ∧ Sat h0 (F a ++ A) h := by
  obtain ⟨s1, O, ⟨f, g, hp, hg, hd, ho⟩, s3⟩ := s
  obtain ⟨a, ha, s⟩ := exE_P.1 hp
  exact ⟨a, ha, s1, O, SatX.append.2 ⟨f, g, s, hg, hd, ho⟩, s3⟩
theorem Sat.close {h0 h : H} {A : List Ent} {α : Type} {n : Nat} {φ : α → Prop} {F : α → List Ent} (a : α) (ha : φ a) (s : Sat h0 (F a ++ A) h) : Sat h0 (exE n φ F :: A) h := by
  obtain ⟨s1, O, s2, s3⟩ := s
  obtain ⟨f, g, hf, hg, hd, ho⟩ := SatX.append.1 s2
  exact ⟨s1, O, ⟨f, g, exE_P.2 ⟨a, ha, hf⟩, hg, hd, ho⟩, s3⟩
/-- Moved to the front. -/
def del : List Ent → Nat → List Ent
  | [], _ => []
  | _ :: A, 0 => A
  | x :: A, i + 1 => x :: del A i
theorem At.perm {A : List Ent} {i : Nat} {e : Ent} (a : At A i e) : A.Perm (e :: del A i) := by
  induction a with
  | z => exact .refl _
  | s _ ih => exact (ih.cons _).trans (.swap _ _ _)
theorem At.perm_put {A : List Ent} {i : Nat} {e : Ent} (a : At A i e) (x : Ent) : (x :: del A i).Perm (Vc.put A i x) := by
  induction a with
  | z => exact .refl _
  | s _ ih => exact (List.Perm.swap _ _ _).trans (ih.cons _)
theorem Sat.front {h0 h : H} {A : List Ent} (s : Sat h0 A h) {i : Nat} {e : Ent} (a : At A i e) : Sat h0 (e :: del A i) h := s.perm a.perm
theorem Sat.back {h0 h : H} {A : List Ent} {i : Nat} {e x : Ent} (a : At A i e) (s : Sat h0 (x :: del A i) h) : Sat h0 (Vc.put A i x) h := s.perm (a.perm_put x)

/-! ### Steps -/
theorem Sat.new {h0 h h' : H} {A : List Ent} (s : Sat h0 A h) {b : Nat} {vs : List Value} (n : hnew h b vs h') : Sat h0 (blk b vs :: A) h' :=
  s.add n.ext (blk_P.2 ⟨n.blk, fun _ => Iff.rfl⟩) fun x hx => by rw [hx, n.b]; exact Nat.le_refl _
theorem Sat.blkOf {h0 h : H} {A : List Ent} (s : Sat h0 A h) {i b : Nat} {vs : List Value} (a : At A i (blk b vs)) : Blk h b vs := by
  obtain ⟨f, hp, _⟩ := s.take a
  exact (blk_P.1 hp).1
theorem Sat.old {h0 h : H} {A : List Ent} (s : Sat h0 A h) {i b : Nat} {vs : List Value} (a : At A i (blk b vs)) : h0.size ≤ b := by
  obtain ⟨f, hp, hl⟩ := s.take a
  exact hl b (((blk_P.1 hp).2 b).2 rfl)
theorem Sat.ld {h0 h : H} {A : List Ent} (s : Sat h0 A h) {i b : Nat} {vs : List Value} (a : At A i (blk b vs)) {o : Nat} {v : Value} (e : vs[o]? = some v) : hc h ⟨b, o, none⟩ = some v := by
  rw [(s.blkOf a).hc, e]
theorem Sat.cs1 {h0 h : H} {A : List Ent} (s : Sat h0 A h) {i b : Nat} {vs : List Value} (a : At A i (blk b vs)) {o : Nat} {xs : List Value} (e : ∀ i, i < xs.length → vs[o + i]? = xs[i]?) : hcs h ⟨b, o, none⟩ xs := (s.blkOf a).hcs e
theorem Sat.cs {h0 h : H} {A : List Ent} (s : Sat h0 A h) {i b : Nat} {vs : List Value} (a : At A i (blk b vs)) {o : Nat} {xs : List Value} (e : (vs.drop o).take xs.length = xs) : hcs h ⟨b, o, none⟩ xs := by
  refine s.cs1 a fun i hi => ?_
  have : ((vs.drop o).take xs.length)[i]? = xs[i]? := by rw [e]
  rw [List.getElem?_take_of_lt hi, List.getElem?_drop] at this
  exact this
theorem Sat.row {h0 h : H} {A : List Ent} (s : Sat h0 A h) {i b : Nat} {vs : List Value} (a : At A i (blk b vs)) {o : Nat} {k : IntKind} {ns : List Int} (e : ∀ i, i < ns.length → vs[o + i]? = ns[i]?.map (Value.int k)) : hrow h ⟨b, o, none⟩ k ns := (s.blkOf a).hrow e
theorem Sat.can {h0 h : H} {A : List Ent} (s : Sat h0 A h) {i b : Nat} {vs : List Value} (a : At A i (blk b vs)) {o n : Nat} (e : o + n ≤ vs.length) : hcan h ⟨b, o, none⟩ n := (s.blkOf a).can e
theorem Sat.wr {h0 h h' : H} {A : List Ent} (s : Sat h0 A h) {i b : Nat} {vs : List Value} (a : At A i (blk b vs)) {o : Nat} {xs : List Value} (e : h' = hwr h ⟨b, o, none⟩ xs) : Sat h0 (Vc.put A i (blk b (splice vs o xs))) h' := by
  subst e
  refine s.upd a fun f hp => ?_
  obtain ⟨k, hf⟩ := blk_P.1 hp
  refine ⟨f, blk_P.2 ⟨k.wr o xs, hf⟩, fun _ => Or.inl, (Ext.wr h b o xs).mono fun x _ hx => (hf x).2 hx⟩
theorem Sat.sv {h0 h : H} {A : List Ent} (s : Sat h0 A h) {i : Nat} {p : Option Addr} {l c sz : Nat} {vs : List Value} (a : At A i (slE p l c sz vs)) : hsv h p sz l vs := by
  obtain ⟨f, hp, _⟩ := s.take a
  obtain ⟨bs, o, _⟩ := slE_P.1 hp
  exact o.hsv
theorem Sat.base {h0 h : H} {A : List Ent} (s : Sat h0 A h) {p : Option Addr} {sz l : Nat} {vs : List Value} (e : hsv h0 p sz l vs) : hsv h p sz l vs := hsv_ext s.1 e fun _ _ x => x
theorem Sat.own {h0 h h' : H} {A : List Ent} (s : Sat h0 A h) (x : Ext none_ h h') {p : Option Addr} {l c sz : Nat} {vs : List Value} {bs : List Nat} (o : OwnS h' p l c sz vs bs) (n : newB h bs) : Sat h0 (slE p l c sz vs :: A) h' :=
  s.add x (f := fun x => x ∈ bs) (slE_P.2 ⟨bs, o, fun _ => Iff.rfl⟩) n
/-- Cells are appended to a slice that is owned. -/
theorem Sat.app {h0 h : H} {A : List Ent} (s : Sat h0 A h) {i : Nat} {p : Option Addr} {l c n sz : Nat} {old vs z : List Value} {B : Nat} (a : At A i (slE p l c sz old)) {K : Option Addr → Nat → Nat → H → Prop}
    (hl : vs.length = n * sz) (hz : z.length = sz) (hv : ∀ v, v ∈ vs → v.oneCell' = true) (hb : (l + n) * B ≤ 2 ^ 47)
    (k : ∀ p' c' h', Sat h0 (Vc.put A i (slE p' (l + n) c' sz (old ++ vs))) h' → K p' (l + n) c' h') : pApp h sz z B p l c n vs K := by
  obtain ⟨f, hp, _, hk⟩ := s.takeK a
  obtain ⟨bs, o, hf⟩ := slE_P.1 hp
  refine pApp_own o hl hz hv hb fun p' c' h' bs' hx ho hn => k _ _ _ ?_
  refine hk h' _ (fun x => x ∈ bs') (slE_P.2 ⟨bs', ho, fun _ => Iff.rfl⟩) (fun b hb => ?_) (hx.mono fun x _ hx => (hf x).2 hx)
  rcases hn b hb with h1 | h1
  · exact Or.inl ((hf b).2 h1)
  · exact Or.inr h1
theorem At.app {A B : List Ent} {i : Nat} {e : Ent} (a : At A i e) : At (A ++ B) i e := by
  induction a with
  | z => exact .z
  | s _ ih => exact .s ih
theorem At.get {A : List Ent} {i : Nat} {e : Ent} (h : A[i]? = some e) : At A i e := by
  induction A generalizing i with
  | nil => simp at h
  | cons x A ih => cases i with
    | zero => simp at h; subst h; exact .z
    | succ i => exact .s (ih (by simpa using h))
theorem At.mem {A : List Ent} {e : Ent} (h : e ∈ A) : ∃ i, At A i e := by
  obtain ⟨i, hi⟩ := List.mem_iff_getElem?.1 h
  exact ⟨i, At.get hi⟩

end Go.Vc
end

/- Slices of slices of bytes. Own work; generic over any program. -/
section
set_option linter.unusedVariables false
namespace Go.Vc

def bools (bs : List Bool) : List Value := bs.map Value.bool
@[simp] theorem bools_length (bs : List Bool) : (bools bs).length = bs.length := by simp [bools]
@[simp] theorem bools_get (bs : List Bool) (i : Nat) : (bools bs)[i]? = bs[i]?.map Value.bool := by simp [bools]
abbrev Sl := Option Addr × Nat × Nat
abbrev Sl.v (s : Sl) : Value := .slice s.1 s.2.1 s.2.2
abbrev sE (s : Sl) (sz : Nat) (vs : List Value) : Ent := slE s.1 s.2.1 s.2.2 sz vs

/-- A row's slice, and its bytes. -/
structure Pg where
  sl : Sl
  bytes : List Int
def Pg.rd (h : H) (sz : Nat) (x : Pg) : Prop := hsv h x.sl.1 sz x.sl.2.1 (ints .u8 x.bytes)
def pgSl (l : List Pg) : List Value := l.map fun x => x.sl.v
def pgBytes (l : List Pg) : List (List Int) := l.map Pg.bytes
def rowsE (sz : Nat) (l : List Pg) : List Ent := l.map fun x => sE x.sl sz (ints .u8 x.bytes)
@[simp] theorem pgSl_length (l : List Pg) : (pgSl l).length = l.length := by simp [pgSl]
@[simp] theorem pgBytes_length (l : List Pg) : (pgBytes l).length = l.length := by simp [pgBytes]

/-- A slice of slices of bytes (sz a element of the inner ones), read only. -/
def RdM (h : H) (sz : Nat) (a : Sl) (rows : List (List Int)) : Prop := ∃ pgs, rows = pgBytes pgs ∧ hsv h a.1 1 a.2.1 (pgSl pgs) ∧ ∀ x, x ∈ pgs → x.rd h sz
/-- A slice of slices of bytes that is owned. -/
def matL (sz : Nat) (a : Sl) (pgs : List Pg) : List Ent := sE a 1 (pgSl pgs) :: rowsE sz pgs
def matE (sz : Nat) (a : Sl) (rows : List (List Int)) : Ent := exE 1 (fun pgs => rows = pgBytes pgs) (matL sz a)
theorem RdM.ext {h h' : H} (x : Ext none_ h h') {sz : Nat} {a : Sl} {rows : List (List Int)} (r : RdM h sz a rows) : RdM h' sz a rows := by
  obtain ⟨pgs, h1, h2, h3⟩ := r
  exact ⟨pgs, h1, hsv_ext x h2 (fun _ _ y => y), fun y hy => hsv_ext x (h3 y hy) (fun _ _ y => y)⟩
theorem RdM.len {h : H} {sz : Nat} {a : Sl} {rows : List (List Int)} (r : RdM h sz a rows) : rows.length = a.2.1 := by
  obtain ⟨pgs, rfl, h2, _⟩ := r
  have := h2.1; simpa using this
/-- The slice of a row, and what it holds. -/
theorem RdM.at {h : H} {sz : Nat} {a : Sl} {rows : List (List Int)} (r : RdM h sz a rows) {j : Nat} (hj : j < rows.length) :
    ∃ q x, a.1 = some q ∧ hc h (q.add (j * 1)) = some (Sl.v x) ∧ hsv h x.1 sz x.2.1 (ints .u8 rows[j]) := by
  obtain ⟨pgs, rfl, h2, h3⟩ := r
  have hj' : j < pgs.length := by simpa using hj
  have e : (pgSl pgs)[j]? = some (pgs[j].sl.v) := by simp [pgSl, hj']
  obtain ⟨q, hq, g⟩ := hsv_get h2 e
  refine ⟨q, pgs[j].sl, hq, by simpa using g, ?_⟩
  have := h3 pgs[j] (List.getElem_mem hj')
  simpa [Pg.rd, pgBytes] using this
theorem Sat.rdM {h0 h : H} {A : List Ent} (hs : Sat h0 A h) {i sz : Nat} {a : Sl} {rows : List (List Int)} (m : At A i (matE sz a rows)) : RdM h sz a rows := by
  obtain ⟨pgs, he, hs⟩ := (hs.front m).open_
  refine ⟨pgs, he, hs.sv (.z), ?_⟩
  intro x hx
  obtain ⟨j, hj⟩ := At.mem (A := rowsE sz pgs) (e := sE x.sl sz (ints .u8 x.bytes)) (List.mem_map_of_mem hx)
  exact hs.sv (.s hj.app)
/-- A row is appended. -/
theorem Sat.app_row {h0 h : H} {A : List Ent} {i sz : Nat} {p : Option Addr} {l c : Nat} {r : Sl} {rows : List (List Int)} {bs : List Int} {K : Option Addr → Nat → Nat → H → Prop}
    (hs : Sat h0 (sE r sz (ints .u8 bs) :: A) h) (m : At A i (matE sz (p, l, c) rows)) (hb : (l + 1) * 24 ≤ 2 ^ 47)
    (k : ∀ p' c' h', Sat h0 (Vc.put A i (matE sz (p', l + 1, c') (rows ++ [bs]))) h' → K p' (l + 1) c' h') : pApp h 1 [.slice none 0 0] 24 p l c 1 [r.v] K := by
  obtain ⟨pgs, he, hs⟩ := (hs.front (m.s)).open_
  have hs : Sat h0 (sE (p, l, c) 1 (pgSl pgs) :: (rowsE sz pgs ++ (sE r sz (ints .u8 bs) :: del A i))) h := hs
  refine hs.app (.z) (by simp) rfl (by intro v hv; simp at hv; subst hv; rfl) hb ?_
  intro p' c' h' hs
  refine k p' c' h' (Sat.back m ?_)
  refine Sat.close (pgs ++ [⟨r, bs⟩]) (by simp [he, pgBytes]) ?_
  refine hs.perm ?_
  simp only [Vc.put, matL, rowsE, pgSl, List.map_append, List.map_cons, List.map_nil, List.cons_append, List.append_assoc, List.nil_append]
  exact .refl _
theorem Sat.mat_nil {h0 h : H} {A : List Ent} (hs : Sat h0 A h) (sz : Nat) (p : Option Addr) : Sat h0 (matE sz (p, 0, 0) [] :: A) h := by
  refine Sat.close [] rfl ?_
  refine hs.own (Ext.refl _ _) (bs := []) (OwnS.nil _ _ _) (by intro b hb; simp at hb)
theorem Sat.sl_nil {h0 h : H} {A : List Ent} (hs : Sat h0 A h) (sz : Nat) (p : Option Addr) : Sat h0 (sE (p, 0, 0) sz [] :: A) h :=
  hs.own (Ext.refl _ _) (bs := []) (OwnS.nil _ _ _) (by intro b hb; simp at hb)
/-- A block, held for a slice. -/
theorem Sat.as_sl {h0 h : H} {A : List Ent} (hs : Sat h0 A h) {i b l sz : Nat} {vs : List Value} (m : At A i (blk b vs)) (hl : vs.length = l * sz) (hv : ∀ v, v ∈ vs → v.oneCell' = true) :
    Sat h0 (Vc.put A i (slE (some ⟨b, 0, none⟩) l l sz vs)) h := by
  refine hs.as m fun f hp => ?_
  obtain ⟨k, hf⟩ := blk_P.1 hp
  refine slE_P.2 ⟨[b], ⟨hl, Nat.le_refl _, hv, Or.inr ⟨b, [], rfl, rfl, by simpa using k, by simp⟩⟩, fun x => ?_⟩
  rw [hf]; simp
theorem Sat.bv {h0 h : H} {A : List Ent} (hs : Sat h0 A h) {i b l sz : Nat} {vs : List Value} (m : At A i (blk b vs)) (hl : vs.length = l * sz) (hv : ∀ v, v ∈ vs → v.oneCell' = true) :
    hsv h (some ⟨b, 0, none⟩) sz l vs := (hs.as_sl m hl hv).sv (m.put _)
theorem ints_one (k : IntKind) (ns : List Int) : ∀ v, v ∈ ints k ns → v.oneCell' = true := by
  intro v hv
  simp only [ints, List.mem_map] at hv
  obtain ⟨n, _, rfl⟩ := hv; rfl
theorem bools_one (ns : List Bool) : ∀ v, v ∈ bools ns → v.oneCell' = true := by
  intro v hv
  simp only [bools, List.mem_map] at hv
  obtain ⟨n, _, rfl⟩ := hv; rfl
theorem Sat.ofBlk {h0 h h' : H} {A : List Ent} (hs : Sat h0 A h) (x : Ext none_ h h') {b : Nat} {vs : List Value} (k : Blk h' b vs) (n : h.size ≤ b) : Sat h0 (blk b vs :: A) h' :=
  hs.add x (blk_P.2 ⟨k, fun _ => Iff.rfl⟩) fun y hy => by rw [hy]; exact n

/-! ### Slices whose first cell is known -/
theorem Sat.sl_some {h0 h : H} {A : List Ent} (hs : Sat h0 A h) {i : Nat} {p : Option Addr} {l c sz : Nat} {vs : List Value} (m : At A i (slE p l c sz vs)) (hl : 0 < l) : ∃ b, p = some ⟨b, 0, none⟩ := by
  obtain ⟨f, hp, _⟩ := hs.take m
  obtain ⟨bs, ⟨_, _, _, h4⟩, _⟩ := slE_P.1 hp
  rcases h4 with ⟨h1, _, _⟩ | ⟨b, _, h1, _⟩
  · omega
  · exact ⟨b, h1⟩
theorem Sat.sl_len {h0 h : H} {A : List Ent} (hs : Sat h0 A h) {i : Nat} {p : Option Addr} {l c sz : Nat} {vs : List Value} (m : At A i (slE p l c sz vs)) : vs.length = l * sz := (hs.sv m).1
theorem Sat.sld {h0 h : H} {A : List Ent} (hs : Sat h0 A h) {i b l c sz : Nat} {vs : List Value} (m : At A i (slE (some ⟨b, 0, none⟩) l c sz vs)) {o : Nat} {v : Value} (e : vs[o]? = some v) : hc h ⟨b, o, none⟩ = some v := by
  obtain ⟨q, hq, g⟩ := hsv_get (hs.sv m) e
  injection hq with hq; subst hq
  rwa [add_mk, Nat.zero_add] at g
theorem OwnS.blk' {h : H} {b l c sz : Nat} {vs : List Value} {bs : List Nat} (o : OwnS h (some ⟨b, 0, none⟩) l c sz vs bs) (hv : 0 < l) : bs = [b] ∧ ∃ rest, Blk h b (vs ++ rest) ∧ (c - l) * sz ≤ rest.length := by
  obtain ⟨h1, _, _, h4⟩ := o
  rcases h4 with ⟨r, _, _⟩ | ⟨b', rest, e, h5, k, h6⟩
  · omega
  · injection e with e; injection e with e; subst e
    exact ⟨h5, rest, k, h6⟩
theorem Sat.scan {h0 h : H} {A : List Ent} (hs : Sat h0 A h) {i b l c sz : Nat} {vs : List Value} (m : At A i (slE (some ⟨b, 0, none⟩) l c sz vs)) {o n : Nat} (hl : 0 < l) (e : o + n ≤ vs.length) : hcan h ⟨b, o, none⟩ n := by
  obtain ⟨f, hp, _⟩ := hs.take m
  obtain ⟨bs, o', _⟩ := slE_P.1 hp
  obtain ⟨_, rest, k, _⟩ := o'.blk' hl
  exact k.can (by simp; omega)
theorem splice_left (vs rest : List Value) (o : Nat) (xs : List Value) (h : o + xs.length ≤ vs.length) : splice (vs ++ rest) o xs = splice vs o xs ++ rest := by
  induction xs generalizing vs o with
  | nil => rfl
  | cons x r ih =>
    simp only [List.length_cons] at h
    rw [splice_cons, splice_cons, List.set_append_left _ _ (by omega), ih _ _ (by simp; omega)]
theorem splice_mem {vs xs : List Value} {o : Nat} {v : Value} (h : v ∈ splice vs o xs) : v ∈ vs ∨ v ∈ xs := by
  induction xs generalizing vs o with
  | nil => exact Or.inl h
  | cons x r ih =>
    rw [splice_cons] at h
    rcases ih h with h | h
    · rcases List.mem_or_eq_of_mem_set h with h | h
      · exact Or.inl h
      · exact Or.inr (by simp [h])
    · exact Or.inr (by simp [h])
theorem Sat.swr {h0 h h' : H} {A : List Ent} (hs : Sat h0 A h) {i b l c sz : Nat} {vs : List Value} (m : At A i (slE (some ⟨b, 0, none⟩) l c sz vs)) {o : Nat} {xs : List Value} (e : h' = hwr h ⟨b, o, none⟩ xs) (hl : 0 < l) (hx : o + xs.length ≤ vs.length)
    (h1 : ∀ v, v ∈ xs → v.oneCell' = true) : Sat h0 (Vc.put A i (slE (some ⟨b, 0, none⟩) l c sz (splice vs o xs))) h' := by
  subst e
  refine hs.upd m fun f hp => ?_
  obtain ⟨bs, o', hf⟩ := slE_P.1 hp
  obtain ⟨e, rest, k, hr⟩ := o'.blk' hl
  subst e
  refine ⟨f, slE_P.2 ⟨[b], ⟨by rw [splice_length]; exact o'.1, o'.2.1, ?_, Or.inr ⟨b, rest, rfl, rfl, ?_, hr⟩⟩, hf⟩, fun _ => Or.inl, (Ext.wr h b o xs).mono fun x _ hx => (hf x).2 (by simp [hx])⟩
  · intro v hv
    rcases splice_mem hv with hv | hv
    · exact o'.2.2.1 v hv
    · exact h1 v hv
  · rw [← splice_left _ _ _ _ hx]; exact k.wr o xs

/-! ### Whole blocks -/
theorem Sat.wra {h0 h h' : H} {A : List Ent} (s : Sat h0 A h) {i b : Nat} {vs xs : List Value} (a : At A i (blk b vs)) (e : h' = hwr h ⟨b, 0, none⟩ xs) (hl : xs.length = vs.length) : Sat h0 (Vc.put A i (blk b xs)) h' := by
  have := s.wr a e
  rwa [splice_all _ _ hl] at this
theorem Sat.row0 {h0 h : H} {A : List Ent} (s : Sat h0 A h) {i b : Nat} {k : IntKind} {ns : List Int} (a : At A i (blk b (ints k ns))) : hrow h ⟨b, 0, none⟩ k ns :=
  s.row a fun i _ => by rw [Nat.zero_add, ints_get]

/-! ### Cells of a slice of slices -/
def cellAt (row : List Int) (k : Nat) : List Int := (row.drop (k * 32)).take 32
theorem cellAt_length {row : List Int} {k : Nat} (h : (k + 1) * 32 ≤ row.length) : (cellAt row k).length = 32 := by simp [cellAt]; omega
theorem cellAt_get (row : List Int) (k i : Nat) (hi : i < 32) : (cellAt row k)[i]? = row[k * 32 + i]? := by
  simp only [cellAt]
  rw [List.getElem?_take_of_lt hi, List.getElem?_drop]
/-- A cell is read. -/
theorem RdM.cell {h : H} {a : Sl} {rows : List (List Int)} (r : RdM h 32 a rows) {j k : Nat} (hj : j < rows.length) (hk : (k + 1) * 32 ≤ rows[j].length) :
    ∃ q x q', a.1 = some q ∧ hc h (q.add (j * 1)) = some (Sl.v x) ∧ x.2.1 * 32 = rows[j].length ∧ x.1 = some q' ∧ hrow h (q'.add (k * 32)) .u8 (cellAt rows[j] k) := by
  obtain ⟨q, x, h1, h2, h3⟩ := r.at hj
  have hl : x.2.1 * 32 = rows[j].length := by have := h3.1; simp at this; omega
  obtain ⟨e1, e2, e3⟩ := h3
  rcases e3 with e3 | ⟨q', hq, g⟩
  · have : rows[j].length = 0 := by have := congrArg List.length e3; simpa using this
    omega
  · refine ⟨q, x, q', h1, h2, hl, hq, ?_⟩
    intro i v hv
    have hi : i < 32 := by
      have := (List.getElem?_eq_some_iff.1 hv).1
      rw [ints_length, cellAt_length hk] at this; exact this
    rw [ints_get, cellAt_get _ _ _ hi] at hv
    have : (q'.add (k * 32)).add i = q'.add (k * 32 + i) := by
      cases q' with | mk b o s => unfold Addr.add; by_cases h1 : k * 32 = 0 <;> by_cases h2 : i = 0 <;> simp [h1, h2, Nat.add_assoc]
    rw [this]
    exact g _ _ (by rw [ints_get]; exact hv)

def rowSet (row : List Int) (k : Nat) (c : List Int) : List Int := row.take (k * 32) ++ c ++ row.drop (k * 32 + 32)
theorem rowSet_length {row c : List Int} {k : Nat} (hk : (k + 1) * 32 ≤ row.length) (hc : c.length = 32) : (rowSet row k c).length = row.length := by
  simp [rowSet, hc]; omega
theorem splice_rowSet {row c : List Int} {k : Nat} (hk : (k + 1) * 32 ≤ row.length) (hc : c.length = 32) : splice (ints .u8 row) (k * 32) (ints .u8 c) = ints .u8 (rowSet row k c) := by
  have e : row = row.take (k * 32) ++ (row.drop (k * 32)).take 32 ++ row.drop (k * 32 + 32) := by
    rw [List.append_assoc, ← List.drop_drop, List.take_append_drop, List.take_append_drop]
  have hl : (ints .u8 (row.take (k * 32))).length = k * 32 := by simp; omega
  have key := splice_append (ints .u8 (row.take (k * 32))) (ints .u8 ((row.drop (k * 32)).take 32)) (ints .u8 (row.drop (k * 32 + 32))) (ints .u8 c) (by simp [hc]; omega)
  rw [hl, ← ints_append, ← ints_append, ← e] at key
  rw [key]
  simp [rowSet]

/-! ### A row taken out of a slice of slices -/
theorem rowsE_put (sz : Nat) (pgs : List Pg) (j : Nat) (x : Pg) : put (rowsE sz pgs) j (sE x.sl sz (ints .u8 x.bytes)) = rowsE sz (pgs.set j x) := by
  induction pgs generalizing j with
  | nil => rfl
  | cons y r ih => cases j with
    | zero => rfl
    | succ j => simp only [rowsE, List.map_cons, put_succ, List.set_cons_succ]; congr 1; exact ih j
theorem rowsE_at (sz : Nat) (pgs : List Pg) (j : Nat) (hj : j < pgs.length) : At (rowsE sz pgs) j (sE pgs[j].sl sz (ints .u8 pgs[j].bytes)) := At.get (by simp [rowsE, hj])
theorem Sat.row_take {h0 h : H} {A : List Ent} {sz : Nat} {a : Sl} {rows : List (List Int)} (hs : Sat h0 (matE sz a rows :: A) h) {j : Nat} (hj : j < rows.length) :
    ∃ (x : Sl) (hd : List Value) (R : List Ent), hd[j]? = some x.v ∧ Sat h0 (sE x sz (ints .u8 rows[j]) :: sE a 1 hd :: (A ++ R)) h ∧
      ∀ h' bs B, Sat h0 (sE x sz (ints .u8 bs) :: sE a 1 hd :: (B ++ R)) h' → Sat h0 (matE sz a (rows.set j bs) :: B) h' := by
  obtain ⟨pgs, he, hs⟩ := hs.open_
  have hj' : j < pgs.length := by rw [he] at hj; simpa using hj
  have m := rowsE_at sz pgs j hj'
  refine ⟨pgs[j].sl, pgSl pgs, del (rowsE sz pgs) j, by simp [pgSl, hj'], ?_, ?_⟩
  · have e : pgs[j].bytes = rows[j] := by subst he; simp [pgBytes]
    rw [← e]
    refine hs.perm ?_
    have hp := (m.perm.append_right A).cons (sE a 1 (pgSl pgs))
    exact hp.trans ((List.Perm.swap _ _ _).trans ((List.perm_append_comm.cons _).cons _))
  · intro h' bs B hs'
    refine Sat.close (pgs.set j ⟨pgs[j].sl, bs⟩) ?_ ?_
    · subst he; simp [pgBytes, List.map_set]
    · have e1 : pgSl (pgs.set j ⟨pgs[j].sl, bs⟩) = pgSl pgs := by
        apply List.ext_getElem?; intro k
        simp only [pgSl, List.getElem?_map, List.getElem?_set]
        split
        · rename_i e; subst e; simp [hj']
        · rfl
      refine hs'.perm ?_
      simp only [matL, e1]
      rw [← rowsE_put sz pgs j ⟨pgs[j].sl, bs⟩]
      refine (List.Perm.swap _ _ _).trans ?_
      refine List.Perm.cons _ ?_
      exact ((List.perm_append_comm.cons _)).trans ((m.perm_put _).append_right B)
end Go.Vc
end

/- Arguments that are read as data: what their cells are. Own work; generic over any program. -/
section
set_option maxRecDepth 100000
set_option linter.unusedVariables false
namespace Go.Vc

/-- The cells read as a datum of a type, no piece of which is too great. -/
def Rdt {D : Type} (enc : TypeId × Value → D) (P : Program) (W : World) (t : TypeId) (cs : List Value) : Prop :=
  ∃ fuel x, DataW.trod enc P W 0 (fun _ => true) true fuel t cs = some x ∧ ∀ n, n ∈ DataW.weights P t x.1 → n ≤ reachBytes

inductive XSh where
  | int (k : IntKind) | bool | str | slc (e : TypeId) | row (k : IntKind) (n : Nat)
def XSh.size : XSh → Nat
  | .row _ n => n
  | _ => 1
def xSize : List XSh → Nat
  | [] => 0
  | s :: r => s.size + xSize r

/-- The fields of a struct, one behind the other. -/
def xFields (sh : TypeId → Option (List XSh)) : Nat → List Field → Option (List XSh)
  | _, [] => some []
  | off, f :: fs => match Nat.beq f.offset off, sh f.type with
    | true, some s => (xFields sh (off + xSize s) fs).map (s ++ ·)
    | _, _ => none
def xsh (P : Program) : Nat → TypeId → Option (List XSh)
  | 0, _ => none
  | d + 1, t => match P.underlying t with
    | some (.int k) => some [.int k]
    | some .bool => some [.bool]
    | some .string => some [.str]
    | some (.slice e) => some [.slc e]
    | some (.array n e) => match P.underlying e, Nat.beq (P.cellsOf e) 1, Nat.beq (P.cellsOf t) n with
      | some (.int k), true, true => some [.row k n]
      | _, _, _ => none
    | some (.struct fs) => match xFields (fun u => match xsh P d u with | some s => (match Nat.beq (P.cellsOf u) (xSize s) with | true => some s | false => none) | none => none) 0 fs.toList with
      | some s => match Nat.beq (P.cellsOf t) (xSize s) with | true => some s | false => none
      | none => none
    | _ => none

/-- A slice of so many elements of a type. -/
def Sli {D : Type} (enc : TypeId × Value → D) (P : Program) (W : World) (e : TypeId) (p : Option Addr) (l c : Nat) : Prop :=
  l ≤ c ∧ c * P.bytesOf e ≤ reachBytes ∧ (p = none → l = 0 ∧ c = 0) ∧
    ∀ i, i < l → ∃ a es, p = some a ∧ es.length = P.cellsOf e ∧ hcs W.heap (a.add (i * P.cellsOf e)) es ∧ Rdt enc P W e es
def has (k : IntKind) (n : Int) : Prop := k.min ≤ n ∧ n ≤ k.max
theorem has_u8 {n : Int} (h : has .u8 n) : 0 ≤ n ∧ n < 256 := by
  have h1 : IntKind.u8.min = 0 := rfl
  have h2 : IntKind.u8.max = 255 := by decide
  unfold has at h; omega
theorem has_i64 {n : Int} (h : has .i64 n) : -(2 ^ 63) ≤ n ∧ n < 2 ^ 63 := by
  have h1 : IntKind.i64.min = -(2 ^ 63) := by decide
  have h2 : IntKind.i64.max = 2 ^ 63 - 1 := by decide
  unfold has at h; omega
def XM {D : Type} (enc : TypeId × Value → D) (P : Program) (W : World) : List XSh → List Value → Prop
  | [], cs => cs = []
  | .int k :: r, cs => ∃ n rest, cs = .int k n :: rest ∧ has k n ∧ XM enc P W r rest
  | .bool :: r, cs => ∃ b rest, cs = .bool b :: rest ∧ XM enc P W r rest
  | .str :: r, cs => ∃ s rest, cs = .string s :: rest ∧ s.size ≤ reachBytes ∧ XM enc P W r rest
  | .slc e :: r, cs => ∃ p l c rest, cs = .slice p l c :: rest ∧ Sli enc P W e p l c ∧ XM enc P W r rest
  | .row k n :: r, cs => ∃ ns rest, cs = ints k ns ++ rest ∧ ns.length = n ∧ (∀ x, x ∈ ns → has k x) ∧ XM enc P W r rest

section
variable {D : Type} {enc : TypeId × Value → D} {P : Program} {W : World}
theorem XM.append : ∀ {s1 s2 : List XSh} {c1 c2 : List Value}, XM enc P W s1 c1 → XM enc P W s2 c2 → XM enc P W (s1 ++ s2) (c1 ++ c2)
  | [], s2, c1, c2, h1, h2 => by simp only [XM] at h1; subst h1; exact h2
  | .int k :: r, s2, c1, c2, h1, h2 => by obtain ⟨n, rest, rfl, hn, h⟩ := h1; exact ⟨n, rest ++ c2, rfl, hn, XM.append h h2⟩
  | .bool :: r, s2, c1, c2, h1, h2 => by obtain ⟨n, rest, rfl, h⟩ := h1; exact ⟨n, rest ++ c2, rfl, XM.append h h2⟩
  | .str :: r, s2, c1, c2, h1, h2 => by obtain ⟨n, rest, rfl, hn, h⟩ := h1; exact ⟨n, rest ++ c2, rfl, hn, XM.append h h2⟩
  | .slc e :: r, s2, c1, c2, h1, h2 => by obtain ⟨p, l, c, rest, rfl, hn, h⟩ := h1; exact ⟨p, l, c, rest ++ c2, rfl, hn, XM.append h h2⟩
  | .row k n :: r, s2, c1, c2, h1, h2 => by obtain ⟨ns, rest, rfl, hn, hh, h⟩ := h1; exact ⟨ns, rest ++ c2, by simp, hn, hh, XM.append h h2⟩
theorem XM.len : ∀ {s : List XSh} {c : List Value}, XM enc P W s c → c.length = xSize s
  | [], c, h => by simp only [XM] at h; subst h; rfl
  | .int k :: r, c, h => by obtain ⟨n, rest, rfl, _, h⟩ := h; simp [xSize, XSh.size, XM.len h]; omega
  | .bool :: r, c, h => by obtain ⟨n, rest, rfl, h⟩ := h; simp [xSize, XSh.size, XM.len h]; omega
  | .str :: r, c, h => by obtain ⟨n, rest, rfl, _, h⟩ := h; simp [xSize, XSh.size, XM.len h]; omega
  | .slc e :: r, c, h => by obtain ⟨p, l, c, rest, rfl, _, h⟩ := h; simp [xSize, XSh.size, XM.len h]; omega
  | .row k n :: r, c, h => by obtain ⟨ns, rest, rfl, hn, _, h⟩ := h; simp [xSize, XSh.size, XM.len h, hn]

theorem wf_has {k : IntKind} {n : Int} (h : (Lit.int k n).wf = true) : has k n := by
  simp only [Lit.wf, Bool.and_eq_true, decide_eq_true_eq] at h
  exact h
theorem cells_hcs {a : Addr} {n : Nat} {es : List Value} (h : W.cells? 0 a n = some es) : es.length = n ∧ hcs W.heap a es := by
  simp only [World.cells?, Nat.zero_le, if_true] at h
  have hl : es.length = n := by simpa using mapM_some_length h
  refine ⟨hl, fun i v hv => ?_⟩
  have hi : i < n := by have := (List.getElem?_eq_some_iff.1 hv).1; omega
  have := mapM_some_get h i i (by simp [hi])
  rw [hv, cell_hc] at this
  exact this
theorem weights_mem_all {e : TypeId} : ∀ {ds : List (DataW D)} {d : DataW D}, d ∈ ds → ∀ n, n ∈ DataW.weights P e d → n ∈ DataW.weightsAll P e ds
  | d0 :: ds, d, hd, n, hn => by
    simp only [DataW.weightsAll, List.mem_append]
    rcases List.mem_cons.1 hd with rfl | hd
    · exact Or.inl hn
    · exact Or.inr (weights_mem_all hd n hn)

theorem Rdt.slice {t e : TypeId} {cs : List Value} (u : P.underlying t = some (.slice e)) (h : Rdt enc P W t cs) : ∃ p l c, cs = [.slice p l c] ∧ Sli enc P W e p l c := by
  obtain ⟨fuel, x, h, hw⟩ := h
  rcases DataW.trod_slice u h with ⟨rfl, rfl⟩ | ⟨a, len, cap, elems, rest, n, rfl, rfl, rfl, _, hl, hc, he, h1, h2, _⟩
  · exact ⟨none, 0, 0, rfl, Nat.le_refl _, by simp, fun _ => ⟨rfl, rfl⟩, fun i hi => by omega⟩
  · refine ⟨some a, len, cap, rfl, hl, ?_, by simp, ?_⟩
    · obtain ⟨h3, _⟩ := h2 rfl
      have := hw ((elems.length + rest.length) * P.bytesOf e) (by simp [DataW.weights, u])
      rw [he, h3] at this
      rwa [show len + (cap - len) = cap by omega] at this
    · intro i hi
      have h4 := h1 i hi
      have hei : i < elems.length := by omega
      rw [List.getElem?_eq_getElem hei] at h4
      obtain ⟨es, h5, h6⟩ := Option.bind_eq_some_iff.1 h4
      obtain ⟨h7, h8⟩ := cells_hcs h5
      refine ⟨a, es, rfl, h7, h8, n, elems[i], h6, fun m hm => hw m ?_⟩
      simp only [DataW.weights, u, List.mem_cons, List.mem_append]
      exact Or.inr (Or.inl (weights_mem_all (List.mem_map_of_mem (List.getElem_mem hei)) m hm))
theorem array_ints {t e : TypeId} {n : Nat} {k : IntKind} {cs : List Value} (u : P.underlying t = some (.array n e)) (ue : P.underlying e = some (.int k)) (h1 : P.cellsOf e = 1) (h2 : P.cellsOf t = n) (h : Rdt enc P W t cs) :
    ∃ ns : List Int, cs = ints k ns ∧ ns.length = n ∧ ∀ x, x ∈ ns → has k x := by
  obtain ⟨fuel, x, h, _⟩ := h
  cases fuel with
  | zero => simp [DataW.trod] at h
  | succ f =>
    have key : cs.length = n ∧ ∀ i, i < n → ∃ m, cs[i]? = some (.int k m) ∧ has k m := by
      unfold DataW.trod at h
      rw [u] at h
      have h : (if cs.length = P.cellsOf t then ((List.range n).mapM fun i => DataW.trod enc P W 0 (fun _ => true) true f e ((cs.drop (i * P.cellsOf e)).take (P.cellsOf e))).map fun xs => (DataW.agg (xs.map (·.1)), xs.flatMap (·.2)) else none) = some x := by
        split at h <;> simp_all
      split at h
      · rename_i hl
        obtain ⟨xs, hm, _⟩ := Option.map_eq_some_iff.1 h
        refine ⟨by omega, fun i hi => ?_⟩
        have hg := mapM_some_get hm i i (by simp [hi])
        have hxl : xs.length = n := by simpa using mapM_some_length hm
        rw [List.getElem?_eq_getElem (show i < xs.length by omega)] at hg
        obtain ⟨m, hm1, _, hm2⟩ := DataW.trod_int ue hg
        rw [h1, Nat.mul_one] at hm1
        refine ⟨m, ?_, wf_has hm2⟩
        have : ((cs.drop i).take 1)[0]? = some (.int k m) := by rw [hm1]; rfl
        rw [List.getElem?_take_of_lt (by omega), List.getElem?_drop] at this
        simpa using this
      · cases h
    obtain ⟨hl, hc⟩ := key
    refine ⟨cs.map fun v => match v with | .int _ m => m | _ => 0, ?_, by simpa using hl, ?_⟩
    · apply List.ext_getElem?
      intro i
      rw [ints_get, List.getElem?_map, Option.map_map]
      by_cases hi : i < n
      · obtain ⟨m, e, _⟩ := hc i hi
        rw [e]; rfl
      · rw [List.getElem?_eq_none (by omega)]; rfl
    · intro x hx
      obtain ⟨v, hv, rfl⟩ := List.mem_map.1 hx
      obtain ⟨i, hi, rfl⟩ := List.mem_iff_getElem.1 hv
      obtain ⟨m, e, hm⟩ := hc i (by omega)
      rw [List.getElem?_eq_getElem hi] at e
      injection e with e
      rw [e]; exact hm
theorem xFields_XM {sh : TypeId → Option (List XSh)} {cs : List Value} (ih : ∀ u s c, sh u = some s → Rdt enc P W u c → XM enc P W s c) (hz : ∀ u s, sh u = some s → P.cellsOf u = xSize s) :
    ∀ (fs : List Field) (off : Nat) (s : List XSh), xFields sh off fs = some s → off + xSize s ≤ cs.length → (∀ f, f ∈ fs → Rdt enc P W f.type ((cs.drop f.offset).take (P.cellsOf f.type))) → XM enc P W s ((cs.drop off).take (xSize s))
  | [], off, s, h, _, _ => by simp only [xFields, Option.some.injEq] at h; subst h; simp [XM, xSize]
  | f :: fs, off, s, h, hl, hf => by
    unfold xFields at h
    split at h
    · rename_i s1 ho hs1
      obtain ⟨s2, h2, rfl⟩ := Option.map_eq_some_iff.1 h
      have ho : f.offset = off := Nat.eq_of_beq_eq_true ho
      have hx : xSize (s1 ++ s2) = xSize s1 + xSize s2 := by
        clear h h2 hs1 hl
        induction s1 with
        | nil => simp [xSize]
        | cons a r ihr => simp [xSize, ihr]; omega
      rw [hx] at hl ⊢
      have r1 := ih _ _ _ hs1 (hf f (by simp))
      rw [ho, hz _ _ hs1] at r1
      have r2 := xFields_XM ih hz fs (off + xSize s1) s2 h2 (by omega) (fun g hg => hf g (by simp [hg]))
      have e : (cs.drop off).take (xSize s1 + xSize s2) = (cs.drop off).take (xSize s1) ++ (cs.drop (off + xSize s1)).take (xSize s2) := by
        rw [List.take_add, List.drop_drop]
      rw [e]
      exact r1.append r2
    · cases h
theorem Rdt.xm : ∀ (d : Nat) (t : TypeId) (s : List XSh) (cs : List Value), xsh P d t = some s → Rdt enc P W t cs → XM enc P W s cs
  | 0, t, s, cs, h, _ => by cases h
  | d + 1, t, s, cs, h, r => by
    unfold xsh at h
    split at h
    · rename_i k u
      injection h with h; subst h
      obtain ⟨fuel, x, r, _⟩ := r
      obtain ⟨n, rfl, _, hn⟩ := DataW.trod_int u r
      exact ⟨n, [], rfl, wf_has hn, rfl⟩
    · rename_i u
      injection h with h; subst h
      obtain ⟨fuel, x, r, _⟩ := r
      obtain ⟨n, rfl, _⟩ := DataW.trod_bool u r
      exact ⟨n, [], rfl, rfl⟩
    · rename_i u
      injection h with h; subst h
      obtain ⟨fuel, x, r, hw⟩ := r
      obtain ⟨n, rfl, rfl, _⟩ := DataW.trod_string u r
      refine ⟨n, [], rfl, ?_, rfl⟩
      have := hw n.data.toList.length (by simp [DataW.weights])
      simpa using this
    · rename_i e u
      injection h with h; subst h
      obtain ⟨p, l, c, rfl, hs⟩ := Rdt.slice u r
      exact ⟨p, l, c, [], rfl, hs, rfl⟩
    · rename_i n e u
      split at h
      · rename_i k ue h1 h2
        injection h with h; subst h
        obtain ⟨ns, rfl, hn, hh⟩ := array_ints u ue (Nat.eq_of_beq_eq_true h1) (Nat.eq_of_beq_eq_true h2) r
        exact ⟨ns, [], by simp, hn, hh, rfl⟩
      · cases h
    · rename_i fs u
      split at h
      · rename_i s' hx
        split at h
        · rename_i hz
          injection h with h; subst h
          have hz := Nat.eq_of_beq_eq_true hz
          obtain ⟨fuel, x, r, hw⟩ := r
          obtain ⟨xs, n, rfl, rfl, hl, hxl, hf⟩ := DataW.trod_struct u r
          have := xFields_XM (enc := enc) (W := W) (cs := cs) (fun u s c hu hr => by
              split at hu
              · rename_i s1 hs1
                split at hu
                · injection hu with hu; subst hu; exact Rdt.xm d u _ c hs1 hr
                · cases hu
              · cases hu) (fun u s hu => by
              split at hu
              · split at hu
                · rename_i hb; injection hu with hu; subst hu; exact Nat.eq_of_beq_eq_true hb
                · cases hu
              · cases hu) fs.toList 0 s' hx (by omega) (fun f hfm => by
              obtain ⟨i, hi, rfl⟩ := List.mem_iff_getElem.1 hfm
              have hi2 : i < fs.size := by simpa using hi
              have h1 := hf i fs[i] (by simp [hi2])
              rw [List.getElem?_eq_getElem (show i < xs.length by omega)] at h1
              have e : fs.toList[i] = fs[i] := by simp
              rw [e]
              refine ⟨n, _, h1, fun m hm => hw m ?_⟩
              simp only [DataW.weights, u]
              exact DataW.weights_mem_each (j := i) (by simp [hi2]) (by simp [show i < xs.length by omega]) m hm)
          rw [List.drop_zero, List.take_of_length_le (by omega)] at this
          exact this
        · cases h
      · cases h
    · cases h
end
end Go.Vc
end

/- The frame of a law's row; slices that came in. Own work; generic over any program. -/
section
set_option maxRecDepth 100000
set_option linter.unusedVariables false
namespace Go.Vc
open Go.ChangeShapes Go.WideShapes Go.ChangeAt Go.RowKit
section
variable {D : Type} {enc : TypeId × Value → D} {P : Program} {W : World}

theorem below_of {W W' : World} (r : Rest W W') (x : Ext none_ W.heap W'.heap) (ho : True) : Below W.heap.size W W' :=
  ⟨r.2.1, r.1, r.2.2, x.size, fun k hk => x.eq k hk (fun y => y)⟩

theorem law_post {f : Func} {s : ChangeSpec} {W' : World} {args : Array Value} {ds gs : List (DataW D)} {before : List MemPlace} {tb : TypeId} (hl : laidOutB P = true) (hvars : s.vars = [])
    (hty : ∀ t, t ∈ f.params.toList → P.readableRec t = true ∧ t < P.types.size) (hres : f.resultTypes = #[tb]) (ub : P.underlying tb = some .bool) (hfn : s.fn D (ds ++ gs) = { results := [.lit (.bool true)], args := ds })
    (hW : DataW.Whole enc P f.params.toList s.vars false W args.toList ds gs before) (hb : Below W.heap.size W W') : s.post enc P f false true false false W args (.bool true) W' := by
  have hW0 := hW
  have hlt := hW.lt
  obtain ⟨p, q, h1, h2, rfl, h3, h4⟩ := hW
  rw [hvars] at h2
  obtain ⟨rfl, rfl⟩ := trodVars_none h2
  rw [List.append_nil] at hlt
  refine ⟨ds, [], p ++ [], [], p, [], hW0, ?_, ?_, ?_, hb.frame _, fun h => by cases h⟩
  · rw [hfn, hres]
    exact trodAll_mk1 (shut_bool ub true)
  · rw [hfn]
    have key : ∀ (ts : List TypeId) (vs : List Value) (ds : List (DataW D)) (p : List MemPlace), (∀ t, t ∈ ts → P.readableRec t = true ∧ t < P.types.size) → (∀ x ∈ p, x.block < W.heap.size) →
        DataW.TrodAll enc P W 0 (fun _ => true) true ts vs ds p → DataW.TrodAll enc P W' 0 (fun b => decide (b < W.heap.size)) true ts vs ds p := by
      intro ts
      induction ts with
      | nil => intro vs ds p _ _ h; cases vs <;> cases ds <;> exact h
      | cons t ts ih =>
        intro vs ds p ht hp h
        cases vs with
        | nil => cases h
        | cons v vs => cases ds with
          | nil => cases h
          | cons d ds =>
            obtain ⟨a, b, ha, hb', rfl⟩ := h
            exact ⟨a, b, Below.trod hl (ht t (by simp)).1 (ht t (by simp)).2 ha hb (fun x hx => hp x (by simp [hx])), ih vs ds b (fun t' h' => ht t' (by simp [h'])) (fun x hx => hp x (by simp [hx])) hb', rfl⟩
    exact key _ _ _ _ hty hlt h1
  · rw [hfn, hvars]; rfl

theorem whole_rdt {ts : List TypeId} {vs : List Value} {ds gs : List (DataW D)} {vars : List TypeId}
    (h : ∃ p, DataW.TrodAll enc P W 0 (fun _ => true) true ts vs ds p) (hz : (DataW.weightsEach P (ts ++ vars) (ds ++ gs)).all (· ≤ reachBytes) = true) :
    ∀ (j : Nat) (t : TypeId) (v : Value), ts[j]? = some t → vs[j]? = some v → Rdt enc P W t v.cells.toList := by
  obtain ⟨p, h⟩ := h
  induction ts generalizing vs ds p with
  | nil => intro j t v ht; simp at ht
  | cons t0 ts ih =>
    cases vs with
    | nil => cases h
    | cons v0 vs => cases ds with
      | nil => cases h
      | cons d ds =>
        obtain ⟨a, b, ha, hb', rfl⟩ := h
        simp only [List.cons_append, DataW.weightsEach, List.all_append, Bool.and_eq_true] at hz
        intro j t v ht hv
        cases j with
        | zero =>
          simp only [List.getElem?_cons_zero, Option.some.injEq] at ht hv
          subst ht; subst hv
          obtain ⟨fuel, hf⟩ := ha
          exact ⟨fuel, _, hf, fun n hn => by simpa using List.all_eq_true.1 hz.1 n hn⟩
        | succ j => exact ih hz.2 b hb' j t v (by simpa using ht) (by simpa using hv)

theorem okw_agg {t : TypeId} {v : Value} {base : Nat} {r : Reach} (u : (match P.underlying t with | some (.struct _) => true | some (.array _ _) => true | _ => false) = true) (h : Value.okWide P W r base t v) : v = .agg v.cells := by
  unfold Value.okWide at h
  split at h
  · obtain ⟨cs, rfl, _⟩ := h; rfl
  · obtain ⟨cs, rfl, _⟩ := h; rfl
  · rename_i h1 h2
    split at u
    · rename_i h3; exact absurd h3 (h1 _)
    · rename_i h3; exact absurd h3 (h2 _ _)
    · cases u
theorem okw_one {t : TypeId} {v : Value} {base : Nat} {r : Reach} (u : (match P.underlying t with | some (.struct _) => false | some (.array _ _) => false | some _ => true | none => false) = true) (h : Value.okWide P W r base t v) {x : Value} (hx : v.cells.toList = [x]) : v = x := by
  cases v with
  | agg cs =>
    exfalso
    unfold Value.okWide at h
    split at h
    · rename_i h1; rw [h1] at u; cases u
    · rename_i h1; rw [h1] at u; cases u
    · unfold Cell.okWide at h
      split at h <;> first | (simp_all; done) | skip
      unfold Cell.ok at h
      split at h <;> simp_all
  | _ => simpa [Value.cells] using hx

theorem XM.one : ∀ {s : List XSh} {c : List Value}, XM enc P W s c → ∀ v, v ∈ c → v.oneCell' = true
  | [], c, h => by simp only [XM] at h; subst h; simp
  | .int k :: r, c, h => by
    obtain ⟨n, rest, rfl, _, h⟩ := h; intro v hv
    rcases List.mem_cons.1 hv with rfl | hv
    · rfl
    · exact XM.one h v hv
  | .bool :: r, c, h => by
    obtain ⟨n, rest, rfl, h⟩ := h; intro v hv
    rcases List.mem_cons.1 hv with rfl | hv
    · rfl
    · exact XM.one h v hv
  | .str :: r, c, h => by
    obtain ⟨n, rest, rfl, _, h⟩ := h; intro v hv
    rcases List.mem_cons.1 hv with rfl | hv
    · rfl
    · exact XM.one h v hv
  | .slc e :: r, c, h => by
    obtain ⟨p, l, c, rest, rfl, _, h⟩ := h; intro v hv
    rcases List.mem_cons.1 hv with rfl | hv
    · rfl
    · exact XM.one h v hv
  | .row k n :: r, c, h => by
    obtain ⟨ns, rest, rfl, _, _, h⟩ := h; intro v hv
    rcases List.mem_append.1 hv with hv | hv
    · exact ints_one _ _ v hv
    · exact XM.one h v hv

/-- The elements of a slice that came in, one behind the other. -/
theorem Sli.els {e : TypeId} {p : Option Addr} {l c d : Nat} {s : List XSh} (hs : Sli enc P W e p l c) (hx : xsh P d e = some s) :
    ∃ ess : List (List Value), ess.length = l ∧ (∀ es, es ∈ ess → es.length = P.cellsOf e ∧ XM enc P W s es) ∧ hsv W.heap p (P.cellsOf e) l ess.flatten ∧
      ∀ i (hi : i < ess.length), ∃ a, p = some a ∧ hcs W.heap (a.add (i * P.cellsOf e)) ess[i] := by
  obtain ⟨_, _, hn, hi⟩ := hs
  have key : ∀ m, m ≤ l → ∃ ess : List (List Value), ess.length = m ∧ (∀ es, es ∈ ess → es.length = P.cellsOf e ∧ XM enc P W s es) ∧ ∀ i (hi : i < ess.length), ∃ a, p = some a ∧ hcs W.heap (a.add (i * P.cellsOf e)) ess[i] := by
    intro m
    induction m with
    | zero => intro _; exact ⟨[], rfl, by simp, fun i hi => by simp at hi⟩
    | succ m ih =>
      intro hm
      obtain ⟨ess, h1, h2, h3⟩ := ih (by omega)
      obtain ⟨a, es, ha, hl, hc, hr⟩ := hi m (by omega)
      refine ⟨ess ++ [es], by simp [h1], ?_, ?_⟩
      · intro x hxm
        rcases List.mem_append.1 hxm with hxm | hxm
        · exact h2 x hxm
        · simp at hxm; subst hxm; exact ⟨hl, Rdt.xm d e s x hx hr⟩
      · intro i hi
        by_cases hie : i < ess.length
        · rw [List.getElem_append_left hie]; exact h3 i hie
        · have : i = m := by simp at hi; omega
          subst this
          refine ⟨a, ha, ?_⟩
          rw [List.getElem_append_right (by omega)]
          simpa [h1] using hc
  obtain ⟨ess, h1, h2, h3⟩ := key l (Nat.le_refl _)
  refine ⟨ess, h1, h2, ⟨?_, ?_, ?_⟩, h3⟩
  · have : ∀ (ess : List (List Value)), (∀ es, es ∈ ess → es.length = P.cellsOf e) → ess.flatten.length = ess.length * P.cellsOf e := by
      intro ess
      induction ess with
      | nil => intro _; simp
      | cons x r ih => intro h; simp [ih (fun y hy => h y (by simp [hy])), h x (by simp), Nat.succ_mul]; omega
    rw [this ess (fun es he => (h2 es he).1), h1]
  · intro v hv
    obtain ⟨es, he, hv⟩ := List.mem_flatten.1 hv
    exact (h2 es he).2.one v hv
  · cases p with
    | none =>
      left
      have := (hn rfl).1
      rw [this] at h1
      rw [List.eq_nil_of_length_eq_zero h1]; rfl
    | some a =>
      right
      refine ⟨a, rfl, ?_⟩
      have key : ∀ (k : Nat) (fs : List (List Value)), ess.drop k = fs → ∀ i v, fs.flatten[i]? = some v → hc W.heap (a.add (k * P.cellsOf e + i)) = some v := by
        intro k fs
        induction fs generalizing k with
        | nil => intro _ i v hv; simp at hv
        | cons x r ih =>
          intro hd i v hv
          have hk : k < ess.length := by
            rcases Nat.lt_or_ge k ess.length with h | h
            · exact h
            · rw [List.drop_eq_nil_of_le h] at hd; cases hd
          rw [List.drop_eq_getElem_cons hk] at hd
          injection hd with hx1 hx2
          have hxl : x.length = P.cellsOf e := by rw [← hx1]; exact (h2 _ (List.getElem_mem hk)).1
          obtain ⟨a', ha', hcx⟩ := h3 k hk
          injection ha' with ha'; subst ha'
          rw [hx1] at hcx
          simp only [List.flatten_cons] at hv
          by_cases hi : i < x.length
          · rw [List.getElem?_append_left hi] at hv
            have := hcx i v hv
            have e2 : (a.add (k * P.cellsOf e)).add i = a.add (k * P.cellsOf e + i) := by
              cases a with | mk b o sp => unfold Addr.add; by_cases h1 : k * P.cellsOf e = 0 <;> by_cases h2 : i = 0 <;> simp [h1, h2, Nat.add_assoc]
            rw [e2] at this; exact this
          · rw [List.getElem?_append_right (by omega)] at hv
            have := ih (k + 1) hx2 _ _ hv
            rw [Nat.succ_mul] at this
            rw [show k * P.cellsOf e + i = k * P.cellsOf e + P.cellsOf e + (i - x.length) by omega]
            exact this
      intro i v hv
      have := key 0 ess (by simp) i v hv
      simpa using this

theorem trodAll_len : ∀ {ts : List TypeId} {vs : List Value} {ds : List (DataW D)} {p : List MemPlace} {W : World} {base : Nat} {sp : Nat → Bool} {hd : Bool}, DataW.TrodAll enc P W base sp hd ts vs ds p → vs.length = ts.length ∧ ds.length = ts.length
  | [], vs, ds, p, W, base, sp, hd, h => by obtain ⟨rfl, rfl, rfl⟩ := trodAll_nil h; exact ⟨rfl, rfl⟩
  | t :: ts, vs, ds, p, W, base, sp, hd, h => by
    obtain ⟨v, vs', d, ds', p', q', rfl, rfl, rfl, _, hr⟩ := trodAll_cons h
    have := trodAll_len hr
    simp [this.1, this.2]

/-- What is known of the arguments. -/
def ArgsOk (enc : TypeId × Value → D) (P : Program) (W : World) (base : Nat) (ts : List TypeId) (vs : List Value) : Prop :=
  vs.length = ts.length ∧ ∀ (j : Nat) (t : TypeId) (v : Value), ts[j]? = some t → vs[j]? = some v → Rdt enc P W t v.cells.toList ∧ Value.okWide P W .any base t v
/-- The law's code answers true, and leaves all old memory as it was. -/
abbrev CallsTrue (P : Program) (f : FuncId) (vs : List Value) (W : World) : Prop := callsV P f vs (fun rs h' => rs = [DV.one (.bool true)] ∧ Ext none_ W.heap h') W.heap
theorem law_go {f : FuncId} {fn : Func} {s : ChangeSpec} {args : Array Value} {ds gs : List (DataW D)} {before : List MemPlace} {tb : TypeId} {base : Nat} (ts : List TypeId) (hts : fn.params = ts.toArray) (hl : laidOutB P = true) (hvars : s.vars = [])
    (hty : (ts.all fun t => P.readableRec t && decide (t < P.types.size)) = true) (hres : fn.resultTypes = #[tb]) (ub : P.underlying tb = some .bool)
    (hfn : ∀ ds : List (DataW D), ds.length = ts.length → s.fn D ds = { results := [.lit (.bool true)], args := ds })
    (hval : ∀ (j : Nat) t v, fn.params[j]? = some t → args[j]? = some v → Value.okWide P W .any base t v)
    (hW : DataW.Whole enc P fn.params.toList s.vars false W args.toList ds gs before) (hsz : (DataW.weightsEach P (fn.params.toList ++ s.plain.varTypes P) (ds ++ gs)).all (· ≤ reachBytes) = true)
    (main : ∀ vs, ArgsOk enc P W base ts vs → CallsTrue P f vs W) :
    Calls P f args W fun e W' => ∃ v, e = .returned v ∧ s.post enc P fn false true false false W args v W' := by
  have hW0 := hW
  obtain ⟨p, q, h1, h2, rfl, h3, h4⟩ := hW
  have h2' := h2
  rw [hvars] at h2'
  obtain ⟨rfl, rfl⟩ := trodVars_none h2'
  have hlen := trodAll_len h1
  have hpl : fn.params.toList = ts := by rw [hts]
  have hrd := whole_rdt ⟨p, h1⟩ hsz
  rw [hpl] at hrd hlen
  have hm := main args.toList ⟨hlen.1, fun j t v ht hv => ⟨hrd j t v ht hv, hval j t v (by rw [hts]; simpa using ht) (by simpa using hv)⟩⟩
  have hc := hm.2 W rfl
  rw [show args.toList.toArray = args by simp] at hc
  refine hc.mono fun e W' he => ?_
  obtain ⟨xs, _, rfl, hr, rfl, hx⟩ := he
  refine ⟨.bool true, rfl, ?_⟩
  refine law_post hl hvars ?_ hres ub (by rw [List.append_nil]; exact hfn ds hlen.2) hW0 (below_of hr hx trivial)
  intro t ht
  rw [hpl] at ht
  have := List.all_eq_true.1 hty t ht
  simp only [Bool.and_eq_true, decide_eq_true_eq] at this
  exact this
end
end Go.Vc
end
