/- The denotations of some functions of the program, printed by a program of ours (wip/tools/vcgen.py), and that they are the model's. -/
import Derived.Test.YtamfkofcpoglnaaFa0
import Derived.Test.YtamfkofcpoglnaaFa1
import Derived.Test.YtamfkofcpoglnaaFa2
set_option autoImplicit false
set_option linter.all false
set_option linter.unusedVariables false
set_option maxRecDepth 100000
namespace Go.Proofs.Ytamfkofcpoglnaa
open Go Go.Vc
def G_portcullisref04_CopyState (a0_0p : Option Addr) (a0_0l : Nat) (a0_0c : Nat) (a0_1p : Option Addr) (a0_1l : Nat) (a0_1c : Nat) (a0_2p : Option Addr) (a0_2l : Nat) (a0_2c : Nat) (Q : Option Addr → Nat → Nat → Option Addr → Nat → Nat → Option Addr → Nat → Nat → H → Prop) (h : H) : Prop :=
 ∀ (n11 : Nat) (h12 : H),
 hnew h n11 [Value.slice a0_0p a0_0l a0_0c, Value.slice a0_1p a0_1l a0_1c, Value.slice a0_2p a0_2l a0_2c] h12 →
 ∀ (n14 : Nat) (h15 : H),
 hnew h12 n14 [Value.slice none 0 0, Value.slice none 0 0, Value.slice none 0 0] h15 →
 ∀ (J17 : List SV → H → Prop),
 (∀ (p18 : Addr) (h19 : H),
 (∀ (J20 : List SV → H → Prop),
 (∀ (i21 : Int) (h22 : H),
 (∃ (o23 : Option Addr),
 ∃ (n24 : Nat),
 ∃ (n25 : Nat),
 hc h22 (Addr.mk n11 0 none) = some (Value.slice o23 n24 n25) ∧
 if ltI i21 (↑n24 : Int) = true then
 ∃ (o26 : Option Addr),
 ∃ (n27 : Nat),
 ∃ (n28 : Nat),
 hc h22 p18 = some (Value.slice o26 n27 n28) ∧
 ∃ (o29 : Option Addr),
 ∃ (n30 : Nat),
 ∃ (n31 : Nat),
 hc h22 (Addr.mk n11 0 none) = some (Value.slice o29 n30 n31) ∧
 ∃ (p32 : Addr),
 o29 = some p32 ∧
 0 ≤ i21 ∧
 i21 < (↑n30 : Int) ∧
 ∃ (o33 : Option Addr),
 ∃ (n34 : Nat),
 ∃ (n35 : Nat),
 hc h22 (p32.add (i21.toNat * 1)) = some (Value.slice o33 n34 n35) ∧
 ∀ (n36 : Nat) (h37 : H),
 hnew h22 n36 [] h37 →
 hcs h37 (p32.add (i21.toNat * 1)) [Value.slice o33 n34 n35] ∧
 hcs h37 (Addr.mk n11 0 none) [Value.slice o29 n30 n31] ∧
 hcs h37 p18 [Value.slice o26 n27 n28] ∧
 ∃ (l39 : List Value),
 hsv h37 o33 32 n34 l39 ∧
 pApp h37 32 (ints IntKind.u8 (zeros 32)) 32 (some (Addr.mk n36 0 none)) 0 0 n34 l39 fun (o40 : Option Addr) (n41 n42 : Nat) (h43 : H) =>
 hcs h43 p18 [Value.slice o26 n27 n28] ∧
 ∀ (n44 : Nat) (h45 : H),
 hnew h43 n44 [Value.slice o40 n41 n42] h45 →
 hcs h45 p18 [Value.slice o26 n27 n28] ∧
 ∃ (l47 : List Value),
 hsv h45 (some (Addr.mk n44 0 none)) 1 1 l47 ∧
 pApp h45 1 [Value.slice none 0 0] 24 o26 n27 n28 1 l47 fun (o48 : Option Addr) (n49 n50 : Nat) (h51 : H) =>
 hcan h51 p18 1 ∧
 ∀ (h52 : H),
 h52 = hwr h51 p18 [Value.slice o48 n49 n50] →
 J20 [SV.dv (DV.one (Value.int IntKind.i64 (IntKind.i64.wrap (i21 + 1))))] h52
 else
 ∃ (o54 : Option Addr),
 ∃ (n55 : Nat),
 ∃ (n56 : Nat),
 hc h22 p18 = some (Value.slice o54 n55 n56) ∧
 ∃ (o57 : Option Addr),
 ∃ (n58 : Nat),
 ∃ (n59 : Nat),
 hc h22 (p18.add 1) = some (Value.slice o57 n58 n59) ∧
 ∃ (o60 : Option Addr),
 ∃ (n61 : Nat),
 ∃ (n62 : Nat),
 hc h22 (p18.add 2) = some (Value.slice o60 n61 n62) ∧
 hcan h22 (Addr.mk n14 0 none) 3 ∧
 ∀ (h63 : H),
 h63 = hwr h22 (Addr.mk n14 0 none) [Value.slice o54 n55 n56, Value.slice o57 n58 n59, Value.slice o60 n61 n62] →
 ∃ (o65 : Option Addr),
 ∃ (n66 : Nat),
 ∃ (n67 : Nat),
 hc h63 (Addr.mk n14 0 none) = some (Value.slice o65 n66 n67) ∧
 ∃ (o68 : Option Addr),
 ∃ (n69 : Nat),
 ∃ (n70 : Nat),
 hc h63 ((Addr.mk n14 0 none).add 1) = some (Value.slice o68 n69 n70) ∧
 ∃ (o71 : Option Addr),
 ∃ (n72 : Nat),
 ∃ (n73 : Nat), hc h63 ((Addr.mk n14 0 none).add 2) = some (Value.slice o71 n72 n73) ∧ Q o65 n66 n67 o68 n69 n70 o71 n72 n73 h63) →
 J20 [SV.dv (DV.one (Value.int IntKind.i64 i21))] h22) →
 J20 [SV.dv (DV.one (Value.int IntKind.i64 0))] h19) →
 J17 [SV.dv (DV.addr p18)] h19) →
 ∃ (o78 : Option Addr),
 ∃ (n79 : Nat),
 ∃ (n80 : Nat),
 hc h15 ((Addr.mk n11 0 none).add 1) = some (Value.slice o78 n79 n80) ∧
 ∃ (o81 : Option Addr),
 ∃ (n82 : Nat),
 ∃ (n83 : Nat),
 hc h15 ((Addr.mk n11 0 none).add 2) = some (Value.slice o81 n82 n83) ∧
 (∀ (n84 : Nat) (h85 : H),
 hnew h15 n84 [] h85 →
 hcs h85 ((Addr.mk n11 0 none).add 2) [Value.slice o81 n82 n83] ∧
 hcs h85 ((Addr.mk n11 0 none).add 1) [Value.slice o78 n79 n80] ∧
 (∃ (l87 : List Value),
 hsv h85 o78 1 n79 l87 ∧
 pApp h85 1 [Value.int IntKind.i64 0] 8 (some (Addr.mk n84 0 none)) 0 0 n79 l87 fun (o88 : Option Addr) (n89 n90 : Nat) (h91 : H) =>
 hcs h91 ((Addr.mk n11 0 none).add 2) [Value.slice o81 n82 n83] ∧
 (∀ (n92 : Nat) (h93 : H),
 hnew h91 n92 [] h93 →
 hcs h93 ((Addr.mk n11 0 none).add 2) [Value.slice o81 n82 n83] ∧
 (∃ (l95 : List Value),
 hsv h93 o81 1 n82 l95 ∧
 pApp h93 1 [Value.bool false] 1 (some (Addr.mk n92 0 none)) 0 0 n82 l95 fun (o96 : Option Addr) (n97 n98 : Nat) (h99 : H) =>
 ∀ (n100 : Nat) (h101 : H),
 hnew h99 n100 [Value.slice none 0 0, Value.slice none 0 0, Value.slice none 0 0] h101 →
 hcan h101 (Addr.mk n100 0 none) 3 ∧
 ∀ (h103 : H),
 h103 = hwr h101 (Addr.mk n100 0 none) [Value.slice none 0 0, Value.slice o88 n89 n90, Value.slice o96 n97 n98] →
 J17 [SV.dv (DV.addr (Addr.mk n100 0 none))] h103) ∧
 ∀ (n105 : Nat) (h106 : H),
 hnew h93 n105 [Value.slice none 0 0, Value.slice none 0 0, Value.slice none 0 0] h106 →
 hcs h106 ((Addr.mk n11 0 none).add 2) [Value.slice o81 n82 n83] ∧
 ∃ (l108 : List Value),
 hsv h106 o81 1 n82 l108 ∧
 pApp h106 1 [Value.bool false] 1 (some (Addr.mk n92 0 none)) 0 0 n82 l108 fun (o109 : Option Addr) (n110 n111 : Nat) (h112 : H) =>
 hcan h112 (Addr.mk n105 0 none) 3 ∧
 ∀ (h113 : H),
 h113 = hwr h112 (Addr.mk n105 0 none) [Value.slice none 0 0, Value.slice o88 n89 n90, Value.slice o109 n110 n111] →
 J17 [SV.dv (DV.addr (Addr.mk n105 0 none))] h113) ∧
 ∀ (n115 : Nat) (h116 : H),
 hnew h91 n115 [Value.slice none 0 0, Value.slice none 0 0, Value.slice none 0 0] h116 →
 hcs h116 ((Addr.mk n11 0 none).add 2) [Value.slice o81 n82 n83] ∧
 ∀ (n118 : Nat) (h119 : H),
 hnew h116 n118 [] h119 →
 hcs h119 ((Addr.mk n11 0 none).add 2) [Value.slice o81 n82 n83] ∧
 ∃ (l121 : List Value),
 hsv h119 o81 1 n82 l121 ∧
 pApp h119 1 [Value.bool false] 1 (some (Addr.mk n118 0 none)) 0 0 n82 l121 fun (o122 : Option Addr) (n123 n124 : Nat) (h125 : H) =>
 hcan h125 (Addr.mk n115 0 none) 3 ∧
 ∀ (h126 : H),
 h126 = hwr h125 (Addr.mk n115 0 none) [Value.slice none 0 0, Value.slice o88 n89 n90, Value.slice o122 n123 n124] →
 J17 [SV.dv (DV.addr (Addr.mk n115 0 none))] h126) ∧
 (∀ (n128 : Nat) (h129 : H),
 hnew h85 n128 [] h129 →
 hcs h129 ((Addr.mk n11 0 none).add 2) [Value.slice o81 n82 n83] ∧
 hcs h129 ((Addr.mk n11 0 none).add 1) [Value.slice o78 n79 n80] ∧
 (∃ (l131 : List Value),
 hsv h129 o78 1 n79 l131 ∧
 pApp h129 1 [Value.int IntKind.i64 0] 8 (some (Addr.mk n84 0 none)) 0 0 n79 l131 fun (o132 : Option Addr) (n133 n134 : Nat) (h135 : H) =>
 hcs h135 ((Addr.mk n11 0 none).add 2) [Value.slice o81 n82 n83] ∧
 (∃ (l136 : List Value),
 hsv h135 o81 1 n82 l136 ∧
 pApp h135 1 [Value.bool false] 1 (some (Addr.mk n128 0 none)) 0 0 n82 l136 fun (o137 : Option Addr) (n138 n139 : Nat) (h140 : H) =>
 ∀ (n141 : Nat) (h142 : H),
 hnew h140 n141 [Value.slice none 0 0, Value.slice none 0 0, Value.slice none 0 0] h142 →
 hcan h142 (Addr.mk n141 0 none) 3 ∧
 ∀ (h144 : H),
 h144 = hwr h142 (Addr.mk n141 0 none) [Value.slice none 0 0, Value.slice o132 n133 n134, Value.slice o137 n138 n139] →
 J17 [SV.dv (DV.addr (Addr.mk n141 0 none))] h144) ∧
 ∀ (n146 : Nat) (h147 : H),
 hnew h135 n146 [Value.slice none 0 0, Value.slice none 0 0, Value.slice none 0 0] h147 →
 hcs h147 ((Addr.mk n11 0 none).add 2) [Value.slice o81 n82 n83] ∧
 ∃ (l149 : List Value),
 hsv h147 o81 1 n82 l149 ∧
 pApp h147 1 [Value.bool false] 1 (some (Addr.mk n128 0 none)) 0 0 n82 l149 fun (o150 : Option Addr) (n151 n152 : Nat) (h153 : H) =>
 hcan h153 (Addr.mk n146 0 none) 3 ∧
 ∀ (h154 : H),
 h154 = hwr h153 (Addr.mk n146 0 none) [Value.slice none 0 0, Value.slice o132 n133 n134, Value.slice o150 n151 n152] →
 J17 [SV.dv (DV.addr (Addr.mk n146 0 none))] h154) ∧
 ∀ (n156 : Nat) (h157 : H),
 hnew h129 n156 [Value.slice none 0 0, Value.slice none 0 0, Value.slice none 0 0] h157 →
 hcs h157 ((Addr.mk n11 0 none).add 2) [Value.slice o81 n82 n83] ∧
 hcs h157 ((Addr.mk n11 0 none).add 1) [Value.slice o78 n79 n80] ∧
 ∃ (l159 : List Value),
 hsv h157 o78 1 n79 l159 ∧
 pApp h157 1 [Value.int IntKind.i64 0] 8 (some (Addr.mk n84 0 none)) 0 0 n79 l159 fun (o160 : Option Addr) (n161 n162 : Nat) (h163 : H) =>
 hcs h163 ((Addr.mk n11 0 none).add 2) [Value.slice o81 n82 n83] ∧
 ∃ (l164 : List Value),
 hsv h163 o81 1 n82 l164 ∧
 pApp h163 1 [Value.bool false] 1 (some (Addr.mk n128 0 none)) 0 0 n82 l164 fun (o165 : Option Addr) (n166 n167 : Nat) (h168 : H) =>
 hcan h168 (Addr.mk n156 0 none) 3 ∧
 ∀ (h169 : H),
 h169 = hwr h168 (Addr.mk n156 0 none) [Value.slice none 0 0, Value.slice o160 n161 n162, Value.slice o165 n166 n167] →
 J17 [SV.dv (DV.addr (Addr.mk n156 0 none))] h169) ∧
 ∀ (n171 : Nat) (h172 : H),
 hnew h85 n171 [Value.slice none 0 0, Value.slice none 0 0, Value.slice none 0 0] h172 →
 hcs h172 ((Addr.mk n11 0 none).add 2) [Value.slice o81 n82 n83] ∧
 hcs h172 ((Addr.mk n11 0 none).add 1) [Value.slice o78 n79 n80] ∧
 (∃ (l174 : List Value),
 hsv h172 o78 1 n79 l174 ∧
 pApp h172 1 [Value.int IntKind.i64 0] 8 (some (Addr.mk n84 0 none)) 0 0 n79 l174 fun (o175 : Option Addr) (n176 n177 : Nat) (h178 : H) =>
 hcs h178 ((Addr.mk n11 0 none).add 2) [Value.slice o81 n82 n83] ∧
 ∀ (n179 : Nat) (h180 : H),
 hnew h178 n179 [] h180 →
 hcs h180 ((Addr.mk n11 0 none).add 2) [Value.slice o81 n82 n83] ∧
 ∃ (l182 : List Value),
 hsv h180 o81 1 n82 l182 ∧
 pApp h180 1 [Value.bool false] 1 (some (Addr.mk n179 0 none)) 0 0 n82 l182 fun (o183 : Option Addr) (n184 n185 : Nat) (h186 : H) =>
 hcan h186 (Addr.mk n171 0 none) 3 ∧
 ∀ (h187 : H),
 h187 = hwr h186 (Addr.mk n171 0 none) [Value.slice none 0 0, Value.slice o175 n176 n177, Value.slice o183 n184 n185] →
 J17 [SV.dv (DV.addr (Addr.mk n171 0 none))] h187) ∧
 ∀ (n189 : Nat) (h190 : H),
 hnew h172 n189 [] h190 →
 hcs h190 ((Addr.mk n11 0 none).add 2) [Value.slice o81 n82 n83] ∧
 hcs h190 ((Addr.mk n11 0 none).add 1) [Value.slice o78 n79 n80] ∧
 ∃ (l192 : List Value),
 hsv h190 o78 1 n79 l192 ∧
 pApp h190 1 [Value.int IntKind.i64 0] 8 (some (Addr.mk n84 0 none)) 0 0 n79 l192 fun (o193 : Option Addr) (n194 n195 : Nat) (h196 : H) =>
 hcs h196 ((Addr.mk n11 0 none).add 2) [Value.slice o81 n82 n83] ∧
 ∃ (l197 : List Value),
 hsv h196 o81 1 n82 l197 ∧
 pApp h196 1 [Value.bool false] 1 (some (Addr.mk n189 0 none)) 0 0 n82 l197 fun (o198 : Option Addr) (n199 n200 : Nat) (h201 : H) =>
 hcan h201 (Addr.mk n171 0 none) 3 ∧
 ∀ (h202 : H),
 h202 = hwr h201 (Addr.mk n171 0 none) [Value.slice none 0 0, Value.slice o193 n194 n195, Value.slice o198 n199 n200] →
 J17 [SV.dv (DV.addr (Addr.mk n171 0 none))] h202) ∧
 (∀ (n204 : Nat) (h205 : H),
 hnew h15 n204 [] h205 →
 hcs h205 ((Addr.mk n11 0 none).add 2) [Value.slice o81 n82 n83] ∧
 hcs h205 ((Addr.mk n11 0 none).add 1) [Value.slice o78 n79 n80] ∧
 (∀ (n207 : Nat) (h208 : H),
 hnew h205 n207 [] h208 →
 hcs h208 ((Addr.mk n11 0 none).add 2) [Value.slice o81 n82 n83] ∧
 hcs h208 ((Addr.mk n11 0 none).add 1) [Value.slice o78 n79 n80] ∧
 (∃ (l210 : List Value),
 hsv h208 o78 1 n79 l210 ∧
 pApp h208 1 [Value.int IntKind.i64 0] 8 (some (Addr.mk n207 0 none)) 0 0 n79 l210 fun (o211 : Option Addr) (n212 n213 : Nat) (h214 : H) =>
 hcs h214 ((Addr.mk n11 0 none).add 2) [Value.slice o81 n82 n83] ∧
 (∃ (l215 : List Value),
 hsv h214 o81 1 n82 l215 ∧
 pApp h214 1 [Value.bool false] 1 (some (Addr.mk n204 0 none)) 0 0 n82 l215 fun (o216 : Option Addr) (n217 n218 : Nat) (h219 : H) =>
 ∀ (n220 : Nat) (h221 : H),
 hnew h219 n220 [Value.slice none 0 0, Value.slice none 0 0, Value.slice none 0 0] h221 →
 hcan h221 (Addr.mk n220 0 none) 3 ∧
 ∀ (h223 : H),
 h223 = hwr h221 (Addr.mk n220 0 none) [Value.slice none 0 0, Value.slice o211 n212 n213, Value.slice o216 n217 n218] →
 J17 [SV.dv (DV.addr (Addr.mk n220 0 none))] h223) ∧
 ∀ (n225 : Nat) (h226 : H),
 hnew h214 n225 [Value.slice none 0 0, Value.slice none 0 0, Value.slice none 0 0] h226 →
 hcs h226 ((Addr.mk n11 0 none).add 2) [Value.slice o81 n82 n83] ∧
 ∃ (l228 : List Value),
 hsv h226 o81 1 n82 l228 ∧
 pApp h226 1 [Value.bool false] 1 (some (Addr.mk n204 0 none)) 0 0 n82 l228 fun (o229 : Option Addr) (n230 n231 : Nat) (h232 : H) =>
 hcan h232 (Addr.mk n225 0 none) 3 ∧
 ∀ (h233 : H),
 h233 = hwr h232 (Addr.mk n225 0 none) [Value.slice none 0 0, Value.slice o211 n212 n213, Value.slice o229 n230 n231] →
 J17 [SV.dv (DV.addr (Addr.mk n225 0 none))] h233) ∧
 ∀ (n235 : Nat) (h236 : H),
 hnew h208 n235 [Value.slice none 0 0, Value.slice none 0 0, Value.slice none 0 0] h236 →
 hcs h236 ((Addr.mk n11 0 none).add 2) [Value.slice o81 n82 n83] ∧
 hcs h236 ((Addr.mk n11 0 none).add 1) [Value.slice o78 n79 n80] ∧
 ∃ (l238 : List Value),
 hsv h236 o78 1 n79 l238 ∧
 pApp h236 1 [Value.int IntKind.i64 0] 8 (some (Addr.mk n207 0 none)) 0 0 n79 l238 fun (o239 : Option Addr) (n240 n241 : Nat) (h242 : H) =>
 hcs h242 ((Addr.mk n11 0 none).add 2) [Value.slice o81 n82 n83] ∧
 ∃ (l243 : List Value),
 hsv h242 o81 1 n82 l243 ∧
 pApp h242 1 [Value.bool false] 1 (some (Addr.mk n204 0 none)) 0 0 n82 l243 fun (o244 : Option Addr) (n245 n246 : Nat) (h247 : H) =>
 hcan h247 (Addr.mk n235 0 none) 3 ∧
 ∀ (h248 : H),
 h248 = hwr h247 (Addr.mk n235 0 none) [Value.slice none 0 0, Value.slice o239 n240 n241, Value.slice o244 n245 n246] →
 J17 [SV.dv (DV.addr (Addr.mk n235 0 none))] h248) ∧
 ∀ (n250 : Nat) (h251 : H),
 hnew h205 n250 [Value.slice none 0 0, Value.slice none 0 0, Value.slice none 0 0] h251 →
 hcs h251 ((Addr.mk n11 0 none).add 2) [Value.slice o81 n82 n83] ∧
 hcs h251 ((Addr.mk n11 0 none).add 1) [Value.slice o78 n79 n80] ∧
 ∀ (n253 : Nat) (h254 : H),
 hnew h251 n253 [] h254 →
 hcs h254 ((Addr.mk n11 0 none).add 2) [Value.slice o81 n82 n83] ∧
 hcs h254 ((Addr.mk n11 0 none).add 1) [Value.slice o78 n79 n80] ∧
 ∃ (l256 : List Value),
 hsv h254 o78 1 n79 l256 ∧
 pApp h254 1 [Value.int IntKind.i64 0] 8 (some (Addr.mk n253 0 none)) 0 0 n79 l256 fun (o257 : Option Addr) (n258 n259 : Nat) (h260 : H) =>
 hcs h260 ((Addr.mk n11 0 none).add 2) [Value.slice o81 n82 n83] ∧
 ∃ (l261 : List Value),
 hsv h260 o81 1 n82 l261 ∧
 pApp h260 1 [Value.bool false] 1 (some (Addr.mk n204 0 none)) 0 0 n82 l261 fun (o262 : Option Addr) (n263 n264 : Nat) (h265 : H) =>
 hcan h265 (Addr.mk n250 0 none) 3 ∧
 ∀ (h266 : H),
 h266 = hwr h265 (Addr.mk n250 0 none) [Value.slice none 0 0, Value.slice o257 n258 n259, Value.slice o262 n263 n264] →
 J17 [SV.dv (DV.addr (Addr.mk n250 0 none))] h266) ∧
 ∀ (n268 : Nat) (h269 : H),
 hnew h15 n268 [Value.slice none 0 0, Value.slice none 0 0, Value.slice none 0 0] h269 →
 hcs h269 ((Addr.mk n11 0 none).add 2) [Value.slice o81 n82 n83] ∧
 hcs h269 ((Addr.mk n11 0 none).add 1) [Value.slice o78 n79 n80] ∧
 (∀ (n271 : Nat) (h272 : H),
 hnew h269 n271 [] h272 →
 hcs h272 ((Addr.mk n11 0 none).add 2) [Value.slice o81 n82 n83] ∧
 hcs h272 ((Addr.mk n11 0 none).add 1) [Value.slice o78 n79 n80] ∧
 (∃ (l274 : List Value),
 hsv h272 o78 1 n79 l274 ∧
 pApp h272 1 [Value.int IntKind.i64 0] 8 (some (Addr.mk n271 0 none)) 0 0 n79 l274 fun (o275 : Option Addr) (n276 n277 : Nat) (h278 : H) =>
 hcs h278 ((Addr.mk n11 0 none).add 2) [Value.slice o81 n82 n83] ∧
 ∀ (n279 : Nat) (h280 : H),
 hnew h278 n279 [] h280 →
 hcs h280 ((Addr.mk n11 0 none).add 2) [Value.slice o81 n82 n83] ∧
 ∃ (l282 : List Value),
 hsv h280 o81 1 n82 l282 ∧
 pApp h280 1 [Value.bool false] 1 (some (Addr.mk n279 0 none)) 0 0 n82 l282 fun (o283 : Option Addr) (n284 n285 : Nat) (h286 : H) =>
 hcan h286 (Addr.mk n268 0 none) 3 ∧
 ∀ (h287 : H),
 h287 = hwr h286 (Addr.mk n268 0 none) [Value.slice none 0 0, Value.slice o275 n276 n277, Value.slice o283 n284 n285] →
 J17 [SV.dv (DV.addr (Addr.mk n268 0 none))] h287) ∧
 ∀ (n289 : Nat) (h290 : H),
 hnew h272 n289 [] h290 →
 hcs h290 ((Addr.mk n11 0 none).add 2) [Value.slice o81 n82 n83] ∧
 hcs h290 ((Addr.mk n11 0 none).add 1) [Value.slice o78 n79 n80] ∧
 ∃ (l292 : List Value),
 hsv h290 o78 1 n79 l292 ∧
 pApp h290 1 [Value.int IntKind.i64 0] 8 (some (Addr.mk n271 0 none)) 0 0 n79 l292 fun (o293 : Option Addr) (n294 n295 : Nat) (h296 : H) =>
 hcs h296 ((Addr.mk n11 0 none).add 2) [Value.slice o81 n82 n83] ∧
 ∃ (l297 : List Value),
 hsv h296 o81 1 n82 l297 ∧
 pApp h296 1 [Value.bool false] 1 (some (Addr.mk n289 0 none)) 0 0 n82 l297 fun (o298 : Option Addr) (n299 n300 : Nat) (h301 : H) =>
 hcan h301 (Addr.mk n268 0 none) 3 ∧
 ∀ (h302 : H),
 h302 = hwr h301 (Addr.mk n268 0 none) [Value.slice none 0 0, Value.slice o293 n294 n295, Value.slice o298 n299 n300] →
 J17 [SV.dv (DV.addr (Addr.mk n268 0 none))] h302) ∧
 ∀ (n304 : Nat) (h305 : H),
 hnew h269 n304 [] h305 →
 hcs h305 ((Addr.mk n11 0 none).add 2) [Value.slice o81 n82 n83] ∧
 hcs h305 ((Addr.mk n11 0 none).add 1) [Value.slice o78 n79 n80] ∧
 ∀ (n307 : Nat) (h308 : H),
 hnew h305 n307 [] h308 →
 hcs h308 ((Addr.mk n11 0 none).add 2) [Value.slice o81 n82 n83] ∧
 hcs h308 ((Addr.mk n11 0 none).add 1) [Value.slice o78 n79 n80] ∧
 ∃ (l310 : List Value),
 hsv h308 o78 1 n79 l310 ∧
 pApp h308 1 [Value.int IntKind.i64 0] 8 (some (Addr.mk n307 0 none)) 0 0 n79 l310 fun (o311 : Option Addr) (n312 n313 : Nat) (h314 : H) =>
 hcs h314 ((Addr.mk n11 0 none).add 2) [Value.slice o81 n82 n83] ∧
 ∃ (l315 : List Value),
 hsv h314 o81 1 n82 l315 ∧
 pApp h314 1 [Value.bool false] 1 (some (Addr.mk n304 0 none)) 0 0 n82 l315 fun (o316 : Option Addr) (n317 n318 : Nat) (h319 : H) =>
 hcan h319 (Addr.mk n268 0 none) 3 ∧
 ∀ (h320 : H),
 h320 = hwr h319 (Addr.mk n268 0 none) [Value.slice none 0 0, Value.slice o311 n312 n313, Value.slice o316 n317 n318] →
 J17 [SV.dv (DV.addr (Addr.mk n268 0 none))] h320
theorem E_portcullisref04_CopyState  : ∀ (a0_0p : Option Addr) (a0_0l : Nat) (a0_0c : Nat) (a0_1p : Option Addr) (a0_1l : Nat) (a0_1c : Nat) (a0_2p : Option Addr) (a0_2l : Nat) (a0_2c : Nat) (Q : (Option Addr) → Nat → Nat → (Option Addr) → Nat → Nat → (Option Addr) → Nat → Nat → H → Prop) (h : H), G_portcullisref04_CopyState a0_0p a0_0l a0_0c a0_1p a0_1l a0_1c a0_2p a0_2l a0_2c Q h = Dbody PP [] [(3, [(3, .addr)]), (58, [(4, .sc (.int .i64))])] Try.f29 [.agg [.c (.slice a0_0p a0_0l a0_0c), .c (.slice a0_1p a0_1l a0_1c), .c (.slice a0_2p a0_2l a0_2c)]] (decR [.ag [.slc, .slc, .slc]] Q) h := by
  intros; kernel_rfl
def F_portcullisref04_CopyState := G_portcullisref04_CopyState
theorem R_portcullisref04_CopyState : RunOk PP 29 (W [.ag [.slc, .slc, .slc]] [.ag [.slc, .slc, .slc]] F_portcullisref04_CopyState) :=
  runOk_of (T := []) (ann := [(3, [(3, .addr)]), (58, [(4, .sc (.int .i64))])]) (TblOk.nil) Try.func29 (by kernel_rfl) (by kernel_rfl) (E_portcullisref04_CopyState)
attribute [irreducible] F_portcullisref04_CopyState
def G_portcullisref04_Chip_Copy (c_portcullisref04_CopyState : Option Addr →
 Nat →
 Nat →
 Option Addr →
 Nat →
 Nat →
 Option Addr →
 Nat →
 Nat →
 (Option Addr → Nat → Nat → Option Addr → Nat → Nat → Option Addr → Nat → Nat → H → Prop) → H → Prop) (a0 : Addr) (Q : Option Addr → H → Prop) (h : H) : Prop :=
 ∃ (i4 : Int),
 hc h a0 = some (Value.int IntKind.i64 i4) ∧
 ∃ (i5 : Int),
 hc h (a0.add 1) = some (Value.int IntKind.i64 i5) ∧
 ∃ (i6 : Int),
 hc h (a0.add 2) = some (Value.int IntKind.i64 i6) ∧
 ∃ (i7 : Int),
 hc h (a0.add 3) = some (Value.int IntKind.i64 i7) ∧
 ∃ (i8 : Int),
 hc h (a0.add 4) = some (Value.int IntKind.i64 i8) ∧
 ∃ (i9 : Int),
 hc h (a0.add 5) = some (Value.int IntKind.i64 i9) ∧
 ∃ (i10 : Int),
 hc h (a0.add 6) = some (Value.int IntKind.i64 i10) ∧
 ∃ (o11 : Option Addr),
 ∃ (n12 : Nat),
 ∃ (n13 : Nat),
 hc h (a0.add 7) = some (Value.slice o11 n12 n13) ∧
 ∃ (o14 : Option Addr),
 ∃ (n15 : Nat),
 ∃ (n16 : Nat),
 hc h (a0.add 8) = some (Value.slice o14 n15 n16) ∧
 ∃ (o17 : Option Addr),
 ∃ (n18 : Nat),
 ∃ (n19 : Nat),
 hc h (a0.add 9) = some (Value.slice o17 n18 n19) ∧
 ∃ (i20 : Int),
 hc h (a0.add 10) = some (Value.int IntKind.i64 i20) ∧
 ∃ (b21 : Bool),
 hc h (a0.add 11) = some (Value.bool b21) ∧
 ∃ (i22 : Int),
 hc h (a0.add 12) = some (Value.int IntKind.i64 i22) ∧
 ∃ (o23 : Option Addr),
 ∃ (n24 : Nat),
 ∃ (n25 : Nat),
 hc h (a0.add 13) = some (Value.slice o23 n24 n25) ∧
 c_portcullisref04_CopyState o11 n12 n13 o14 n15 n16 o17 n18 n19
 (fun (o26 : Option Addr) (n27 n28 : Nat) (o29 : Option Addr) (n30 n31 : Nat) (o32 : Option Addr) (n33 n34 : Nat) (h35 : H) =>
 hcs h35 (a0.add 13) [Value.slice o23 n24 n25] ∧
 hcs h35 (a0.add 12) [Value.int IntKind.i64 i22] ∧
 hcs h35 (a0.add 11) [Value.bool b21] ∧
 hcs h35 (a0.add 10) [Value.int IntKind.i64 i20] ∧
 hcs h35 a0
 [Value.int IntKind.i64 i4, Value.int IntKind.i64 i5, Value.int IntKind.i64 i6, Value.int IntKind.i64 i7, Value.int IntKind.i64 i8,
 Value.int IntKind.i64 i9, Value.int IntKind.i64 i10] ∧
 ∀ (n36 : Nat) (h37 : H),
 hnew h35 n36 [] h37 →
 hcs h37 (a0.add 13) [Value.slice o23 n24 n25] ∧
 hcs h37 (a0.add 12) [Value.int IntKind.i64 i22] ∧
 hcs h37 (a0.add 11) [Value.bool b21] ∧
 hcs h37 (a0.add 10) [Value.int IntKind.i64 i20] ∧
 hcs h37 a0
 [Value.int IntKind.i64 i4, Value.int IntKind.i64 i5, Value.int IntKind.i64 i6, Value.int IntKind.i64 i7,
 Value.int IntKind.i64 i8, Value.int IntKind.i64 i9, Value.int IntKind.i64 i10] ∧
 ∃ (l39 : List Value),
 hsv h37 o23 1 n24 l39 ∧
 pApp h37 1 [Value.int IntKind.u8 0] 1 (some (Addr.mk n36 0 none)) 0 0 n24 l39
 fun (o40 : Option Addr) (n41 n42 : Nat) (h43 : H) =>
 hcs h43 (a0.add 12) [Value.int IntKind.i64 i22] ∧
 hcs h43 (a0.add 11) [Value.bool b21] ∧
 hcs h43 (a0.add 10) [Value.int IntKind.i64 i20] ∧
 hcs h43 a0
 [Value.int IntKind.i64 i4, Value.int IntKind.i64 i5, Value.int IntKind.i64 i6,
 Value.int IntKind.i64 i7, Value.int IntKind.i64 i8, Value.int IntKind.i64 i9,
 Value.int IntKind.i64 i10] ∧
 ∀ (n44 : Nat) (h45 : H),
 hnew h43 n44
 [Value.int IntKind.i64 i4, Value.int IntKind.i64 i5, Value.int IntKind.i64 i6,
 Value.int IntKind.i64 i7, Value.int IntKind.i64 i8, Value.int IntKind.i64 i9,
 Value.int IntKind.i64 i10, Value.slice o26 n27 n28, Value.slice o29 n30 n31,
 Value.slice o32 n33 n34, Value.int IntKind.i64 i20, Value.bool b21, Value.int IntKind.i64 i22,
 Value.slice o40 n41 n42]
 h45 →
 Q (some (Addr.mk n44 0 none)) h45)
 h ∧
 ∀ (n47 : Nat) (h48 : H),
 hnew h n47 [] h48 →
 hcs h48 (a0.add 13) [Value.slice o23 n24 n25] ∧
 hcs h48 (a0.add 12) [Value.int IntKind.i64 i22] ∧
 hcs h48 (a0.add 11) [Value.bool b21] ∧
 hcs h48 (a0.add 10) [Value.int IntKind.i64 i20] ∧
 hcs h48 (a0.add 7) [Value.slice o11 n12 n13, Value.slice o14 n15 n16, Value.slice o17 n18 n19] ∧
 hcs h48 a0
 [Value.int IntKind.i64 i4, Value.int IntKind.i64 i5, Value.int IntKind.i64 i6, Value.int IntKind.i64 i7,
 Value.int IntKind.i64 i8, Value.int IntKind.i64 i9, Value.int IntKind.i64 i10] ∧
 c_portcullisref04_CopyState o11 n12 n13 o14 n15 n16 o17 n18 n19
 (fun (o50 : Option Addr) (n51 n52 : Nat) (o53 : Option Addr) (n54 n55 : Nat) (o56 : Option Addr) (n57 n58 : Nat) (h59 : H) =>
 hcs h59 (a0.add 13) [Value.slice o23 n24 n25] ∧
 hcs h59 (a0.add 12) [Value.int IntKind.i64 i22] ∧
 hcs h59 (a0.add 11) [Value.bool b21] ∧
 hcs h59 (a0.add 10) [Value.int IntKind.i64 i20] ∧
 hcs h59 a0
 [Value.int IntKind.i64 i4, Value.int IntKind.i64 i5, Value.int IntKind.i64 i6, Value.int IntKind.i64 i7,
 Value.int IntKind.i64 i8, Value.int IntKind.i64 i9, Value.int IntKind.i64 i10] ∧
 ∃ (l60 : List Value),
 hsv h59 o23 1 n24 l60 ∧
 pApp h59 1 [Value.int IntKind.u8 0] 1 (some (Addr.mk n47 0 none)) 0 0 n24 l60
 fun (o61 : Option Addr) (n62 n63 : Nat) (h64 : H) =>
 hcs h64 (a0.add 12) [Value.int IntKind.i64 i22] ∧
 hcs h64 (a0.add 11) [Value.bool b21] ∧
 hcs h64 (a0.add 10) [Value.int IntKind.i64 i20] ∧
 hcs h64 a0
 [Value.int IntKind.i64 i4, Value.int IntKind.i64 i5, Value.int IntKind.i64 i6,
 Value.int IntKind.i64 i7, Value.int IntKind.i64 i8, Value.int IntKind.i64 i9,
 Value.int IntKind.i64 i10] ∧
 ∀ (n65 : Nat) (h66 : H),
 hnew h64 n65
 [Value.int IntKind.i64 i4, Value.int IntKind.i64 i5, Value.int IntKind.i64 i6,
 Value.int IntKind.i64 i7, Value.int IntKind.i64 i8, Value.int IntKind.i64 i9,
 Value.int IntKind.i64 i10, Value.slice o50 n51 n52, Value.slice o53 n54 n55,
 Value.slice o56 n57 n58, Value.int IntKind.i64 i20, Value.bool b21, Value.int IntKind.i64 i22,
 Value.slice o61 n62 n63]
 h66 →
 Q (some (Addr.mk n65 0 none)) h66)
 h48
theorem E_portcullisref04_Chip_Copy (c_portcullisref04_CopyState : (Option Addr) → Nat → Nat → (Option Addr) → Nat → Nat → (Option Addr) → Nat → Nat → ((Option Addr) → Nat → Nat → (Option Addr) → Nat → Nat → (Option Addr) → Nat → Nat → H → Prop) → H → Prop) : ∀ (a0 : Addr) (Q : (Option Addr) → H → Prop) (h : H), G_portcullisref04_Chip_Copy c_portcullisref04_CopyState a0 Q h = Dbody PP [(29, W [.ag [.slc, .slc, .slc]] [.ag [.slc, .slc, .slc]] c_portcullisref04_CopyState)] [] Try.f71 [.addr a0] (decR [.ptr] Q) h := by
  intros; kernel_rfl
def F_portcullisref04_Chip_Copy := G_portcullisref04_Chip_Copy F_portcullisref04_CopyState
theorem R_portcullisref04_Chip_Copy : RunOk PP 71 (W [.addr] [.ptr] F_portcullisref04_Chip_Copy) :=
  runOk_of (T := [(29, W [.ag [.slc, .slc, .slc]] [.ag [.slc, .slc, .slc]] F_portcullisref04_CopyState)]) (ann := []) (TblOk.cons R_portcullisref04_CopyState (TblOk.nil)) Try.func71 (by kernel_rfl) (by kernel_rfl) (E_portcullisref04_Chip_Copy F_portcullisref04_CopyState)
attribute [irreducible] F_portcullisref04_Chip_Copy
def G_chip_Chip_Erase (c_chip_Chip_asked : Addr → Int → Int → (Int → H → Prop) → H → Prop) (c_chip_Chip_begins : Addr → (Value → Int → H → Prop) → H → Prop) (a0 : Addr) (a1 : Int) (Q : Int → H → Prop) (h : H) : Prop :=
 ∃ (o6 : Option Addr),
 ∃ (n7 : Nat),
 ∃ (n8 : Nat),
 hc h (a0.add 7) = some (Value.slice o6 n7 n8) ∧
 c_chip_Chip_asked a0 a1 (↑n7 : Int)
 (fun (i9 : Int) (h10 : H) =>
 if (i9 != 0) = true then Q i9 h10
 else
 ∃ (o11 : Option Addr),
 ∃ (n12 : Nat),
 ∃ (n13 : Nat),
 hc h10 (a0.add 8) = some (Value.slice o11 n12 n13) ∧
 ∃ (p14 : Addr),
 o11 = some p14 ∧
 0 ≤ a1 ∧
 a1 < (↑n12 : Int) ∧
 ∃ (i15 : Int),
 hc h10 (p14.add (a1.toNat * 1)) = some (Value.int IntKind.i64 i15) ∧
 ∃ (i16 : Int),
 hc h10 (a0.add 5) = some (Value.int IntKind.i64 i16) ∧
 if leI i16 i15 = true then Q 9 h10
 else
 c_chip_Chip_begins a0
 (fun (v17 : Value) (i18 : Int) (h19 : H) =>
 ∃ (o20 : Option Addr),
 ∃ (n21 : Nat),
 ∃ (n22 : Nat),
 hc h19 (a0.add 8) = some (Value.slice o20 n21 n22) ∧
 ∃ (p23 : Addr),
 o20 = some p23 ∧
 0 ≤ a1 ∧
 a1 < (↑n21 : Int) ∧
 ∃ (i24 : Int),
 hc h19 (p23.add (a1.toNat * 1)) = some (Value.int IntKind.i64 i24) ∧
 ∃ (p25 : Addr),
 o20 = some p25 ∧
 0 ≤ a1 ∧
 a1 < (↑n21 : Int) ∧
 hcan h19 (p25.add (a1.toNat * 1)) 1 ∧
 ∀ (h26 : H),
 h26 = hwr h19 (p25.add (a1.toNat * 1)) [Value.int IntKind.i64 (IntKind.i64.wrap (i24 + 1))] →
 ∃ (o28 : Option Addr),
 ∃ (n29 : Nat),
 ∃ (n30 : Nat),
 hc h26 (a0.add 7) = some (Value.slice o28 n29 n30) ∧
 ∃ (p31 : Addr),
 o28 = some p31 ∧
 0 ≤ a1 ∧
 a1 < (↑n29 : Int) ∧
 ∃ (o32 : Option Addr),
 ∃ (n33 : Nat),
 ∃ (n34 : Nat),
 hc h26 (p31.add (a1.toNat * 1)) = some (Value.slice o32 n33 n34) ∧
 ∀ (J35 : List SV → H → Prop),
 (∀ (i36 : Int) (h37 : H),
 (if ltI i36 (↑n33 : Int) = true then
 ∃ (o38 : Option Addr),
 ∃ (n39 : Nat),
 ∃ (n40 : Nat),
 hc h37 (a0.add 7) = some (Value.slice o38 n39 n40) ∧
 ∃ (p41 : Addr),
 o38 = some p41 ∧
 0 ≤ a1 ∧
 a1 < (↑n39 : Int) ∧
 ∃ (o42 : Option Addr),
 ∃ (n43 : Nat),
 ∃ (n44 : Nat),
 hc h37 (p41.add (a1.toNat * 1)) = some (Value.slice o42 n43 n44) ∧
 ∃ (p45 : Addr),
 o42 = some p45 ∧
 0 ≤ i36 ∧
 i36 < (↑n43 : Int) ∧
 ∀ (J46 : List SV → H → Prop),
 (∀ (i47 : Int) (h48 : H),
 (if ltI i47 32 = true then
 0 ≤ i47 ∧
 i47 < (↑32 : Int) ∧
 ∃ (i49 : Int),
 hc h48 ((p45.add (i36.toNat * 32)).add (i47.toNat * 1)) =
 some (Value.int IntKind.u8 i49) ∧
 callFn PP v17
 [DV.one
 (Value.int IntKind.i64
 (IntKind.i64.wrap
 (IntKind.i64.wrap (i36 * 32) + i47)))]
 (fun (l50 : List DV) (h51 : H) =>
 ∃ (x52 : DV),
 ∃ (l53 : List DV),
 l50 = x52 :: l53 ∧
 ∃ (i54 : Int),
 x52 = DV.one (Value.int IntKind.u8 i54) ∧
 l53 = [] ∧
 hcs h51
 ((p45.add (i36.toNat * 32)).add
 (i47.toNat * 1))
 [Value.int IntKind.u8 i49] ∧
 0 ≤ i47 ∧
 i47 < (↑32 : Int) ∧
 hcan h51
 ((p45.add (i36.toNat * 32)).add
 (i47.toNat * 1))
 1 ∧
 ∀ (h55 : H),
 h55 =
 hwr h51
 ((p45.add
 (i36.toNat *
 32)).add
 (i47.toNat * 1))
 [Value.int IntKind.u8
 (bits BinOp.or
 IntKind.u8 i49
 i54)] →
 J46
 [SV.dv
 (DV.one
 (Value.int IntKind.i64
 (IntKind.i64.wrap
 (i47 + 1))))]
 h55)
 h48
 else
 J35
 [SV.dv
 (DV.one
 (Value.int IntKind.i64 (IntKind.i64.wrap (i36 + 1))))]
 h48) →
 J46 [SV.dv (DV.one (Value.int IntKind.i64 i47))] h48) →
 J46 [SV.dv (DV.one (Value.int IntKind.i64 0))] h37
 else Q i18 h37) →
 J35 [SV.dv (DV.one (Value.int IntKind.i64 i36))] h37) →
 J35 [SV.dv (DV.one (Value.int IntKind.i64 0))] h26)
 h10)
 h
theorem E_chip_Chip_Erase (c_chip_Chip_asked : Addr → Int → Int → (Int → H → Prop) → H → Prop) (c_chip_Chip_begins : Addr → (Value → Int → H → Prop) → H → Prop) : ∀ (a0 : Addr) (a1 : Int) (Q : Int → H → Prop) (h : H), G_chip_Chip_Erase c_chip_Chip_asked c_chip_Chip_begins a0 a1 Q h = Dbody PP [(98, W [.addr, .int .i64, .int .i64] [.int .i64] c_chip_Chip_asked), (99, W [.addr] [.fn, .int .i64] c_chip_Chip_begins)] [(506, [(61, .sc (.int .i64))]), (259278, [(74, .sc (.int .i64))])] Try.f46 [.addr a0, .one (.int .i64 a1)] (decR [.int .i64] Q) h := by
  intros; kernel_rfl
def F_chip_Chip_Erase := G_chip_Chip_Erase F_chip_Chip_asked F_chip_Chip_begins
theorem R_chip_Chip_Erase : RunOk PP 46 (W [.addr, .int .i64] [.int .i64] F_chip_Chip_Erase) :=
  runOk_of (T := [(98, W [.addr, .int .i64, .int .i64] [.int .i64] F_chip_Chip_asked), (99, W [.addr] [.fn, .int .i64] F_chip_Chip_begins)]) (ann := [(506, [(61, .sc (.int .i64))]), (259278, [(74, .sc (.int .i64))])]) (TblOk.cons R_chip_Chip_asked (TblOk.cons R_chip_Chip_begins (TblOk.nil))) Try.func46 (by kernel_rfl) (by kernel_rfl) (E_chip_Chip_Erase F_chip_Chip_asked F_chip_Chip_begins)
attribute [irreducible] F_chip_Chip_Erase
def G_chip_Chip_State (c_chip_copied : Option Addr →
 Nat →
 Nat →
 Option Addr →
 Nat →
 Nat →
 Option Addr →
 Nat →
 Nat →
 (Option Addr → Nat → Nat → Option Addr → Nat → Nat → Option Addr → Nat → Nat → H → Prop) → H → Prop) (a0 : Addr) (Q : Option Addr → Nat → Nat → Option Addr → Nat → Nat → Option Addr → Nat → Nat → H → Prop) (h : H) : Prop :=
 ∀ (n4 : Nat) (h5 : H),
 hnew h n4 [Value.slice none 0 0, Value.slice none 0 0, Value.slice none 0 0] h5 →
 ∃ (o7 : Option Addr),
 ∃ (n8 : Nat),
 ∃ (n9 : Nat),
 hc h5 (a0.add 7) = some (Value.slice o7 n8 n9) ∧
 ∃ (o10 : Option Addr),
 ∃ (n11 : Nat),
 ∃ (n12 : Nat),
 hc h5 (a0.add 8) = some (Value.slice o10 n11 n12) ∧
 ∃ (o13 : Option Addr),
 ∃ (n14 : Nat),
 ∃ (n15 : Nat),
 hc h5 (a0.add 9) = some (Value.slice o13 n14 n15) ∧
 c_chip_copied o7 n8 n9 o10 n11 n12 o13 n14 n15
 (fun (o16 : Option Addr) (n17 n18 : Nat) (o19 : Option Addr) (n20 n21 : Nat) (o22 : Option Addr) (n23 n24 : Nat) (h25 : H) =>
 hcan h25 (Addr.mk n4 0 none) 3 ∧
 ∀ (h26 : H),
 h26 = hwr h25 (Addr.mk n4 0 none) [Value.slice o16 n17 n18, Value.slice o19 n20 n21, Value.slice o22 n23 n24] →
 ∃ (o28 : Option Addr),
 ∃ (n29 : Nat),
 ∃ (n30 : Nat),
 hc h26 (Addr.mk n4 0 none) = some (Value.slice o28 n29 n30) ∧
 ∃ (o31 : Option Addr),
 ∃ (n32 : Nat),
 ∃ (n33 : Nat),
 hc h26 ((Addr.mk n4 0 none).add 1) = some (Value.slice o31 n32 n33) ∧
 ∃ (o34 : Option Addr), ∃ (n35 : Nat), ∃ (n36 : Nat), hc h26 ((Addr.mk n4 0 none).add 2) = some (Value.slice o34 n35 n36) ∧ Q o28 n29 n30 o31 n32 n33 o34 n35 n36 h26)
 h5
theorem E_chip_Chip_State (c_chip_copied : (Option Addr) → Nat → Nat → (Option Addr) → Nat → Nat → (Option Addr) → Nat → Nat → ((Option Addr) → Nat → Nat → (Option Addr) → Nat → Nat → (Option Addr) → Nat → Nat → H → Prop) → H → Prop) : ∀ (a0 : Addr) (Q : (Option Addr) → Nat → Nat → (Option Addr) → Nat → Nat → (Option Addr) → Nat → Nat → H → Prop) (h : H), G_chip_Chip_State c_chip_copied a0 Q h = Dbody PP [(78, W [.ag [.slc, .slc, .slc]] [.ag [.slc, .slc, .slc]] c_chip_copied)] [] Try.f22 [.addr a0] (decR [.ag [.slc, .slc, .slc]] Q) h := by
  intros; kernel_rfl
def F_chip_Chip_State := G_chip_Chip_State F_chip_copied
theorem R_chip_Chip_State : RunOk PP 22 (W [.addr] [.ag [.slc, .slc, .slc]] F_chip_Chip_State) :=
  runOk_of (T := [(78, W [.ag [.slc, .slc, .slc]] [.ag [.slc, .slc, .slc]] F_chip_copied)]) (ann := []) (TblOk.cons R_chip_copied (TblOk.nil)) Try.func22 (by kernel_rfl) (by kernel_rfl) (E_chip_Chip_State F_chip_copied)
attribute [irreducible] F_chip_Chip_State
def G_chip_Chip_Out (a0 : Addr) (Q : Bool → H → Prop) (h : H) : Prop :=
 ∃ (b3 : Bool), hc h (a0.add 11) = some (Value.bool b3) ∧ Q b3 h
theorem E_chip_Chip_Out  : ∀ (a0 : Addr) (Q : Bool → H → Prop) (h : H), G_chip_Chip_Out a0 Q h = Dbody PP [] [] Try.f25 [.addr a0] (decR [.bool] Q) h := by
  intros; kernel_rfl
def F_chip_Chip_Out := G_chip_Chip_Out
theorem R_chip_Chip_Out : RunOk PP 25 (W [.addr] [.bool] F_chip_Chip_Out) :=
  runOk_of (T := []) (ann := []) (TblOk.nil) Try.func25 (by kernel_rfl) (by kernel_rfl) (E_chip_Chip_Out)
attribute [irreducible] F_chip_Chip_Out
def G_portcullisref04_SameState (a0_0p : Option Addr) (a0_0l : Nat) (a0_0c : Nat) (a0_1p : Option Addr) (a0_1l : Nat) (a0_1c : Nat) (a0_2p : Option Addr) (a0_2l : Nat) (a0_2c : Nat) (a1_0p : Option Addr) (a1_0l : Nat) (a1_0c : Nat) (a1_1p : Option Addr) (a1_1l : Nat) (a1_1c : Nat) (a1_2p : Option Addr) (a1_2l : Nat) (a1_2c : Nat) (Q : Bool → H → Prop) (h : H) : Prop :=
 ∀ (n20 : Nat) (h21 : H),
 hnew h n20 [Value.slice a0_0p a0_0l a0_0c, Value.slice a0_1p a0_1l a0_1c, Value.slice a0_2p a0_2l a0_2c] h21 →
 ∀ (n23 : Nat) (h24 : H),
 hnew h21 n23 [Value.slice a1_0p a1_0l a1_0c, Value.slice a1_1p a1_1l a1_1c, Value.slice a1_2p a1_2l a1_2c] h24 →
 ∀ (J26 : List SV → H → Prop),
 (∀ (h27 : H),
 (∀ (J28 : List SV → H → Prop),
 (∀ (i29 : Int) (h30 : H),
 (∃ (o31 : Option Addr),
 ∃ (n32 : Nat),
 ∃ (n33 : Nat),
 hc h30 (Addr.mk n20 0 none) = some (Value.slice o31 n32 n33) ∧
 if ltI i29 (↑n32 : Int) = true then
 ∃ (o34 : Option Addr),
 ∃ (n35 : Nat),
 ∃ (n36 : Nat),
 hc h30 (Addr.mk n20 0 none) = some (Value.slice o34 n35 n36) ∧
 ∃ (p37 : Addr),
 o34 = some p37 ∧
 0 ≤ i29 ∧
 i29 < (↑n35 : Int) ∧
 ∃ (o38 : Option Addr),
 ∃ (n39 : Nat),
 ∃ (n40 : Nat),
 hc h30 (p37.add (i29.toNat * 1)) = some (Value.slice o38 n39 n40) ∧
 ∃ (o41 : Option Addr),
 ∃ (n42 : Nat),
 ∃ (n43 : Nat),
 hc h30 (Addr.mk n23 0 none) = some (Value.slice o41 n42 n43) ∧
 ∃ (p44 : Addr),
 o41 = some p44 ∧
 0 ≤ i29 ∧
 i29 < (↑n42 : Int) ∧
 ∃ (o45 : Option Addr),
 ∃ (n46 : Nat),
 ∃ (n47 : Nat),
 hc h30 (p44.add (i29.toNat * 1)) = some (Value.slice o45 n46 n47) ∧
 if ((↑n39 : Int) != (↑n46 : Int)) = true then Q false h30
 else
 ∀ (J48 : List SV → H → Prop),
 (∀ (i49 : Int) (h50 : H),
 (∃ (o51 : Option Addr),
 ∃ (n52 : Nat),
 ∃ (n53 : Nat),
 hc h50 (Addr.mk n20 0 none) = some (Value.slice o51 n52 n53) ∧
 ∃ (p54 : Addr),
 o51 = some p54 ∧
 0 ≤ i29 ∧
 i29 < (↑n52 : Int) ∧
 ∃ (o55 : Option Addr),
 ∃ (n56 : Nat),
 ∃ (n57 : Nat),
 hc h50 (p54.add (i29.toNat * 1)) = some (Value.slice o55 n56 n57) ∧
 if ltI i49 (↑n56 : Int) = true then
 ∃ (o58 : Option Addr),
 ∃ (n59 : Nat),
 ∃ (n60 : Nat),
 hc h50 (Addr.mk n20 0 none) = some (Value.slice o58 n59 n60) ∧
 ∃ (p61 : Addr),
 o58 = some p61 ∧
 0 ≤ i29 ∧
 i29 < (↑n59 : Int) ∧
 ∃ (o62 : Option Addr),
 ∃ (n63 : Nat),
 ∃ (n64 : Nat),
 hc h50 (p61.add (i29.toNat * 1)) = some (Value.slice o62 n63 n64) ∧
 ∃ (p65 : Addr),
 o62 = some p65 ∧
 0 ≤ i49 ∧
 i49 < (↑n63 : Int) ∧
 ∃ (l66 : List Int),
 l66.length = 32 ∧
 hrow h50 (p65.add (i49.toNat * 32)) IntKind.u8 l66 ∧
 ∃ (o67 : Option Addr),
 ∃ (n68 : Nat),
 ∃ (n69 : Nat),
 hc h50 (Addr.mk n23 0 none) =
 some (Value.slice o67 n68 n69) ∧
 ∃ (p70 : Addr),
 o67 = some p70 ∧
 0 ≤ i29 ∧
 i29 < (↑n68 : Int) ∧
 ∃ (o71 : Option Addr),
 ∃ (n72 : Nat),
 ∃ (n73 : Nat),
 hc h50 (p70.add (i29.toNat * 1)) =
 some (Value.slice o71 n72 n73) ∧
 ∃ (p74 : Addr),
 o71 = some p74 ∧
 0 ≤ i49 ∧
 i49 < (↑n72 : Int) ∧
 ∃ (l75 : List Int),
 l75.length = 32 ∧
 hrow h50
 (p74.add
 (i49.toNat * 32))
 IntKind.u8 l75 ∧
 if
 (!l66 == l75) =
 true then
 Q false h50
 else
 J48
 [SV.dv
 (DV.one
 (Value.int
 IntKind.i64
 (IntKind.i64.wrap
 (i49 +
 1))))]
 h50
 else J28 [SV.dv (DV.one (Value.int IntKind.i64 (IntKind.i64.wrap (i29 + 1))))] h50) →
 J48 [SV.dv (DV.one (Value.int IntKind.i64 i49))] h50) →
 J48 [SV.dv (DV.one (Value.int IntKind.i64 0))] h30
 else
 ∀ (J78 : List SV → H → Prop),
 (∀ (i79 : Int) (h80 : H),
 (∃ (o81 : Option Addr),
 ∃ (n82 : Nat),
 ∃ (n83 : Nat),
 hc h80 ((Addr.mk n20 0 none).add 1) = some (Value.slice o81 n82 n83) ∧
 if ltI i79 (↑n82 : Int) = true then
 ∃ (o84 : Option Addr),
 ∃ (n85 : Nat),
 ∃ (n86 : Nat),
 hc h80 ((Addr.mk n20 0 none).add 1) = some (Value.slice o84 n85 n86) ∧
 ∃ (p87 : Addr),
 o84 = some p87 ∧
 0 ≤ i79 ∧
 i79 < (↑n85 : Int) ∧
 ∃ (i88 : Int),
 hc h80 (p87.add (i79.toNat * 1)) = some (Value.int IntKind.i64 i88) ∧
 ∃ (o89 : Option Addr),
 ∃ (n90 : Nat),
 ∃ (n91 : Nat),
 hc h80 ((Addr.mk n23 0 none).add 1) = some (Value.slice o89 n90 n91) ∧
 ∃ (p92 : Addr),
 o89 = some p92 ∧
 0 ≤ i79 ∧
 i79 < (↑n90 : Int) ∧
 ∃ (i93 : Int),
 hc h80 (p92.add (i79.toNat * 1)) = some (Value.int IntKind.i64 i93) ∧
 if (i88 != i93) = true then Q false h80 else J78 [SV.dv (DV.one (Value.int IntKind.i64 (IntKind.i64.wrap (i79 + 1))))] h80
 else
 ∀ (J94 : List SV → H → Prop),
 (∀ (i95 : Int) (h96 : H),
 (∃ (o97 : Option Addr),
 ∃ (n98 : Nat),
 ∃ (n99 : Nat),
 hc h96 ((Addr.mk n20 0 none).add 2) = some (Value.slice o97 n98 n99) ∧
 if ltI i95 (↑n98 : Int) = true then
 ∃ (o100 : Option Addr),
 ∃ (n101 : Nat),
 ∃ (n102 : Nat),
 hc h96 ((Addr.mk n20 0 none).add 2) = some (Value.slice o100 n101 n102) ∧
 ∃ (p103 : Addr),
 o100 = some p103 ∧
 0 ≤ i95 ∧
 i95 < (↑n101 : Int) ∧
 ∃ (b104 : Bool),
 hc h96 (p103.add (i95.toNat * 1)) = some (Value.bool b104) ∧
 ∃ (o105 : Option Addr),
 ∃ (n106 : Nat),
 ∃ (n107 : Nat),
 hc h96 ((Addr.mk n23 0 none).add 2) = some (Value.slice o105 n106 n107) ∧
 ∃ (p108 : Addr),
 o105 = some p108 ∧
 0 ≤ i95 ∧
 i95 < (↑n106 : Int) ∧
 ∃ (b109 : Bool),
 hc h96 (p108.add (i95.toNat * 1)) = some (Value.bool b109) ∧
 if (!b104 == b109) = true then Q false h96
 else J94 [SV.dv (DV.one (Value.int IntKind.i64 (IntKind.i64.wrap (i95 + 1))))] h96
 else Q true h96) →
 J94 [SV.dv (DV.one (Value.int IntKind.i64 i95))] h96) →
 J94 [SV.dv (DV.one (Value.int IntKind.i64 0))] h80) →
 J78 [SV.dv (DV.one (Value.int IntKind.i64 i79))] h80) →
 J78 [SV.dv (DV.one (Value.int IntKind.i64 0))] h30) →
 J28 [SV.dv (DV.one (Value.int IntKind.i64 i29))] h30) →
 J28 [SV.dv (DV.one (Value.int IntKind.i64 0))] h27) →
 J26 [] h27) →
 ∃ (o118 : Option Addr),
 ∃ (n119 : Nat),
 ∃ (n120 : Nat),
 hc h24 (Addr.mk n20 0 none) = some (Value.slice o118 n119 n120) ∧
 ∃ (o121 : Option Addr),
 ∃ (n122 : Nat),
 ∃ (n123 : Nat),
 hc h24 (Addr.mk n23 0 none) = some (Value.slice o121 n122 n123) ∧
 if ((↑n119 : Int) != (↑n122 : Int)) = true then Q false h24
 else
 ∃ (o124 : Option Addr),
 ∃ (n125 : Nat),
 ∃ (n126 : Nat),
 hc h24 ((Addr.mk n20 0 none).add 1) = some (Value.slice o124 n125 n126) ∧
 ∃ (o127 : Option Addr),
 ∃ (n128 : Nat),
 ∃ (n129 : Nat),
 hc h24 ((Addr.mk n23 0 none).add 1) = some (Value.slice o127 n128 n129) ∧
 if ((↑n125 : Int) != (↑n128 : Int)) = true then Q false h24
 else
 ∃ (o130 : Option Addr),
 ∃ (n131 : Nat),
 ∃ (n132 : Nat),
 hc h24 ((Addr.mk n20 0 none).add 2) = some (Value.slice o130 n131 n132) ∧
 ∃ (o133 : Option Addr),
 ∃ (n134 : Nat),
 ∃ (n135 : Nat),
 hc h24 ((Addr.mk n23 0 none).add 2) = some (Value.slice o133 n134 n135) ∧ if ((↑n131 : Int) != (↑n134 : Int)) = true then Q false h24 else J26 [] h24
theorem E_portcullisref04_SameState  : ∀ (a0_0p : Option Addr) (a0_0l : Nat) (a0_0c : Nat) (a0_1p : Option Addr) (a0_1l : Nat) (a0_1c : Nat) (a0_2p : Option Addr) (a0_2l : Nat) (a0_2c : Nat) (a1_0p : Option Addr) (a1_0l : Nat) (a1_0c : Nat) (a1_1p : Option Addr) (a1_1l : Nat) (a1_1c : Nat) (a1_2p : Option Addr) (a1_2l : Nat) (a1_2c : Nat) (Q : Bool → H → Prop) (h : H), G_portcullisref04_SameState a0_0p a0_0l a0_0c a0_1p a0_1l a0_1c a0_2p a0_2l a0_2c a1_0p a1_0l a1_0c a1_1p a1_1l a1_1c a1_2p a1_2l a1_2c Q h = Dbody PP [] [(3, []), (58, [(5, .sc (.int .i64))]), (122, [(7, .sc (.int .i64))]), (250, [(8, .sc (.int .i64))]), (7462, [(6, .sc (.int .i64))])] Try.f26 [.agg [.c (.slice a0_0p a0_0l a0_0c), .c (.slice a0_1p a0_1l a0_1c), .c (.slice a0_2p a0_2l a0_2c)], .agg [.c (.slice a1_0p a1_0l a1_0c), .c (.slice a1_1p a1_1l a1_1c), .c (.slice a1_2p a1_2l a1_2c)]] (decR [.bool] Q) h := by
  intros; kernel_rfl
def F_portcullisref04_SameState := G_portcullisref04_SameState
theorem R_portcullisref04_SameState : RunOk PP 26 (W [.ag [.slc, .slc, .slc], .ag [.slc, .slc, .slc]] [.bool] F_portcullisref04_SameState) :=
  runOk_of (T := []) (ann := [(3, []), (58, [(5, .sc (.int .i64))]), (122, [(7, .sc (.int .i64))]), (250, [(8, .sc (.int .i64))]), (7462, [(6, .sc (.int .i64))])]) (TblOk.nil) Try.func26 (by kernel_rfl) (by kernel_rfl) (E_portcullisref04_SameState)
attribute [irreducible] F_portcullisref04_SameState
def G_portcullislaw04_wreck (a0_0p : Option Addr) (a0_0l : Nat) (a0_0c : Nat) (a0_1p : Option Addr) (a0_1l : Nat) (a0_1c : Nat) (a0_2p : Option Addr) (a0_2l : Nat) (a0_2c : Nat) (Q : H → Prop) (h : H) : Prop :=
 ∀ (n11 : Nat) (h12 : H),
 hnew h n11 [Value.slice a0_0p a0_0l a0_0c, Value.slice a0_1p a0_1l a0_1c, Value.slice a0_2p a0_2l a0_2c] h12 →
 ∀ (J14 : List SV → H → Prop),
 (∀ (i15 : Int) (h16 : H),
 (∃ (o17 : Option Addr),
 ∃ (n18 : Nat),
 ∃ (n19 : Nat),
 hc h16 (Addr.mk n11 0 none) = some (Value.slice o17 n18 n19) ∧
 if ltI i15 (↑n18 : Int) = true then
 ∃ (o20 : Option Addr),
 ∃ (n21 : Nat),
 ∃ (n22 : Nat),
 hc h16 (Addr.mk n11 0 none) = some (Value.slice o20 n21 n22) ∧
 ∃ (p23 : Addr),
 o20 = some p23 ∧
 0 ≤ i15 ∧
 i15 < (↑n21 : Int) ∧
 ∃ (o24 : Option Addr),
 ∃ (n25 : Nat),
 ∃ (n26 : Nat),
 hc h16 (p23.add (i15.toNat * 1)) = some (Value.slice o24 n25 n26) ∧
 ∀ (J27 : List SV → H → Prop),
 (∀ (i28 : Int) (h29 : H),
 (if ltI i28 (↑n25 : Int) = true then
 ∃ (p30 : Addr),
 o24 = some p30 ∧
 0 ≤ i28 ∧
 i28 < (↑n25 : Int) ∧
 hcan h29 (p30.add (i28.toNat * 32)) 32 ∧
 ∀ (h31 : H),
 h31 =
 hwr h29 (p30.add (i28.toNat * 32))
 (ints IntKind.u8 [7, 0, 0, 0, 0, 0, 0, 0, 0, 0, 0, 0, 0, 0, 0, 0, 0, 0, 0, 0, 0, 0, 0, 0, 0, 0, 0, 0, 0, 0, 0, 0]) →
 J27 [SV.dv (DV.one (Value.int IntKind.i64 (IntKind.i64.wrap (i28 + 1))))] h31
 else
 ∀ (J33 : List SV → H → Prop),
 (∀ (o34 : Option Addr) (n35 n36 : Nat) (i37 : Int) (h38 : H),
 (if ltI i37 3 = true then
 ∀ (n39 : Nat) (h40 : H),
 hnew h38 n39 (ints IntKind.u8 [8, 0, 0, 0, 0, 0, 0, 0, 0, 0, 0, 0, 0, 0, 0, 0, 0, 0, 0, 0, 0, 0, 0, 0, 0, 0, 0, 0, 0, 0, 0, 0]) h40 →
 ∃ (l42 : List Value),
 hsv h40 (some (Addr.mk n39 0 none)) 32 1 l42 ∧
 pApp h40 32 (ints IntKind.u8 (zeros 32)) 32 o34 n35 n36 1 l42 fun (o43 : Option Addr) (n44 n45 : Nat) (h46 : H) =>
 J33 [SV.dv (DV.one (Value.slice o43 n44 n45)), SV.dv (DV.one (Value.int IntKind.i64 (IntKind.i64.wrap (i37 + 1))))] h46
 else
 ∃ (o47 : Option Addr),
 ∃ (n48 : Nat),
 ∃ (n49 : Nat),
 hc h38 (Addr.mk n11 0 none) = some (Value.slice o47 n48 n49) ∧
 ∃ (p50 : Addr),
 o47 = some p50 ∧
 0 ≤ i15 ∧
 i15 < (↑n48 : Int) ∧
 hcan h38 (p50.add (i15.toNat * 1)) 1 ∧
 ∀ (h51 : H),
 h51 = hwr h38 (p50.add (i15.toNat * 1)) [Value.slice none 0 0] →
 J14 [SV.dv (DV.one (Value.int IntKind.i64 (IntKind.i64.wrap (i15 + 1))))] h51) →
 J33 [SV.dv (DV.one (Value.slice o34 n35 n36)), SV.dv (DV.one (Value.int IntKind.i64 i37))] h38) →
 J33 [SV.dv (DV.one (Value.slice o24 n25 n26)), SV.dv (DV.one (Value.int IntKind.i64 0))] h29) →
 J27 [SV.dv (DV.one (Value.int IntKind.i64 i28))] h29) →
 J27 [SV.dv (DV.one (Value.int IntKind.i64 0))] h16
 else
 ∀ (J57 : List SV → H → Prop),
 (∀ (i58 : Int) (h59 : H),
 (∃ (o60 : Option Addr),
 ∃ (n61 : Nat),
 ∃ (n62 : Nat),
 hc h59 ((Addr.mk n11 0 none).add 1) = some (Value.slice o60 n61 n62) ∧
 if ltI i58 (↑n61 : Int) = true then
 ∃ (o63 : Option Addr),
 ∃ (n64 : Nat),
 ∃ (n65 : Nat),
 hc h59 ((Addr.mk n11 0 none).add 1) = some (Value.slice o63 n64 n65) ∧
 ∃ (p66 : Addr),
 o63 = some p66 ∧
 0 ≤ i58 ∧
 i58 < (↑n64 : Int) ∧
 hcan h59 (p66.add (i58.toNat * 1)) 1 ∧
 ∀ (h67 : H), h67 = hwr h59 (p66.add (i58.toNat * 1)) [Value.int IntKind.i64 (-7)] → J57 [SV.dv (DV.one (Value.int IntKind.i64 (IntKind.i64.wrap (i58 + 1))))] h67
 else
 ∀ (J69 : List SV → H → Prop),
 (∀ (i70 : Int) (h71 : H),
 (∃ (o72 : Option Addr),
 ∃ (n73 : Nat),
 ∃ (n74 : Nat),
 hc h71 ((Addr.mk n11 0 none).add 2) = some (Value.slice o72 n73 n74) ∧
 if ltI i70 (↑n73 : Int) = true then
 ∃ (o75 : Option Addr),
 ∃ (n76 : Nat),
 ∃ (n77 : Nat),
 hc h71 ((Addr.mk n11 0 none).add 2) = some (Value.slice o75 n76 n77) ∧
 ∃ (o78 : Option Addr),
 ∃ (n79 : Nat),
 ∃ (n80 : Nat),
 hc h71 ((Addr.mk n11 0 none).add 2) = some (Value.slice o78 n79 n80) ∧
 ∃ (p81 : Addr),
 o78 = some p81 ∧
 0 ≤ i70 ∧
 i70 < (↑n79 : Int) ∧
 ∃ (b82 : Bool),
 hc h71 (p81.add (i70.toNat * 1)) = some (Value.bool b82) ∧
 ∃ (p83 : Addr),
 o75 = some p83 ∧
 0 ≤ i70 ∧
 i70 < (↑n76 : Int) ∧
 hcan h71 (p83.add (i70.toNat * 1)) 1 ∧
 ∀ (h84 : H),
 h84 = hwr h71 (p83.add (i70.toNat * 1)) [Value.bool !b82] →
 J69 [SV.dv (DV.one (Value.int IntKind.i64 (IntKind.i64.wrap (i70 + 1))))] h84
 else
 ∃ (o86 : Option Addr),
 ∃ (n87 : Nat),
 ∃ (n88 : Nat),
 hc h71 (Addr.mk n11 0 none) = some (Value.slice o86 n87 n88) ∧
 ∃ (o89 : Option Addr),
 ∃ (n90 : Nat),
 ∃ (n91 : Nat),
 hc h71 ((Addr.mk n11 0 none).add 1) = some (Value.slice o89 n90 n91) ∧
 ∃ (o92 : Option Addr),
 ∃ (n93 : Nat),
 ∃ (n94 : Nat),
 hc h71 ((Addr.mk n11 0 none).add 2) = some (Value.slice o92 n93 n94) ∧
 ∀ (J95 : List SV → H → Prop),
 (∀ (o96 : Option Addr) (n97 n98 : Nat) (o99 : Option Addr) (n100 n101 : Nat) (o102 : Option Addr) (n103 n104 : Nat) (i105 : Int)
 (h106 : H),
 (if ltI i105 3 = true then
 ∀ (n107 : Nat) (h108 : H),
 hnew h106 n107 [Value.slice none 0 0] h108 →
 ∃ (l110 : List Value),
 hsv h108 (some (Addr.mk n107 0 none)) 1 1 l110 ∧
 pApp h108 1 [Value.slice none 0 0] 24 o96 n97 n98 1 l110 fun (o111 : Option Addr) (n112 n113 : Nat) (h114 : H) =>
 ∀ (n115 : Nat) (h116 : H),
 hnew h114 n115 [Value.int IntKind.i64 (-8)] h116 →
 ∃ (l118 : List Value),
 hsv h116 (some (Addr.mk n115 0 none)) 1 1 l118 ∧
 pApp h116 1 [Value.int IntKind.i64 0] 8 o99 n100 n101 1 l118
 fun (o119 : Option Addr) (n120 n121 : Nat) (h122 : H) =>
 ∀ (n123 : Nat) (h124 : H),
 hnew h122 n123 [Value.bool true] h124 →
 ∃ (l126 : List Value),
 hsv h124 (some (Addr.mk n123 0 none)) 1 1 l126 ∧
 pApp h124 1 [Value.bool false] 1 o102 n103 n104 1 l126
 fun (o127 : Option Addr) (n128 n129 : Nat) (h130 : H) =>
 J95
 [SV.dv (DV.one (Value.slice o111 n112 n113)), SV.dv (DV.one (Value.slice o119 n120 n121)),
 SV.dv (DV.one (Value.slice o127 n128 n129)),
 SV.dv (DV.one (Value.int IntKind.i64 (IntKind.i64.wrap (i105 + 1))))]
 h130
 else Q h106) →
 J95
 [SV.dv (DV.one (Value.slice o96 n97 n98)), SV.dv (DV.one (Value.slice o99 n100 n101)),
 SV.dv (DV.one (Value.slice o102 n103 n104)), SV.dv (DV.one (Value.int IntKind.i64 i105))]
 h106) →
 J95
 [SV.dv (DV.one (Value.slice o86 n87 n88)), SV.dv (DV.one (Value.slice o89 n90 n91)), SV.dv (DV.one (Value.slice o92 n93 n94)),
 SV.dv (DV.one (Value.int IntKind.i64 0))]
 h71) →
 J69 [SV.dv (DV.one (Value.int IntKind.i64 i70))] h71) →
 J69 [SV.dv (DV.one (Value.int IntKind.i64 0))] h59) →
 J57 [SV.dv (DV.one (Value.int IntKind.i64 i58))] h59) →
 J57 [SV.dv (DV.one (Value.int IntKind.i64 0))] h16) →
 J14 [SV.dv (DV.one (Value.int IntKind.i64 i15))] h16) →
 J14 [SV.dv (DV.one (Value.int IntKind.i64 0))] h12
theorem E_portcullislaw04_wreck  : ∀ (a0_0p : Option Addr) (a0_0l : Nat) (a0_0c : Nat) (a0_1p : Option Addr) (a0_1l : Nat) (a0_1c : Nat) (a0_2p : Option Addr) (a0_2l : Nat) (a0_2c : Nat) (Q : H → Prop) (h : H), G_portcullislaw04_wreck a0_0p a0_0l a0_0c a0_1p a0_1l a0_1c a0_2p a0_2l a0_2c Q h = Dbody PP [] [(26, [(2, .sc (.int .i64))]), (58, [(6, .sc (.int .i64))]), (122, [(7, .sc (.int .i64))]), (1022, [(8, .sc (.slc)), (9, .sc (.slc)), (10, .sc (.slc)), (11, .sc (.int .i64))]), (6730, [(4, .sc (.int .i64))]), (13466, [(3, .sc (.slc)), (5, .sc (.int .i64))])] Try.f31 [.agg [.c (.slice a0_0p a0_0l a0_0c), .c (.slice a0_1p a0_1l a0_1c), .c (.slice a0_2p a0_2l a0_2c)]] (decR [] Q) h := by
  intros; kernel_rfl
def F_portcullislaw04_wreck := G_portcullislaw04_wreck
theorem R_portcullislaw04_wreck : RunOk PP 31 (W [.ag [.slc, .slc, .slc]] [] F_portcullislaw04_wreck) :=
  runOk_of (T := []) (ann := [(26, [(2, .sc (.int .i64))]), (58, [(6, .sc (.int .i64))]), (122, [(7, .sc (.int .i64))]), (1022, [(8, .sc (.slc)), (9, .sc (.slc)), (10, .sc (.slc)), (11, .sc (.int .i64))]), (6730, [(4, .sc (.int .i64))]), (13466, [(3, .sc (.slc)), (5, .sc (.int .i64))])]) (TblOk.nil) Try.func31 (by kernel_rfl) (by kernel_rfl) (E_portcullislaw04_wreck)
attribute [irreducible] F_portcullislaw04_wreck
def G_chip_Chip_Config (a0 : Addr) (Q : Int → Int → Int → Int → Int → Int → Int → H → Prop) (h : H) : Prop :=
 ∀ (n3 : Nat) (h4 : H),
 hnew h n3 [Value.int IntKind.i64 0, Value.int IntKind.i64 0, Value.int IntKind.i64 0, Value.int IntKind.i64 0, Value.int IntKind.i64 0, Value.int IntKind.i64 0, Value.int IntKind.i64 0] h4 →
 ∃ (i6 : Int),
 hc h4 a0 = some (Value.int IntKind.i64 i6) ∧
 ∃ (i7 : Int),
 hc h4 (a0.add 1) = some (Value.int IntKind.i64 i7) ∧
 ∃ (i8 : Int),
 hc h4 (a0.add 2) = some (Value.int IntKind.i64 i8) ∧
 ∃ (i9 : Int),
 hc h4 (a0.add 3) = some (Value.int IntKind.i64 i9) ∧
 ∃ (i10 : Int),
 hc h4 (a0.add 4) = some (Value.int IntKind.i64 i10) ∧
 ∃ (i11 : Int),
 hc h4 (a0.add 5) = some (Value.int IntKind.i64 i11) ∧
 ∃ (i12 : Int),
 hc h4 (a0.add 6) = some (Value.int IntKind.i64 i12) ∧
 hcan h4 (Addr.mk n3 0 none) 7 ∧
 ∀ (h13 : H),
 h13 =
 hwr h4 (Addr.mk n3 0 none)
 [Value.int IntKind.i64 i6, Value.int IntKind.i64 i7, Value.int IntKind.i64 i8, Value.int IntKind.i64 i9, Value.int IntKind.i64 i10, Value.int IntKind.i64 i11,
 Value.int IntKind.i64 i12] →
 ∃ (i15 : Int),
 hc h13 (Addr.mk n3 0 none) = some (Value.int IntKind.i64 i15) ∧
 ∃ (i16 : Int),
 hc h13 ((Addr.mk n3 0 none).add 1) = some (Value.int IntKind.i64 i16) ∧
 ∃ (i17 : Int),
 hc h13 ((Addr.mk n3 0 none).add 2) = some (Value.int IntKind.i64 i17) ∧
 ∃ (i18 : Int),
 hc h13 ((Addr.mk n3 0 none).add 3) = some (Value.int IntKind.i64 i18) ∧
 ∃ (i19 : Int),
 hc h13 ((Addr.mk n3 0 none).add 4) = some (Value.int IntKind.i64 i19) ∧
 ∃ (i20 : Int),
 hc h13 ((Addr.mk n3 0 none).add 5) = some (Value.int IntKind.i64 i20) ∧
 ∃ (i21 : Int), hc h13 ((Addr.mk n3 0 none).add 6) = some (Value.int IntKind.i64 i21) ∧ Q i15 i16 i17 i18 i19 i20 i21 h13
theorem E_chip_Chip_Config  : ∀ (a0 : Addr) (Q : Int → Int → Int → Int → Int → Int → Int → H → Prop) (h : H), G_chip_Chip_Config a0 Q h = Dbody PP [] [] Try.f91 [.addr a0] (decR [.ag [.int .i64, .int .i64, .int .i64, .int .i64, .int .i64, .int .i64, .int .i64]] Q) h := by
  intros; kernel_rfl
def F_chip_Chip_Config := G_chip_Chip_Config
theorem R_chip_Chip_Config : RunOk PP 91 (W [.addr] [.ag [.int .i64, .int .i64, .int .i64, .int .i64, .int .i64, .int .i64, .int .i64]] F_chip_Chip_Config) :=
  runOk_of (T := []) (ann := []) (TblOk.nil) Try.func91 (by kernel_rfl) (by kernel_rfl) (E_chip_Chip_Config)
attribute [irreducible] F_chip_Chip_Config
end Go.Proofs.Ytamfkofcpoglnaa
