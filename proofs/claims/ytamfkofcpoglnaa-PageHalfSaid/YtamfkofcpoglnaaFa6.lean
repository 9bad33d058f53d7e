/- The denotations of some functions of the program, printed by a program of ours (wip/tools/vcgen.py), and that they are the model's. -/
import Derived.Test.YtamfkofcpoglnaaFa0
import Derived.Test.YtamfkofcpoglnaaFa1
import Derived.Test.YtamfkofcpoglnaaFa2
import Derived.Test.YtamfkofcpoglnaaFa3
import Derived.Test.YtamfkofcpoglnaaFa5
set_option autoImplicit false
set_option linter.all false
set_option linter.unusedVariables false
set_option maxRecDepth 100000
namespace Go.Proofs.Ytamfkofcpoglnaa
open Go Go.Vc
def G_portcullislaw04_ChipCuts (c_portcullislaw04_fixed : (Bool → H → Prop) → H → Prop) (c_chip_Lay : Int →
 Int →
 Int →
 Int →
 Int →
 Int →
 Int →
 Option Addr →
 Nat →
 Nat → Option Addr → Nat → Nat → Option Addr → Nat → Nat → (Option Addr → Int → H → Prop) → H → Prop) (c_chip_Chip_Copy : Addr → (Option Addr → H → Prop) → H → Prop) (c_chip_Chip_State : Addr → (Option Addr → Nat → Nat → Option Addr → Nat → Nat → Option Addr → Nat → Nat → H → Prop) → H → Prop) (c_chip_Chip_Cut : Addr → Int → Option Addr → Nat → Nat → (H → Prop) → H → Prop) (c_portcullislaw04_done : Addr → Int → Int → Int → List Int → Option Addr → Nat → Nat → (Int → H → Prop) → H → Prop) (c_chip_Chip_Out : Addr → (Bool → H → Prop) → H → Prop) (c_portcullisref04_SameState : Option Addr →
 Nat →
 Nat →
 Option Addr →
 Nat →
 Nat →
 Option Addr →
 Nat →
 Nat →
 Option Addr →
 Nat → Nat → Option Addr → Nat → Nat → Option Addr → Nat → Nat → (Bool → H → Prop) → H → Prop) (c_chip_Chip_Acts : Addr → (Int → H → Prop) → H → Prop) (c_portcullislaw04_mixed : List Int → List Int → List Int → Option Addr → Nat → Nat → Int → (Bool → H → Prop) → H → Prop) (a0_0 : Int) (a0_1 : Int) (a0_2 : Int) (a0_3 : Int) (a0_4 : Int) (a0_5 : Int) (a0_6 : Int) (a1_0p : Option Addr) (a1_0l : Nat) (a1_0c : Nat) (a1_1p : Option Addr) (a1_1l : Nat) (a1_1c : Nat) (a1_2p : Option Addr) (a1_2l : Nat) (a1_2c : Nat) (a2_0 : Int) (a2_1 : Int) (a2_2 : Int) (a2_3 : List Int) (a2_4p : Option Addr) (a2_4l : Nat) (a2_4c : Nat) (a3p : Option Addr) (a3l : Nat) (a3c : Nat) (Q : Bool → H → Prop) (h : H) : Prop :=
 ∀ (n38 : Nat) (h39 : H),
 hnew h n38 [Value.int IntKind.i64 a0_0, Value.int IntKind.i64 a0_1, Value.int IntKind.i64 a0_2, Value.int IntKind.i64 a0_3, Value.int IntKind.i64 a0_4, Value.int IntKind.i64 a0_5, Value.int IntKind.i64 a0_6] h39 →
 ∀ (n41 : Nat) (h42 : H),
 hnew h39 n41 [Value.slice a1_0p a1_0l a1_0c, Value.slice a1_1p a1_1l a1_1c, Value.slice a1_2p a1_2l a1_2c] h42 →
 ∀ (n44 : Nat) (h45 : H),
 hnew h42 n44 (Value.int IntKind.i64 a2_0 :: Value.int IntKind.i64 a2_1 :: Value.int IntKind.i64 a2_2 :: (ints IntKind.u8 a2_3 ++ [Value.slice a2_4p a2_4l a2_4c])) h45 →
 c_portcullislaw04_fixed
 (fun (b47 : Bool) (h48 : H) =>
 ∃ (i49 : Int),
 hc h48 (Addr.mk n38 0 none) = some (Value.int IntKind.i64 i49) ∧
 ∃ (i50 : Int),
 hc h48 ((Addr.mk n38 0 none).add 1) = some (Value.int IntKind.i64 i50) ∧
 ∃ (i51 : Int),
 hc h48 ((Addr.mk n38 0 none).add 2) = some (Value.int IntKind.i64 i51) ∧
 ∃ (i52 : Int),
 hc h48 ((Addr.mk n38 0 none).add 3) = some (Value.int IntKind.i64 i52) ∧
 ∃ (i53 : Int),
 hc h48 ((Addr.mk n38 0 none).add 4) = some (Value.int IntKind.i64 i53) ∧
 ∃ (i54 : Int),
 hc h48 ((Addr.mk n38 0 none).add 5) = some (Value.int IntKind.i64 i54) ∧
 ∃ (i55 : Int),
 hc h48 ((Addr.mk n38 0 none).add 6) = some (Value.int IntKind.i64 i55) ∧
 ∃ (o56 : Option Addr),
 ∃ (n57 : Nat),
 ∃ (n58 : Nat),
 hc h48 (Addr.mk n41 0 none) = some (Value.slice o56 n57 n58) ∧
 ∃ (o59 : Option Addr),
 ∃ (n60 : Nat),
 ∃ (n61 : Nat),
 hc h48 ((Addr.mk n41 0 none).add 1) = some (Value.slice o59 n60 n61) ∧
 ∃ (o62 : Option Addr),
 ∃ (n63 : Nat),
 ∃ (n64 : Nat),
 hc h48 ((Addr.mk n41 0 none).add 2) = some (Value.slice o62 n63 n64) ∧
 c_chip_Lay i49 i50 i51 i52 i53 i54 i55 o56 n57 n58 o59 n60 n61 o62 n63 n64
 (fun (o65 : Option Addr) (i66 : Int) (h67 : H) =>
 ∀ (J68 : List SV → H → Prop),
 (∀ (h69 : H),
 (∃ (p70 : Addr),
 o65 = some p70 ∧
 c_chip_Chip_Copy p70
 (fun (o71 : Option Addr) (h72 : H) =>
 if o71.isNone = true then Q false h72
 else
 ∃ (p73 : Addr),
 o65 = some p73 ∧
 c_chip_Chip_State p73
 (fun (o74 : Option Addr) (n75 n76 : Nat) (o77 : Option Addr) (n78 n79 : Nat) (o80 : Option Addr) (n81 n82 : Nat)
 (h83 : H) =>
 ∀ (n84 : Nat) (h85 : H),
 hnew h83 n84 [Value.slice none 0 0, Value.slice none 0 0, Value.slice none 0 0] h85 →
 hcan h85 (Addr.mk n84 0 none) 3 ∧
 ∀ (h87 : H),
 h87 = hwr h85 (Addr.mk n84 0 none) [Value.slice o74 n75 n76, Value.slice o77 n78 n79, Value.slice o80 n81 n82] →
 ∃ (p89 : Addr),
 o65 = some p89 ∧
 c_chip_Chip_Cut p89 0 a3p a3l a3c
 (fun (h90 : H) =>
 ∃ (i91 : Int),
 hc h90 (Addr.mk n44 0 none) = some (Value.int IntKind.i64 i91) ∧
 ∃ (i92 : Int),
 hc h90 ((Addr.mk n44 0 none).add 1) = some (Value.int IntKind.i64 i92) ∧
 ∃ (i93 : Int),
 hc h90 ((Addr.mk n44 0 none).add 2) = some (Value.int IntKind.i64 i93) ∧
 ∃ (l94 : List Int),
 l94.length = 32 ∧
 hrow h90 ((Addr.mk n44 0 none).add 3) IntKind.u8 l94 ∧
 ∃ (o95 : Option Addr),
 ∃ (n96 : Nat),
 ∃ (n97 : Nat),
 hc h90 ((Addr.mk n44 0 none).add 35) = some (Value.slice o95 n96 n97) ∧
 ∃ (p98 : Addr),
 o65 = some p98 ∧
 c_portcullislaw04_done p98 i91 i92 i93 l94 o95 n96 n97
 (fun (i99 : Int) (h100 : H) =>
 ∃ (i101 : Int),
 hc h100 (Addr.mk n44 0 none) = some (Value.int IntKind.i64 i101) ∧
 ∃ (i102 : Int),
 hc h100 ((Addr.mk n44 0 none).add 1) =
 some (Value.int IntKind.i64 i102) ∧
 ∃ (i103 : Int),
 hc h100 ((Addr.mk n44 0 none).add 2) =
 some (Value.int IntKind.i64 i103) ∧
 ∃ (l104 : List Int),
 l104.length = 32 ∧
 hrow h100 ((Addr.mk n44 0 none).add 3) IntKind.u8
 l104 ∧
 ∃ (o105 : Option Addr),
 ∃ (n106 : Nat),
 ∃ (n107 : Nat),
 hc h100 ((Addr.mk n44 0 none).add 35) =
 some (Value.slice o105 n106 n107) ∧
 ∃ (p108 : Addr),
 o71 = some p108 ∧
 c_portcullislaw04_done p108 i101 i102
 i103 l104 o105 n106 n107
 (fun (i109 : Int) (h110 : H) =>
 ∀ (J111 : List SV → H → Prop),
 (∀ (h112 : H),
 (∃ (p113 : Addr),
 o65 = some p113 ∧
 c_chip_Chip_State p113
 (fun
 (o114 :
 Option Addr)
 (n115 n116 : Nat)
 (o117 :
 Option Addr)
 (n118 n119 : Nat)
 (o120 :
 Option Addr)
 (n121 n122 : Nat)
 (h123 : H) =>
 ∀ (n124 : Nat)
 (h125 : H),
 hnew h123 n124
 [Value.slice
 none 0 0,
 Value.slice
 none 0 0,
 Value.slice
 none 0 0]
 h125 →
 hcan h125
 (Addr.mk
 n124 0
 none)
 3 ∧
 ∀ (h127 : H),
 h127 =
 hwr h125
 (Addr.mk
 n124
 0
 none)
 [Value.slice
 o114
 n115
 n116,
 Value.slice
 o117
 n118
 n119,
 Value.slice
 o120
 n121
 n122] →
 ∃ (p129 :
 Addr),
 o71 =
 some
 p129 ∧
 c_chip_Chip_State
 p129
 (fun
 (o130 :
 Option
 Addr)
 (n131
 n132 :
 Nat)
 (o133 :
 Option
 Addr)
 (n134
 n135 :
 Nat)
 (o136 :
 Option
 Addr)
 (n137
 n138 :
 Nat)
 (h139 :
 H) =>
 ∀
 (n140 :
 Nat)
 (h141 :
 H),
 hnew
 h139
 n140
 [Value.slice
 none
 0
 0,
 Value.slice
 none
 0
 0,
 Value.slice
 none
 0
 0]
 h141 →
 hcan
 h141
 (Addr.mk
 n140
 0
 none)
 3 ∧
 ∀
 (h143 :
 H),
 h143 =
 hwr
 h141
 (Addr.mk
 n140
 0
 none)
 [Value.slice
 o130
 n131
 n132,
 Value.slice
 o133
 n134
 n135,
 Value.slice
 o136
 n137
 n138] →
 if
 (i99 !=
 8) =
 true then
 ∃
 (o145
 :
 Option
 Addr),
 ∃
 (n146
 :
 Nat),
 ∃
 (n147
 :
 Nat),
 hc
 h143
 (Addr.mk
 n124
 0
 none) =
 some
 (Value.slice
 o145
 n146
 n147) ∧
 ∃
 (o148
 :
 Option
 Addr),
 ∃
 (n149
 :
 Nat),
 ∃
 (n150
 :
 Nat),
 hc
 h143
 ((Addr.mk
 n124
 0
 none).add
 1) =
 some
 (Value.slice
 o148
 n149
 n150) ∧
 ∃
 (o151
 :
 Option
 Addr),
 ∃
 (n152
 :
 Nat),
 ∃
 (n153
 :
 Nat),
 hc
 h143
 ((Addr.mk
 n124
 0
 none).add
 2) =
 some
 (Value.slice
 o151
 n152
 n153) ∧
 ∃
 (o154
 :
 Option
 Addr),
 ∃
 (n155
 :
 Nat),
 ∃
 (n156
 :
 Nat),
 hc
 h143
 (Addr.mk
 n84
 0
 none) =
 some
 (Value.slice
 o154
 n155
 n156) ∧
 ∃
 (o157
 :
 Option
 Addr),
 ∃
 (n158
 :
 Nat),
 ∃
 (n159
 :
 Nat),
 hc
 h143
 ((Addr.mk
 n84
 0
 none).add
 1) =
 some
 (Value.slice
 o157
 n158
 n159) ∧
 ∃
 (o160
 :
 Option
 Addr),
 ∃
 (n161
 :
 Nat),
 ∃
 (n162
 :
 Nat),
 hc
 h143
 ((Addr.mk
 n84
 0
 none).add
 2) =
 some
 (Value.slice
 o160
 n161
 n162) ∧
 c_portcullisref04_SameState
 o145
 n146
 n147
 o148
 n149
 n150
 o151
 n152
 n153
 o154
 n155
 n156
 o157
 n158
 n159
 o160
 n161
 n162
 (fun
 (b163 :
 Bool)
 (h164 :
 H) =>
 if
 b163 =
 true then
 ∃
 (p165
 :
 Addr),
 o65 =
 some
 p165 ∧
 c_chip_Chip_Acts
 p165
 (fun
 (i166 :
 Int)
 (h167 :
 H) =>
 Q
 (i166 ==
 0)
 h167)
 h164
 else
 Q
 false
 h164)
 h143
 else
 ∀
 (J168 :
 List
 SV →
 H →
 Prop),
 (∀
 (h169 :
 H),
 (∀
 (J170 :
 List
 SV →
 H →
 Prop),
 (∀
 (i171 :
 Int)
 (h172 :
 H),
 (∃
 (o173
 :
 Option
 Addr),
 ∃
 (n174
 :
 Nat),
 ∃
 (n175
 :
 Nat),
 hc
 h172
 (Addr.mk
 n124
 0
 none) =
 some
 (Value.slice
 o173
 n174
 n175) ∧
 if
 ltI
 i171
 (↑n174 :
 Int) =
 true then
 ∀
 (J176 :
 List
 SV →
 H →
 Prop),
 (∀
 (h177 :
 H),
 (∀
 (J178 :
 List
 SV →
 H →
 Prop),
 (∀
 (i179 :
 Int)
 (h180 :
 H),
 (∃
 (o181
 :
 Option
 Addr),
 ∃
 (n182
 :
 Nat),
 ∃
 (n183
 :
 Nat),
 hc
 h180
 (Addr.mk
 n124
 0
 none) =
 some
 (Value.slice
 o181
 n182
 n183) ∧
 ∃
 (p184
 :
 Addr),
 o181 =
 some
 p184 ∧
 0 ≤
 i171 ∧
 i171 <
 (↑n182 :
 Int) ∧
 ∃
 (o185
 :
 Option
 Addr),
 ∃
 (n186
 :
 Nat),
 ∃
 (n187
 :
 Nat),
 hc
 h180
 (p184.add
 (i171.toNat *
 1)) =
 some
 (Value.slice
 o185
 n186
 n187) ∧
 if
 ltI
 i179
 (↑n186 :
 Int) =
 true then
 ∀
 (J188 :
 List
 SV →
 H →
 Prop),
 (∀
 (i189 :
 Int)
 (h190 :
 H),
 (∃
 (o191
 :
 Option
 Addr),
 ∃
 (n192
 :
 Nat),
 ∃
 (n193
 :
 Nat),
 hc
 h190
 (Addr.mk
 n124
 0
 none) =
 some
 (Value.slice
 o191
 n192
 n193) ∧
 ∃
 (p194
 :
 Addr),
 o191 =
 some
 p194 ∧
 0 ≤
 i171 ∧
 i171 <
 (↑n192 :
 Int) ∧
 ∃
 (o195
 :
 Option
 Addr),
 ∃
 (n196
 :
 Nat),
 ∃
 (n197
 :
 Nat),
 hc
 h190
 (p194.add
 (i171.toNat *
 1)) =
 some
 (Value.slice
 o195
 n196
 n197) ∧
 ∃
 (p198
 :
 Addr),
 o195 =
 some
 p198 ∧
 0 ≤
 i179 ∧
 i179 <
 (↑n196 :
 Int) ∧
 ∃
 (l199
 :
 List
 Int),
 l199.length =
 32 ∧
 hrow
 h190
 (p198.add
 (i179.toNat *
 32))
 IntKind.u8
 l199 ∧
 ∃
 (o200
 :
 Option
 Addr),
 ∃
 (n201
 :
 Nat),
 ∃
 (n202
 :
 Nat),
 hc
 h190
 (Addr.mk
 n84
 0
 none) =
 some
 (Value.slice
 o200
 n201
 n202) ∧
 ∃
 (p203
 :
 Addr),
 o200 =
 some
 p203 ∧
 0 ≤
 i171 ∧
 i171 <
 (↑n201 :
 Int) ∧
 ∃
 (o204
 :
 Option
 Addr),
 ∃
 (n205
 :
 Nat),
 ∃
 (n206
 :
 Nat),
 hc
 h190
 (p203.add
 (i171.toNat *
 1)) =
 some
 (Value.slice
 o204
 n205
 n206) ∧
 ∃
 (p207
 :
 Addr),
 o204 =
 some
 p207 ∧
 0 ≤
 i179 ∧
 i179 <
 (↑n205 :
 Int) ∧
 ∃
 (l208
 :
 List
 Int),
 l208.length =
 32 ∧
 hrow
 h190
 (p207.add
 (i179.toNat *
 32))
 IntKind.u8
 l208 ∧
 ∃
 (o209
 :
 Option
 Addr),
 ∃
 (n210
 :
 Nat),
 ∃
 (n211
 :
 Nat),
 hc
 h190
 (Addr.mk
 n140
 0
 none) =
 some
 (Value.slice
 o209
 n210
 n211) ∧
 ∃
 (p212
 :
 Addr),
 o209 =
 some
 p212 ∧
 0 ≤
 i171 ∧
 i171 <
 (↑n210 :
 Int) ∧
 ∃
 (o213
 :
 Option
 Addr),
 ∃
 (n214
 :
 Nat),
 ∃
 (n215
 :
 Nat),
 hc
 h190
 (p212.add
 (i171.toNat *
 1)) =
 some
 (Value.slice
 o213
 n214
 n215) ∧
 ∃
 (p216
 :
 Addr),
 o213 =
 some
 p216 ∧
 0 ≤
 i179 ∧
 i179 <
 (↑n214 :
 Int) ∧
 ∃
 (l217
 :
 List
 Int),
 l217.length =
 32 ∧
 hrow
 h190
 (p216.add
 (i179.toNat *
 32))
 IntKind.u8
 l217 ∧
 c_portcullislaw04_mixed
 l199
 l208
 l217
 a3p
 a3l
 a3c
 i189
 (fun
 (b218 :
 Bool)
 (h219 :
 H) =>
 if
 (!b218) =
 true then
 Q
 false
 h219
 else
 J178
 [SV.dv
 (DV.one
 (Value.int
 IntKind.i64
 (IntKind.i64.wrap
 (i179 +
 1))))]
 h219)
 h190) →
 J188
 [SV.dv
 (DV.one
 (Value.int
 IntKind.i64
 i189))]
 h190) →
 ∃
 (i222
 :
 Int),
 hc
 h180
 (Addr.mk
 n44
 0
 none) =
 some
 (Value.int
 IntKind.i64
 i222) ∧
 if
 (i222 ==
 3) =
 true then
 J188
 [SV.dv
 (DV.one
 (Value.int
 IntKind.i64
 (IntKind.i64.wrap
 (32 *
 i179))))]
 h180
 else
 J188
 [SV.dv
 (DV.one
 (Value.int
 IntKind.i64
 0))]
 h180
 else
 J170
 [SV.dv
 (DV.one
 (Value.int
 IntKind.i64
 (IntKind.i64.wrap
 (i171 +
 1))))]
 h180) →
 J178
 [SV.dv
 (DV.one
 (Value.int
 IntKind.i64
 i179))]
 h180) →
 J178
 [SV.dv
 (DV.one
 (Value.int
 IntKind.i64
 0))]
 h177) →
 J176
 []
 h177) →
 ∃
 (o227
 :
 Option
 Addr),
 ∃
 (n228
 :
 Nat),
 ∃
 (n229
 :
 Nat),
 hc
 h172
 ((Addr.mk
 n124
 0
 none).add
 1) =
 some
 (Value.slice
 o227
 n228
 n229) ∧
 ∃
 (p230
 :
 Addr),
 o227 =
 some
 p230 ∧
 0 ≤
 i171 ∧
 i171 <
 (↑n228 :
 Int) ∧
 ∃
 (i231
 :
 Int),
 hc
 h172
 (p230.add
 (i171.toNat *
 1)) =
 some
 (Value.int
 IntKind.i64
 i231) ∧
 ∃
 (o232
 :
 Option
 Addr),
 ∃
 (n233
 :
 Nat),
 ∃
 (n234
 :
 Nat),
 hc
 h172
 ((Addr.mk
 n140
 0
 none).add
 1) =
 some
 (Value.slice
 o232
 n233
 n234) ∧
 ∃
 (p235
 :
 Addr),
 o232 =
 some
 p235 ∧
 0 ≤
 i171 ∧
 i171 <
 (↑n233 :
 Int) ∧
 ∃
 (i236
 :
 Int),
 hc
 h172
 (p235.add
 (i171.toNat *
 1)) =
 some
 (Value.int
 IntKind.i64
 i236) ∧
 if
 (i231 !=
 i236) =
 true then
 Q
 false
 h172
 else
 ∃
 (o237
 :
 Option
 Addr),
 ∃
 (n238
 :
 Nat),
 ∃
 (n239
 :
 Nat),
 hc
 h172
 (Addr.mk
 n124
 0
 none) =
 some
 (Value.slice
 o237
 n238
 n239) ∧
 ∃
 (p240
 :
 Addr),
 o237 =
 some
 p240 ∧
 0 ≤
 i171 ∧
 i171 <
 (↑n238 :
 Int) ∧
 ∃
 (o241
 :
 Option
 Addr),
 ∃
 (n242
 :
 Nat),
 ∃
 (n243
 :
 Nat),
 hc
 h172
 (p240.add
 (i171.toNat *
 1)) =
 some
 (Value.slice
 o241
 n242
 n243) ∧
 ∃
 (o244
 :
 Option
 Addr),
 ∃
 (n245
 :
 Nat),
 ∃
 (n246
 :
 Nat),
 hc
 h172
 (Addr.mk
 n84
 0
 none) =
 some
 (Value.slice
 o244
 n245
 n246) ∧
 ∃
 (p247
 :
 Addr),
 o244 =
 some
 p247 ∧
 0 ≤
 i171 ∧
 i171 <
 (↑n245 :
 Int) ∧
 ∃
 (o248
 :
 Option
 Addr),
 ∃
 (n249
 :
 Nat),
 ∃
 (n250
 :
 Nat),
 hc
 h172
 (p247.add
 (i171.toNat *
 1)) =
 some
 (Value.slice
 o248
 n249
 n250) ∧
 if
 ((↑n242 :
 Int) !=
 (↑n249 :
 Int)) =
 true then
 Q
 false
 h172
 else
 J176
 []
 h172
 else
 ∀
 (J251 :
 List
 SV →
 H →
 Prop),
 (∀
 (i252 :
 Int)
 (h253 :
 H),
 (∃
 (o254
 :
 Option
 Addr),
 ∃
 (n255
 :
 Nat),
 ∃
 (n256
 :
 Nat),
 hc
 h253
 ((Addr.mk
 n124
 0
 none).add
 2) =
 some
 (Value.slice
 o254
 n255
 n256) ∧
 if
 ltI
 i252
 (↑n255 :
 Int) =
 true then
 ∃
 (o257
 :
 Option
 Addr),
 ∃
 (n258
 :
 Nat),
 ∃
 (n259
 :
 Nat),
 hc
 h253
 ((Addr.mk
 n84
 0
 none).add
 2) =
 some
 (Value.slice
 o257
 n258
 n259) ∧
 ∃
 (p260
 :
 Addr),
 o257 =
 some
 p260 ∧
 0 ≤
 i252 ∧
 i252 <
 (↑n258 :
 Int) ∧
 ∃
 (b261
 :
 Bool),
 hc
 h253
 (p260.add
 (i252.toNat *
 1)) =
 some
 (Value.bool
 b261) ∧
 ∀
 (J262 :
 List
 SV →
 H →
 Prop),
 (∀
 (b263 :
 Bool)
 (h264 :
 H),
 (∃
 (o265
 :
 Option
 Addr),
 ∃
 (n266
 :
 Nat),
 ∃
 (n267
 :
 Nat),
 hc
 h264
 ((Addr.mk
 n124
 0
 none).add
 2) =
 some
 (Value.slice
 o265
 n266
 n267) ∧
 ∃
 (p268
 :
 Addr),
 o265 =
 some
 p268 ∧
 0 ≤
 i252 ∧
 i252 <
 (↑n266 :
 Int) ∧
 ∃
 (b269
 :
 Bool),
 hc
 h264
 (p268.add
 (i252.toNat *
 1)) =
 some
 (Value.bool
 b269) ∧
 if
 (!b269 ==
 b263) =
 true then
 Q
 false
 h264
 else
 J251
 [SV.dv
 (DV.one
 (Value.int
 IntKind.i64
 (IntKind.i64.wrap
 (i252 +
 1))))]
 h264) →
 J262
 [SV.dv
 (DV.one
 (Value.bool
 b263))]
 h264) →
 if
 ltI
 0
 (↑a3l :
 Int) =
 true then
 ∃
 (p272
 :
 Addr),
 a3p =
 some
 p272 ∧
 (0 :
 Int) ≤
 0 ∧
 0 <
 (↑a3l :
 Int) ∧
 ∃
 (i273
 :
 Int),
 hc
 h253
 p272 =
 some
 (Value.int
 IntKind.u8
 i273) ∧
 if
 (bits
 BinOp.and
 IntKind.u8
 i273
 1 ==
 1) =
 true then
 ∃
 (o274
 :
 Option
 Addr),
 ∃
 (n275
 :
 Nat),
 ∃
 (n276
 :
 Nat),
 hc
 h253
 ((Addr.mk
 n140
 0
 none).add
 2) =
 some
 (Value.slice
 o274
 n275
 n276) ∧
 ∃
 (p277
 :
 Addr),
 o274 =
 some
 p277 ∧
 0 ≤
 i252 ∧
 i252 <
 (↑n275 :
 Int) ∧
 ∃
 (b278
 :
 Bool),
 hc
 h253
 (p277.add
 (i252.toNat *
 1)) =
 some
 (Value.bool
 b278) ∧
 J262
 [SV.dv
 (DV.one
 (Value.bool
 b278))]
 h253
 else
 J262
 [SV.dv
 (DV.one
 (Value.bool
 b261))]
 h253
 else
 J262
 [SV.dv
 (DV.one
 (Value.bool
 b261))]
 h253
 else
 Q
 true
 h253) →
 J251
 [SV.dv
 (DV.one
 (Value.int
 IntKind.i64
 i252))]
 h253) →
 J251
 [SV.dv
 (DV.one
 (Value.int
 IntKind.i64
 0))]
 h172) →
 J170
 [SV.dv
 (DV.one
 (Value.int
 IntKind.i64
 i171))]
 h172) →
 J170
 [SV.dv
 (DV.one
 (Value.int
 IntKind.i64
 0))]
 h169) →
 J168
 []
 h169) →
 ∃
 (o285
 :
 Option
 Addr),
 ∃
 (n286
 :
 Nat),
 ∃
 (n287
 :
 Nat),
 hc
 h143
 (Addr.mk
 n124
 0
 none) =
 some
 (Value.slice
 o285
 n286
 n287) ∧
 ∃
 (o288
 :
 Option
 Addr),
 ∃
 (n289
 :
 Nat),
 ∃
 (n290
 :
 Nat),
 hc
 h143
 (Addr.mk
 n84
 0
 none) =
 some
 (Value.slice
 o288
 n289
 n290) ∧
 if
 ((↑n286 :
 Int) !=
 (↑n289 :
 Int)) =
 true then
 Q
 false
 h143
 else
 ∃
 (o291
 :
 Option
 Addr),
 ∃
 (n292
 :
 Nat),
 ∃
 (n293
 :
 Nat),
 hc
 h143
 ((Addr.mk
 n124
 0
 none).add
 2) =
 some
 (Value.slice
 o291
 n292
 n293) ∧
 ∃
 (o294
 :
 Option
 Addr),
 ∃
 (n295
 :
 Nat),
 ∃
 (n296
 :
 Nat),
 hc
 h143
 ((Addr.mk
 n84
 0
 none).add
 2) =
 some
 (Value.slice
 o294
 n295
 n296) ∧
 if
 ((↑n292 :
 Int) !=
 (↑n295 :
 Int)) =
 true then
 Q
 false
 h143
 else
 ∃
 (o297
 :
 Option
 Addr),
 ∃
 (n298
 :
 Nat),
 ∃
 (n299
 :
 Nat),
 hc
 h143
 ((Addr.mk
 n124
 0
 none).add
 1) =
 some
 (Value.slice
 o297
 n298
 n299) ∧
 ∃
 (o300
 :
 Option
 Addr),
 ∃
 (n301
 :
 Nat),
 ∃
 (n302
 :
 Nat),
 hc
 h143
 ((Addr.mk
 n84
 0
 none).add
 1) =
 some
 (Value.slice
 o300
 n301
 n302) ∧
 if
 ((↑n298 :
 Int) !=
 (↑n301 :
 Int)) =
 true then
 Q
 false
 h143
 else
 J168
 []
 h143)
 h127)
 h112) →
 J111 [] h112) →
 if (i99 != i109) = true then
 if (i109 != 0) = true then
 Q false h110
 else
 if (i99 != 8) = true then
 Q false h110
 else
 if (i99 == 0) = true then
 Q false h110
 else
 ∃ (p305 : Addr),
 o65 = some p305 ∧
 c_chip_Chip_Out p305
 (fun (b306 : Bool)
 (h307 : H) =>
 if
 (!b306 ==
 (i99 ==
 8)) =
 true then
 Q false h307
 else
 J111 [] h307)
 h110
 else
 if (i99 == 0) = true then
 Q false h110
 else
 ∃ (p308 : Addr),
 o65 = some p308 ∧
 c_chip_Chip_Out p308
 (fun (b309 : Bool)
 (h310 : H) =>
 if
 (!b309 ==
 (i99 ==
 8)) =
 true then
 Q false h310
 else J111 [] h310)
 h110)
 h100)
 h90)
 h87)
 h72)
 h69) →
 J68 [] h69) →
 if (!b47) = true then if b47 = true then Q (o65.isNone == (i66 != 0)) h67 else Q false h67
 else
 if (i66 != 0) = true then if b47 = true then Q (o65.isNone == (i66 != 0)) h67 else Q false h67
 else if o65.isNone = true then if b47 = true then Q (o65.isNone == (i66 != 0)) h67 else Q false h67 else J68 [] h67)
 h48)
 h45
theorem E_portcullislaw04_ChipCuts (c_portcullislaw04_fixed : (Bool → H → Prop) → H → Prop) (c_chip_Lay : Int → Int → Int → Int → Int → Int → Int → (Option Addr) → Nat → Nat → (Option Addr) → Nat → Nat → (Option Addr) → Nat → Nat → ((Option Addr) → Int → H → Prop) → H → Prop) (c_chip_Chip_Copy : Addr → ((Option Addr) → H → Prop) → H → Prop) (c_chip_Chip_State : Addr → ((Option Addr) → Nat → Nat → (Option Addr) → Nat → Nat → (Option Addr) → Nat → Nat → H → Prop) → H → Prop) (c_chip_Chip_Cut : Addr → Int → (Option Addr) → Nat → Nat → (H → Prop) → H → Prop) (c_portcullislaw04_done : Addr → Int → Int → Int → (List Int) → (Option Addr) → Nat → Nat → (Int → H → Prop) → H → Prop) (c_chip_Chip_Out : Addr → (Bool → H → Prop) → H → Prop) (c_portcullisref04_SameState : (Option Addr) → Nat → Nat → (Option Addr) → Nat → Nat → (Option Addr) → Nat → Nat → (Option Addr) → Nat → Nat → (Option Addr) → Nat → Nat → (Option Addr) → Nat → Nat → (Bool → H → Prop) → H → Prop) (c_chip_Chip_Acts : Addr → (Int → H → Prop) → H → Prop) (c_portcullislaw04_mixed : (List Int) → (List Int) → (List Int) → (Option Addr) → Nat → Nat → Int → (Bool → H → Prop) → H → Prop) : ∀ (a0_0 : Int) (a0_1 : Int) (a0_2 : Int) (a0_3 : Int) (a0_4 : Int) (a0_5 : Int) (a0_6 : Int) (a1_0p : Option Addr) (a1_0l : Nat) (a1_0c : Nat) (a1_1p : Option Addr) (a1_1l : Nat) (a1_1c : Nat) (a1_2p : Option Addr) (a1_2l : Nat) (a1_2c : Nat) (a2_0 : Int) (a2_1 : Int) (a2_2 : Int) (a2_3 : List Int) (a2_4p : Option Addr) (a2_4l : Nat) (a2_4c : Nat) (a3p : Option Addr) (a3l : Nat) (a3c : Nat) (Q : Bool → H → Prop) (h : H), G_portcullislaw04_ChipCuts c_portcullislaw04_fixed c_chip_Lay c_chip_Chip_Copy c_chip_Chip_State c_chip_Chip_Cut c_portcullislaw04_done c_chip_Chip_Out c_portcullisref04_SameState c_chip_Chip_Acts c_portcullislaw04_mixed a0_0 a0_1 a0_2 a0_3 a0_4 a0_5 a0_6 a1_0p a1_0l a1_0c a1_1p a1_1l a1_1c a1_2p a1_2l a1_2c a2_0 a2_1 a2_2 a2_3 a2_4p a2_4l a2_4c a3p a3l a3c Q h = Dbody PP [(15, W [] [.bool] c_portcullislaw04_fixed), (20, W [.ag [.int .i64, .int .i64, .int .i64, .int .i64, .int .i64, .int .i64, .int .i64], .ag [.slc, .slc, .slc]] [.ptr, .int .i64] c_chip_Lay), (21, W [.addr] [.ptr] c_chip_Chip_Copy), (22, W [.addr] [.ag [.slc, .slc, .slc]] c_chip_Chip_State), (23, W [.addr, .int .i64, .slc] [] c_chip_Chip_Cut), (24, W [.addr, .ag [.int .i64, .int .i64, .int .i64, .row .u8 32, .slc]] [.int .i64] c_portcullislaw04_done), (25, W [.addr] [.bool] c_chip_Chip_Out), (26, W [.ag [.slc, .slc, .slc], .ag [.slc, .slc, .slc]] [.bool] c_portcullisref04_SameState), (27, W [.addr] [.int .i64] c_chip_Chip_Acts), (28, W [.ag [.row .u8 32], .ag [.row .u8 32], .ag [.row .u8 32], .slc, .int .i64] [.bool] c_portcullislaw04_mixed)] [(15, []), (2047, []), (32767, []), (524282, [(19, .sc (.int .i64))]), (1048570, [(23, .sc (.int .i64))]), (8388516, []), (33554249, [(24, .sc (.bool))]), (67108134, [(20, .sc (.int .i64))]), (2147460297, [(21, .sc (.int .i64))])] Try.f4 [.agg [.c (.int .i64 a0_0), .c (.int .i64 a0_1), .c (.int .i64 a0_2), .c (.int .i64 a0_3), .c (.int .i64 a0_4), .c (.int .i64 a0_5), .c (.int .i64 a0_6)], .agg [.c (.slice a1_0p a1_0l a1_0c), .c (.slice a1_1p a1_1l a1_1c), .c (.slice a1_2p a1_2l a1_2c)], .agg [.c (.int .i64 a2_0), .c (.int .i64 a2_1), .c (.int .i64 a2_2), .row .u8 32 a2_3, .c (.slice a2_4p a2_4l a2_4c)], .one (.slice a3p a3l a3c)] (decR [.bool] Q) h := by
  intros; kernel_rfl
def F_portcullislaw04_ChipCuts := G_portcullislaw04_ChipCuts F_portcullislaw04_fixed F_chip_Lay F_chip_Chip_Copy F_chip_Chip_State F_chip_Chip_Cut F_portcullislaw04_done F_chip_Chip_Out F_portcullisref04_SameState F_chip_Chip_Acts F_portcullislaw04_mixed
theorem R_portcullislaw04_ChipCuts : RunOk PP 4 (W [.ag [.int .i64, .int .i64, .int .i64, .int .i64, .int .i64, .int .i64, .int .i64], .ag [.slc, .slc, .slc], .ag [.int .i64, .int .i64, .int .i64, .row .u8 32, .slc], .slc] [.bool] F_portcullislaw04_ChipCuts) :=
  runOk_of (T := [(15, W [] [.bool] F_portcullislaw04_fixed), (20, W [.ag [.int .i64, .int .i64, .int .i64, .int .i64, .int .i64, .int .i64, .int .i64], .ag [.slc, .slc, .slc]] [.ptr, .int .i64] F_chip_Lay), (21, W [.addr] [.ptr] F_chip_Chip_Copy), (22, W [.addr] [.ag [.slc, .slc, .slc]] F_chip_Chip_State), (23, W [.addr, .int .i64, .slc] [] F_chip_Chip_Cut), (24, W [.addr, .ag [.int .i64, .int .i64, .int .i64, .row .u8 32, .slc]] [.int .i64] F_portcullislaw04_done), (25, W [.addr] [.bool] F_chip_Chip_Out), (26, W [.ag [.slc, .slc, .slc], .ag [.slc, .slc, .slc]] [.bool] F_portcullisref04_SameState), (27, W [.addr] [.int .i64] F_chip_Chip_Acts), (28, W [.ag [.row .u8 32], .ag [.row .u8 32], .ag [.row .u8 32], .slc, .int .i64] [.bool] F_portcullislaw04_mixed)]) (ann := [(15, []), (2047, []), (32767, []), (524282, [(19, .sc (.int .i64))]), (1048570, [(23, .sc (.int .i64))]), (8388516, []), (33554249, [(24, .sc (.bool))]), (67108134, [(20, .sc (.int .i64))]), (2147460297, [(21, .sc (.int .i64))])]) (TblOk.cons R_portcullislaw04_fixed (TblOk.cons R_chip_Lay (TblOk.cons R_chip_Chip_Copy (TblOk.cons R_chip_Chip_State (TblOk.cons R_chip_Chip_Cut (TblOk.cons R_portcullislaw04_done (TblOk.cons R_chip_Chip_Out (TblOk.cons R_portcullisref04_SameState (TblOk.cons R_chip_Chip_Acts (TblOk.cons R_portcullislaw04_mixed (TblOk.nil))))))))))) Try.func4 (by kernel_rfl) (by kernel_rfl) (E_portcullislaw04_ChipCuts F_portcullislaw04_fixed F_chip_Lay F_chip_Chip_Copy F_chip_Chip_State F_chip_Chip_Cut F_portcullislaw04_done F_chip_Chip_Out F_portcullisref04_SameState F_chip_Chip_Acts F_portcullislaw04_mixed)
attribute [irreducible] F_portcullislaw04_ChipCuts
def G_portcullisref04_Fits (a0_0 : Int) (a0_1 : Int) (a0_2 : Int) (a0_3 : Int) (a0_4 : Int) (a0_5 : Int) (a0_6 : Int) (a1_0p : Option Addr) (a1_0l : Nat) (a1_0c : Nat) (a1_1p : Option Addr) (a1_1l : Nat) (a1_1c : Nat) (a1_2p : Option Addr) (a1_2l : Nat) (a1_2c : Nat) (Q : Bool → H → Prop) (h : H) : Prop :=
 ∀ (n18 : Nat) (h19 : H),
 hnew h n18 [Value.int IntKind.i64 a0_0, Value.int IntKind.i64 a0_1, Value.int IntKind.i64 a0_2, Value.int IntKind.i64 a0_3, Value.int IntKind.i64 a0_4, Value.int IntKind.i64 a0_5, Value.int IntKind.i64 a0_6] h19 →
 ∀ (n21 : Nat) (h22 : H),
 hnew h19 n21 [Value.slice a1_0p a1_0l a1_0c, Value.slice a1_1p a1_1l a1_1c, Value.slice a1_2p a1_2l a1_2c] h22 →
 ∃ (i24 : Int),
 hc h22 ((Addr.mk n18 0 none).add 6) = some (Value.int IntKind.i64 i24) ∧
 ∀ (J25 : List SV → H → Prop),
 (∀ (h26 : H),
 (∀ (J27 : List SV → H → Prop),
 (∀ (i28 : Int) (h29 : H),
 (if ltI i28 (IntKind.i64.wrap (2 + IntKind.i64.wrap (2 * i24))) = true then
 ∃ (o30 : Option Addr),
 ∃ (n31 : Nat),
 ∃ (n32 : Nat),
 hc h29 (Addr.mk n21 0 none) = some (Value.slice o30 n31 n32) ∧
 ∃ (p33 : Addr),
 o30 = some p33 ∧
 0 ≤ i28 ∧
 i28 < (↑n31 : Int) ∧
 ∃ (o34 : Option Addr),
 ∃ (n35 : Nat),
 ∃ (n36 : Nat),
 hc h29 (p33.add (i28.toNat * 1)) = some (Value.slice o34 n35 n36) ∧
 ∃ (i37 : Int),
 hc h29 (Addr.mk n18 0 none) = some (Value.int IntKind.i64 i37) ∧
 if ((↑n35 : Int) != i37) = true then Q false h29
 else
 ∃ (o38 : Option Addr),
 ∃ (n39 : Nat),
 ∃ (n40 : Nat),
 hc h29 ((Addr.mk n21 0 none).add 1) = some (Value.slice o38 n39 n40) ∧
 ∃ (p41 : Addr),
 o38 = some p41 ∧
 0 ≤ i28 ∧
 i28 < (↑n39 : Int) ∧
 ∃ (i42 : Int),
 hc h29 (p41.add (i28.toNat * 1)) = some (Value.int IntKind.i64 i42) ∧
 if ltI i42 0 = true then Q false h29 else J27 [SV.dv (DV.one (Value.int IntKind.i64 (IntKind.i64.wrap (i28 + 1))))] h29
 else Q true h29) →
 J27 [SV.dv (DV.one (Value.int IntKind.i64 i28))] h29) →
 J27 [SV.dv (DV.one (Value.int IntKind.i64 0))] h26) →
 J25 [] h26) →
 ∃ (o47 : Option Addr),
 ∃ (n48 : Nat),
 ∃ (n49 : Nat),
 hc h22 (Addr.mk n21 0 none) = some (Value.slice o47 n48 n49) ∧
 if ((↑n48 : Int) != IntKind.i64.wrap (2 + IntKind.i64.wrap (2 * i24))) = true then Q false h22
 else
 ∃ (o50 : Option Addr),
 ∃ (n51 : Nat),
 ∃ (n52 : Nat),
 hc h22 ((Addr.mk n21 0 none).add 1) = some (Value.slice o50 n51 n52) ∧
 if ((↑n51 : Int) != IntKind.i64.wrap (2 + IntKind.i64.wrap (2 * i24))) = true then Q false h22
 else
 ∃ (o53 : Option Addr),
 ∃ (n54 : Nat),
 ∃ (n55 : Nat),
 hc h22 ((Addr.mk n21 0 none).add 2) = some (Value.slice o53 n54 n55) ∧
 ∃ (i56 : Int),
 hc h22 ((Addr.mk n18 0 none).add 1) = some (Value.int IntKind.i64 i56) ∧
 ∃ (i57 : Int),
 hc h22 ((Addr.mk n18 0 none).add 2) = some (Value.int IntKind.i64 i57) ∧
 ∃ (i58 : Int),
 hc h22 ((Addr.mk n18 0 none).add 4) = some (Value.int IntKind.i64 i58) ∧
 if ((↑n54 : Int) != IntKind.i64.wrap (IntKind.i64.wrap (i56 * i57) + i58)) = true then Q false h22 else J25 [] h22
theorem E_portcullisref04_Fits  : ∀ (a0_0 : Int) (a0_1 : Int) (a0_2 : Int) (a0_3 : Int) (a0_4 : Int) (a0_5 : Int) (a0_6 : Int) (a1_0p : Option Addr) (a1_0l : Nat) (a1_0c : Nat) (a1_1p : Option Addr) (a1_1l : Nat) (a1_1c : Nat) (a1_2p : Option Addr) (a1_2l : Nat) (a1_2c : Nat) (Q : Bool → H → Prop) (h : H), G_portcullisref04_Fits a0_0 a0_1 a0_2 a0_3 a0_4 a0_5 a0_6 a1_0p a1_0l a1_0c a1_1p a1_1l a1_1c a1_2p a1_2l a1_2c Q h = Dbody PP [] [(7, []), (122, [(6, .sc (.int .i64))])] Try.f80 [.agg [.c (.int .i64 a0_0), .c (.int .i64 a0_1), .c (.int .i64 a0_2), .c (.int .i64 a0_3), .c (.int .i64 a0_4), .c (.int .i64 a0_5), .c (.int .i64 a0_6)], .agg [.c (.slice a1_0p a1_0l a1_0c), .c (.slice a1_1p a1_1l a1_1c), .c (.slice a1_2p a1_2l a1_2c)]] (decR [.bool] Q) h := by
  intros; kernel_rfl
def F_portcullisref04_Fits := G_portcullisref04_Fits
theorem R_portcullisref04_Fits : RunOk PP 80 (W [.ag [.int .i64, .int .i64, .int .i64, .int .i64, .int .i64, .int .i64, .int .i64], .ag [.slc, .slc, .slc]] [.bool] F_portcullisref04_Fits) :=
  runOk_of (T := []) (ann := [(7, []), (122, [(6, .sc (.int .i64))])]) (TblOk.nil) Try.func80 (by kernel_rfl) (by kernel_rfl) (E_portcullisref04_Fits)
attribute [irreducible] F_portcullisref04_Fits
def G_portcullisref04_Lay (c_portcullisref04_CopyState : Option Addr →
 Nat →
 Nat →
 Option Addr →
 Nat →
 Nat →
 Option Addr →
 Nat →
 Nat →
 (Option Addr → Nat → Nat → Option Addr → Nat → Nat → Option Addr → Nat → Nat → H → Prop) → H → Prop) (c_portcullisref04_May : Int → Int → Int → Int → Int → Int → Int → (Int → H → Prop) → H → Prop) (c_portcullisref04_Fits : Int →
 Int →
 Int →
 Int →
 Int →
 Int →
 Int →
 Option Addr → Nat → Nat → Option Addr → Nat → Nat → Option Addr → Nat → Nat → (Bool → H → Prop) → H → Prop) (a0_0 : Int) (a0_1 : Int) (a0_2 : Int) (a0_3 : Int) (a0_4 : Int) (a0_5 : Int) (a0_6 : Int) (a1_0p : Option Addr) (a1_0l : Nat) (a1_0c : Nat) (a1_1p : Option Addr) (a1_1l : Nat) (a1_1c : Nat) (a1_2p : Option Addr) (a1_2l : Nat) (a1_2c : Nat) (Q : Option Addr → Int → H → Prop) (h : H) : Prop :=
 ∀ (n21 : Nat) (h22 : H),
 hnew h n21 [Value.int IntKind.i64 a0_0, Value.int IntKind.i64 a0_1, Value.int IntKind.i64 a0_2, Value.int IntKind.i64 a0_3, Value.int IntKind.i64 a0_4, Value.int IntKind.i64 a0_5, Value.int IntKind.i64 a0_6] h22 →
 ∀ (n24 : Nat) (h25 : H),
 hnew h22 n24 [Value.slice a1_0p a1_0l a1_0c, Value.slice a1_1p a1_1l a1_1c, Value.slice a1_2p a1_2l a1_2c] h25 →
 ∃ (i27 : Int),
 hc h25 (Addr.mk n21 0 none) = some (Value.int IntKind.i64 i27) ∧
 ∃ (i28 : Int),
 hc h25 ((Addr.mk n21 0 none).add 1) = some (Value.int IntKind.i64 i28) ∧
 ∃ (i29 : Int),
 hc h25 ((Addr.mk n21 0 none).add 2) = some (Value.int IntKind.i64 i29) ∧
 ∃ (i30 : Int),
 hc h25 ((Addr.mk n21 0 none).add 3) = some (Value.int IntKind.i64 i30) ∧
 ∃ (i31 : Int),
 hc h25 ((Addr.mk n21 0 none).add 4) = some (Value.int IntKind.i64 i31) ∧
 ∃ (i32 : Int),
 hc h25 ((Addr.mk n21 0 none).add 5) = some (Value.int IntKind.i64 i32) ∧
 ∃ (i33 : Int),
 hc h25 ((Addr.mk n21 0 none).add 6) = some (Value.int IntKind.i64 i33) ∧
 c_portcullisref04_May i27 i28 i29 i30 i31 i32 i33
 (fun (i34 : Int) (h35 : H) =>
 if (i34 != 0) = true then Q none i34 h35
 else
 ∃ (i36 : Int),
 hc h35 (Addr.mk n21 0 none) = some (Value.int IntKind.i64 i36) ∧
 ∃ (i37 : Int),
 hc h35 ((Addr.mk n21 0 none).add 1) = some (Value.int IntKind.i64 i37) ∧
 ∃ (i38 : Int),
 hc h35 ((Addr.mk n21 0 none).add 2) = some (Value.int IntKind.i64 i38) ∧
 ∃ (i39 : Int),
 hc h35 ((Addr.mk n21 0 none).add 3) = some (Value.int IntKind.i64 i39) ∧
 ∃ (i40 : Int),
 hc h35 ((Addr.mk n21 0 none).add 4) = some (Value.int IntKind.i64 i40) ∧
 ∃ (i41 : Int),
 hc h35 ((Addr.mk n21 0 none).add 5) = some (Value.int IntKind.i64 i41) ∧
 ∃ (i42 : Int),
 hc h35 ((Addr.mk n21 0 none).add 6) = some (Value.int IntKind.i64 i42) ∧
 ∃ (o43 : Option Addr),
 ∃ (n44 : Nat),
 ∃ (n45 : Nat),
 hc h35 (Addr.mk n24 0 none) = some (Value.slice o43 n44 n45) ∧
 ∃ (o46 : Option Addr),
 ∃ (n47 : Nat),
 ∃ (n48 : Nat),
 hc h35 ((Addr.mk n24 0 none).add 1) = some (Value.slice o46 n47 n48) ∧
 ∃ (o49 : Option Addr),
 ∃ (n50 : Nat),
 ∃ (n51 : Nat),
 hc h35 ((Addr.mk n24 0 none).add 2) = some (Value.slice o49 n50 n51) ∧
 c_portcullisref04_Fits i36 i37 i38 i39 i40 i41 i42 o43 n44 n45 o46 n47 n48 o49 n50 n51
 (fun (b52 : Bool) (h53 : H) =>
 if (!b52) = true then Q none 5 h53
 else
 ∃ (i54 : Int),
 hc h53 (Addr.mk n21 0 none) = some (Value.int IntKind.i64 i54) ∧
 ∃ (i55 : Int),
 hc h53 ((Addr.mk n21 0 none).add 1) = some (Value.int IntKind.i64 i55) ∧
 ∃ (i56 : Int),
 hc h53 ((Addr.mk n21 0 none).add 2) = some (Value.int IntKind.i64 i56) ∧
 ∃ (i57 : Int),
 hc h53 ((Addr.mk n21 0 none).add 3) = some (Value.int IntKind.i64 i57) ∧
 ∃ (i58 : Int),
 hc h53 ((Addr.mk n21 0 none).add 4) = some (Value.int IntKind.i64 i58) ∧
 ∃ (i59 : Int),
 hc h53 ((Addr.mk n21 0 none).add 5) = some (Value.int IntKind.i64 i59) ∧
 ∃ (i60 : Int),
 hc h53 ((Addr.mk n21 0 none).add 6) = some (Value.int IntKind.i64 i60) ∧
 ∃ (o61 : Option Addr),
 ∃ (n62 : Nat),
 ∃ (n63 : Nat),
 hc h53 (Addr.mk n24 0 none) = some (Value.slice o61 n62 n63) ∧
 ∃ (o64 : Option Addr),
 ∃ (n65 : Nat),
 ∃ (n66 : Nat),
 hc h53 ((Addr.mk n24 0 none).add 1) = some (Value.slice o64 n65 n66) ∧
 ∃ (o67 : Option Addr),
 ∃ (n68 : Nat),
 ∃ (n69 : Nat),
 hc h53 ((Addr.mk n24 0 none).add 2) = some (Value.slice o67 n68 n69) ∧
 c_portcullisref04_CopyState o61 n62 n63 o64 n65 n66 o67 n68 n69
 (fun (o70 : Option Addr) (n71 n72 : Nat) (o73 : Option Addr)
 (n74 n75 : Nat) (o76 : Option Addr) (n77 n78 : Nat)
 (h79 : H) =>
 hcs h79 (Addr.mk n21 0 none)
 [Value.int IntKind.i64 i54, Value.int IntKind.i64 i55,
 Value.int IntKind.i64 i56, Value.int IntKind.i64 i57,
 Value.int IntKind.i64 i58, Value.int IntKind.i64 i59,
 Value.int IntKind.i64 i60] ∧
 ∀ (n80 : Nat) (h81 : H),
 hnew h79 n80
 [Value.int IntKind.i64 i54, Value.int IntKind.i64 i55,
 Value.int IntKind.i64 i56, Value.int IntKind.i64 i57,
 Value.int IntKind.i64 i58, Value.int IntKind.i64 i59,
 Value.int IntKind.i64 i60, Value.slice o70 n71 n72,
 Value.slice o73 n74 n75, Value.slice o76 n77 n78,
 Value.int IntKind.i64 0, Value.bool false,
 Value.int IntKind.i64 (-1), Value.slice none 0 0]
 h81 →
 Q (some (Addr.mk n80 0 none)) 0 h81)
 h53)
 h35)
 h25
theorem E_portcullisref04_Lay (c_portcullisref04_CopyState : (Option Addr) → Nat → Nat → (Option Addr) → Nat → Nat → (Option Addr) → Nat → Nat → ((Option Addr) → Nat → Nat → (Option Addr) → Nat → Nat → (Option Addr) → Nat → Nat → H → Prop) → H → Prop) (c_portcullisref04_May : Int → Int → Int → Int → Int → Int → Int → (Int → H → Prop) → H → Prop) (c_portcullisref04_Fits : Int → Int → Int → Int → Int → Int → Int → (Option Addr) → Nat → Nat → (Option Addr) → Nat → Nat → (Option Addr) → Nat → Nat → (Bool → H → Prop) → H → Prop) : ∀ (a0_0 : Int) (a0_1 : Int) (a0_2 : Int) (a0_3 : Int) (a0_4 : Int) (a0_5 : Int) (a0_6 : Int) (a1_0p : Option Addr) (a1_0l : Nat) (a1_0c : Nat) (a1_1p : Option Addr) (a1_1l : Nat) (a1_1c : Nat) (a1_2p : Option Addr) (a1_2l : Nat) (a1_2c : Nat) (Q : (Option Addr) → Int → H → Prop) (h : H), G_portcullisref04_Lay c_portcullisref04_CopyState c_portcullisref04_May c_portcullisref04_Fits a0_0 a0_1 a0_2 a0_3 a0_4 a0_5 a0_6 a1_0p a1_0l a1_0c a1_1p a1_1l a1_1c a1_2p a1_2l a1_2c Q h = Dbody PP [(29, W [.ag [.slc, .slc, .slc]] [.ag [.slc, .slc, .slc]] c_portcullisref04_CopyState), (68, W [.ag [.int .i64, .int .i64, .int .i64, .int .i64, .int .i64, .int .i64, .int .i64]] [.int .i64] c_portcullisref04_May), (80, W [.ag [.int .i64, .int .i64, .int .i64, .int .i64, .int .i64, .int .i64, .int .i64], .ag [.slc, .slc, .slc]] [.bool] c_portcullisref04_Fits)] [] Try.f30 [.agg [.c (.int .i64 a0_0), .c (.int .i64 a0_1), .c (.int .i64 a0_2), .c (.int .i64 a0_3), .c (.int .i64 a0_4), .c (.int .i64 a0_5), .c (.int .i64 a0_6)], .agg [.c (.slice a1_0p a1_0l a1_0c), .c (.slice a1_1p a1_1l a1_1c), .c (.slice a1_2p a1_2l a1_2c)]] (decR [.ptr, .int .i64] Q) h := by
  intros; kernel_rfl
def F_portcullisref04_Lay := G_portcullisref04_Lay F_portcullisref04_CopyState F_portcullisref04_May F_portcullisref04_Fits
theorem R_portcullisref04_Lay : RunOk PP 30 (W [.ag [.int .i64, .int .i64, .int .i64, .int .i64, .int .i64, .int .i64, .int .i64], .ag [.slc, .slc, .slc]] [.ptr, .int .i64] F_portcullisref04_Lay) :=
  runOk_of (T := [(29, W [.ag [.slc, .slc, .slc]] [.ag [.slc, .slc, .slc]] F_portcullisref04_CopyState), (68, W [.ag [.int .i64, .int .i64, .int .i64, .int .i64, .int .i64, .int .i64, .int .i64]] [.int .i64] F_portcullisref04_May), (80, W [.ag [.int .i64, .int .i64, .int .i64, .int .i64, .int .i64, .int .i64, .int .i64], .ag [.slc, .slc, .slc]] [.bool] F_portcullisref04_Fits)]) (ann := []) (TblOk.cons R_portcullisref04_CopyState (TblOk.cons R_portcullisref04_May (TblOk.cons R_portcullisref04_Fits (TblOk.nil)))) Try.func30 (by kernel_rfl) (by kernel_rfl) (E_portcullisref04_Lay F_portcullisref04_CopyState F_portcullisref04_May F_portcullisref04_Fits)
attribute [irreducible] F_portcullisref04_Lay
def G_portcullislaw04_ChipLays (c_portcullislaw04_fixed : (Bool → H → Prop) → H → Prop) (c_portcullislaw04_game : Addr → Addr → Option Addr → Nat → Nat → (Bool → H → Prop) → H → Prop) (c_chip_Lay : Int →
 Int →
 Int →
 Int →
 Int →
 Int →
 Int →
 Option Addr →
 Nat →
 Nat → Option Addr → Nat → Nat → Option Addr → Nat → Nat → (Option Addr → Int → H → Prop) → H → Prop) (c_chip_Chip_State : Addr → (Option Addr → Nat → Nat → Option Addr → Nat → Nat → Option Addr → Nat → Nat → H → Prop) → H → Prop) (c_portcullisref04_SameState : Option Addr →
 Nat →
 Nat →
 Option Addr →
 Nat →
 Nat →
 Option Addr →
 Nat →
 Nat →
 Option Addr →
 Nat → Nat → Option Addr → Nat → Nat → Option Addr → Nat → Nat → (Bool → H → Prop) → H → Prop) (c_portcullisref04_CopyState : Option Addr →
 Nat →
 Nat →
 Option Addr →
 Nat →
 Nat →
 Option Addr →
 Nat →
 Nat →
 (Option Addr → Nat → Nat → Option Addr → Nat → Nat → Option Addr → Nat → Nat → H → Prop) → H → Prop) (c_portcullisref04_Lay : Int →
 Int →
 Int →
 Int →
 Int →
 Int →
 Int →
 Option Addr →
 Nat →
 Nat → Option Addr → Nat → Nat → Option Addr → Nat → Nat → (Option Addr → Int → H → Prop) → H → Prop) (c_portcullislaw04_wreck : Option Addr → Nat → Nat → Option Addr → Nat → Nat → Option Addr → Nat → Nat → (H → Prop) → H → Prop) (a0_0 : Int) (a0_1 : Int) (a0_2 : Int) (a0_3 : Int) (a0_4 : Int) (a0_5 : Int) (a0_6 : Int) (a1_0p : Option Addr) (a1_0l : Nat) (a1_0c : Nat) (a1_1p : Option Addr) (a1_1l : Nat) (a1_1c : Nat) (a1_2p : Option Addr) (a1_2l : Nat) (a1_2c : Nat) (a2p : Option Addr) (a2l : Nat) (a2c : Nat) (Q : Bool → H → Prop) (h : H) : Prop :=
 ∀ (n29 : Nat) (h30 : H),
 hnew h n29 [Value.int IntKind.i64 a0_0, Value.int IntKind.i64 a0_1, Value.int IntKind.i64 a0_2, Value.int IntKind.i64 a0_3, Value.int IntKind.i64 a0_4, Value.int IntKind.i64 a0_5, Value.int IntKind.i64 a0_6] h30 →
 ∀ (n32 : Nat) (h33 : H),
 hnew h30 n32 [Value.slice a1_0p a1_0l a1_0c, Value.slice a1_1p a1_1l a1_1c, Value.slice a1_2p a1_2l a1_2c] h33 →
 c_portcullislaw04_fixed
 (fun (b35 : Bool) (h36 : H) =>
 ∃ (o37 : Option Addr),
 ∃ (n38 : Nat),
 ∃ (n39 : Nat),
 hc h36 (Addr.mk n32 0 none) = some (Value.slice o37 n38 n39) ∧
 ∃ (o40 : Option Addr),
 ∃ (n41 : Nat),
 ∃ (n42 : Nat),
 hc h36 ((Addr.mk n32 0 none).add 1) = some (Value.slice o40 n41 n42) ∧
 ∃ (o43 : Option Addr),
 ∃ (n44 : Nat),
 ∃ (n45 : Nat),
 hc h36 ((Addr.mk n32 0 none).add 2) = some (Value.slice o43 n44 n45) ∧
 c_portcullisref04_CopyState o37 n38 n39 o40 n41 n42 o43 n44 n45
 (fun (o46 : Option Addr) (n47 n48 : Nat) (o49 : Option Addr) (n50 n51 : Nat) (o52 : Option Addr) (n53 n54 : Nat) (h55 : H) =>
 ∀ (n56 : Nat) (h57 : H),
 hnew h55 n56 [Value.slice none 0 0, Value.slice none 0 0, Value.slice none 0 0] h57 →
 hcan h57 (Addr.mk n56 0 none) 3 ∧
 ∀ (h59 : H),
 h59 = hwr h57 (Addr.mk n56 0 none) [Value.slice o46 n47 n48, Value.slice o49 n50 n51, Value.slice o52 n53 n54] →
 ∃ (i61 : Int),
 hc h59 (Addr.mk n29 0 none) = some (Value.int IntKind.i64 i61) ∧
 ∃ (i62 : Int),
 hc h59 ((Addr.mk n29 0 none).add 1) = some (Value.int IntKind.i64 i62) ∧
 ∃ (i63 : Int),
 hc h59 ((Addr.mk n29 0 none).add 2) = some (Value.int IntKind.i64 i63) ∧
 ∃ (i64 : Int),
 hc h59 ((Addr.mk n29 0 none).add 3) = some (Value.int IntKind.i64 i64) ∧
 ∃ (i65 : Int),
 hc h59 ((Addr.mk n29 0 none).add 4) = some (Value.int IntKind.i64 i65) ∧
 ∃ (i66 : Int),
 hc h59 ((Addr.mk n29 0 none).add 5) = some (Value.int IntKind.i64 i66) ∧
 ∃ (i67 : Int),
 hc h59 ((Addr.mk n29 0 none).add 6) = some (Value.int IntKind.i64 i67) ∧
 ∃ (o68 : Option Addr),
 ∃ (n69 : Nat),
 ∃ (n70 : Nat),
 hc h59 (Addr.mk n56 0 none) = some (Value.slice o68 n69 n70) ∧
 ∃ (o71 : Option Addr),
 ∃ (n72 : Nat),
 ∃ (n73 : Nat),
 hc h59 ((Addr.mk n56 0 none).add 1) = some (Value.slice o71 n72 n73) ∧
 ∃ (o74 : Option Addr),
 ∃ (n75 : Nat),
 ∃ (n76 : Nat),
 hc h59 ((Addr.mk n56 0 none).add 2) = some (Value.slice o74 n75 n76) ∧
 c_chip_Lay i61 i62 i63 i64 i65 i66 i67 o68 n69 n70 o71 n72 n73 o74 n75 n76
 (fun (o77 : Option Addr) (i78 : Int) (h79 : H) =>
 ∃ (i80 : Int),
 hc h79 (Addr.mk n29 0 none) = some (Value.int IntKind.i64 i80) ∧
 ∃ (i81 : Int),
 hc h79 ((Addr.mk n29 0 none).add 1) = some (Value.int IntKind.i64 i81) ∧
 ∃ (i82 : Int),
 hc h79 ((Addr.mk n29 0 none).add 2) = some (Value.int IntKind.i64 i82) ∧
 ∃ (i83 : Int),
 hc h79 ((Addr.mk n29 0 none).add 3) = some (Value.int IntKind.i64 i83) ∧
 ∃ (i84 : Int),
 hc h79 ((Addr.mk n29 0 none).add 4) = some (Value.int IntKind.i64 i84) ∧
 ∃ (i85 : Int),
 hc h79 ((Addr.mk n29 0 none).add 5) = some (Value.int IntKind.i64 i85) ∧
 ∃ (i86 : Int),
 hc h79 ((Addr.mk n29 0 none).add 6) = some (Value.int IntKind.i64 i86) ∧
 ∃ (o87 : Option Addr),
 ∃ (n88 : Nat),
 ∃ (n89 : Nat),
 hc h79 (Addr.mk n32 0 none) = some (Value.slice o87 n88 n89) ∧
 ∃ (o90 : Option Addr),
 ∃ (n91 : Nat),
 ∃ (n92 : Nat),
 hc h79 ((Addr.mk n32 0 none).add 1) = some (Value.slice o90 n91 n92) ∧
 ∃ (o93 : Option Addr),
 ∃ (n94 : Nat),
 ∃ (n95 : Nat),
 hc h79 ((Addr.mk n32 0 none).add 2) =
 some (Value.slice o93 n94 n95) ∧
 c_portcullisref04_Lay i80 i81 i82 i83 i84 i85 i86 o87 n88 n89
 o90 n91 n92 o93 n94 n95
 (fun (o96 : Option Addr) (i97 : Int) (h98 : H) =>
 ∃ (o99 : Option Addr),
 ∃ (n100 : Nat),
 ∃ (n101 : Nat),
 hc h98 (Addr.mk n56 0 none) =
 some (Value.slice o99 n100 n101) ∧
 ∃ (o102 : Option Addr),
 ∃ (n103 : Nat),
 ∃ (n104 : Nat),
 hc h98 ((Addr.mk n56 0 none).add 1) =
 some (Value.slice o102 n103 n104) ∧
 ∃ (o105 : Option Addr),
 ∃ (n106 : Nat),
 ∃ (n107 : Nat),
 hc h98
 ((Addr.mk n56 0 none).add 2) =
 some
 (Value.slice o105 n106 n107) ∧
 ∃ (o108 : Option Addr),
 ∃ (n109 : Nat),
 ∃ (n110 : Nat),
 hc h98
 (Addr.mk n32 0 none) =
 some
 (Value.slice o108 n109
 n110) ∧
 ∃ (o111 : Option Addr),
 ∃ (n112 : Nat),
 ∃ (n113 : Nat),
 hc h98
 ((Addr.mk n32
 0
 none).add
 1) =
 some
 (Value.slice
 o111 n112
 n113) ∧
 ∃ (o114 :
 Option Addr),
 ∃ (n115 : Nat),
 ∃ (n116 :
 Nat),
 hc h98
 ((Addr.mk
 n32
 0
 none).add
 2) =
 some
 (Value.slice
 o114
 n115
 n116) ∧
 c_portcullisref04_SameState
 o99 n100
 n101
 o102
 n103
 n104
 o105
 n106
 n107
 o108
 n109
 n110
 o111
 n112
 n113
 o114
 n115
 n116
 (fun
 (b117 :
 Bool)
 (h118 :
 H) =>
 ∀
 (J119 :
 List
 SV →
 H →
 Prop),
 (∀
 (h120 :
 H),
 (∃
 (o121
 :
 Option
 Addr),
 ∃
 (n122
 :
 Nat),
 ∃
 (n123
 :
 Nat),
 hc
 h120
 (Addr.mk
 n56
 0
 none) =
 some
 (Value.slice
 o121
 n122
 n123) ∧
 ∃
 (o124
 :
 Option
 Addr),
 ∃
 (n125
 :
 Nat),
 ∃
 (n126
 :
 Nat),
 hc
 h120
 ((Addr.mk
 n56
 0
 none).add
 1) =
 some
 (Value.slice
 o124
 n125
 n126) ∧
 ∃
 (o127
 :
 Option
 Addr),
 ∃
 (n128
 :
 Nat),
 ∃
 (n129
 :
 Nat),
 hc
 h120
 ((Addr.mk
 n56
 0
 none).add
 2) =
 some
 (Value.slice
 o127
 n128
 n129) ∧
 c_portcullislaw04_wreck
 o121
 n122
 n123
 o124
 n125
 n126
 o127
 n128
 n129
 (fun
 (h130 :
 H) =>
 if
 o96.isNone =
 true then
 Q
 true
 h130
 else
 ∃
 (i131
 :
 Int),
 hc
 h130
 (Addr.mk
 n29
 0
 none) =
 some
 (Value.int
 IntKind.i64
 i131) ∧
 ∃
 (i132
 :
 Int),
 hc
 h130
 ((Addr.mk
 n29
 0
 none).add
 1) =
 some
 (Value.int
 IntKind.i64
 i132) ∧
 ∃
 (i133
 :
 Int),
 hc
 h130
 ((Addr.mk
 n29
 0
 none).add
 2) =
 some
 (Value.int
 IntKind.i64
 i133) ∧
 ∃
 (i134
 :
 Int),
 hc
 h130
 ((Addr.mk
 n29
 0
 none).add
 3) =
 some
 (Value.int
 IntKind.i64
 i134) ∧
 ∃
 (i135
 :
 Int),
 hc
 h130
 ((Addr.mk
 n29
 0
 none).add
 4) =
 some
 (Value.int
 IntKind.i64
 i135) ∧
 ∃
 (i136
 :
 Int),
 hc
 h130
 ((Addr.mk
 n29
 0
 none).add
 5) =
 some
 (Value.int
 IntKind.i64
 i136) ∧
 ∃
 (i137
 :
 Int),
 hc
 h130
 ((Addr.mk
 n29
 0
 none).add
 6) =
 some
 (Value.int
 IntKind.i64
 i137) ∧
 ∃
 (p138
 :
 Addr),
 o77 =
 some
 p138 ∧
 c_chip_Chip_State
 p138
 (fun
 (o139 :
 Option
 Addr)
 (n140
 n141 :
 Nat)
 (o142 :
 Option
 Addr)
 (n143
 n144 :
 Nat)
 (o145 :
 Option
 Addr)
 (n146
 n147 :
 Nat)
 (h148 :
 H) =>
 hcs
 h148
 (Addr.mk
 n29
 0
 none)
 [Value.int
 IntKind.i64
 i131,
 Value.int
 IntKind.i64
 i132,
 Value.int
 IntKind.i64
 i133,
 Value.int
 IntKind.i64
 i134,
 Value.int
 IntKind.i64
 i135,
 Value.int
 IntKind.i64
 i136,
 Value.int
 IntKind.i64
 i137] ∧
 c_chip_Lay
 i131
 i132
 i133
 i134
 i135
 i136
 i137
 o139
 n140
 n141
 o142
 n143
 n144
 o145
 n146
 n147
 (fun
 (o149 :
 Option
 Addr)
 (i150 :
 Int)
 (h151 :
 H) =>
 if
 (i150 !=
 0) =
 true then
 Q
 false
 h151
 else
 if
 o149.isNone =
 true then
 Q
 false
 h151
 else
 ∃
 (o152
 :
 Option
 Addr),
 ∃
 (n153
 :
 Nat),
 ∃
 (n154
 :
 Nat),
 hc
 h151
 (Addr.mk
 n32
 0
 none) =
 some
 (Value.slice
 o152
 n153
 n154) ∧
 ∃
 (o155
 :
 Option
 Addr),
 ∃
 (n156
 :
 Nat),
 ∃
 (n157
 :
 Nat),
 hc
 h151
 ((Addr.mk
 n32
 0
 none).add
 1) =
 some
 (Value.slice
 o155
 n156
 n157) ∧
 ∃
 (o158
 :
 Option
 Addr),
 ∃
 (n159
 :
 Nat),
 ∃
 (n160
 :
 Nat),
 hc
 h151
 ((Addr.mk
 n32
 0
 none).add
 2) =
 some
 (Value.slice
 o158
 n159
 n160) ∧
 ∃
 (p161
 :
 Addr),
 o149 =
 some
 p161 ∧
 c_chip_Chip_State
 p161
 (fun
 (o162 :
 Option
 Addr)
 (n163
 n164 :
 Nat)
 (o165 :
 Option
 Addr)
 (n166
 n167 :
 Nat)
 (o168 :
 Option
 Addr)
 (n169
 n170 :
 Nat)
 (h171 :
 H) =>
 hcs
 h171
 (Addr.mk
 n32
 0
 none)
 [Value.slice
 o152
 n153
 n154,
 Value.slice
 o155
 n156
 n157,
 Value.slice
 o158
 n159
 n160] ∧
 c_portcullisref04_SameState
 o162
 n163
 n164
 o165
 n166
 n167
 o168
 n169
 n170
 o152
 n153
 n154
 o155
 n156
 n157
 o158
 n159
 n160
 (fun
 (b172 :
 Bool)
 (h173 :
 H) =>
 if
 b172 =
 true then
 ∃
 (p174
 :
 Addr),
 o77 =
 some
 p174 ∧
 ∃
 (p175
 :
 Addr),
 o96 =
 some
 p175 ∧
 c_portcullislaw04_game
 p174
 p175
 a2p
 a2l
 a2c
 (fun
 (b176 :
 Bool)
 (h177 :
 H) =>
 Q
 b176
 h177)
 h173
 else
 Q
 false
 h173)
 h171)
 h151)
 h148)
 h130)
 h120) →
 J119
 []
 h120) →
 if
 (!b35) =
 true then
 Q
 false
 h118
 else
 if
 (i78 !=
 i97) =
 true then
 Q
 false
 h118
 else
 if
 (!b117) =
 true then
 Q
 false
 h118
 else
 if
 (!o77.isNone ==
 o96.isNone) =
 true then
 Q
 false
 h118
 else
 J119
 []
 h118)
 h98)
 h79)
 h59)
 h36)
 h33
theorem E_portcullislaw04_ChipLays (c_portcullislaw04_fixed : (Bool → H → Prop) → H → Prop) (c_portcullislaw04_game : Addr → Addr → (Option Addr) → Nat → Nat → (Bool → H → Prop) → H → Prop) (c_chip_Lay : Int → Int → Int → Int → Int → Int → Int → (Option Addr) → Nat → Nat → (Option Addr) → Nat → Nat → (Option Addr) → Nat → Nat → ((Option Addr) → Int → H → Prop) → H → Prop) (c_chip_Chip_State : Addr → ((Option Addr) → Nat → Nat → (Option Addr) → Nat → Nat → (Option Addr) → Nat → Nat → H → Prop) → H → Prop) (c_portcullisref04_SameState : (Option Addr) → Nat → Nat → (Option Addr) → Nat → Nat → (Option Addr) → Nat → Nat → (Option Addr) → Nat → Nat → (Option Addr) → Nat → Nat → (Option Addr) → Nat → Nat → (Bool → H → Prop) → H → Prop) (c_portcullisref04_CopyState : (Option Addr) → Nat → Nat → (Option Addr) → Nat → Nat → (Option Addr) → Nat → Nat → ((Option Addr) → Nat → Nat → (Option Addr) → Nat → Nat → (Option Addr) → Nat → Nat → H → Prop) → H → Prop) (c_portcullisref04_Lay : Int → Int → Int → Int → Int → Int → Int → (Option Addr) → Nat → Nat → (Option Addr) → Nat → Nat → (Option Addr) → Nat → Nat → ((Option Addr) → Int → H → Prop) → H → Prop) (c_portcullislaw04_wreck : (Option Addr) → Nat → Nat → (Option Addr) → Nat → Nat → (Option Addr) → Nat → Nat → (H → Prop) → H → Prop) : ∀ (a0_0 : Int) (a0_1 : Int) (a0_2 : Int) (a0_3 : Int) (a0_4 : Int) (a0_5 : Int) (a0_6 : Int) (a1_0p : Option Addr) (a1_0l : Nat) (a1_0c : Nat) (a1_1p : Option Addr) (a1_1l : Nat) (a1_1c : Nat) (a1_2p : Option Addr) (a1_2l : Nat) (a1_2c : Nat) (a2p : Option Addr) (a2l : Nat) (a2c : Nat) (Q : Bool → H → Prop) (h : H), G_portcullislaw04_ChipLays c_portcullislaw04_fixed c_portcullislaw04_game c_chip_Lay c_chip_Chip_State c_portcullisref04_SameState c_portcullisref04_CopyState c_portcullisref04_Lay c_portcullislaw04_wreck a0_0 a0_1 a0_2 a0_3 a0_4 a0_5 a0_6 a1_0p a1_0l a1_0c a1_1p a1_1l a1_1c a1_2p a1_2l a1_2c a2p a2l a2c Q h = Dbody PP [(15, W [] [.bool] c_portcullislaw04_fixed), (19, W [.addr, .addr, .slc] [.bool] c_portcullislaw04_game), (20, W [.ag [.int .i64, .int .i64, .int .i64, .int .i64, .int .i64, .int .i64, .int .i64], .ag [.slc, .slc, .slc]] [.ptr, .int .i64] c_chip_Lay), (22, W [.addr] [.ag [.slc, .slc, .slc]] c_chip_Chip_State), (26, W [.ag [.slc, .slc, .slc], .ag [.slc, .slc, .slc]] [.bool] c_portcullisref04_SameState), (29, W [.ag [.slc, .slc, .slc]] [.ag [.slc, .slc, .slc]] c_portcullisref04_CopyState), (30, W [.ag [.int .i64, .int .i64, .int .i64, .int .i64, .int .i64, .int .i64, .int .i64], .ag [.slc, .slc, .slc]] [.ptr, .int .i64] c_portcullisref04_Lay), (31, W [.ag [.slc, .slc, .slc]] [] c_portcullislaw04_wreck)] [(127, [])] Try.f5 [.agg [.c (.int .i64 a0_0), .c (.int .i64 a0_1), .c (.int .i64 a0_2), .c (.int .i64 a0_3), .c (.int .i64 a0_4), .c (.int .i64 a0_5), .c (.int .i64 a0_6)], .agg [.c (.slice a1_0p a1_0l a1_0c), .c (.slice a1_1p a1_1l a1_1c), .c (.slice a1_2p a1_2l a1_2c)], .one (.slice a2p a2l a2c)] (decR [.bool] Q) h := by
  intros; kernel_rfl
def F_portcullislaw04_ChipLays := G_portcullislaw04_ChipLays F_portcullislaw04_fixed F_portcullislaw04_game F_chip_Lay F_chip_Chip_State F_portcullisref04_SameState F_portcullisref04_CopyState F_portcullisref04_Lay F_portcullislaw04_wreck
theorem R_portcullislaw04_ChipLays : RunOk PP 5 (W [.ag [.int .i64, .int .i64, .int .i64, .int .i64, .int .i64, .int .i64, .int .i64], .ag [.slc, .slc, .slc], .slc] [.bool] F_portcullislaw04_ChipLays) :=
  runOk_of (T := [(15, W [] [.bool] F_portcullislaw04_fixed), (19, W [.addr, .addr, .slc] [.bool] F_portcullislaw04_game), (20, W [.ag [.int .i64, .int .i64, .int .i64, .int .i64, .int .i64, .int .i64, .int .i64], .ag [.slc, .slc, .slc]] [.ptr, .int .i64] F_chip_Lay), (22, W [.addr] [.ag [.slc, .slc, .slc]] F_chip_Chip_State), (26, W [.ag [.slc, .slc, .slc], .ag [.slc, .slc, .slc]] [.bool] F_portcullisref04_SameState), (29, W [.ag [.slc, .slc, .slc]] [.ag [.slc, .slc, .slc]] F_portcullisref04_CopyState), (30, W [.ag [.int .i64, .int .i64, .int .i64, .int .i64, .int .i64, .int .i64, .int .i64], .ag [.slc, .slc, .slc]] [.ptr, .int .i64] F_portcullisref04_Lay), (31, W [.ag [.slc, .slc, .slc]] [] F_portcullislaw04_wreck)]) (ann := [(127, [])]) (TblOk.cons R_portcullislaw04_fixed (TblOk.cons R_portcullislaw04_game (TblOk.cons R_chip_Lay (TblOk.cons R_chip_Chip_State (TblOk.cons R_portcullisref04_SameState (TblOk.cons R_portcullisref04_CopyState (TblOk.cons R_portcullisref04_Lay (TblOk.cons R_portcullislaw04_wreck (TblOk.nil))))))))) Try.func5 (by kernel_rfl) (by kernel_rfl) (E_portcullislaw04_ChipLays F_portcullislaw04_fixed F_portcullislaw04_game F_chip_Lay F_chip_Chip_State F_portcullisref04_SameState F_portcullisref04_CopyState F_portcullisref04_Lay F_portcullislaw04_wreck)
attribute [irreducible] F_portcullislaw04_ChipLays
def G_fuse_asked (c_chip_Chip_Out : Addr → (Bool → H → Prop) → H → Prop) (a0 : Addr) (a1 : Int) (a2 : Int) (Q : Int → H → Prop) (h : H) : Prop :=
 c_chip_Chip_Out a0 (fun (b6 : Bool) (h7 : H) => if b6 = true then Q 8 h7 else if ltI a1 0 = true then Q 2 h7 else if leI a2 a1 = true then Q 2 h7 else Q 0 h7) h
theorem E_fuse_asked (c_chip_Chip_Out : Addr → (Bool → H → Prop) → H → Prop) : ∀ (a0 : Addr) (a1 : Int) (a2 : Int) (Q : Int → H → Prop) (h : H), G_fuse_asked c_chip_Chip_Out a0 a1 a2 Q h = Dbody PP [(25, W [.addr] [.bool] c_chip_Chip_Out)] [] Try.f90 [.addr a0, .one (.int .i64 a1), .one (.int .i64 a2)] (decR [.int .i64] Q) h := by
  intros; kernel_rfl
def F_fuse_asked := G_fuse_asked F_chip_Chip_Out
theorem R_fuse_asked : RunOk PP 90 (W [.addr, .int .i64, .int .i64] [.int .i64] F_fuse_asked) :=
  runOk_of (T := [(25, W [.addr] [.bool] F_chip_Chip_Out)]) (ann := []) (TblOk.cons R_chip_Chip_Out (TblOk.nil)) Try.func90 (by kernel_rfl) (by kernel_rfl) (E_fuse_asked F_chip_Chip_Out)
attribute [irreducible] F_fuse_asked
def G_fuse_row (c_chip_Chip_Blown : Addr → Int → (Bool → Int → H → Prop) → H → Prop) (c_chip_Chip_Config : Addr → (Int → Int → Int → Int → Int → Int → Int → H → Prop) → H → Prop) (a0 : Addr) (a1 : Int) (Q : Int → Int → Int → H → Prop) (h : H) : Prop :=
 c_chip_Chip_Config a0
 (fun (i6 i7 i8 i9 i10 i11 i12 : Int) (h13 : H) =>
 ∀ (J14 : List SV → H → Prop),
 (∀ (i15 i16 i17 : Int) (h18 : H),
 (if ltI i17 i8 = true then
 c_chip_Chip_Blown a0 (IntKind.i64.wrap (IntKind.i64.wrap (a1 * i8) + i17))
 (fun (b19 : Bool) (i20 : Int) (h21 : H) =>
 if (i20 != 0) = true then Q 0 0 i20 h21
 else
 if b19 = true then
 J14 [SV.dv (DV.one (Value.int IntKind.i64 (IntKind.i64.wrap (i15 + 1)))), SV.dv (DV.one (Value.int IntKind.i64 i16)), SV.dv (DV.one (Value.int IntKind.i64 (IntKind.i64.wrap (i17 + 1))))] h21
 else
 if ltI i16 0 = true then
 J14
 [SV.dv (DV.one (Value.int IntKind.i64 i15)), SV.dv (DV.one (Value.int IntKind.i64 (IntKind.i64.wrap (IntKind.i64.wrap (a1 * i8) + i17)))),
 SV.dv (DV.one (Value.int IntKind.i64 (IntKind.i64.wrap (i17 + 1))))]
 h21
 else J14 [SV.dv (DV.one (Value.int IntKind.i64 i15)), SV.dv (DV.one (Value.int IntKind.i64 i16)), SV.dv (DV.one (Value.int IntKind.i64 (IntKind.i64.wrap (i17 + 1))))] h21)
 h18
 else Q i15 i16 0 h18) →
 J14 [SV.dv (DV.one (Value.int IntKind.i64 i15)), SV.dv (DV.one (Value.int IntKind.i64 i16)), SV.dv (DV.one (Value.int IntKind.i64 i17))] h18) →
 J14 [SV.dv (DV.one (Value.int IntKind.i64 0)), SV.dv (DV.one (Value.int IntKind.i64 (-1))), SV.dv (DV.one (Value.int IntKind.i64 0))] h13)
 h
theorem E_fuse_row (c_chip_Chip_Blown : Addr → Int → (Bool → Int → H → Prop) → H → Prop) (c_chip_Chip_Config : Addr → (Int → Int → Int → Int → Int → Int → Int → H → Prop) → H → Prop) : ∀ (a0 : Addr) (a1 : Int) (Q : Int → Int → Int → H → Prop) (h : H), G_fuse_row c_chip_Chip_Blown c_chip_Chip_Config a0 a1 Q h = Dbody PP [(63, W [.addr, .int .i64] [.bool, .int .i64] c_chip_Chip_Blown), (91, W [.addr] [.ag [.int .i64, .int .i64, .int .i64, .int .i64, .int .i64, .int .i64, .int .i64]] c_chip_Chip_Config)] [(122, [(4, .sc (.int .i64)), (5, .sc (.int .i64)), (15, .sc (.int .i64))])] Try.f92 [.addr a0, .one (.int .i64 a1)] (decR [.int .i64, .int .i64, .int .i64] Q) h := by
  intros; kernel_rfl
def F_fuse_row := G_fuse_row F_chip_Chip_Blown F_chip_Chip_Config
theorem R_fuse_row : RunOk PP 92 (W [.addr, .int .i64] [.int .i64, .int .i64, .int .i64] F_fuse_row) :=
  runOk_of (T := [(63, W [.addr, .int .i64] [.bool, .int .i64] F_chip_Chip_Blown), (91, W [.addr] [.ag [.int .i64, .int .i64, .int .i64, .int .i64, .int .i64, .int .i64, .int .i64]] F_chip_Chip_Config)]) (ann := [(122, [(4, .sc (.int .i64)), (5, .sc (.int .i64)), (15, .sc (.int .i64))])]) (TblOk.cons R_chip_Chip_Blown (TblOk.cons R_chip_Chip_Config (TblOk.nil))) Try.func92 (by kernel_rfl) (by kernel_rfl) (E_fuse_row F_chip_Chip_Blown F_chip_Chip_Config)
attribute [irreducible] F_fuse_row
def G_fuse_Count (c_fuse_asked : Addr → Int → Int → (Int → H → Prop) → H → Prop) (c_chip_Chip_Config : Addr → (Int → Int → Int → Int → Int → Int → Int → H → Prop) → H → Prop) (c_fuse_row : Addr → Int → (Int → Int → Int → H → Prop) → H → Prop) (a0 : Addr) (a1 : Int) (Q : Int → Int → H → Prop) (h : H) : Prop :=
 c_chip_Chip_Config a0
 (fun (i7 i8 i9 i10 i11 i12 i13 : Int) (h14 : H) =>
 c_fuse_asked a0 a1 i8 (fun (i15 : Int) (h16 : H) => if (i15 != 0) = true then Q 0 i15 h16 else c_fuse_row a0 a1 (fun (i17 i18 i19 : Int) (h20 : H) => Q i17 i19 h20) h16) h14)
 h
theorem E_fuse_Count (c_fuse_asked : Addr → Int → Int → (Int → H → Prop) → H → Prop) (c_chip_Chip_Config : Addr → (Int → Int → Int → Int → Int → Int → Int → H → Prop) → H → Prop) (c_fuse_row : Addr → Int → (Int → Int → Int → H → Prop) → H → Prop) : ∀ (a0 : Addr) (a1 : Int) (Q : Int → Int → H → Prop) (h : H), G_fuse_Count c_fuse_asked c_chip_Chip_Config c_fuse_row a0 a1 Q h = Dbody PP [(90, W [.addr, .int .i64, .int .i64] [.int .i64] c_fuse_asked), (91, W [.addr] [.ag [.int .i64, .int .i64, .int .i64, .int .i64, .int .i64, .int .i64, .int .i64]] c_chip_Chip_Config), (92, W [.addr, .int .i64] [.int .i64, .int .i64, .int .i64] c_fuse_row)] [] Try.f34 [.addr a0, .one (.int .i64 a1)] (decR [.int .i64, .int .i64] Q) h := by
  intros; kernel_rfl
def F_fuse_Count := G_fuse_Count F_fuse_asked F_chip_Chip_Config F_fuse_row
theorem R_fuse_Count : RunOk PP 34 (W [.addr, .int .i64] [.int .i64, .int .i64] F_fuse_Count) :=
  runOk_of (T := [(90, W [.addr, .int .i64, .int .i64] [.int .i64] F_fuse_asked), (91, W [.addr] [.ag [.int .i64, .int .i64, .int .i64, .int .i64, .int .i64, .int .i64, .int .i64]] F_chip_Chip_Config), (92, W [.addr, .int .i64] [.int .i64, .int .i64, .int .i64] F_fuse_row)]) (ann := []) (TblOk.cons R_fuse_asked (TblOk.cons R_chip_Chip_Config (TblOk.cons R_fuse_row (TblOk.nil)))) Try.func34 (by kernel_rfl) (by kernel_rfl) (E_fuse_Count F_fuse_asked F_chip_Chip_Config F_fuse_row)
attribute [irreducible] F_fuse_Count
def G_fuse_Raise (c_chip_Chip_Blow : Addr → Int → (Int → H → Prop) → H → Prop) (c_fuse_asked : Addr → Int → Int → (Int → H → Prop) → H → Prop) (c_chip_Chip_Config : Addr → (Int → Int → Int → Int → Int → Int → Int → H → Prop) → H → Prop) (c_fuse_row : Addr → Int → (Int → Int → Int → H → Prop) → H → Prop) (a0 : Addr) (a1 : Int) (a2 : Int) (Q : Int → H → Prop) (h : H) : Prop :=
 c_chip_Chip_Config a0
 (fun (i9 i10 i11 i12 i13 i14 i15 : Int) (h16 : H) =>
 c_fuse_asked a0 a1 i10
 (fun (i17 : Int) (h18 : H) =>
 if (i17 != 0) = true then Q i17 h18
 else
 ∀ (J19 : List SV → H → Prop),
 (∀ (h20 : H),
 (∀ (J21 : List SV → H → Prop),
 (∀ (h22 : H),
 c_fuse_row a0 a1
 (fun (i23 i24 i25 : Int) (h26 : H) =>
 if (i25 != 0) = true then Q i25 h26
 else if leI a2 i23 = true then Q i25 h26 else c_chip_Chip_Blow a0 i24 (fun (i27 : Int) (h28 : H) => if (i27 != 0) = true then Q i27 h28 else J21 [] h28) h26)
 h22 →
 J21 [] h22) →
 J21 [] h20) →
 J19 [] h20) →
 if ltI a2 0 = true then Q 2 h18 else c_chip_Chip_Config a0 (fun (i33 i34 i35 i36 i37 i38 i39 : Int) (h40 : H) => if ltI i35 a2 = true then Q 2 h40 else J19 [] h40) h18)
 h16)
 h
theorem E_fuse_Raise (c_chip_Chip_Blow : Addr → Int → (Int → H → Prop) → H → Prop) (c_fuse_asked : Addr → Int → Int → (Int → H → Prop) → H → Prop) (c_chip_Chip_Config : Addr → (Int → Int → Int → Int → Int → Int → Int → H → Prop) → H → Prop) (c_fuse_row : Addr → Int → (Int → Int → Int → H → Prop) → H → Prop) : ∀ (a0 : Addr) (a1 : Int) (a2 : Int) (Q : Int → H → Prop) (h : H), G_fuse_Raise c_chip_Chip_Blow c_fuse_asked c_chip_Chip_Config c_fuse_row a0 a1 a2 Q h = Dbody PP [(41, W [.addr, .int .i64] [.int .i64] c_chip_Chip_Blow), (90, W [.addr, .int .i64, .int .i64] [.int .i64] c_fuse_asked), (91, W [.addr] [.ag [.int .i64, .int .i64, .int .i64, .int .i64, .int .i64, .int .i64, .int .i64]] c_chip_Chip_Config), (92, W [.addr, .int .i64] [.int .i64, .int .i64, .int .i64] c_fuse_row)] [(7, []), (30, [])] Try.f35 [.addr a0, .one (.int .i64 a1), .one (.int .i64 a2)] (decR [.int .i64] Q) h := by
  intros; kernel_rfl
def F_fuse_Raise := G_fuse_Raise F_chip_Chip_Blow F_fuse_asked F_chip_Chip_Config F_fuse_row
theorem R_fuse_Raise : RunOk PP 35 (W [.addr, .int .i64, .int .i64] [.int .i64] F_fuse_Raise) :=
  runOk_of (T := [(41, W [.addr, .int .i64] [.int .i64] F_chip_Chip_Blow), (90, W [.addr, .int .i64, .int .i64] [.int .i64] F_fuse_asked), (91, W [.addr] [.ag [.int .i64, .int .i64, .int .i64, .int .i64, .int .i64, .int .i64, .int .i64]] F_chip_Chip_Config), (92, W [.addr, .int .i64] [.int .i64, .int .i64, .int .i64] F_fuse_row)]) (ann := [(7, []), (30, [])]) (TblOk.cons R_chip_Chip_Blow (TblOk.cons R_fuse_asked (TblOk.cons R_chip_Chip_Config (TblOk.cons R_fuse_row (TblOk.nil))))) Try.func35 (by kernel_rfl) (by kernel_rfl) (E_fuse_Raise F_chip_Chip_Blow F_fuse_asked F_chip_Chip_Config F_fuse_row)
attribute [irreducible] F_fuse_Raise
def G_fuse_of (c_chip_Chip_Config : Addr → (Int → Int → Int → Int → Int → Int → Int → H → Prop) → H → Prop) (a0 : Addr) (a1 : Int) (Q : Int → H → Prop) (h : H) : Prop :=
 c_chip_Chip_Config a0 (fun (i5 i6 i7 i8 i9 i10 i11 : Int) (h12 : H) => c_chip_Chip_Config a0 (fun (i13 i14 i15 i16 i17 i18 i19 : Int) (h20 : H) => Q (IntKind.i64.wrap (IntKind.i64.wrap (i6 * i15) + a1)) h20) h12) h
theorem E_fuse_of (c_chip_Chip_Config : Addr → (Int → Int → Int → Int → Int → Int → Int → H → Prop) → H → Prop) : ∀ (a0 : Addr) (a1 : Int) (Q : Int → H → Prop) (h : H), G_fuse_of c_chip_Chip_Config a0 a1 Q h = Dbody PP [(91, W [.addr] [.ag [.int .i64, .int .i64, .int .i64, .int .i64, .int .i64, .int .i64, .int .i64]] c_chip_Chip_Config)] [] Try.f136 [.addr a0, .one (.int .i64 a1)] (decR [.int .i64] Q) h := by
  intros; kernel_rfl
def F_fuse_of := G_fuse_of F_chip_Chip_Config
theorem R_fuse_of : RunOk PP 136 (W [.addr, .int .i64] [.int .i64] F_fuse_of) :=
  runOk_of (T := [(91, W [.addr] [.ag [.int .i64, .int .i64, .int .i64, .int .i64, .int .i64, .int .i64, .int .i64]] F_chip_Chip_Config)]) (ann := []) (TblOk.cons R_chip_Chip_Config (TblOk.nil)) Try.func136 (by kernel_rfl) (by kernel_rfl) (E_fuse_of F_chip_Chip_Config)
attribute [irreducible] F_fuse_of
end Go.Proofs.Ytamfkofcpoglnaa
