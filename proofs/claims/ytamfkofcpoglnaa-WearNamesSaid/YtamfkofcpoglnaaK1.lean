/- WearNames: what is proved and its parts, laid together by a program of ours: Fa0 F F F Hp Hs Lp Sl Mt Rd -/
import Derived.ProofKit
import Derived.SizedLaws
import Derived.Test.YtamfkofcpoglnaaProg
import Derived.Test.YtamfkofcpoglnaaK0
set_option autoImplicit false
set_option linter.all false
/- The denotations of some functions of the program, printed by a program of ours (wip/tools/vcgen.py), and that they are the model's. -/
section
set_option linter.unusedVariables false
set_option maxRecDepth 100000
namespace Go.Proofs.Ytamfkofcpoglnaa
open Go Go.Vc
abbrev id_portcullislaw04_ChipDoes : Nat := 3
abbrev id_portcullislaw04_ChipCuts : Nat := 4
abbrev id_portcullislaw04_ChipLays : Nat := 5
abbrev id_portcullislaw07_FuseDoes : Nat := 6
abbrev id_portcullislaw07_FuseRises : Nat := 7
abbrev id_portcullislaw08_PageLooks : Nat := 8
abbrev id_portcullislaw08_PageHalf : Nat := 9
abbrev id_portcullislaw20_WearNames : Nat := 10
abbrev id_portcullislaw20_WearBudgets : Nat := 11
abbrev id_portcullislaw14_AreaWrites : Nat := 12
abbrev id_portcullislaw14_AreaDoes : Nat := 13
abbrev id_portcullislaw20_WearReports : Nat := 14
abbrev id_portcullislaw04_fixed : Nat := 15
abbrev id_chip_New : Nat := 16
abbrev id_portcullisref04_New : Nat := 17
abbrev id_chip_May : Nat := 18
abbrev id_portcullislaw04_game : Nat := 19
abbrev id_chip_Lay : Nat := 20
abbrev id_chip_Chip_Copy : Nat := 21
abbrev id_chip_Chip_State : Nat := 22
abbrev id_chip_Chip_Cut : Nat := 23
abbrev id_portcullislaw04_done : Nat := 24
abbrev id_chip_Chip_Out : Nat := 25
abbrev id_portcullisref04_SameState : Nat := 26
abbrev id_chip_Chip_Acts : Nat := 27
abbrev id_portcullislaw04_mixed : Nat := 28
abbrev id_portcullisref04_CopyState : Nat := 29
abbrev id_portcullisref04_Lay : Nat := 30
abbrev id_portcullislaw04_wreck : Nat := 31
abbrev id_portcullislaw07_fixed : Nat := 32
abbrev id_portcullislaw07_step : Nat := 33
abbrev id_fuse_Count : Nat := 34
abbrev id_fuse_Raise : Nat := 35
abbrev id_chip_Chip_Restore : Nat := 36
abbrev id_portcullislaw08_fixed : Nat := 37
abbrev id_page_Look : Nat := 38
abbrev id_portcullisref08_Look : Nat := 39
abbrev id_portcullislaw08_like : Nat := 40
abbrev id_chip_Chip_Blow : Nat := 41
abbrev id_cell_Value : Nat := 42
abbrev id_cell_Head : Nat := 43
abbrev id_portcullisref08_Sound : Nat := 44
abbrev id_portcullisref04_Blank : Nat := 45
abbrev id_chip_Chip_Erase : Nat := 46
abbrev id_chip_Chip_Program : Nat := 47
abbrev id_portcullislaw20_fixed : Nat := 48
abbrev id_wear_Budget : Nat := 49
abbrev id_portcullisref20_Budget : Nat := 50
abbrev id_wear_Acts : Nat := 51
abbrev id_portcullisref20_Acts : Nat := 52
abbrev id_portcullislaw14_fixed : Nat := 53
abbrev id_area_Write : Nat := 54
abbrev id_area_Size : Nat := 55
abbrev id_portcullislaw14_byteOf : Nat := 56
abbrev id_portcullisref14_Size : Nat := 57
abbrev id_portcullislaw14_step : Nat := 58
abbrev id_wear_Of : Nat := 59
abbrev id_portcullisref20_Of : Nat := 60
abbrev id_portcullislaw20_same : Nat := 61
abbrev id_chip_Chip_Read : Nat := 62
abbrev id_chip_Chip_Blown : Nat := 63
abbrev id_chip_pages : Nat := 64
abbrev id_chip_fuses : Nat := 65
abbrev id_slices_Repeat_api_Cell_api_Cell : Nat := 66
abbrev id_chip_blank : Nat := 67
abbrev id_portcullisref04_May : Nat := 68
abbrev id_portcullisref04_fresh : Nat := 69
abbrev id_chip_within : Nat := 70
abbrev id_portcullisref04_Chip_Copy : Nat := 71
abbrev id_portcullislaw04_pair_step : Nat := 72
abbrev id_portcullislaw04_pair_same : Nat := 73
abbrev id_slices_ContainsFunc_api_Cell_api_Cell : Nat := 74
abbrev id_chip_Lay_1 : Nat := 75
abbrev id_slices_ContainsFunc_int_int : Nat := 76
abbrev id_chip_Lay_2 : Nat := 77
abbrev id_chip_copied : Nat := 78
abbrev id_slices_Clone_byte_byte : Nat := 79
abbrev id_portcullisref04_Fits : Nat := 80
abbrev id_fuse_Revoke : Nat := 81
abbrev id_fuse_Revoked : Nat := 82
abbrev id_portcullisref07_Count : Nat := 83
abbrev id_portcullisref07_Raise : Nat := 84
abbrev id_portcullisref07_Revoked : Nat := 85
abbrev id_portcullisref07_Revoke : Nat := 86
abbrev id_portcullisref04_Chip_Cut : Nat := 87
abbrev id_portcullisref04_Chip_Blow : Nat := 88
abbrev id_portcullisref04_Chip_Restore : Nat := 89
abbrev id_fuse_asked : Nat := 90
abbrev id_chip_Chip_Config : Nat := 91
abbrev id_fuse_row : Nat := 92
abbrev id_chip_Chip_Erases : Nat := 93
abbrev id_page_Info_lay : Nat := 94
abbrev id_cell_Read : Nat := 95
abbrev id_portcullisref04_Chip_Read : Nat := 96
abbrev id_portcullisref08_Of : Nat := 97
abbrev id_chip_Chip_asked : Nat := 98
abbrev id_chip_Chip_begins : Nat := 99
abbrev id_cell_laid : Nat := 100
abbrev id_chip_Chip_asksCell : Nat := 101
abbrev id_portcullislaw20_small : Nat := 102
abbrev id_wear_config_lays : Nat := 103
abbrev id_portcullisref20_lays : Nat := 104
abbrev id_wear_config_acts : Nat := 105
abbrev id_portcullislaw14_small : Nat := 106
abbrev id_area_Read : Nat := 107
abbrev id_area_Worn : Nat := 108
abbrev id_area_pages : Nat := 109
abbrev id_area_used : Nat := 110
abbrev id_area_place : Nat := 111
abbrev id_area_filled : Nat := 112
abbrev id_portcullislaw14_reads : Nat := 113
abbrev id_portcullislaw14_lent : Nat := 114
abbrev id_portcullisref14_Write : Nat := 115
abbrev id_portcullislaw14_kept : Nat := 116
abbrev id_portcullisref14_Worn : Nat := 117
abbrev id_log_Mount : Nat := 118
abbrev id_log_Log_Free : Nat := 119
abbrev id_log_Log_Present : Nat := 120
abbrev id_wear_left : Nat := 121
abbrev id_portcullisref09_Free : Nat := 122
abbrev id_portcullisref09_Present : Nat := 123
abbrev id_portcullisref20_left : Nat := 124
abbrev id_math_bits_Mul : Nat := 125
abbrev id_portcullisref04_within : Nat := 126
abbrev id_portcullisref04_Chip_Program : Nat := 127
abbrev id_portcullisref04_Chip_Erase : Nat := 128
abbrev id_portcullisref04_Chip_Blown : Nat := 129
abbrev id_portcullisref04_Chip_Erases : Nat := 130
abbrev id_slices_IndexFunc_api_Cell_api_Cell : Nat := 131
abbrev id_slices_IndexFunc_int_int : Nat := 132
abbrev id_slices_Clone_int_int : Nat := 133
abbrev id_slices_Clone_bool_bool : Nat := 134
abbrev id_slices_Clone_api_Cell_api_Cell : Nat := 135
abbrev id_fuse_of : Nat := 136
abbrev id_portcullisref07_may : Nat := 137
abbrev id_portcullisref04_Chip_fuse : Nat := 138
abbrev id_portcullisref04_Chip_act : Nat := 139
abbrev id_portcullisref04_Chip_bits : Nat := 140
abbrev id_cell_got : Nat := 141
abbrev id_cell_Blank : Nat := 142
abbrev id_portcullisref04_Chip_at : Nat := 143
abbrev id_portcullisref06_Read : Nat := 144
abbrev id_chip_Chip_begins_1 : Nat := 145
abbrev id_chip_Chip_begins_2 : Nat := 146
abbrev id_cell_put : Nat := 147
abbrev id_crc_Of : Nat := 148
abbrev id_rail_Put : Nat := 149
abbrev id_wear_config_raise : Nat := 150
abbrev id_wear_config_revoke : Nat := 151
abbrev id_wear_config_stage : Nat := 152
abbrev id_area_asked : Nat := 153
abbrev id_area_bytes : Nat := 154
abbrev id_image_Parse : Nat := 155
abbrev id_area_blank : Nat := 156
abbrev id_portcullisref14_Read : Nat := 157
abbrev id_portcullisref14_blank : Nat := 158
abbrev id_portcullisref14_lay : Nat := 159
abbrev id_portcullisref14_may : Nat := 160
abbrev id_log_Log_look : Nat := 161
abbrev id_log_found_info : Nat := 162
abbrev id_portcullisref09_Log_Free : Nat := 163
abbrev id_portcullisref09_Log_Present : Nat := 164
abbrev id_math_bits_Mul32 : Nat := 165
abbrev id_math_bits_Mul64 : Nat := 166
abbrev id_portcullisref06_Blank : Nat := 167
abbrev id_portcullisref06_Head : Nat := 168
abbrev id_portcullisref06_Value : Nat := 169
abbrev id_crc_New : Nat := 170
abbrev id_crc_Sum_Write : Nat := 171
abbrev id_crc_Sum_Sum : Nat := 172
abbrev id_rail_halves : Nat := 173
abbrev id_image_may : Nat := 174
abbrev id_image_number : Nat := 175
abbrev id_portcullisref14_Bytes : Nat := 176
abbrev id_portcullisref11_Parse : Nat := 177
abbrev id_portcullisref09_Log_info : Nat := 178
abbrev id_portcullisref06_cell : Nat := 179
abbrev id_crc_eight : Nat := 180
abbrev id_portcullisref11_must : Nat := 181
abbrev id_portcullisref11_number : Nat := 182
abbrev id_portcullisref01_Of : Nat := 183
abbrev id_portcullisref01_eight : Nat := 184
abbrev id_portcullisref01_step : Nat := 185
abbrev id_runtime_boundsError_Error : Nat := 186
abbrev id_runtime_boundsError_RuntimeError : Nat := 187
abbrev id_runtime_errorString_Error : Nat := 188
abbrev id_runtime_errorString_RuntimeError : Nat := 189
abbrev id_runtime_plainError_Error : Nat := 190
abbrev id_runtime_plainError_RuntimeError : Nat := 191
abbrev id_runtime_errorAddressString_Error : Nat := 192
abbrev id_runtime_errorAddressString_RuntimeError : Nat := 193
abbrev id_runtime_TypeAssertionError_Error : Nat := 194
abbrev id_runtime_TypeAssertionError_RuntimeError : Nat := 195
abbrev id_runtime_PanicNilError_Error : Nat := 196
abbrev id_runtime_PanicNilError_RuntimeError : Nat := 197
abbrev id_internal_abi_Type_Align : Nat := 198
abbrev id_internal_runtime_maps_unhashableTypeError_Error : Nat := 199
abbrev id_internal_runtime_maps_unhashableTypeError_RuntimeError : Nat := 200
abbrev id_api_Errno_Error : Nat := 201
abbrev id_log_found_target : Nat := 202
abbrev id_image_Wrong_Error : Nat := 203
abbrev id_internal_abi_Kind_String : Nat := 204
noncomputable abbrev PP : Program := Try.prog
end Go.Proofs.Ytamfkofcpoglnaa
end

/- Denotations of functions of the program, printed by a program of ours, and that they are the model's. -/
section
set_option linter.unusedVariables false
set_option maxRecDepth 100000
namespace Go.Proofs.Ytamfkofcpoglnaa
open Go Go.Vc
def G_chip_within (a0 : Int) (a1 : Int) (a2 : Int) (Q : Bool → H → Prop) (h : H) : Prop := if leI a1 a0 = true then Q (leI a0 a2) h else Q false h
theorem E_chip_within  : ∀ (a0 : Int) (a1 : Int) (a2 : Int) (Q : Bool → H → Prop) (h : H), G_chip_within a0 a1 a2 Q h = Dbody PP [] [] Try.f70 [.one (.int .i64 a0), .one (.int .i64 a1), .one (.int .i64 a2)] (decR [.bool] Q) h := by intros; kernel_rfl
def F_chip_within := G_chip_within
theorem R_chip_within : RunOk PP 70 (W [.int .i64, .int .i64, .int .i64] [.bool] F_chip_within) := runOk_of (T := []) (ann := []) (TblOk.nil) Try.func70 (by kernel_rfl) (by kernel_rfl) (E_chip_within)
attribute [irreducible] F_chip_within
def G_chip_May (c_chip_within : Int → Int → Int → (Bool → H → Prop) → H → Prop) (a0_0 : Int) (a0_1 : Int) (a0_2 : Int) (a0_3 : Int) (a0_4 : Int) (a0_5 : Int) (a0_6 : Int) (Q : Int → H → Prop) (h : H) : Prop := ∀ (n10 : Nat) (h11 : H), hnew h n10 [Value.int IntKind.i64 a0_0, Value.int IntKind.i64 a0_1, Value.int IntKind.i64 a0_2, Value.int IntKind.i64 a0_3, Value.int IntKind.i64 a0_4, Value.int IntKind.i64 a0_5, Value.int IntKind.i64 a0_6] h11 → ∀ (J13 : List SV → H → Prop), (∀ (b14 : Bool) (h15 : H), (if (!b14) = true then Q 1 h15 else Q 0 h15) → J13 [SV.dv (DV.one (Value.bool b14))] h15) → ∃ (i18 : Int), hc h11 ((Addr.mk n10 0 none).add 1) = some (Value.int IntKind.i64 i18) ∧ c_chip_within i18 1 8 (fun (b19 : Bool) (h20 : H) => if b19 = true then ∃ (i21 : Int), hc h20 (Addr.mk n10 0 none) = some (Value.int IntKind.i64 i21) ∧ ∃ (i22 : Int), hc h20 ((Addr.mk n10 0 none).add 1) = some (Value.int IntKind.i64 i22) ∧ c_chip_within i21 (IntKind.i64.wrap (i22 + 3)) 256 (fun (b23 : Bool) (h24 : H) => if b23 = true then ∃ (i25 : Int), hc h24 ((Addr.mk n10 0 none).add 2) = some (Value.int IntKind.i64 i25) ∧ c_chip_within i25 1 64 (fun (b26 : Bool) (h27 : H) => if b26 = true then ∃ (i28 : Int), hc h27 ((Addr.mk n10 0 none).add 3) = some (Value.int IntKind.i64 i28) ∧ c_chip_within i28 1 65536 (fun (b29 : Bool) (h30 : H) => if b29 = true then ∃ (i31 : Int), hc h30 ((Addr.mk n10 0 none).add 4) = some (Value.int IntKind.i64 i31) ∧ c_chip_within i31 1 64 (fun (b32 : Bool) (h33 : H) => if b32 = true then ∃ (i34 : Int), hc h33 ((Addr.mk n10 0 none).add 5) = some (Value.int IntKind.i64 i34) ∧ c_chip_within i34 0 65536 (fun (b35 : Bool) (h36 : H) => if b35 = true then ∃ (i37 : Int), hc h36 ((Addr.mk n10 0 none).add 6) = some (Value.int IntKind.i64 i37) ∧ c_chip_within i37 0 64 (fun (b38 : Bool) (h39 : H) => J13 [SV.dv (DV.one (Value.bool b38))] h39) h36 else J13 [SV.dv (DV.one (Value.bool false))] h36) h33 else J13 [SV.dv (DV.one (Value.bool false))] h33) h30 else J13 [SV.dv (DV.one (Value.bool false))] h30) h27 else J13 [SV.dv (DV.one (Value.bool false))] h27) h24 else J13 [SV.dv (DV.one (Value.bool false))] h24) h20 else J13 [SV.dv (DV.one (Value.bool false))] h20) h11
theorem E_chip_May (c_chip_within : Int → Int → Int → (Bool → H → Prop) → H → Prop) : ∀ (a0_0 : Int) (a0_1 : Int) (a0_2 : Int) (a0_3 : Int) (a0_4 : Int) (a0_5 : Int) (a0_6 : Int) (Q : Int → H → Prop) (h : H), G_chip_May c_chip_within a0_0 a0_1 a0_2 a0_3 a0_4 a0_5 a0_6 Q h = Dbody PP [(70, W [.int .i64, .int .i64, .int .i64] [.bool] c_chip_within)] [(3, [(3, .sc (.bool))])] Try.f18 [.agg [.c (.int .i64 a0_0), .c (.int .i64 a0_1), .c (.int .i64 a0_2), .c (.int .i64 a0_3), .c (.int .i64 a0_4), .c (.int .i64 a0_5), .c (.int .i64 a0_6)]] (decR [.int .i64] Q) h := by intros; kernel_rfl
def F_chip_May := G_chip_May F_chip_within
theorem R_chip_May : RunOk PP 18 (W [.ag [.int .i64, .int .i64, .int .i64, .int .i64, .int .i64, .int .i64, .int .i64]] [.int .i64] F_chip_May) := runOk_of (T := [(70, W [.int .i64, .int .i64, .int .i64] [.bool] F_chip_within)]) (ann := [(3, [(3, .sc (.bool))])]) (TblOk.cons R_chip_within (TblOk.nil)) Try.func18 (by kernel_rfl) (by kernel_rfl) (E_chip_May F_chip_within)
attribute [irreducible] F_chip_May
def G_chip_pages (a0_0 : Int) (a0_1 : Int) (a0_2 : Int) (a0_3 : Int) (a0_4 : Int) (a0_5 : Int) (a0_6 : Int) (Q : Int → H → Prop) (h : H) : Prop := ∀ (n9 : Nat) (h10 : H), hnew h n9 [Value.int IntKind.i64 a0_0, Value.int IntKind.i64 a0_1, Value.int IntKind.i64 a0_2, Value.int IntKind.i64 a0_3, Value.int IntKind.i64 a0_4, Value.int IntKind.i64 a0_5, Value.int IntKind.i64 a0_6] h10 → ∃ (i12 : Int), hc h10 ((Addr.mk n9 0 none).add 6) = some (Value.int IntKind.i64 i12) ∧ Q (IntKind.i64.wrap (2 + IntKind.i64.wrap (2 * i12))) h10
theorem E_chip_pages  : ∀ (a0_0 : Int) (a0_1 : Int) (a0_2 : Int) (a0_3 : Int) (a0_4 : Int) (a0_5 : Int) (a0_6 : Int) (Q : Int → H → Prop) (h : H), G_chip_pages a0_0 a0_1 a0_2 a0_3 a0_4 a0_5 a0_6 Q h = Dbody PP [] [] Try.f64 [.agg [.c (.int .i64 a0_0), .c (.int .i64 a0_1), .c (.int .i64 a0_2), .c (.int .i64 a0_3), .c (.int .i64 a0_4), .c (.int .i64 a0_5), .c (.int .i64 a0_6)]] (decR [.int .i64] Q) h := by intros; kernel_rfl
def F_chip_pages := G_chip_pages
theorem R_chip_pages : RunOk PP 64 (W [.ag [.int .i64, .int .i64, .int .i64, .int .i64, .int .i64, .int .i64, .int .i64]] [.int .i64] F_chip_pages) := runOk_of (T := []) (ann := []) (TblOk.nil) Try.func64 (by kernel_rfl) (by kernel_rfl) (E_chip_pages)
attribute [irreducible] F_chip_pages
def G_chip_fuses (a0_0 : Int) (a0_1 : Int) (a0_2 : Int) (a0_3 : Int) (a0_4 : Int) (a0_5 : Int) (a0_6 : Int) (Q : Int → H → Prop) (h : H) : Prop := ∀ (n9 : Nat) (h10 : H), hnew h n9 [Value.int IntKind.i64 a0_0, Value.int IntKind.i64 a0_1, Value.int IntKind.i64 a0_2, Value.int IntKind.i64 a0_3, Value.int IntKind.i64 a0_4, Value.int IntKind.i64 a0_5, Value.int IntKind.i64 a0_6] h10 → ∃ (i12 : Int), hc h10 ((Addr.mk n9 0 none).add 1) = some (Value.int IntKind.i64 i12) ∧ ∃ (i13 : Int), hc h10 ((Addr.mk n9 0 none).add 2) = some (Value.int IntKind.i64 i13) ∧ ∃ (i14 : Int), hc h10 ((Addr.mk n9 0 none).add 4) = some (Value.int IntKind.i64 i14) ∧ Q (IntKind.i64.wrap (IntKind.i64.wrap (i12 * i13) + i14)) h10
theorem E_chip_fuses  : ∀ (a0_0 : Int) (a0_1 : Int) (a0_2 : Int) (a0_3 : Int) (a0_4 : Int) (a0_5 : Int) (a0_6 : Int) (Q : Int → H → Prop) (h : H), G_chip_fuses a0_0 a0_1 a0_2 a0_3 a0_4 a0_5 a0_6 Q h = Dbody PP [] [] Try.f65 [.agg [.c (.int .i64 a0_0), .c (.int .i64 a0_1), .c (.int .i64 a0_2), .c (.int .i64 a0_3), .c (.int .i64 a0_4), .c (.int .i64 a0_5), .c (.int .i64 a0_6)]] (decR [.int .i64] Q) h := by intros; kernel_rfl
def F_chip_fuses := G_chip_fuses
theorem R_chip_fuses : RunOk PP 65 (W [.ag [.int .i64, .int .i64, .int .i64, .int .i64, .int .i64, .int .i64, .int .i64]] [.int .i64] F_chip_fuses) := runOk_of (T := []) (ann := []) (TblOk.nil) Try.func65 (by kernel_rfl) (by kernel_rfl) (E_chip_fuses)
attribute [irreducible] F_chip_fuses
def G_math_bits_Mul32 (a0 : Int) (a1 : Int) (Q : Int → Int → H → Prop) (h : H) : Prop := (0 : Int) ≤ 32 ∧ Q (IntKind.u32.wrap ((IntKind.u64.wrap (IntKind.u64.wrap a0 * IntKind.u64.wrap a1)).fdiv (2 ^ 32))) (IntKind.u32.wrap (IntKind.u64.wrap (IntKind.u64.wrap a0 * IntKind.u64.wrap a1))) h
theorem E_math_bits_Mul32  : ∀ (a0 : Int) (a1 : Int) (Q : Int → Int → H → Prop) (h : H), G_math_bits_Mul32 a0 a1 Q h = Dbody PP [] [] Try.f165 [.one (.int .u32 a0), .one (.int .u32 a1)] (decR [.int .u32, .int .u32] Q) h := by intros; kernel_rfl
def F_math_bits_Mul32 := G_math_bits_Mul32
theorem R_math_bits_Mul32 : RunOk PP 165 (W [.int .u32, .int .u32] [.int .u32, .int .u32] F_math_bits_Mul32) := runOk_of (T := []) (ann := []) (TblOk.nil) Try.func165 (by kernel_rfl) (by kernel_rfl) (E_math_bits_Mul32)
attribute [irreducible] F_math_bits_Mul32
def G_math_bits_Mul64 (a0 : Int) (a1 : Int) (Q : Int → Int → H → Prop) (h : H) : Prop := ∀ (i4 : Int), i4 = 4294967295 → (0 : Int) ≤ 32 ∧ ∀ (i6 : Int), i6 = 4294967295 → (0 : Int) ≤ 32 ∧ (0 : Int) ≤ 32 ∧ ∀ (i8 : Int), i8 = 4294967295 → (0 : Int) ≤ 32 ∧ (0 : Int) ≤ 32 ∧ Q (IntKind.u64.wrap (IntKind.u64.wrap (IntKind.u64.wrap (a0.fdiv (2 ^ 32) * a1.fdiv (2 ^ 32)) + (IntKind.u64.wrap (IntKind.u64.wrap (a0.fdiv (2 ^ 32) * bits BinOp.and IntKind.u64 a1 i6) + (IntKind.u64.wrap (bits BinOp.and IntKind.u64 a0 i4 * bits BinOp.and IntKind.u64 a1 i6)).fdiv (2 ^ 32))).fdiv (2 ^ 32)) + (IntKind.u64.wrap (bits BinOp.and IntKind.u64 (IntKind.u64.wrap (IntKind.u64.wrap (a0.fdiv (2 ^ 32) * bits BinOp.and IntKind.u64 a1 i6) + (IntKind.u64.wrap (bits BinOp.and IntKind.u64 a0 i4 * bits BinOp.and IntKind.u64 a1 i6)).fdiv (2 ^ 32))) i8 + IntKind.u64.wrap (bits BinOp.and IntKind.u64 a0 i4 * a1.fdiv (2 ^ 32)))).fdiv (2 ^ 32))) (IntKind.u64.wrap (a0 * a1)) h
theorem E_math_bits_Mul64  : ∀ (a0 : Int) (a1 : Int) (Q : Int → Int → H → Prop) (h : H), G_math_bits_Mul64 a0 a1 Q h = Dbody PP [] [] Try.f166 [.one (.int .u64 a0), .one (.int .u64 a1)] (decR [.int .u64, .int .u64] Q) h := by intros; kernel_rfl
def F_math_bits_Mul64 := G_math_bits_Mul64
theorem R_math_bits_Mul64 : RunOk PP 166 (W [.int .u64, .int .u64] [.int .u64, .int .u64] F_math_bits_Mul64) := runOk_of (T := []) (ann := []) (TblOk.nil) Try.func166 (by kernel_rfl) (by kernel_rfl) (E_math_bits_Mul64)
attribute [irreducible] F_math_bits_Mul64
def G_math_bits_Mul (c_math_bits_Mul32 : Int → Int → (Int → Int → H → Prop) → H → Prop) (c_math_bits_Mul64 : Int → Int → (Int → Int → H → Prop) → H → Prop) (a0 : Int) (a1 : Int) (Q : Int → Int → H → Prop) (h : H) : Prop := c_math_bits_Mul64 a0 a1 (fun (i6 i7 : Int) (h8 : H) => Q i6 i7 h8) h
theorem E_math_bits_Mul (c_math_bits_Mul32 : Int → Int → (Int → Int → H → Prop) → H → Prop) (c_math_bits_Mul64 : Int → Int → (Int → Int → H → Prop) → H → Prop) : ∀ (a0 : Int) (a1 : Int) (Q : Int → Int → H → Prop) (h : H), G_math_bits_Mul c_math_bits_Mul32 c_math_bits_Mul64 a0 a1 Q h = Dbody PP [(165, W [.int .u32, .int .u32] [.int .u32, .int .u32] c_math_bits_Mul32), (166, W [.int .u64, .int .u64] [.int .u64, .int .u64] c_math_bits_Mul64)] [] Try.f125 [.one (.int .u64 a0), .one (.int .u64 a1)] (decR [.int .u64, .int .u64] Q) h := by intros; kernel_rfl
def F_math_bits_Mul := G_math_bits_Mul F_math_bits_Mul32 F_math_bits_Mul64
theorem R_math_bits_Mul : RunOk PP 125 (W [.int .u64, .int .u64] [.int .u64, .int .u64] F_math_bits_Mul) := runOk_of (T := [(165, W [.int .u32, .int .u32] [.int .u32, .int .u32] F_math_bits_Mul32), (166, W [.int .u64, .int .u64] [.int .u64, .int .u64] F_math_bits_Mul64)]) (ann := []) (TblOk.cons R_math_bits_Mul32 (TblOk.cons R_math_bits_Mul64 (TblOk.nil))) Try.func125 (by kernel_rfl) (by kernel_rfl) (E_math_bits_Mul F_math_bits_Mul32 F_math_bits_Mul64)
attribute [irreducible] F_math_bits_Mul
def G_slices_Repeat_api_Cell_api_Cell (c_math_bits_Mul : Int → Int → (Int → Int → H → Prop) → H → Prop) (a0p : Option Addr) (a0l : Nat) (a0c : Nat) (a1 : Int) (Q : Option Addr → Nat → Nat → H → Prop) (h : H) : Prop := ∀ (J7 : List SV → H → Prop), (∀ (h8 : H), c_math_bits_Mul (IntKind.u64.wrap (↑a0l : Int)) (IntKind.u64.wrap a1) (fun (i9 i10 : Int) (h11 : H) => ∀ (J12 : List SV → H → Prop), (∀ (h13 : H), (0 ≤ IntKind.i64.wrap i10 ∧ IntKind.i64.wrap i10 ≤ IntKind.i64.wrap i10 ∧ (↑32 : Int) * IntKind.i64.wrap i10 ≤ 2 ^ 48 ∧ IntKind.i64.wrap i10 ≤ 2 ^ 48 ∧ ∀ (n14 : Nat) (h15 : H), hnew h13 n14 (List.replicate (IntKind.i64.wrap i10).toNat (ints IntKind.u8 (zeros 32))).flatten h15 → ∃ (l17 : List Value), hsv h15 a0p 32 (a0l.min (IntKind.i64.wrap i10).toNat) l17 ∧ (l17 = [] ∨ ∃ (p18 : Addr), some (Addr.mk n14 0 none) = some p18 ∧ hcan h15 p18 (a0l.min (IntKind.i64.wrap i10).toNat * 32)) ∧ ∀ (h19 : H), h19 = hwrO h15 (some (Addr.mk n14 0 none)) l17 → ∀ (J21 : List SV → H → Prop), (∀ (i22 : Int) (h23 : H), (if ltI i22 (↑(IntKind.i64.wrap i10).toNat : Int) = true then 0 ≤ i22 ∧ i22 ≤ (↑(IntKind.i64.wrap i10).toNat : Int) ∧ 0 ≤ i22 ∧ i22 ≤ (↑(IntKind.i64.wrap i10).toNat : Int) ∧ ∃ (l24 : List Value), hsv h23 (subAddr (some (Addr.mk n14 0 none)) 0 (IntKind.i64.wrap i10).toNat 32) 32 ((i22.toNat - 0).min ((IntKind.i64.wrap i10).toNat - i22.toNat)) l24 ∧ (l24 = [] ∨ ∃ (p25 : Addr), subAddr (some (Addr.mk n14 0 none)) i22.toNat (IntKind.i64.wrap i10).toNat 32 = some p25 ∧ hcan h23 p25 ((i22.toNat - 0).min ((IntKind.i64.wrap i10).toNat - i22.toNat) * 32)) ∧ ∀ (h26 : H), h26 = hwrO h23 (subAddr (some (Addr.mk n14 0 none)) i22.toNat (IntKind.i64.wrap i10).toNat 32) l24 → J21 [SV.dv (DV.one (Value.int IntKind.i64 (IntKind.i64.wrap (i22 + (↑((i22.toNat - 0).min ((IntKind.i64.wrap i10).toNat - i22.toNat)) : Int)))))] h26 else Q (some (Addr.mk n14 0 none)) (IntKind.i64.wrap i10).toNat (IntKind.i64.wrap i10).toNat h23) → J21 [SV.dv (DV.one (Value.int IntKind.i64 i22))] h23) → J21 [SV.dv (DV.one (Value.int IntKind.i64 (↑(a0l.min (IntKind.i64.wrap i10).toNat) : Int)))] h19) → J12 [] h13) → if ltI 0 i9 = true then False else ∀ (i32 : Int), i32 = 9223372036854775807 → if ltI i32 i10 = true then False else J12 [] h11) h8 → J7 [] h8) → if ltI a1 0 = true then False else J7 [] h
theorem E_slices_Repeat_api_Cell_api_Cell (c_math_bits_Mul : Int → Int → (Int → Int → H → Prop) → H → Prop) : ∀ (a0p : Option Addr) (a0l : Nat) (a0c : Nat) (a1 : Int) (Q : (Option Addr) → Nat → Nat → H → Prop) (h : H), G_slices_Repeat_api_Cell_api_Cell c_math_bits_Mul a0p a0l a0c a1 Q h = Dbody PP [(125, W [.int .u64, .int .u64] [.int .u64, .int .u64] c_math_bits_Mul)] [(3, []), (15, []), (508, [(8, .sc (.int .i64))])] Try.f66 [.one (.slice a0p a0l a0c), .one (.int .i64 a1)] (decR [.slc] Q) h := by intros; kernel_rfl
def F_slices_Repeat_api_Cell_api_Cell := G_slices_Repeat_api_Cell_api_Cell F_math_bits_Mul
theorem R_slices_Repeat_api_Cell_api_Cell : RunOk PP 66 (W [.slc, .int .i64] [.slc] F_slices_Repeat_api_Cell_api_Cell) := runOk_of (T := [(125, W [.int .u64, .int .u64] [.int .u64, .int .u64] F_math_bits_Mul)]) (ann := [(3, []), (15, []), (508, [(8, .sc (.int .i64))])]) (TblOk.cons R_math_bits_Mul (TblOk.nil)) Try.func66 (by kernel_rfl) (by kernel_rfl) (E_slices_Repeat_api_Cell_api_Cell F_math_bits_Mul)
attribute [irreducible] F_slices_Repeat_api_Cell_api_Cell
def G_chip_blank (Q : List Int → H → Prop) (h : H) : Prop := ∀ (n2 : Nat) (h3 : H), hnew h n2 (ints IntKind.u8 (zeros 32)) h3 → ∀ (n5 : Nat) (h6 : H), hnew h3 n5 (ints IntKind.u8 (zeros 32)) h6 → ∀ (J8 : List SV → H → Prop), (∀ (i9 : Int) (h10 : H), (if ltI i9 32 = true then 0 ≤ i9 ∧ i9 < (↑32 : Int) ∧ hcan h10 ((Addr.mk n5 0 none).add (i9.toNat * 1)) 1 ∧ ∀ (h11 : H), h11 = hwr h10 ((Addr.mk n5 0 none).add (i9.toNat * 1)) [Value.int IntKind.u8 255] → J8 [SV.dv (DV.one (Value.int IntKind.i64 (IntKind.i64.wrap (i9 + 1))))] h11 else ∃ (l13 : List Int), l13.length = 32 ∧ hrow h10 (Addr.mk n5 0 none) IntKind.u8 l13 ∧ hcan h10 (Addr.mk n2 0 none) 32 ∧ ∀ (h14 : H), h14 = hwr h10 (Addr.mk n2 0 none) (ints IntKind.u8 l13 ++ []) → ∃ (l16 : List Int), l16.length = 32 ∧ hrow h14 (Addr.mk n2 0 none) IntKind.u8 l16 ∧ Q l16 h14) → J8 [SV.dv (DV.one (Value.int IntKind.i64 i9))] h10) → J8 [SV.dv (DV.one (Value.int IntKind.i64 0))] h6
theorem E_chip_blank  : ∀ (Q : (List Int) → H → Prop) (h : H), G_chip_blank Q h = Dbody PP [] [(58, [(3, .sc (.int .i64))])] Try.f67 [] (decR [.ag [.row .u8 32]] Q) h := by intros; kernel_rfl
def F_chip_blank := G_chip_blank
theorem R_chip_blank : RunOk PP 67 (W [] [.ag [.row .u8 32]] F_chip_blank) := runOk_of (T := []) (ann := [(58, [(3, .sc (.int .i64))])]) (TblOk.nil) Try.func67 (by kernel_rfl) (by kernel_rfl) (E_chip_blank)
attribute [irreducible] F_chip_blank
def G_chip_New (c_chip_May : Int → Int → Int → Int → Int → Int → Int → (Int → H → Prop) → H → Prop) (c_chip_pages : Int → Int → Int → Int → Int → Int → Int → (Int → H → Prop) → H → Prop) (c_chip_fuses : Int → Int → Int → Int → Int → Int → Int → (Int → H → Prop) → H → Prop) (c_slices_Repeat_api_Cell_api_Cell : Option Addr → Nat → Nat → Int → (Option Addr → Nat → Nat → H → Prop) → H → Prop) (c_chip_blank : (List Int → H → Prop) → H → Prop) (a0_0 : Int) (a0_1 : Int) (a0_2 : Int) (a0_3 : Int) (a0_4 : Int) (a0_5 : Int) (a0_6 : Int) (Q : Option Addr → Int → H → Prop) (h : H) : Prop := ∀ (n14 : Nat) (h15 : H), hnew h n14 [Value.int IntKind.i64 a0_0, Value.int IntKind.i64 a0_1, Value.int IntKind.i64 a0_2, Value.int IntKind.i64 a0_3, Value.int IntKind.i64 a0_4, Value.int IntKind.i64 a0_5, Value.int IntKind.i64 a0_6] h15 → ∃ (i17 : Int), hc h15 (Addr.mk n14 0 none) = some (Value.int IntKind.i64 i17) ∧ ∃ (i18 : Int), hc h15 ((Addr.mk n14 0 none).add 1) = some (Value.int IntKind.i64 i18) ∧ ∃ (i19 : Int), hc h15 ((Addr.mk n14 0 none).add 2) = some (Value.int IntKind.i64 i19) ∧ ∃ (i20 : Int), hc h15 ((Addr.mk n14 0 none).add 3) = some (Value.int IntKind.i64 i20) ∧ ∃ (i21 : Int), hc h15 ((Addr.mk n14 0 none).add 4) = some (Value.int IntKind.i64 i21) ∧ ∃ (i22 : Int), hc h15 ((Addr.mk n14 0 none).add 5) = some (Value.int IntKind.i64 i22) ∧ ∃ (i23 : Int), hc h15 ((Addr.mk n14 0 none).add 6) = some (Value.int IntKind.i64 i23) ∧ c_chip_May i17 i18 i19 i20 i21 i22 i23 (fun (i24 : Int) (h25 : H) => if (i24 != 0) = true then Q none i24 h25 else ∀ (J26 : List SV → H → Prop), (∀ (p27 : Addr) (h28 : H), (∃ (i29 : Int), hc h28 (Addr.mk n14 0 none) = some (Value.int IntKind.i64 i29) ∧ ∃ (i30 : Int), hc h28 ((Addr.mk n14 0 none).add 1) = some (Value.int IntKind.i64 i30) ∧ ∃ (i31 : Int), hc h28 ((Addr.mk n14 0 none).add 2) = some (Value.int IntKind.i64 i31) ∧ ∃ (i32 : Int), hc h28 ((Addr.mk n14 0 none).add 3) = some (Value.int IntKind.i64 i32) ∧ ∃ (i33 : Int), hc h28 ((Addr.mk n14 0 none).add 4) = some (Value.int IntKind.i64 i33) ∧ ∃ (i34 : Int), hc h28 ((Addr.mk n14 0 none).add 5) = some (Value.int IntKind.i64 i34) ∧ ∃ (i35 : Int), hc h28 ((Addr.mk n14 0 none).add 6) = some (Value.int IntKind.i64 i35) ∧ c_chip_pages i29 i30 i31 i32 i33 i34 i35 (fun (i36 : Int) (h37 : H) => ∀ (J38 : List SV → H → Prop), (∀ (i39 : Int) (h40 : H), (if ltI i39 i36 = true then ∃ (o41 : Option Addr), ∃ (n42 : Nat), ∃ (n43 : Nat), hc h40 p27 = some (Value.slice o41 n42 n43) ∧ ∃ (i44 : Int), hc h40 (Addr.mk n14 0 none) = some (Value.int IntKind.i64 i44) ∧ c_chip_blank (fun (l45 : List Int) (h46 : H) => hcs h46 (Addr.mk n14 0 none) [Value.int IntKind.i64 i44] ∧ hcs h46 p27 [Value.slice o41 n42 n43] ∧ ∀ (n47 : Nat) (h48 : H), hnew h46 n47 (ints IntKind.u8 l45 ++ []) h48 → hcs h48 (Addr.mk n14 0 none) [Value.int IntKind.i64 i44] ∧ hcs h48 p27 [Value.slice o41 n42 n43] ∧ c_slices_Repeat_api_Cell_api_Cell (some (Addr.mk n47 0 none)) 1 1 i44 (fun (o50 : Option Addr) (n51 n52 : Nat) (h53 : H) => hcs h53 p27 [Value.slice o41 n42 n43] ∧ ∀ (n54 : Nat) (h55 : H), hnew h53 n54 [Value.slice o50 n51 n52] h55 → hcs h55 p27 [Value.slice o41 n42 n43] ∧ ∃ (l57 : List Value), hsv h55 (some (Addr.mk n54 0 none)) 1 1 l57 ∧ pApp h55 1 [Value.slice none 0 0] 24 o41 n42 n43 1 l57 fun (o58 : Option Addr) (n59 n60 : Nat) (h61 : H) => hcan h61 p27 1 ∧ ∀ (h62 : H), h62 = hwr h61 p27 [Value.slice o58 n59 n60] → J38 [SV.dv (DV.one (Value.int IntKind.i64 (IntKind.i64.wrap (i39 + 1))))] h62) h48) h40 else ∃ (i64 : Int), hc h40 (Addr.mk n14 0 none) = some (Value.int IntKind.i64 i64) ∧ ∃ (i65 : Int), hc h40 ((Addr.mk n14 0 none).add 1) = some (Value.int IntKind.i64 i65) ∧ ∃ (i66 : Int), hc h40 ((Addr.mk n14 0 none).add 2) = some (Value.int IntKind.i64 i66) ∧ ∃ (i67 : Int), hc h40 ((Addr.mk n14 0 none).add 3) = some (Value.int IntKind.i64 i67) ∧ ∃ (i68 : Int), hc h40 ((Addr.mk n14 0 none).add 4) = some (Value.int IntKind.i64 i68) ∧ ∃ (i69 : Int), hc h40 ((Addr.mk n14 0 none).add 5) = some (Value.int IntKind.i64 i69) ∧ ∃ (i70 : Int), hc h40 ((Addr.mk n14 0 none).add 6) = some (Value.int IntKind.i64 i70) ∧ ∃ (o71 : Option Addr), ∃ (n72 : Nat), ∃ (n73 : Nat), hc h40 p27 = some (Value.slice o71 n72 n73) ∧ ∃ (o74 : Option Addr), ∃ (n75 : Nat), ∃ (n76 : Nat), hc h40 (p27.add 1) = some (Value.slice o74 n75 n76) ∧ ∃ (o77 : Option Addr), ∃ (n78 : Nat), ∃ (n79 : Nat), hc h40 (p27.add 2) = some (Value.slice o77 n78 n79) ∧ ∀ (n80 : Nat) (h81 : H), hnew h40 n80 [Value.int IntKind.i64 i64, Value.int IntKind.i64 i65, Value.int IntKind.i64 i66, Value.int IntKind.i64 i67, Value.int IntKind.i64 i68, Value.int IntKind.i64 i69, Value.int IntKind.i64 i70, Value.slice o71 n72 n73, Value.slice o74 n75 n76, Value.slice o77 n78 n79, Value.int IntKind.i64 0, Value.bool false, Value.int IntKind.i64 (-1), Value.slice none 0 0] h81 → Q (some (Addr.mk n80 0 none)) 0 h81) → J38 [SV.dv (DV.one (Value.int IntKind.i64 i39))] h40) → J38 [SV.dv (DV.one (Value.int IntKind.i64 0))] h37) h28) → J26 [SV.dv (DV.addr p27)] h28) → ∃ (i87 : Int), hc h25 (Addr.mk n14 0 none) = some (Value.int IntKind.i64 i87) ∧ ∃ (i88 : Int), hc h25 ((Addr.mk n14 0 none).add 1) = some (Value.int IntKind.i64 i88) ∧ ∃ (i89 : Int), hc h25 ((Addr.mk n14 0 none).add 2) = some (Value.int IntKind.i64 i89) ∧ ∃ (i90 : Int), hc h25 ((Addr.mk n14 0 none).add 3) = some (Value.int IntKind.i64 i90) ∧ ∃ (i91 : Int), hc h25 ((Addr.mk n14 0 none).add 4) = some (Value.int IntKind.i64 i91) ∧ ∃ (i92 : Int), hc h25 ((Addr.mk n14 0 none).add 5) = some (Value.int IntKind.i64 i92) ∧ ∃ (i93 : Int), hc h25 ((Addr.mk n14 0 none).add 6) = some (Value.int IntKind.i64 i93) ∧ ∃ (i94 : Int), hc h25 (Addr.mk n14 0 none) = some (Value.int IntKind.i64 i94) ∧ ∃ (i95 : Int), hc h25 ((Addr.mk n14 0 none).add 1) = some (Value.int IntKind.i64 i95) ∧ ∃ (i96 : Int), hc h25 ((Addr.mk n14 0 none).add 2) = some (Value.int IntKind.i64 i96) ∧ ∃ (i97 : Int), hc h25 ((Addr.mk n14 0 none).add 3) = some (Value.int IntKind.i64 i97) ∧ ∃ (i98 : Int), hc h25 ((Addr.mk n14 0 none).add 4) = some (Value.int IntKind.i64 i98) ∧ ∃ (i99 : Int), hc h25 ((Addr.mk n14 0 none).add 5) = some (Value.int IntKind.i64 i99) ∧ ∃ (i100 : Int), hc h25 ((Addr.mk n14 0 none).add 6) = some (Value.int IntKind.i64 i100) ∧ c_chip_pages i87 i88 i89 i90 i91 i92 i93 (fun (i101 : Int) (h102 : H) => hcs h102 (Addr.mk n14 0 none) [Value.int IntKind.i64 i94, Value.int IntKind.i64 i95, Value.int IntKind.i64 i96, Value.int IntKind.i64 i97, Value.int IntKind.i64 i98, Value.int IntKind.i64 i99, Value.int IntKind.i64 i100] ∧ (0 ≤ i101 ∧ i101 ≤ i101 ∧ (↑8 : Int) * i101 ≤ 2 ^ 48 ∧ i101 ≤ 2 ^ 48 ∧ ∀ (n103 : Nat) (h104 : H), hnew h102 n103 (List.replicate i101.toNat [Value.int IntKind.i64 0]).flatten h104 → hcs h104 (Addr.mk n14 0 none) [Value.int IntKind.i64 i94, Value.int IntKind.i64 i95, Value.int IntKind.i64 i96, Value.int IntKind.i64 i97, Value.int IntKind.i64 i98, Value.int IntKind.i64 i99, Value.int IntKind.i64 i100] ∧ c_chip_fuses i94 i95 i96 i97 i98 i99 i100 (fun (i106 : Int) (h107 : H) => (0 ≤ i106 ∧ i106 ≤ i106 ∧ (↑1 : Int) * i106 ≤ 2 ^ 48 ∧ i106 ≤ 2 ^ 48 ∧ ∀ (n108 : Nat) (h109 : H), hnew h107 n108 (List.replicate i106.toNat [Value.bool false]).flatten h109 → ∀ (n111 : Nat) (h112 : H), hnew h109 n111 [Value.slice none 0 0, Value.slice none 0 0, Value.slice none 0 0] h112 → hcan h112 (Addr.mk n111 0 none) 3 ∧ ∀ (h114 : H), h114 = hwr h112 (Addr.mk n111 0 none) [Value.slice none 0 0, Value.slice (some (Addr.mk n103 0 none)) i101.toNat i101.toNat, Value.slice (some (Addr.mk n108 0 none)) i106.toNat i106.toNat] → J26 [SV.dv (DV.addr (Addr.mk n111 0 none))] h114) ∧ ∀ (n116 : Nat) (h117 : H), hnew h107 n116 [Value.slice none 0 0, Value.slice none 0 0, Value.slice none 0 0] h117 → 0 ≤ i106 ∧ i106 ≤ i106 ∧ (↑1 : Int) * i106 ≤ 2 ^ 48 ∧ i106 ≤ 2 ^ 48 ∧ ∀ (n119 : Nat) (h120 : H), hnew h117 n119 (List.replicate i106.toNat [Value.bool false]).flatten h120 → hcan h120 (Addr.mk n116 0 none) 3 ∧ ∀ (h122 : H), h122 = hwr h120 (Addr.mk n116 0 none) [Value.slice none 0 0, Value.slice (some (Addr.mk n103 0 none)) i101.toNat i101.toNat, Value.slice (some (Addr.mk n119 0 none)) i106.toNat i106.toNat] → J26 [SV.dv (DV.addr (Addr.mk n116 0 none))] h122) h104 ∧ ∀ (n124 : Nat) (h125 : H), hnew h104 n124 [Value.slice none 0 0, Value.slice none 0 0, Value.slice none 0 0] h125 → hcs h125 (Addr.mk n14 0 none) [Value.int IntKind.i64 i94, Value.int IntKind.i64 i95, Value.int IntKind.i64 i96, Value.int IntKind.i64 i97, Value.int IntKind.i64 i98, Value.int IntKind.i64 i99, Value.int IntKind.i64 i100] ∧ c_chip_fuses i94 i95 i96 i97 i98 i99 i100 (fun (i127 : Int) (h128 : H) => 0 ≤ i127 ∧ i127 ≤ i127 ∧ (↑1 : Int) * i127 ≤ 2 ^ 48 ∧ i127 ≤ 2 ^ 48 ∧ ∀ (n129 : Nat) (h130 : H), hnew h128 n129 (List.replicate i127.toNat [Value.bool false]).flatten h130 → hcan h130 (Addr.mk n124 0 none) 3 ∧ ∀ (h132 : H), h132 = hwr h130 (Addr.mk n124 0 none) [Value.slice none 0 0, Value.slice (some (Addr.mk n103 0 none)) i101.toNat i101.toNat, Value.slice (some (Addr.mk n129 0 none)) i127.toNat i127.toNat] → J26 [SV.dv (DV.addr (Addr.mk n124 0 none))] h132) h125) ∧ c_chip_fuses i94 i95 i96 i97 i98 i99 i100 (fun (i134 : Int) (h135 : H) => (0 ≤ i101 ∧ i101 ≤ i101 ∧ (↑8 : Int) * i101 ≤ 2 ^ 48 ∧ i101 ≤ 2 ^ 48 ∧ ∀ (n136 : Nat) (h137 : H), hnew h135 n136 (List.replicate i101.toNat [Value.int IntKind.i64 0]).flatten h137 → (0 ≤ i134 ∧ i134 ≤ i134 ∧ (↑1 : Int) * i134 ≤ 2 ^ 48 ∧ i134 ≤ 2 ^ 48 ∧ ∀ (n139 : Nat) (h140 : H), hnew h137 n139 (List.replicate i134.toNat [Value.bool false]).flatten h140 → ∀ (n142 : Nat) (h143 : H), hnew h140 n142 [Value.slice none 0 0, Value.slice none 0 0, Value.slice none 0 0] h143 → hcan h143 (Addr.mk n142 0 none) 3 ∧ ∀ (h145 : H), h145 = hwr h143 (Addr.mk n142 0 none) [Value.slice none 0 0, Value.slice (some (Addr.mk n136 0 none)) i101.toNat i101.toNat, Value.slice (some (Addr.mk n139 0 none)) i134.toNat i134.toNat] → J26 [SV.dv (DV.addr (Addr.mk n142 0 none))] h145) ∧ ∀ (n147 : Nat) (h148 : H), hnew h137 n147 [Value.slice none 0 0, Value.slice none 0 0, Value.slice none 0 0] h148 → 0 ≤ i134 ∧ i134 ≤ i134 ∧ (↑1 : Int) * i134 ≤ 2 ^ 48 ∧ i134 ≤ 2 ^ 48 ∧ ∀ (n150 : Nat) (h151 : H), hnew h148 n150 (List.replicate i134.toNat [Value.bool false]).flatten h151 → hcan h151 (Addr.mk n147 0 none) 3 ∧ ∀ (h153 : H), h153 = hwr h151 (Addr.mk n147 0 none) [Value.slice none 0 0, Value.slice (some (Addr.mk n136 0 none)) i101.toNat i101.toNat, Value.slice (some (Addr.mk n150 0 none)) i134.toNat i134.toNat] → J26 [SV.dv (DV.addr (Addr.mk n147 0 none))] h153) ∧ (0 ≤ i134 ∧ i134 ≤ i134 ∧ (↑1 : Int) * i134 ≤ 2 ^ 48 ∧ i134 ≤ 2 ^ 48 ∧ ∀ (n155 : Nat) (h156 : H), hnew h135 n155 (List.replicate i134.toNat [Value.bool false]).flatten h156 → (0 ≤ i101 ∧ i101 ≤ i101 ∧ (↑8 : Int) * i101 ≤ 2 ^ 48 ∧ i101 ≤ 2 ^ 48 ∧ ∀ (n158 : Nat) (h159 : H), hnew h156 n158 (List.replicate i101.toNat [Value.int IntKind.i64 0]).flatten h159 → ∀ (n161 : Nat) (h162 : H), hnew h159 n161 [Value.slice none 0 0, Value.slice none 0 0, Value.slice none 0 0] h162 → hcan h162 (Addr.mk n161 0 none) 3 ∧ ∀ (h164 : H), h164 = hwr h162 (Addr.mk n161 0 none) [Value.slice none 0 0, Value.slice (some (Addr.mk n158 0 none)) i101.toNat i101.toNat, Value.slice (some (Addr.mk n155 0 none)) i134.toNat i134.toNat] → J26 [SV.dv (DV.addr (Addr.mk n161 0 none))] h164) ∧ ∀ (n166 : Nat) (h167 : H), hnew h156 n166 [Value.slice none 0 0, Value.slice none 0 0, Value.slice none 0 0] h167 → 0 ≤ i101 ∧ i101 ≤ i101 ∧ (↑8 : Int) * i101 ≤ 2 ^ 48 ∧ i101 ≤ 2 ^ 48 ∧ ∀ (n169 : Nat) (h170 : H), hnew h167 n169 (List.replicate i101.toNat [Value.int IntKind.i64 0]).flatten h170 → hcan h170 (Addr.mk n166 0 none) 3 ∧ ∀ (h172 : H), h172 = hwr h170 (Addr.mk n166 0 none) [Value.slice none 0 0, Value.slice (some (Addr.mk n169 0 none)) i101.toNat i101.toNat, Value.slice (some (Addr.mk n155 0 none)) i134.toNat i134.toNat] → J26 [SV.dv (DV.addr (Addr.mk n166 0 none))] h172) ∧ ∀ (n174 : Nat) (h175 : H), hnew h135 n174 [Value.slice none 0 0, Value.slice none 0 0, Value.slice none 0 0] h175 → (0 ≤ i101 ∧ i101 ≤ i101 ∧ (↑8 : Int) * i101 ≤ 2 ^ 48 ∧ i101 ≤ 2 ^ 48 ∧ ∀ (n177 : Nat) (h178 : H), hnew h175 n177 (List.replicate i101.toNat [Value.int IntKind.i64 0]).flatten h178 → 0 ≤ i134 ∧ i134 ≤ i134 ∧ (↑1 : Int) * i134 ≤ 2 ^ 48 ∧ i134 ≤ 2 ^ 48 ∧ ∀ (n180 : Nat) (h181 : H), hnew h178 n180 (List.replicate i134.toNat [Value.bool false]).flatten h181 → hcan h181 (Addr.mk n174 0 none) 3 ∧ ∀ (h183 : H), h183 = hwr h181 (Addr.mk n174 0 none) [Value.slice none 0 0, Value.slice (some (Addr.mk n177 0 none)) i101.toNat i101.toNat, Value.slice (some (Addr.mk n180 0 none)) i134.toNat i134.toNat] → J26 [SV.dv (DV.addr (Addr.mk n174 0 none))] h183) ∧ 0 ≤ i134 ∧ i134 ≤ i134 ∧ (↑1 : Int) * i134 ≤ 2 ^ 48 ∧ i134 ≤ 2 ^ 48 ∧ ∀ (n185 : Nat) (h186 : H), hnew h175 n185 (List.replicate i134.toNat [Value.bool false]).flatten h186 → 0 ≤ i101 ∧ i101 ≤ i101 ∧ (↑8 : Int) * i101 ≤ 2 ^ 48 ∧ i101 ≤ 2 ^ 48 ∧ ∀ (n188 : Nat) (h189 : H), hnew h186 n188 (List.replicate i101.toNat [Value.int IntKind.i64 0]).flatten h189 → hcan h189 (Addr.mk n174 0 none) 3 ∧ ∀ (h191 : H), h191 = hwr h189 (Addr.mk n174 0 none) [Value.slice none 0 0, Value.slice (some (Addr.mk n188 0 none)) i101.toNat i101.toNat, Value.slice (some (Addr.mk n185 0 none)) i134.toNat i134.toNat] → J26 [SV.dv (DV.addr (Addr.mk n174 0 none))] h191) h102 ∧ ∀ (n193 : Nat) (h194 : H), hnew h102 n193 [Value.slice none 0 0, Value.slice none 0 0, Value.slice none 0 0] h194 → hcs h194 (Addr.mk n14 0 none) [Value.int IntKind.i64 i94, Value.int IntKind.i64 i95, Value.int IntKind.i64 i96, Value.int IntKind.i64 i97, Value.int IntKind.i64 i98, Value.int IntKind.i64 i99, Value.int IntKind.i64 i100] ∧ (0 ≤ i101 ∧ i101 ≤ i101 ∧ (↑8 : Int) * i101 ≤ 2 ^ 48 ∧ i101 ≤ 2 ^ 48 ∧ ∀ (n196 : Nat) (h197 : H), hnew h194 n196 (List.replicate i101.toNat [Value.int IntKind.i64 0]).flatten h197 → hcs h197 (Addr.mk n14 0 none) [Value.int IntKind.i64 i94, Value.int IntKind.i64 i95, Value.int IntKind.i64 i96, Value.int IntKind.i64 i97, Value.int IntKind.i64 i98, Value.int IntKind.i64 i99, Value.int IntKind.i64 i100] ∧ c_chip_fuses i94 i95 i96 i97 i98 i99 i100 (fun (i199 : Int) (h200 : H) => 0 ≤ i199 ∧ i199 ≤ i199 ∧ (↑1 : Int) * i199 ≤ 2 ^ 48 ∧ i199 ≤ 2 ^ 48 ∧ ∀ (n201 : Nat) (h202 : H), hnew h200 n201 (List.replicate i199.toNat [Value.bool false]).flatten h202 → hcan h202 (Addr.mk n193 0 none) 3 ∧ ∀ (h204 : H), h204 = hwr h202 (Addr.mk n193 0 none) [Value.slice none 0 0, Value.slice (some (Addr.mk n196 0 none)) i101.toNat i101.toNat, Value.slice (some (Addr.mk n201 0 none)) i199.toNat i199.toNat] → J26 [SV.dv (DV.addr (Addr.mk n193 0 none))] h204) h197) ∧ c_chip_fuses i94 i95 i96 i97 i98 i99 i100 (fun (i206 : Int) (h207 : H) => (0 ≤ i101 ∧ i101 ≤ i101 ∧ (↑8 : Int) * i101 ≤ 2 ^ 48 ∧ i101 ≤ 2 ^ 48 ∧ ∀ (n208 : Nat) (h209 : H), hnew h207 n208 (List.replicate i101.toNat [Value.int IntKind.i64 0]).flatten h209 → 0 ≤ i206 ∧ i206 ≤ i206 ∧ (↑1 : Int) * i206 ≤ 2 ^ 48 ∧ i206 ≤ 2 ^ 48 ∧ ∀ (n211 : Nat) (h212 : H), hnew h209 n211 (List.replicate i206.toNat [Value.bool false]).flatten h212 → hcan h212 (Addr.mk n193 0 none) 3 ∧ ∀ (h214 : H), h214 = hwr h212 (Addr.mk n193 0 none) [Value.slice none 0 0, Value.slice (some (Addr.mk n208 0 none)) i101.toNat i101.toNat, Value.slice (some (Addr.mk n211 0 none)) i206.toNat i206.toNat] → J26 [SV.dv (DV.addr (Addr.mk n193 0 none))] h214) ∧ 0 ≤ i206 ∧ i206 ≤ i206 ∧ (↑1 : Int) * i206 ≤ 2 ^ 48 ∧ i206 ≤ 2 ^ 48 ∧ ∀ (n216 : Nat) (h217 : H), hnew h207 n216 (List.replicate i206.toNat [Value.bool false]).flatten h217 → 0 ≤ i101 ∧ i101 ≤ i101 ∧ (↑8 : Int) * i101 ≤ 2 ^ 48 ∧ i101 ≤ 2 ^ 48 ∧ ∀ (n219 : Nat) (h220 : H), hnew h217 n219 (List.replicate i101.toNat [Value.int IntKind.i64 0]).flatten h220 → hcan h220 (Addr.mk n193 0 none) 3 ∧ ∀ (h222 : H), h222 = hwr h220 (Addr.mk n193 0 none) [Value.slice none 0 0, Value.slice (some (Addr.mk n219 0 none)) i101.toNat i101.toNat, Value.slice (some (Addr.mk n216 0 none)) i206.toNat i206.toNat] → J26 [SV.dv (DV.addr (Addr.mk n193 0 none))] h222) h194) h25 ∧ ∀ (n224 : Nat) (h225 : H), hnew h25 n224 [Value.slice none 0 0, Value.slice none 0 0, Value.slice none 0 0] h225 → hcs h225 (Addr.mk n14 0 none) [Value.int IntKind.i64 i94, Value.int IntKind.i64 i95, Value.int IntKind.i64 i96, Value.int IntKind.i64 i97, Value.int IntKind.i64 i98, Value.int IntKind.i64 i99, Value.int IntKind.i64 i100] ∧ hcs h225 (Addr.mk n14 0 none) [Value.int IntKind.i64 i87, Value.int IntKind.i64 i88, Value.int IntKind.i64 i89, Value.int IntKind.i64 i90, Value.int IntKind.i64 i91, Value.int IntKind.i64 i92, Value.int IntKind.i64 i93] ∧ c_chip_pages i87 i88 i89 i90 i91 i92 i93 (fun (i227 : Int) (h228 : H) => hcs h228 (Addr.mk n14 0 none) [Value.int IntKind.i64 i94, Value.int IntKind.i64 i95, Value.int IntKind.i64 i96, Value.int IntKind.i64 i97, Value.int IntKind.i64 i98, Value.int IntKind.i64 i99, Value.int IntKind.i64 i100] ∧ (0 ≤ i227 ∧ i227 ≤ i227 ∧ (↑8 : Int) * i227 ≤ 2 ^ 48 ∧ i227 ≤ 2 ^ 48 ∧ ∀ (n229 : Nat) (h230 : H), hnew h228 n229 (List.replicate i227.toNat [Value.int IntKind.i64 0]).flatten h230 → hcs h230 (Addr.mk n14 0 none) [Value.int IntKind.i64 i94, Value.int IntKind.i64 i95, Value.int IntKind.i64 i96, Value.int IntKind.i64 i97, Value.int IntKind.i64 i98, Value.int IntKind.i64 i99, Value.int IntKind.i64 i100] ∧ c_chip_fuses i94 i95 i96 i97 i98 i99 i100 (fun (i232 : Int) (h233 : H) => 0 ≤ i232 ∧ i232 ≤ i232 ∧ (↑1 : Int) * i232 ≤ 2 ^ 48 ∧ i232 ≤ 2 ^ 48 ∧ ∀ (n234 : Nat) (h235 : H), hnew h233 n234 (List.replicate i232.toNat [Value.bool false]).flatten h235 → hcan h235 (Addr.mk n224 0 none) 3 ∧ ∀ (h237 : H), h237 = hwr h235 (Addr.mk n224 0 none) [Value.slice none 0 0, Value.slice (some (Addr.mk n229 0 none)) i227.toNat i227.toNat, Value.slice (some (Addr.mk n234 0 none)) i232.toNat i232.toNat] → J26 [SV.dv (DV.addr (Addr.mk n224 0 none))] h237) h230) ∧ c_chip_fuses i94 i95 i96 i97 i98 i99 i100 (fun (i239 : Int) (h240 : H) => (0 ≤ i227 ∧ i227 ≤ i227 ∧ (↑8 : Int) * i227 ≤ 2 ^ 48 ∧ i227 ≤ 2 ^ 48 ∧ ∀ (n241 : Nat) (h242 : H), hnew h240 n241 (List.replicate i227.toNat [Value.int IntKind.i64 0]).flatten h242 → 0 ≤ i239 ∧ i239 ≤ i239 ∧ (↑1 : Int) * i239 ≤ 2 ^ 48 ∧ i239 ≤ 2 ^ 48 ∧ ∀ (n244 : Nat) (h245 : H), hnew h242 n244 (List.replicate i239.toNat [Value.bool false]).flatten h245 → hcan h245 (Addr.mk n224 0 none) 3 ∧ ∀ (h247 : H), h247 = hwr h245 (Addr.mk n224 0 none) [Value.slice none 0 0, Value.slice (some (Addr.mk n241 0 none)) i227.toNat i227.toNat, Value.slice (some (Addr.mk n244 0 none)) i239.toNat i239.toNat] → J26 [SV.dv (DV.addr (Addr.mk n224 0 none))] h247) ∧ 0 ≤ i239 ∧ i239 ≤ i239 ∧ (↑1 : Int) * i239 ≤ 2 ^ 48 ∧ i239 ≤ 2 ^ 48 ∧ ∀ (n249 : Nat) (h250 : H), hnew h240 n249 (List.replicate i239.toNat [Value.bool false]).flatten h250 → 0 ≤ i227 ∧ i227 ≤ i227 ∧ (↑8 : Int) * i227 ≤ 2 ^ 48 ∧ i227 ≤ 2 ^ 48 ∧ ∀ (n252 : Nat) (h253 : H), hnew h250 n252 (List.replicate i227.toNat [Value.int IntKind.i64 0]).flatten h253 → hcan h253 (Addr.mk n224 0 none) 3 ∧ ∀ (h255 : H), h255 = hwr h253 (Addr.mk n224 0 none) [Value.slice none 0 0, Value.slice (some (Addr.mk n252 0 none)) i227.toNat i227.toNat, Value.slice (some (Addr.mk n249 0 none)) i239.toNat i239.toNat] → J26 [SV.dv (DV.addr (Addr.mk n224 0 none))] h255) h228) h225) h15
theorem E_chip_New (c_chip_May : Int → Int → Int → Int → Int → Int → Int → (Int → H → Prop) → H → Prop) (c_chip_pages : Int → Int → Int → Int → Int → Int → Int → (Int → H → Prop) → H → Prop) (c_chip_fuses : Int → Int → Int → Int → Int → Int → Int → (Int → H → Prop) → H → Prop) (c_slices_Repeat_api_Cell_api_Cell : (Option Addr) → Nat → Nat → Int → ((Option Addr) → Nat → Nat → H → Prop) → H → Prop) (c_chip_blank : ((List Int) → H → Prop) → H → Prop) : ∀ (a0_0 : Int) (a0_1 : Int) (a0_2 : Int) (a0_3 : Int) (a0_4 : Int) (a0_5 : Int) (a0_6 : Int) (Q : (Option Addr) → Int → H → Prop) (h : H), G_chip_New c_chip_May c_chip_pages c_chip_fuses c_slices_Repeat_api_Cell_api_Cell c_chip_blank a0_0 a0_1 a0_2 a0_3 a0_4 a0_5 a0_6 Q h = Dbody PP [(18, W [.ag [.int .i64, .int .i64, .int .i64, .int .i64, .int .i64, .int .i64, .int .i64]] [.int .i64] c_chip_May), (64, W [.ag [.int .i64, .int .i64, .int .i64, .int .i64, .int .i64, .int .i64, .int .i64]] [.int .i64] c_chip_pages), (65, W [.ag [.int .i64, .int .i64, .int .i64, .int .i64, .int .i64, .int .i64, .int .i64]] [.int .i64] c_chip_fuses), (66, W [.slc, .int .i64] [.slc] c_slices_Repeat_api_Cell_api_Cell), (67, W [] [.ag [.row .u8 32]] c_chip_blank)] [(7, [(5, .addr)]), (122, [(20, .sc (.int .i64))])] Try.f16 [.agg [.c (.int .i64 a0_0), .c (.int .i64 a0_1), .c (.int .i64 a0_2), .c (.int .i64 a0_3), .c (.int .i64 a0_4), .c (.int .i64 a0_5), .c (.int .i64 a0_6)]] (decR [.ptr, .int .i64] Q) h := by intros; kernel_rfl
def F_chip_New := G_chip_New F_chip_May F_chip_pages F_chip_fuses F_slices_Repeat_api_Cell_api_Cell F_chip_blank
theorem R_chip_New : RunOk PP 16 (W [.ag [.int .i64, .int .i64, .int .i64, .int .i64, .int .i64, .int .i64, .int .i64]] [.ptr, .int .i64] F_chip_New) := runOk_of (T := [(18, W [.ag [.int .i64, .int .i64, .int .i64, .int .i64, .int .i64, .int .i64, .int .i64]] [.int .i64] F_chip_May), (64, W [.ag [.int .i64, .int .i64, .int .i64, .int .i64, .int .i64, .int .i64, .int .i64]] [.int .i64] F_chip_pages), (65, W [.ag [.int .i64, .int .i64, .int .i64, .int .i64, .int .i64, .int .i64, .int .i64]] [.int .i64] F_chip_fuses), (66, W [.slc, .int .i64] [.slc] F_slices_Repeat_api_Cell_api_Cell), (67, W [] [.ag [.row .u8 32]] F_chip_blank)]) (ann := [(7, [(5, .addr)]), (122, [(20, .sc (.int .i64))])]) (TblOk.cons R_chip_May (TblOk.cons R_chip_pages (TblOk.cons R_chip_fuses (TblOk.cons R_slices_Repeat_api_Cell_api_Cell (TblOk.cons R_chip_blank (TblOk.nil)))))) Try.func16 (by kernel_rfl) (by kernel_rfl) (E_chip_New F_chip_May F_chip_pages F_chip_fuses F_slices_Repeat_api_Cell_api_Cell F_chip_blank)
attribute [irreducible] F_chip_New
def G_chip_Chip_asked (a0 : Addr) (a1 : Int) (a2 : Int) (Q : Int → H → Prop) (h : H) : Prop := ∃ (b5 : Bool), hc h (a0.add 11) = some (Value.bool b5) ∧ if b5 = true then Q 8 h else if ltI a1 0 = true then Q 2 h else if leI a2 a1 = true then Q 2 h else Q 0 h
theorem E_chip_Chip_asked  : ∀ (a0 : Addr) (a1 : Int) (a2 : Int) (Q : Int → H → Prop) (h : H), G_chip_Chip_asked a0 a1 a2 Q h = Dbody PP [] [] Try.f98 [.addr a0, .one (.int .i64 a1), .one (.int .i64 a2)] (decR [.int .i64] Q) h := by intros; kernel_rfl
def F_chip_Chip_asked := G_chip_Chip_asked
theorem R_chip_Chip_asked : RunOk PP 98 (W [.addr, .int .i64, .int .i64] [.int .i64] F_chip_Chip_asked) := runOk_of (T := []) (ann := []) (TblOk.nil) Try.func98 (by kernel_rfl) (by kernel_rfl) (E_chip_Chip_asked)
attribute [irreducible] F_chip_Chip_asked
def G_chip_Chip_asksCell (c_chip_Chip_asked : Addr → Int → Int → (Int → H → Prop) → H → Prop) (a0 : Addr) (a1 : Int) (a2 : Int) (Q : Int → H → Prop) (h : H) : Prop := ∃ (o6 : Option Addr), ∃ (n7 : Nat), ∃ (n8 : Nat), hc h (a0.add 7) = some (Value.slice o6 n7 n8) ∧ c_chip_Chip_asked a0 a1 (↑n7 : Int) (fun (i9 : Int) (h10 : H) => if (i9 != 0) = true then Q i9 h10 else ∃ (i11 : Int), hc h10 a0 = some (Value.int IntKind.i64 i11) ∧ c_chip_Chip_asked a0 a2 i11 (fun (i12 : Int) (h13 : H) => Q i12 h13) h10) h
theorem E_chip_Chip_asksCell (c_chip_Chip_asked : Addr → Int → Int → (Int → H → Prop) → H → Prop) : ∀ (a0 : Addr) (a1 : Int) (a2 : Int) (Q : Int → H → Prop) (h : H), G_chip_Chip_asksCell c_chip_Chip_asked a0 a1 a2 Q h = Dbody PP [(98, W [.addr, .int .i64, .int .i64] [.int .i64] c_chip_Chip_asked)] [] Try.f101 [.addr a0, .one (.int .i64 a1), .one (.int .i64 a2)] (decR [.int .i64] Q) h := by intros; kernel_rfl
def F_chip_Chip_asksCell := G_chip_Chip_asksCell F_chip_Chip_asked
theorem R_chip_Chip_asksCell : RunOk PP 101 (W [.addr, .int .i64, .int .i64] [.int .i64] F_chip_Chip_asksCell) := runOk_of (T := [(98, W [.addr, .int .i64, .int .i64] [.int .i64] F_chip_Chip_asked)]) (ann := []) (TblOk.cons R_chip_Chip_asked (TblOk.nil)) Try.func101 (by kernel_rfl) (by kernel_rfl) (E_chip_Chip_asksCell F_chip_Chip_asked)
attribute [irreducible] F_chip_Chip_asksCell
def G_chip_Chip_Read (c_chip_Chip_asksCell : Addr → Int → Int → (Int → H → Prop) → H → Prop) (a0 : Addr) (a1 : Int) (a2 : Int) (Q : List Int → Int → H → Prop) (h : H) : Prop := ∀ (n6 : Nat) (h7 : H), hnew h n6 (ints IntKind.u8 (zeros 32)) h7 → c_chip_Chip_asksCell a0 a1 a2 (fun (i9 : Int) (h10 : H) => if (i9 != 0) = true then hcan h10 (Addr.mk n6 0 none) 32 ∧ ∀ (h11 : H), h11 = hwr h10 (Addr.mk n6 0 none) (ints IntKind.u8 (zeros 32)) → ∃ (l13 : List Int), l13.length = 32 ∧ hrow h11 (Addr.mk n6 0 none) IntKind.u8 l13 ∧ Q l13 i9 h11 else ∃ (o14 : Option Addr), ∃ (n15 : Nat), ∃ (n16 : Nat), hc h10 (a0.add 7) = some (Value.slice o14 n15 n16) ∧ ∃ (p17 : Addr), o14 = some p17 ∧ 0 ≤ a1 ∧ a1 < (↑n15 : Int) ∧ ∃ (o18 : Option Addr), ∃ (n19 : Nat), ∃ (n20 : Nat), hc h10 (p17.add (a1.toNat * 1)) = some (Value.slice o18 n19 n20) ∧ ∃ (p21 : Addr), o18 = some p21 ∧ 0 ≤ a2 ∧ a2 < (↑n19 : Int) ∧ ∃ (l22 : List Int), l22.length = 32 ∧ hrow h10 (p21.add (a2.toNat * 32)) IntKind.u8 l22 ∧ hcan h10 (Addr.mk n6 0 none) 32 ∧ ∀ (h23 : H), h23 = hwr h10 (Addr.mk n6 0 none) (ints IntKind.u8 l22 ++ []) → ∃ (l25 : List Int), l25.length = 32 ∧ hrow h23 (Addr.mk n6 0 none) IntKind.u8 l25 ∧ Q l25 0 h23) h7
theorem E_chip_Chip_Read (c_chip_Chip_asksCell : Addr → Int → Int → (Int → H → Prop) → H → Prop) : ∀ (a0 : Addr) (a1 : Int) (a2 : Int) (Q : (List Int) → Int → H → Prop) (h : H), G_chip_Chip_Read c_chip_Chip_asksCell a0 a1 a2 Q h = Dbody PP [(101, W [.addr, .int .i64, .int .i64] [.int .i64] c_chip_Chip_asksCell)] [] Try.f62 [.addr a0, .one (.int .i64 a1), .one (.int .i64 a2)] (decR [.ag [.row .u8 32], .int .i64] Q) h := by intros; kernel_rfl
def F_chip_Chip_Read := G_chip_Chip_Read F_chip_Chip_asksCell
theorem R_chip_Chip_Read : RunOk PP 62 (W [.addr, .int .i64, .int .i64] [.ag [.row .u8 32], .int .i64] F_chip_Chip_Read) := runOk_of (T := [(101, W [.addr, .int .i64, .int .i64] [.int .i64] F_chip_Chip_asksCell)]) (ann := []) (TblOk.cons R_chip_Chip_asksCell (TblOk.nil)) Try.func62 (by kernel_rfl) (by kernel_rfl) (E_chip_Chip_Read F_chip_Chip_asksCell)
attribute [irreducible] F_chip_Chip_Read
def G_chip_Chip_Out (a0 : Addr) (Q : Bool → H → Prop) (h : H) : Prop := ∃ (b3 : Bool), hc h (a0.add 11) = some (Value.bool b3) ∧ Q b3 h
theorem E_chip_Chip_Out  : ∀ (a0 : Addr) (Q : Bool → H → Prop) (h : H), G_chip_Chip_Out a0 Q h = Dbody PP [] [] Try.f25 [.addr a0] (decR [.bool] Q) h := by intros; kernel_rfl
def F_chip_Chip_Out := G_chip_Chip_Out
theorem R_chip_Chip_Out : RunOk PP 25 (W [.addr] [.bool] F_chip_Chip_Out) := runOk_of (T := []) (ann := []) (TblOk.nil) Try.func25 (by kernel_rfl) (by kernel_rfl) (E_chip_Chip_Out)
attribute [irreducible] F_chip_Chip_Out
def G_chip_Chip_Config (a0 : Addr) (Q : Int → Int → Int → Int → Int → Int → Int → H → Prop) (h : H) : Prop := ∀ (n3 : Nat) (h4 : H), hnew h n3 [Value.int IntKind.i64 0, Value.int IntKind.i64 0, Value.int IntKind.i64 0, Value.int IntKind.i64 0, Value.int IntKind.i64 0, Value.int IntKind.i64 0, Value.int IntKind.i64 0] h4 → ∃ (i6 : Int), hc h4 a0 = some (Value.int IntKind.i64 i6) ∧ ∃ (i7 : Int), hc h4 (a0.add 1) = some (Value.int IntKind.i64 i7) ∧ ∃ (i8 : Int), hc h4 (a0.add 2) = some (Value.int IntKind.i64 i8) ∧ ∃ (i9 : Int), hc h4 (a0.add 3) = some (Value.int IntKind.i64 i9) ∧ ∃ (i10 : Int), hc h4 (a0.add 4) = some (Value.int IntKind.i64 i10) ∧ ∃ (i11 : Int), hc h4 (a0.add 5) = some (Value.int IntKind.i64 i11) ∧ ∃ (i12 : Int), hc h4 (a0.add 6) = some (Value.int IntKind.i64 i12) ∧ hcan h4 (Addr.mk n3 0 none) 7 ∧ ∀ (h13 : H), h13 = hwr h4 (Addr.mk n3 0 none) [Value.int IntKind.i64 i6, Value.int IntKind.i64 i7, Value.int IntKind.i64 i8, Value.int IntKind.i64 i9, Value.int IntKind.i64 i10, Value.int IntKind.i64 i11, Value.int IntKind.i64 i12] → ∃ (i15 : Int), hc h13 (Addr.mk n3 0 none) = some (Value.int IntKind.i64 i15) ∧ ∃ (i16 : Int), hc h13 ((Addr.mk n3 0 none).add 1) = some (Value.int IntKind.i64 i16) ∧ ∃ (i17 : Int), hc h13 ((Addr.mk n3 0 none).add 2) = some (Value.int IntKind.i64 i17) ∧ ∃ (i18 : Int), hc h13 ((Addr.mk n3 0 none).add 3) = some (Value.int IntKind.i64 i18) ∧ ∃ (i19 : Int), hc h13 ((Addr.mk n3 0 none).add 4) = some (Value.int IntKind.i64 i19) ∧ ∃ (i20 : Int), hc h13 ((Addr.mk n3 0 none).add 5) = some (Value.int IntKind.i64 i20) ∧ ∃ (i21 : Int), hc h13 ((Addr.mk n3 0 none).add 6) = some (Value.int IntKind.i64 i21) ∧ Q i15 i16 i17 i18 i19 i20 i21 h13
theorem E_chip_Chip_Config  : ∀ (a0 : Addr) (Q : Int → Int → Int → Int → Int → Int → Int → H → Prop) (h : H), G_chip_Chip_Config a0 Q h = Dbody PP [] [] Try.f91 [.addr a0] (decR [.ag [.int .i64, .int .i64, .int .i64, .int .i64, .int .i64, .int .i64, .int .i64]] Q) h := by intros; kernel_rfl
def F_chip_Chip_Config := G_chip_Chip_Config
theorem R_chip_Chip_Config : RunOk PP 91 (W [.addr] [.ag [.int .i64, .int .i64, .int .i64, .int .i64, .int .i64, .int .i64, .int .i64]] F_chip_Chip_Config) := runOk_of (T := []) (ann := []) (TblOk.nil) Try.func91 (by kernel_rfl) (by kernel_rfl) (E_chip_Chip_Config)
attribute [irreducible] F_chip_Chip_Config
def G_chip_Chip_Erases (c_chip_Chip_asked : Addr → Int → Int → (Int → H → Prop) → H → Prop) (a0 : Addr) (a1 : Int) (Q : Int → Int → H → Prop) (h : H) : Prop := ∃ (o5 : Option Addr), ∃ (n6 : Nat), ∃ (n7 : Nat), hc h (a0.add 7) = some (Value.slice o5 n6 n7) ∧ c_chip_Chip_asked a0 a1 (↑n6 : Int) (fun (i8 : Int) (h9 : H) => if (i8 != 0) = true then Q 0 i8 h9 else ∃ (o10 : Option Addr), ∃ (n11 : Nat), ∃ (n12 : Nat), hc h9 (a0.add 8) = some (Value.slice o10 n11 n12) ∧ ∃ (p13 : Addr), o10 = some p13 ∧ 0 ≤ a1 ∧ a1 < (↑n11 : Int) ∧ ∃ (i14 : Int), hc h9 (p13.add (a1.toNat * 1)) = some (Value.int IntKind.i64 i14) ∧ Q i14 0 h9) h
theorem E_chip_Chip_Erases (c_chip_Chip_asked : Addr → Int → Int → (Int → H → Prop) → H → Prop) : ∀ (a0 : Addr) (a1 : Int) (Q : Int → Int → H → Prop) (h : H), G_chip_Chip_Erases c_chip_Chip_asked a0 a1 Q h = Dbody PP [(98, W [.addr, .int .i64, .int .i64] [.int .i64] c_chip_Chip_asked)] [] Try.f93 [.addr a0, .one (.int .i64 a1)] (decR [.int .i64, .int .i64] Q) h := by intros; kernel_rfl
def F_chip_Chip_Erases := G_chip_Chip_Erases F_chip_Chip_asked
theorem R_chip_Chip_Erases : RunOk PP 93 (W [.addr, .int .i64] [.int .i64, .int .i64] F_chip_Chip_Erases) := runOk_of (T := [(98, W [.addr, .int .i64, .int .i64] [.int .i64] F_chip_Chip_asked)]) (ann := []) (TblOk.cons R_chip_Chip_asked (TblOk.nil)) Try.func93 (by kernel_rfl) (by kernel_rfl) (E_chip_Chip_Erases F_chip_Chip_asked)
attribute [irreducible] F_chip_Chip_Erases
def G_page_Info_lay (a0 : Addr) (a1 : Int) (a2_0 : Int) (a2_1 : Int) (a2_2 : Int) (Q : H → Prop) (h : H) : Prop := ∀ (n7 : Nat) (h8 : H), hnew h n7 [Value.int IntKind.i64 a2_0, Value.int IntKind.i64 a2_1, Value.int IntKind.i64 a2_2] h8 → ∀ (J10 : List SV → H → Prop), (∀ (h11 : H), (∃ (i12 : Int), hc h11 (Addr.mk n7 0 none) = some (Value.int IntKind.i64 i12) ∧ if (i12 == 3) = true then ∃ (i13 : Int), hc h11 (a0.add 12) = some (Value.int IntKind.i64 i13) ∧ hcan h11 (a0.add 12) 1 ∧ ∀ (h14 : H), h14 = hwr h11 (a0.add 12) [Value.int IntKind.i64 (IntKind.i64.wrap (i13 + 1))] → Q h14 else ∀ (J16 : List SV → H → Prop), (∀ (b17 : Bool) (h18 : H), (if b17 = true then ∃ (i19 : Int), hc h18 ((Addr.mk n7 0 none).add 2) = some (Value.int IntKind.i64 i19) ∧ hcan h18 a0 1 ∧ ∀ (h20 : H), h20 = hwr h18 a0 [Value.int IntKind.i64 i19] → Q h20 else ∃ (i22 : Int), hc h18 (Addr.mk n7 0 none) = some (Value.int IntKind.i64 i22) ∧ if (i22 == 2) = true then if ltI 0 a1 = true then ∃ (i23 : Int), hc h18 ((Addr.mk n7 0 none).add 1) = some (Value.int IntKind.i64 i23) ∧ ∃ (i24 : Int), hc h18 ((Addr.mk n7 0 none).add 1) = some (Value.int IntKind.i64 i24) ∧ 0 ≤ i24 ∧ i24 < (↑9 : Int) ∧ ∃ (i25 : Int), hc h18 ((a0.add 1).add (i24.toNat * 1)) = some (Value.int IntKind.i64 i25) ∧ ∃ (i26 : Int), hc h18 ((Addr.mk n7 0 none).add 2) = some (Value.int IntKind.i64 i26) ∧ 0 ≤ i23 ∧ i23 < (↑9 : Int) ∧ hcan h18 ((a0.add 1).add (i23.toNat * 1)) 1 ∧ ∀ (h27 : H), h27 = hwr h18 ((a0.add 1).add (i23.toNat * 1)) [Value.int IntKind.i64 (if i26 > i25 then i26 else i25)] → Q h27 else Q h18 else Q h18) → J16 [SV.dv (DV.one (Value.bool b17))] h18) → ∃ (i31 : Int), hc h11 (Addr.mk n7 0 none) = some (Value.int IntKind.i64 i31) ∧ if (i31 == 1) = true then J16 [SV.dv (DV.one (Value.bool (a1 == 0)))] h11 else J16 [SV.dv (DV.one (Value.bool false))] h11) → J10 [] h11) → ∃ (i34 : Int), hc h8 (Addr.mk n7 0 none) = some (Value.int IntKind.i64 i34) ∧ if (i34 != 0) = true then hcan h8 (a0.add 10) 1 ∧ ∀ (h35 : H), h35 = hwr h8 (a0.add 10) [Value.int IntKind.i64 (IntKind.i64.wrap (a1 + 1))] → J10 [] h35 else J10 [] h8
theorem E_page_Info_lay  : ∀ (a0 : Addr) (a1 : Int) (a2_0 : Int) (a2_1 : Int) (a2_2 : Int) (Q : H → Prop) (h : H), G_page_Info_lay a0 a1 a2_0 a2_1 a2_2 Q h = Dbody PP [] [(3, []), (59, [(25, .sc (.bool))])] Try.f94 [.addr a0, .one (.int .i64 a1), .agg [.c (.int .i64 a2_0), .c (.int .i64 a2_1), .c (.int .i64 a2_2)]] (decR [] Q) h := by intros; kernel_rfl
def F_page_Info_lay := G_page_Info_lay
theorem R_page_Info_lay : RunOk PP 94 (W [.addr, .int .i64, .ag [.int .i64, .int .i64, .int .i64]] [] F_page_Info_lay) := runOk_of (T := []) (ann := [(3, []), (59, [(25, .sc (.bool))])]) (TblOk.nil) Try.func94 (by kernel_rfl) (by kernel_rfl) (E_page_Info_lay)
attribute [irreducible] F_page_Info_lay
def G_cell_put (a0p : Option Addr) (a0l : Nat) (a0c : Nat) (a1 : Int) (Q : H → Prop) (h : H) : Prop := ∀ (J6 : List SV → H → Prop), (∀ (i7 : Int) (h8 : H), (if ltI i7 (↑a0l : Int) = true then 0 ≤ IntKind.i64.wrap (8 * i7) ∧ ∃ (p9 : Addr), a0p = some p9 ∧ 0 ≤ i7 ∧ i7 < (↑a0l : Int) ∧ hcan h8 (p9.add (i7.toNat * 1)) 1 ∧ ∀ (h10 : H), h10 = hwr h8 (p9.add (i7.toNat * 1)) [Value.int IntKind.u8 (IntKind.u8.wrap (a1.fdiv (2 ^ min (IntKind.i64.wrap (8 * i7)).toNat 64)))] → J6 [SV.dv (DV.one (Value.int IntKind.i64 (IntKind.i64.wrap (i7 + 1))))] h10 else Q h8) → J6 [SV.dv (DV.one (Value.int IntKind.i64 i7))] h8) → J6 [SV.dv (DV.one (Value.int IntKind.i64 0))] h
theorem E_cell_put  : ∀ (a0p : Option Addr) (a0l : Nat) (a0c : Nat) (a1 : Int) (Q : H → Prop) (h : H), G_cell_put a0p a0l a0c a1 Q h = Dbody PP [] [(6, [(7, .sc (.int .i64))])] Try.f147 [.one (.slice a0p a0l a0c), .one (.int .u64 a1)] (decR [] Q) h := by intros; kernel_rfl
def F_cell_put := G_cell_put
theorem R_cell_put : RunOk PP 147 (W [.slc, .int .u64] [] F_cell_put) := runOk_of (T := []) (ann := [(6, [(7, .sc (.int .i64))])]) (TblOk.nil) Try.func147 (by kernel_rfl) (by kernel_rfl) (E_cell_put)
attribute [irreducible] F_cell_put
def G_crc_New (Q : Option Addr → H → Prop) (h : H) : Prop := ∀ (n2 : Nat) (h3 : H), hnew h n2 [Value.int IntKind.u32 0] h3 → Q (some (Addr.mk n2 0 none)) h3
theorem E_crc_New  : ∀ (Q : (Option Addr) → H → Prop) (h : H), G_crc_New Q h = Dbody PP [] [] Try.f170 [] (decR [.ptr] Q) h := by intros; kernel_rfl
def F_crc_New := G_crc_New
theorem R_crc_New : RunOk PP 170 (W [] [.ptr] F_crc_New) := runOk_of (T := []) (ann := []) (TblOk.nil) Try.func170 (by kernel_rfl) (by kernel_rfl) (E_crc_New)
attribute [irreducible] F_crc_New
def G_crc_eight (a0 : Int) (Q : Int → H → Prop) (h : H) : Prop := ∀ (J3 : List SV → H → Prop), (∀ (i4 i5 : Int) (h6 : H), (if ltI i5 8 = true then (0 : Int) ≤ 1 ∧ if (bits BinOp.and IntKind.u32 i4 1 == 1) = true then ∀ (i7 : Int), i7 = 3988292384 → J3 [SV.dv (DV.one (Value.int IntKind.u32 (bits BinOp.xor IntKind.u32 (i4.fdiv (2 ^ 1)) i7))), SV.dv (DV.one (Value.int IntKind.i64 (IntKind.i64.wrap (i5 + 1))))] h6 else J3 [SV.dv (DV.one (Value.int IntKind.u32 (i4.fdiv (2 ^ 1)))), SV.dv (DV.one (Value.int IntKind.i64 (IntKind.i64.wrap (i5 + 1))))] h6 else Q i4 h6) → J3 [SV.dv (DV.one (Value.int IntKind.u32 i4)), SV.dv (DV.one (Value.int IntKind.i64 i5))] h6) → J3 [SV.dv (DV.one (Value.int IntKind.u32 (IntKind.u32.wrap a0))), SV.dv (DV.one (Value.int IntKind.i64 0))] h
theorem E_crc_eight  : ∀ (a0 : Int) (Q : Int → H → Prop) (h : H), G_crc_eight a0 Q h = Dbody PP [] [(58, [(3, .sc (.int .u32)), (7, .sc (.int .i64))])] Try.f180 [.one (.int .u8 a0)] (decR [.int .u32] Q) h := by intros; kernel_rfl
def F_crc_eight := G_crc_eight
theorem R_crc_eight : RunOk PP 180 (W [.int .u8] [.int .u32] F_crc_eight) := runOk_of (T := []) (ann := [(58, [(3, .sc (.int .u32)), (7, .sc (.int .i64))])]) (TblOk.nil) Try.func180 (by kernel_rfl) (by kernel_rfl) (E_crc_eight)
attribute [irreducible] F_crc_eight
def G_crc_Sum_Write (c_crc_eight : Int → (Int → H → Prop) → H → Prop) (a0 : Addr) (a1p : Option Addr) (a1l : Nat) (a1c : Nat) (Q : H → Prop) (h : H) : Prop := ∃ (i7 : Int), hc h a0 = some (Value.int IntKind.u32 i7) ∧ ∀ (J8 : List SV → H → Prop), (∀ (i9 i10 : Int) (h11 : H), (if ltI i10 (↑a1l : Int) = true then ∃ (p12 : Addr), a1p = some p12 ∧ 0 ≤ i10 ∧ i10 < (↑a1l : Int) ∧ ∃ (i13 : Int), hc h11 (p12.add (i10.toNat * 1)) = some (Value.int IntKind.u8 i13) ∧ c_crc_eight (bits BinOp.xor IntKind.u8 (IntKind.u8.wrap i9) i13) (fun (i14 : Int) (h15 : H) => (0 : Int) ≤ 8 ∧ J8 [SV.dv (DV.one (Value.int IntKind.u32 (bits BinOp.xor IntKind.u32 i14 (i9.fdiv (2 ^ 8))))), SV.dv (DV.one (Value.int IntKind.i64 (IntKind.i64.wrap (i10 + 1))))] h15) h11 else hcan h11 a0 1 ∧ ∀ (h16 : H), h16 = hwr h11 a0 [Value.int IntKind.u32 (bits BinOp.xor IntKind.u32 (if IntKind.u32.signed = true then -1 else IntKind.u32.max) i9)] → Q h16) → J8 [SV.dv (DV.one (Value.int IntKind.u32 i9)), SV.dv (DV.one (Value.int IntKind.i64 i10))] h11) → J8 [SV.dv (DV.one (Value.int IntKind.u32 (bits BinOp.xor IntKind.u32 (if IntKind.u32.signed = true then -1 else IntKind.u32.max) i7))), SV.dv (DV.one (Value.int IntKind.i64 0))] h
theorem E_crc_Sum_Write (c_crc_eight : Int → (Int → H → Prop) → H → Prop) : ∀ (a0 : Addr) (a1p : Option Addr) (a1l : Nat) (a1c : Nat) (Q : H → Prop) (h : H), G_crc_Sum_Write c_crc_eight a0 a1p a1l a1c Q h = Dbody PP [(180, W [.int .u8] [.int .u32] c_crc_eight)] [(26, [(4, .sc (.int .u32)), (14, .sc (.int .i64))])] Try.f171 [.addr a0, .one (.slice a1p a1l a1c)] (decR [] Q) h := by intros; kernel_rfl
def F_crc_Sum_Write := G_crc_Sum_Write F_crc_eight
theorem R_crc_Sum_Write : RunOk PP 171 (W [.addr, .slc] [] F_crc_Sum_Write) := runOk_of (T := [(180, W [.int .u8] [.int .u32] F_crc_eight)]) (ann := [(26, [(4, .sc (.int .u32)), (14, .sc (.int .i64))])]) (TblOk.cons R_crc_eight (TblOk.nil)) Try.func171 (by kernel_rfl) (by kernel_rfl) (E_crc_Sum_Write F_crc_eight)
attribute [irreducible] F_crc_Sum_Write
def G_crc_Sum_Sum (a0 : Addr) (Q : Int → H → Prop) (h : H) : Prop := ∃ (i3 : Int), hc h a0 = some (Value.int IntKind.u32 i3) ∧ Q i3 h
theorem E_crc_Sum_Sum  : ∀ (a0 : Addr) (Q : Int → H → Prop) (h : H), G_crc_Sum_Sum a0 Q h = Dbody PP [] [] Try.f172 [.addr a0] (decR [.int .u32] Q) h := by intros; kernel_rfl
def F_crc_Sum_Sum := G_crc_Sum_Sum
theorem R_crc_Sum_Sum : RunOk PP 172 (W [.addr] [.int .u32] F_crc_Sum_Sum) := runOk_of (T := []) (ann := []) (TblOk.nil) Try.func172 (by kernel_rfl) (by kernel_rfl) (E_crc_Sum_Sum)
attribute [irreducible] F_crc_Sum_Sum
def G_crc_Of (c_crc_New : (Option Addr → H → Prop) → H → Prop) (c_crc_Sum_Write : Addr → Option Addr → Nat → Nat → (H → Prop) → H → Prop) (c_crc_Sum_Sum : Addr → (Int → H → Prop) → H → Prop) (a0p : Option Addr) (a0l : Nat) (a0c : Nat) (Q : Int → H → Prop) (h : H) : Prop := c_crc_New (fun (o8 : Option Addr) (h9 : H) => ∃ (p10 : Addr), o8 = some p10 ∧ c_crc_Sum_Write p10 a0p a0l a0c (fun (h11 : H) => ∃ (p12 : Addr), o8 = some p12 ∧ c_crc_Sum_Sum p12 (fun (i13 : Int) (h14 : H) => Q i13 h14) h11) h9) h
theorem E_crc_Of (c_crc_New : ((Option Addr) → H → Prop) → H → Prop) (c_crc_Sum_Write : Addr → (Option Addr) → Nat → Nat → (H → Prop) → H → Prop) (c_crc_Sum_Sum : Addr → (Int → H → Prop) → H → Prop) : ∀ (a0p : Option Addr) (a0l : Nat) (a0c : Nat) (Q : Int → H → Prop) (h : H), G_crc_Of c_crc_New c_crc_Sum_Write c_crc_Sum_Sum a0p a0l a0c Q h = Dbody PP [(170, W [] [.ptr] c_crc_New), (171, W [.addr, .slc] [] c_crc_Sum_Write), (172, W [.addr] [.int .u32] c_crc_Sum_Sum)] [] Try.f148 [.one (.slice a0p a0l a0c)] (decR [.int .u32] Q) h := by intros; kernel_rfl
def F_crc_Of := G_crc_Of F_crc_New F_crc_Sum_Write F_crc_Sum_Sum
theorem R_crc_Of : RunOk PP 148 (W [.slc] [.int .u32] F_crc_Of) := runOk_of (T := [(170, W [] [.ptr] F_crc_New), (171, W [.addr, .slc] [] F_crc_Sum_Write), (172, W [.addr] [.int .u32] F_crc_Sum_Sum)]) (ann := []) (TblOk.cons R_crc_New (TblOk.cons R_crc_Sum_Write (TblOk.cons R_crc_Sum_Sum (TblOk.nil)))) Try.func148 (by kernel_rfl) (by kernel_rfl) (E_crc_Of F_crc_New F_crc_Sum_Write F_crc_Sum_Sum)
attribute [irreducible] F_crc_Of
def G_rail_halves (a0p : Option Addr) (a0l : Nat) (a0c : Nat) (Q : Option Addr → Nat → Nat → Option Addr → Nat → Nat → H → Prop) (h : H) : Prop := (2 : Int) ≠ 0 ∧ 0 ≤ IntKind.i64.wrap ((↑a0l : Int).tdiv 2) ∧ IntKind.i64.wrap ((↑a0l : Int).tdiv 2) ≤ IntKind.i64.wrap ((↑a0l : Int).tdiv 2) ∧ IntKind.i64.wrap ((↑a0l : Int).tdiv 2) ≤ (↑a0c : Int) ∧ 0 ≤ IntKind.i64.wrap ((↑a0l : Int).tdiv 2) ∧ IntKind.i64.wrap ((↑a0l : Int).tdiv 2) ≤ IntKind.i64.wrap (2 * IntKind.i64.wrap ((↑a0l : Int).tdiv 2)) ∧ IntKind.i64.wrap (2 * IntKind.i64.wrap ((↑a0l : Int).tdiv 2)) ≤ IntKind.i64.wrap (2 * IntKind.i64.wrap ((↑a0l : Int).tdiv 2)) ∧ IntKind.i64.wrap (2 * IntKind.i64.wrap ((↑a0l : Int).tdiv 2)) ≤ (↑a0c : Int) ∧ Q (subAddr a0p 0 (IntKind.i64.wrap ((↑a0l : Int).tdiv 2)).toNat 1) ((IntKind.i64.wrap ((↑a0l : Int).tdiv 2)).toNat - 0) ((IntKind.i64.wrap ((↑a0l : Int).tdiv 2)).toNat - 0) (subAddr a0p (IntKind.i64.wrap ((↑a0l : Int).tdiv 2)).toNat (IntKind.i64.wrap (2 * IntKind.i64.wrap ((↑a0l : Int).tdiv 2))).toNat 1) ((IntKind.i64.wrap (2 * IntKind.i64.wrap ((↑a0l : Int).tdiv 2))).toNat - (IntKind.i64.wrap ((↑a0l : Int).tdiv 2)).toNat) ((IntKind.i64.wrap (2 * IntKind.i64.wrap ((↑a0l : Int).tdiv 2))).toNat - (IntKind.i64.wrap ((↑a0l : Int).tdiv 2)).toNat) h
theorem E_rail_halves  : ∀ (a0p : Option Addr) (a0l : Nat) (a0c : Nat) (Q : (Option Addr) → Nat → Nat → (Option Addr) → Nat → Nat → H → Prop) (h : H), G_rail_halves a0p a0l a0c Q h = Dbody PP [] [] Try.f173 [.one (.slice a0p a0l a0c)] (decR [.slc, .slc] Q) h := by intros; kernel_rfl
def F_rail_halves := G_rail_halves
theorem R_rail_halves : RunOk PP 173 (W [.slc] [.slc, .slc] F_rail_halves) := runOk_of (T := []) (ann := []) (TblOk.nil) Try.func173 (by kernel_rfl) (by kernel_rfl) (E_rail_halves)
attribute [irreducible] F_rail_halves
end Go.Proofs.Ytamfkofcpoglnaa
end

/- Denotations of functions of the program, printed by a program of ours, and that they are the model's. -/
section
set_option linter.unusedVariables false
set_option maxRecDepth 100000
namespace Go.Proofs.Ytamfkofcpoglnaa
open Go Go.Vc
def G_rail_Put (c_rail_halves : Option Addr → Nat → Nat → (Option Addr → Nat → Nat → Option Addr → Nat → Nat → H → Prop) → H → Prop) (a0p : Option Addr) (a0l : Nat) (a0c : Nat) (Q : Option Addr → Nat → Nat → H → Prop) (h : H) : Prop := 0 ≤ IntKind.i64.wrap (2 * (↑a0l : Int)) ∧ IntKind.i64.wrap (2 * (↑a0l : Int)) ≤ IntKind.i64.wrap (2 * (↑a0l : Int)) ∧ (↑1 : Int) * IntKind.i64.wrap (2 * (↑a0l : Int)) ≤ 2 ^ 48 ∧ IntKind.i64.wrap (2 * (↑a0l : Int)) ≤ 2 ^ 48 ∧ ∀ (n6 : Nat) (h7 : H), hnew h n6 (List.replicate (IntKind.i64.wrap (2 * (↑a0l : Int))).toNat [Value.int IntKind.u8 0]).flatten h7 → c_rail_halves (some (Addr.mk n6 0 none)) (IntKind.i64.wrap (2 * (↑a0l : Int))).toNat (IntKind.i64.wrap (2 * (↑a0l : Int))).toNat (fun (o9 : Option Addr) (n10 n11 : Nat) (o12 : Option Addr) (n13 n14 : Nat) (h15 : H) => ∀ (J16 : List SV → H → Prop), (∀ (i17 : Int) (h18 : H), (if ltI i17 (↑a0l : Int) = true then ∃ (p19 : Addr), a0p = some p19 ∧ 0 ≤ i17 ∧ i17 < (↑a0l : Int) ∧ ∃ (i20 : Int), hc h18 (p19.add (i17.toNat * 1)) = some (Value.int IntKind.u8 i20) ∧ ∃ (p21 : Addr), a0p = some p21 ∧ 0 ≤ i17 ∧ i17 < (↑a0l : Int) ∧ ∃ (i22 : Int), hc h18 (p21.add (i17.toNat * 1)) = some (Value.int IntKind.u8 i22) ∧ ∃ (p23 : Addr), o9 = some p23 ∧ 0 ≤ i17 ∧ i17 < (↑n10 : Int) ∧ hcan h18 (p23.add (i17.toNat * 1)) 1 ∧ ∀ (h24 : H), h24 = hwr h18 (p23.add (i17.toNat * 1)) [Value.int IntKind.u8 i20] → ∃ (p26 : Addr), o12 = some p26 ∧ 0 ≤ i17 ∧ i17 < (↑n13 : Int) ∧ hcan h24 (p26.add (i17.toNat * 1)) 1 ∧ ∀ (h27 : H), h27 = hwr h24 (p26.add (i17.toNat * 1)) [Value.int IntKind.u8 (bits BinOp.xor IntKind.u8 (if IntKind.u8.signed = true then -1 else IntKind.u8.max) i22)] → J16 [SV.dv (DV.one (Value.int IntKind.i64 (IntKind.i64.wrap (i17 + 1))))] h27 else Q (some (Addr.mk n6 0 none)) (IntKind.i64.wrap (2 * (↑a0l : Int))).toNat (IntKind.i64.wrap (2 * (↑a0l : Int))).toNat h18) → J16 [SV.dv (DV.one (Value.int IntKind.i64 i17))] h18) → J16 [SV.dv (DV.one (Value.int IntKind.i64 0))] h15) h7
theorem E_rail_Put (c_rail_halves : (Option Addr) → Nat → Nat → ((Option Addr) → Nat → Nat → (Option Addr) → Nat → Nat → H → Prop) → H → Prop) : ∀ (a0p : Option Addr) (a0l : Nat) (a0c : Nat) (Q : (Option Addr) → Nat → Nat → H → Prop) (h : H), G_rail_Put c_rail_halves a0p a0l a0c Q h = Dbody PP [(173, W [.slc] [.slc, .slc] c_rail_halves)] [(122, [(18, .sc (.int .i64))])] Try.f149 [.one (.slice a0p a0l a0c)] (decR [.slc] Q) h := by intros; kernel_rfl
def F_rail_Put := G_rail_Put F_rail_halves
theorem R_rail_Put : RunOk PP 149 (W [.slc] [.slc] F_rail_Put) := runOk_of (T := [(173, W [.slc] [.slc, .slc] F_rail_halves)]) (ann := [(122, [(18, .sc (.int .i64))])]) (TblOk.cons R_rail_halves (TblOk.nil)) Try.func149 (by kernel_rfl) (by kernel_rfl) (E_rail_Put F_rail_halves)
attribute [irreducible] F_rail_Put
def G_cell_laid (c_cell_put : Option Addr → Nat → Nat → Int → (H → Prop) → H → Prop) (c_crc_Of : Option Addr → Nat → Nat → (Int → H → Prop) → H → Prop) (c_rail_Put : Option Addr → Nat → Nat → (Option Addr → Nat → Nat → H → Prop) → H → Prop) (a0 : Int) (a1 : Int) (a2 : Int) (Q : List Int → H → Prop) (h : H) : Prop := ∀ (n8 : Nat) (h9 : H), hnew h n8 (ints IntKind.u8 (zeros 32)) h9 → ∀ (n11 : Nat) (h12 : H), hnew h9 n11 (ints IntKind.u8 (zeros 16)) h12 → hcan h12 (Addr.mk n11 0 none) 16 ∧ ∀ (h14 : H), h14 = hwr h12 (Addr.mk n11 0 none) (ints IntKind.u8 [a0, IntKind.u8.wrap a1, 0, 0, 0, 0, 0, 0, 0, 0, 0, 0, 0, 0, 0, 0] ++ []) → (0 : Int) ≤ 4 ∧ (4 : Int) ≤ 12 ∧ (12 : Int) ≤ (↑16 : Int) ∧ c_cell_put (subAddr (some (Addr.mk n11 0 none)) 4 16 1) 8 12 (IntKind.u64.wrap a2) (fun (h16 : H) => (0 : Int) ≤ 12 ∧ (12 : Int) ≤ (↑16 : Int) ∧ (0 : Int) ≤ 12 ∧ (12 : Int) ≤ (↑16 : Int) ∧ c_crc_Of (some (Addr.mk n11 0 none)) 12 16 (fun (i17 : Int) (h18 : H) => c_cell_put (some ((Addr.mk n11 0 none).add 12)) 4 4 (IntKind.u64.wrap i17) (fun (h19 : H) => ∀ (n20 : Nat) (h21 : H), hnew h19 n20 (ints IntKind.u8 (zeros 32)) h21 → c_rail_Put (some (Addr.mk n11 0 none)) 16 16 (fun (o23 : Option Addr) (n24 n25 : Nat) (h26 : H) => ∃ (l27 : List Value), hsv h26 o23 1 (n24.min 32) l27 ∧ (l27 = [] ∨ ∃ (p28 : Addr), some (Addr.mk n20 0 none) = some p28 ∧ hcan h26 p28 (n24.min 32 * 1)) ∧ ∀ (h29 : H), h29 = hwrO h26 (some (Addr.mk n20 0 none)) l27 → ∃ (l31 : List Int), l31.length = 32 ∧ hrow h29 (Addr.mk n20 0 none) IntKind.u8 l31 ∧ hcan h29 (Addr.mk n8 0 none) 32 ∧ ∀ (h32 : H), h32 = hwr h29 (Addr.mk n8 0 none) (ints IntKind.u8 l31 ++ []) → ∃ (l34 : List Int), l34.length = 32 ∧ hrow h32 (Addr.mk n8 0 none) IntKind.u8 l34 ∧ Q l34 h32) h21) h18) h16) h14
theorem E_cell_laid (c_cell_put : (Option Addr) → Nat → Nat → Int → (H → Prop) → H → Prop) (c_crc_Of : (Option Addr) → Nat → Nat → (Int → H → Prop) → H → Prop) (c_rail_Put : (Option Addr) → Nat → Nat → ((Option Addr) → Nat → Nat → H → Prop) → H → Prop) : ∀ (a0 : Int) (a1 : Int) (a2 : Int) (Q : (List Int) → H → Prop) (h : H), G_cell_laid c_cell_put c_crc_Of c_rail_Put a0 a1 a2 Q h = Dbody PP [(147, W [.slc, .int .u64] [] c_cell_put), (148, W [.slc] [.int .u32] c_crc_Of), (149, W [.slc] [.slc] c_rail_Put)] [] Try.f100 [.one (.int .u8 a0), .one (.int .i64 a1), .one (.int .i64 a2)] (decR [.ag [.row .u8 32]] Q) h := by intros; kernel_rfl
def F_cell_laid := G_cell_laid F_cell_put F_crc_Of F_rail_Put
theorem R_cell_laid : RunOk PP 100 (W [.int .u8, .int .i64, .int .i64] [.ag [.row .u8 32]] F_cell_laid) := runOk_of (T := [(147, W [.slc, .int .u64] [] F_cell_put), (148, W [.slc] [.int .u32] F_crc_Of), (149, W [.slc] [.slc] F_rail_Put)]) (ann := []) (TblOk.cons R_cell_put (TblOk.cons R_crc_Of (TblOk.cons R_rail_Put (TblOk.nil)))) Try.func100 (by kernel_rfl) (by kernel_rfl) (E_cell_laid F_cell_put F_crc_Of F_rail_Put)
attribute [irreducible] F_cell_laid
def G_cell_got (a0p : Option Addr) (a0l : Nat) (a0c : Nat) (Q : Int → H → Prop) (h : H) : Prop := ∀ (J5 : List SV → H → Prop), (∀ (i6 i7 : Int) (h8 : H), (if ltI i7 (↑a0l : Int) = true then ∃ (p9 : Addr), a0p = some p9 ∧ 0 ≤ i7 ∧ i7 < (↑a0l : Int) ∧ ∃ (i10 : Int), hc h8 (p9.add (i7.toNat * 1)) = some (Value.int IntKind.u8 i10) ∧ 0 ≤ IntKind.i64.wrap (8 * i7) ∧ J5 [SV.dv (DV.one (Value.int IntKind.u64 (bits BinOp.or IntKind.u64 i6 (IntKind.u64.wrap (IntKind.u64.wrap i10 * 2 ^ min (IntKind.i64.wrap (8 * i7)).toNat 64))))), SV.dv (DV.one (Value.int IntKind.i64 (IntKind.i64.wrap (i7 + 1))))] h8 else Q i6 h8) → J5 [SV.dv (DV.one (Value.int IntKind.u64 i6)), SV.dv (DV.one (Value.int IntKind.i64 i7))] h8) → J5 [SV.dv (DV.one (Value.int IntKind.u64 0)), SV.dv (DV.one (Value.int IntKind.i64 0))] h
theorem E_cell_got  : ∀ (a0p : Option Addr) (a0l : Nat) (a0c : Nat) (Q : Int → H → Prop) (h : H), G_cell_got a0p a0l a0c Q h = Dbody PP [] [(58, [(3, .sc (.int .u64)), (8, .sc (.int .i64))])] Try.f141 [.one (.slice a0p a0l a0c)] (decR [.int .u64] Q) h := by intros; kernel_rfl
def F_cell_got := G_cell_got
theorem R_cell_got : RunOk PP 141 (W [.slc] [.int .u64] F_cell_got) := runOk_of (T := []) (ann := [(58, [(3, .sc (.int .u64)), (8, .sc (.int .i64))])]) (TblOk.nil) Try.func141 (by kernel_rfl) (by kernel_rfl) (E_cell_got)
attribute [irreducible] F_cell_got
def G_cell_Blank (Q : List Int → H → Prop) (h : H) : Prop := ∀ (n2 : Nat) (h3 : H), hnew h n2 (ints IntKind.u8 (zeros 32)) h3 → ∀ (n5 : Nat) (h6 : H), hnew h3 n5 (ints IntKind.u8 (zeros 32)) h6 → ∀ (J8 : List SV → H → Prop), (∀ (i9 : Int) (h10 : H), (if ltI i9 32 = true then 0 ≤ i9 ∧ i9 < (↑32 : Int) ∧ hcan h10 ((Addr.mk n5 0 none).add (i9.toNat * 1)) 1 ∧ ∀ (h11 : H), h11 = hwr h10 ((Addr.mk n5 0 none).add (i9.toNat * 1)) [Value.int IntKind.u8 255] → J8 [SV.dv (DV.one (Value.int IntKind.i64 (IntKind.i64.wrap (i9 + 1))))] h11 else ∃ (l13 : List Int), l13.length = 32 ∧ hrow h10 (Addr.mk n5 0 none) IntKind.u8 l13 ∧ hcan h10 (Addr.mk n2 0 none) 32 ∧ ∀ (h14 : H), h14 = hwr h10 (Addr.mk n2 0 none) (ints IntKind.u8 l13 ++ []) → ∃ (l16 : List Int), l16.length = 32 ∧ hrow h14 (Addr.mk n2 0 none) IntKind.u8 l16 ∧ Q l16 h14) → J8 [SV.dv (DV.one (Value.int IntKind.i64 i9))] h10) → J8 [SV.dv (DV.one (Value.int IntKind.i64 0))] h6
theorem E_cell_Blank  : ∀ (Q : (List Int) → H → Prop) (h : H), G_cell_Blank Q h = Dbody PP [] [(58, [(3, .sc (.int .i64))])] Try.f142 [] (decR [.ag [.row .u8 32]] Q) h := by intros; kernel_rfl
def F_cell_Blank := G_cell_Blank
theorem R_cell_Blank : RunOk PP 142 (W [] [.ag [.row .u8 32]] F_cell_Blank) := runOk_of (T := []) (ann := [(58, [(3, .sc (.int .i64))])]) (TblOk.nil) Try.func142 (by kernel_rfl) (by kernel_rfl) (E_cell_Blank)
attribute [irreducible] F_cell_Blank
def G_cell_Read (c_cell_laid : Int → Int → Int → (List Int → H → Prop) → H → Prop) (c_cell_got : Option Addr → Nat → Nat → (Int → H → Prop) → H → Prop) (c_cell_Blank : (List Int → H → Prop) → H → Prop) (a0_0 : List Int) (Q : Int → Int → Int → H → Prop) (h : H) : Prop := ∀ (n6 : Nat) (h7 : H), hnew h n6 (ints IntKind.u8 a0_0 ++ []) h7 → ∀ (n9 : Nat) (h10 : H), hnew h7 n9 [Value.int IntKind.i64 0, Value.int IntKind.i64 0, Value.int IntKind.i64 0] h10 → (0 : Int) ≤ 4 ∧ (4 : Int) ≤ 12 ∧ (12 : Int) ≤ (↑32 : Int) ∧ c_cell_got (subAddr (some (Addr.mk n6 0 none)) 4 32 1) 8 28 (fun (i12 : Int) (h13 : H) => (0 : Int) ≤ 1 ∧ (1 : Int) < (↑32 : Int) ∧ ∃ (i14 : Int), hc h13 ((Addr.mk n6 0 none).add 1) = some (Value.int IntKind.u8 i14) ∧ ∃ (l15 : List Int), l15.length = 32 ∧ hrow h13 (Addr.mk n6 0 none) IntKind.u8 l15 ∧ c_cell_Blank (fun (l16 : List Int) (h17 : H) => hcs h17 (Addr.mk n6 0 none) (ints IntKind.u8 l15 ++ []) ∧ if (l15 == l16) = true then hcan h17 (Addr.mk n9 0 none) 3 ∧ ∀ (h18 : H), h18 = hwr h17 (Addr.mk n9 0 none) [Value.int IntKind.i64 0, Value.int IntKind.i64 0, Value.int IntKind.i64 0] → ∃ (i20 : Int), hc h18 (Addr.mk n9 0 none) = some (Value.int IntKind.i64 i20) ∧ ∃ (i21 : Int), hc h18 ((Addr.mk n9 0 none).add 1) = some (Value.int IntKind.i64 i21) ∧ ∃ (i22 : Int), hc h18 ((Addr.mk n9 0 none).add 2) = some (Value.int IntKind.i64 i22) ∧ Q i20 i21 i22 h18 else ∀ (J23 : List SV → H → Prop), (∀ (b24 : Bool) (h25 : H), (if b24 = true then hcan h25 (Addr.mk n9 0 none) 3 ∧ ∀ (h26 : H), h26 = hwr h25 (Addr.mk n9 0 none) [Value.int IntKind.i64 3, Value.int IntKind.i64 0, Value.int IntKind.i64 0] → ∃ (i28 : Int), hc h26 (Addr.mk n9 0 none) = some (Value.int IntKind.i64 i28) ∧ ∃ (i29 : Int), hc h26 ((Addr.mk n9 0 none).add 1) = some (Value.int IntKind.i64 i29) ∧ ∃ (i30 : Int), hc h26 ((Addr.mk n9 0 none).add 2) = some (Value.int IntKind.i64 i30) ∧ Q i28 i29 i30 h26 else ∀ (J31 : List SV → H → Prop), (∀ (b32 : Bool) (h33 : H), (if b32 = true then hcan h33 (Addr.mk n9 0 none) 3 ∧ ∀ (h34 : H), h34 = hwr h33 (Addr.mk n9 0 none) [Value.int IntKind.i64 1, Value.int IntKind.i64 0, Value.int IntKind.i64 (IntKind.i64.wrap i12)] → ∃ (i36 : Int), hc h34 (Addr.mk n9 0 none) = some (Value.int IntKind.i64 i36) ∧ ∃ (i37 : Int), hc h34 ((Addr.mk n9 0 none).add 1) = some (Value.int IntKind.i64 i37) ∧ ∃ (i38 : Int), hc h34 ((Addr.mk n9 0 none).add 2) = some (Value.int IntKind.i64 i38) ∧ Q i36 i37 i38 h34 else (0 : Int) ≤ 0 ∧ (0 : Int) < (↑32 : Int) ∧ ∃ (i39 : Int), hc h33 (Addr.mk n6 0 none) = some (Value.int IntKind.u8 i39) ∧ if (i39 == 2) = true then if leI (IntKind.i64.wrap i14) 8 = true then ∃ (l40 : List Int), l40.length = 32 ∧ hrow h33 (Addr.mk n6 0 none) IntKind.u8 l40 ∧ c_cell_laid 2 (IntKind.i64.wrap i14) (IntKind.i64.wrap i12) (fun (l41 : List Int) (h42 : H) => hcs h42 (Addr.mk n6 0 none) (ints IntKind.u8 l40 ++ []) ∧ if (l40 == l41) = true then hcan h42 (Addr.mk n9 0 none) 3 ∧ ∀ (h43 : H), h43 = hwr h42 (Addr.mk n9 0 none) [Value.int IntKind.i64 2, Value.int IntKind.i64 (IntKind.i64.wrap i14), Value.int IntKind.i64 (IntKind.i64.wrap i12)] → ∃ (i45 : Int), hc h43 (Addr.mk n9 0 none) = some (Value.int IntKind.i64 i45) ∧ ∃ (i46 : Int), hc h43 ((Addr.mk n9 0 none).add 1) = some (Value.int IntKind.i64 i46) ∧ ∃ (i47 : Int), hc h43 ((Addr.mk n9 0 none).add 2) = some (Value.int IntKind.i64 i47) ∧ Q i45 i46 i47 h43 else hcan h42 (Addr.mk n9 0 none) 3 ∧ ∀ (h48 : H), h48 = hwr h42 (Addr.mk n9 0 none) [Value.int IntKind.i64 3, Value.int IntKind.i64 0, Value.int IntKind.i64 0] → ∃ (i50 : Int), hc h48 (Addr.mk n9 0 none) = some (Value.int IntKind.i64 i50) ∧ ∃ (i51 : Int), hc h48 ((Addr.mk n9 0 none).add 1) = some (Value.int IntKind.i64 i51) ∧ ∃ (i52 : Int), hc h48 ((Addr.mk n9 0 none).add 2) = some (Value.int IntKind.i64 i52) ∧ Q i50 i51 i52 h48) h33 else hcan h33 (Addr.mk n9 0 none) 3 ∧ ∀ (h53 : H), h53 = hwr h33 (Addr.mk n9 0 none) [Value.int IntKind.i64 3, Value.int IntKind.i64 0, Value.int IntKind.i64 0] → ∃ (i55 : Int), hc h53 (Addr.mk n9 0 none) = some (Value.int IntKind.i64 i55) ∧ ∃ (i56 : Int), hc h53 ((Addr.mk n9 0 none).add 1) = some (Value.int IntKind.i64 i56) ∧ ∃ (i57 : Int), hc h53 ((Addr.mk n9 0 none).add 2) = some (Value.int IntKind.i64 i57) ∧ Q i55 i56 i57 h53 else hcan h33 (Addr.mk n9 0 none) 3 ∧ ∀ (h58 : H), h58 = hwr h33 (Addr.mk n9 0 none) [Value.int IntKind.i64 3, Value.int IntKind.i64 0, Value.int IntKind.i64 0] → ∃ (i60 : Int), hc h58 (Addr.mk n9 0 none) = some (Value.int IntKind.i64 i60) ∧ ∃ (i61 : Int), hc h58 ((Addr.mk n9 0 none).add 1) = some (Value.int IntKind.i64 i61) ∧ ∃ (i62 : Int), hc h58 ((Addr.mk n9 0 none).add 2) = some (Value.int IntKind.i64 i62) ∧ Q i60 i61 i62 h58) → J31 [SV.dv (DV.one (Value.bool b32))] h33) → (0 : Int) ≤ 0 ∧ (0 : Int) < (↑32 : Int) ∧ ∃ (i65 : Int), hc h25 (Addr.mk n6 0 none) = some (Value.int IntKind.u8 i65) ∧ if (i65 == 1) = true then ∃ (l66 : List Int), l66.length = 32 ∧ hrow h25 (Addr.mk n6 0 none) IntKind.u8 l66 ∧ c_cell_laid 1 0 (IntKind.i64.wrap i12) (fun (l67 : List Int) (h68 : H) => hcs h68 (Addr.mk n6 0 none) (ints IntKind.u8 l66 ++ []) ∧ J31 [SV.dv (DV.one (Value.bool (l66 == l67)))] h68) h25 else J31 [SV.dv (DV.one (Value.bool false))] h25) → J23 [SV.dv (DV.one (Value.bool b24))] h25) → if ltI (IntKind.i64.wrap i12) 1 = true then J23 [SV.dv (DV.one (Value.bool true))] h17 else ∀ (i71 : Int), i71 = 4611686018427387904 → J23 [SV.dv (DV.one (Value.bool (ltI i71 (IntKind.i64.wrap i12))))] h17) h13) h10
theorem E_cell_Read (c_cell_laid : Int → Int → Int → ((List Int) → H → Prop) → H → Prop) (c_cell_got : (Option Addr) → Nat → Nat → (Int → H → Prop) → H → Prop) (c_cell_Blank : ((List Int) → H → Prop) → H → Prop) : ∀ (a0_0 : List Int) (Q : Int → Int → Int → H → Prop) (h : H), G_cell_Read c_cell_laid c_cell_got c_cell_Blank a0_0 Q h = Dbody PP [(100, W [.int .u8, .int .i64, .int .i64] [.ag [.row .u8 32]] c_cell_laid), (141, W [.slc] [.int .u64] c_cell_got), (142, W [] [.ag [.row .u8 32]] c_cell_Blank)] [(243, [(16, .sc (.bool))]), (975, [(23, .sc (.bool))])] Try.f95 [.agg [.row .u8 32 a0_0]] (decR [.ag [.int .i64, .int .i64, .int .i64]] Q) h := by intros; kernel_rfl
def F_cell_Read := G_cell_Read F_cell_laid F_cell_got F_cell_Blank
theorem R_cell_Read : RunOk PP 95 (W [.ag [.row .u8 32]] [.ag [.int .i64, .int .i64, .int .i64]] F_cell_Read) := runOk_of (T := [(100, W [.int .u8, .int .i64, .int .i64] [.ag [.row .u8 32]] F_cell_laid), (141, W [.slc] [.int .u64] F_cell_got), (142, W [] [.ag [.row .u8 32]] F_cell_Blank)]) (ann := [(243, [(16, .sc (.bool))]), (975, [(23, .sc (.bool))])]) (TblOk.cons R_cell_laid (TblOk.cons R_cell_got (TblOk.cons R_cell_Blank (TblOk.nil)))) Try.func95 (by kernel_rfl) (by kernel_rfl) (E_cell_Read F_cell_laid F_cell_got F_cell_Blank)
attribute [irreducible] F_cell_Read
def G_page_Look (c_chip_Chip_Read : Addr → Int → Int → (List Int → Int → H → Prop) → H → Prop) (c_chip_Chip_Config : Addr → (Int → Int → Int → Int → Int → Int → Int → H → Prop) → H → Prop) (c_chip_Chip_Erases : Addr → Int → (Int → Int → H → Prop) → H → Prop) (c_page_Info_lay : Addr → Int → Int → Int → Int → (H → Prop) → H → Prop) (c_cell_Read : List Int → (Int → Int → Int → H → Prop) → H → Prop) (a0 : Addr) (a1 : Int) (Q : Int → List Int → Int → Bool → Int → Int → H → Prop) (h : H) : Prop := ∀ (n9 : Nat) (h10 : H), hnew h n9 (Value.int IntKind.i64 0 :: (ints IntKind.i64 (zeros 9) ++ [Value.int IntKind.i64 0, Value.bool false, Value.int IntKind.i64 0])) h10 → ∀ (n12 : Nat) (h13 : H), hnew h10 n12 (Value.int IntKind.i64 0 :: (ints IntKind.i64 (zeros 9) ++ [Value.int IntKind.i64 0, Value.bool false, Value.int IntKind.i64 0])) h13 → c_chip_Chip_Erases a0 a1 (fun (i15 i16 : Int) (h17 : H) => if (i16 != 0) = true then ∃ (i18 : Int), hc h17 (Addr.mk n12 0 none) = some (Value.int IntKind.i64 i18) ∧ ∃ (l19 : List Int), l19.length = 9 ∧ hrow h17 ((Addr.mk n12 0 none).add 1) IntKind.i64 l19 ∧ ∃ (i20 : Int), hc h17 ((Addr.mk n12 0 none).add 10) = some (Value.int IntKind.i64 i20) ∧ ∃ (b21 : Bool), hc h17 ((Addr.mk n12 0 none).add 11) = some (Value.bool b21) ∧ ∃ (i22 : Int), hc h17 ((Addr.mk n12 0 none).add 12) = some (Value.int IntKind.i64 i22) ∧ hcan h17 (Addr.mk n9 0 none) 13 ∧ ∀ (h23 : H), h23 = hwr h17 (Addr.mk n9 0 none) (Value.int IntKind.i64 i18 :: (ints IntKind.i64 l19 ++ [Value.int IntKind.i64 i20, Value.bool b21, Value.int IntKind.i64 i22])) → ∃ (i25 : Int), hc h23 (Addr.mk n9 0 none) = some (Value.int IntKind.i64 i25) ∧ ∃ (l26 : List Int), l26.length = 9 ∧ hrow h23 ((Addr.mk n9 0 none).add 1) IntKind.i64 l26 ∧ ∃ (i27 : Int), hc h23 ((Addr.mk n9 0 none).add 10) = some (Value.int IntKind.i64 i27) ∧ ∃ (b28 : Bool), hc h23 ((Addr.mk n9 0 none).add 11) = some (Value.bool b28) ∧ ∃ (i29 : Int), hc h23 ((Addr.mk n9 0 none).add 12) = some (Value.int IntKind.i64 i29) ∧ Q i25 l26 i27 b28 i29 i16 h23 else c_chip_Chip_Config a0 (fun (i30 i31 i32 i33 i34 i35 i36 : Int) (h37 : H) => ∀ (J38 : List SV → H → Prop), (∀ (i39 : Int) (h40 : H), (if ltI i39 i30 = true then c_chip_Chip_Read a0 a1 i39 (fun (l41 : List Int) (i42 : Int) (h43 : H) => ∀ (n44 : Nat) (h45 : H), hnew h43 n44 (ints IntKind.u8 (zeros 32)) h45 → hcan h45 (Addr.mk n44 0 none) 32 ∧ ∀ (h47 : H), h47 = hwr h45 (Addr.mk n44 0 none) (ints IntKind.u8 l41 ++ []) → if (i42 != 0) = true then hcan h47 (Addr.mk n9 0 none) 13 ∧ ∀ (h49 : H), h49 = hwr h47 (Addr.mk n9 0 none) (Value.int IntKind.i64 0 :: (ints IntKind.i64 (zeros 9) ++ [Value.int IntKind.i64 0, Value.bool false, Value.int IntKind.i64 0])) → ∃ (i51 : Int), hc h49 (Addr.mk n9 0 none) = some (Value.int IntKind.i64 i51) ∧ ∃ (l52 : List Int), l52.length = 9 ∧ hrow h49 ((Addr.mk n9 0 none).add 1) IntKind.i64 l52 ∧ ∃ (i53 : Int), hc h49 ((Addr.mk n9 0 none).add 10) = some (Value.int IntKind.i64 i53) ∧ ∃ (b54 : Bool), hc h49 ((Addr.mk n9 0 none).add 11) = some (Value.bool b54) ∧ ∃ (i55 : Int), hc h49 ((Addr.mk n9 0 none).add 12) = some (Value.int IntKind.i64 i55) ∧ Q i51 l52 i53 b54 i55 i42 h49 else ∃ (l56 : List Int), l56.length = 32 ∧ hrow h47 (Addr.mk n44 0 none) IntKind.u8 l56 ∧ c_cell_Read l56 (fun (i57 i58 i59 : Int) (h60 : H) => c_page_Info_lay (Addr.mk n12 0 none) i39 i57 i58 i59 (fun (h61 : H) => J38 [SV.dv (DV.one (Value.int IntKind.i64 (IntKind.i64.wrap (i39 + 1))))] h61) h60) h47) h40 else ∃ (i62 : Int), hc h40 (Addr.mk n12 0 none) = some (Value.int IntKind.i64 i62) ∧ ∃ (l63 : List Int), l63.length = 9 ∧ hrow h40 ((Addr.mk n12 0 none).add 1) IntKind.i64 l63 ∧ ∃ (i64 : Int), hc h40 ((Addr.mk n12 0 none).add 10) = some (Value.int IntKind.i64 i64) ∧ ∃ (b65 : Bool), hc h40 ((Addr.mk n12 0 none).add 11) = some (Value.bool b65) ∧ ∃ (i66 : Int), hc h40 ((Addr.mk n12 0 none).add 12) = some (Value.int IntKind.i64 i66) ∧ hcan h40 ((Addr.mk n12 0 none).add 11) 1 ∧ ∀ (h67 : H), h67 = hwr h40 ((Addr.mk n12 0 none).add 11) [Value.bool (i62 == 0 && (l63 == zeros 9 && (i64 == 0 && (b65 == false && (i66 == 0 && true)))))] → ∃ (i69 : Int), hc h67 (Addr.mk n12 0 none) = some (Value.int IntKind.i64 i69) ∧ ∃ (l70 : List Int), l70.length = 9 ∧ hrow h67 ((Addr.mk n12 0 none).add 1) IntKind.i64 l70 ∧ ∃ (i71 : Int), hc h67 ((Addr.mk n12 0 none).add 10) = some (Value.int IntKind.i64 i71) ∧ ∃ (b72 : Bool), hc h67 ((Addr.mk n12 0 none).add 11) = some (Value.bool b72) ∧ ∃ (i73 : Int), hc h67 ((Addr.mk n12 0 none).add 12) = some (Value.int IntKind.i64 i73) ∧ hcan h67 (Addr.mk n9 0 none) 13 ∧ ∀ (h74 : H), h74 = hwr h67 (Addr.mk n9 0 none) (Value.int IntKind.i64 i69 :: (ints IntKind.i64 l70 ++ [Value.int IntKind.i64 i71, Value.bool b72, Value.int IntKind.i64 i73])) → ∃ (i76 : Int), hc h74 (Addr.mk n9 0 none) = some (Value.int IntKind.i64 i76) ∧ ∃ (l77 : List Int), l77.length = 9 ∧ hrow h74 ((Addr.mk n9 0 none).add 1) IntKind.i64 l77 ∧ ∃ (i78 : Int), hc h74 ((Addr.mk n9 0 none).add 10) = some (Value.int IntKind.i64 i78) ∧ ∃ (b79 : Bool), hc h74 ((Addr.mk n9 0 none).add 11) = some (Value.bool b79) ∧ ∃ (i80 : Int), hc h74 ((Addr.mk n9 0 none).add 12) = some (Value.int IntKind.i64 i80) ∧ Q i76 l77 i78 b79 i80 0 h74) → J38 [SV.dv (DV.one (Value.int IntKind.i64 i39))] h40) → J38 [SV.dv (DV.one (Value.int IntKind.i64 0))] h37) h17) h13
theorem E_page_Look (c_chip_Chip_Read : Addr → Int → Int → ((List Int) → Int → H → Prop) → H → Prop) (c_chip_Chip_Config : Addr → (Int → Int → Int → Int → Int → Int → Int → H → Prop) → H → Prop) (c_chip_Chip_Erases : Addr → Int → (Int → Int → H → Prop) → H → Prop) (c_page_Info_lay : Addr → Int → Int → Int → Int → (H → Prop) → H → Prop) (c_cell_Read : (List Int) → (Int → Int → Int → H → Prop) → H → Prop) : ∀ (a0 : Addr) (a1 : Int) (Q : Int → (List Int) → Int → Bool → Int → Int → H → Prop) (h : H), G_page_Look c_chip_Chip_Read c_chip_Chip_Config c_chip_Chip_Erases c_page_Info_lay c_cell_Read a0 a1 Q h = Dbody PP [(62, W [.addr, .int .i64, .int .i64] [.ag [.row .u8 32], .int .i64] c_chip_Chip_Read), (91, W [.addr] [.ag [.int .i64, .int .i64, .int .i64, .int .i64, .int .i64, .int .i64, .int .i64]] c_chip_Chip_Config), (93, W [.addr, .int .i64] [.int .i64, .int .i64] c_chip_Chip_Erases), (94, W [.addr, .int .i64, .ag [.int .i64, .int .i64, .int .i64]] [] c_page_Info_lay), (95, W [.ag [.row .u8 32]] [.ag [.int .i64, .int .i64, .int .i64]] c_cell_Read)] [(122, [(25, .sc (.int .i64))])] Try.f38 [.addr a0, .one (.int .i64 a1)] (decR [.ag [.int .i64, .row .i64 9, .int .i64, .bool, .int .i64], .int .i64] Q) h := by intros; kernel_rfl
def F_page_Look := G_page_Look F_chip_Chip_Read F_chip_Chip_Config F_chip_Chip_Erases F_page_Info_lay F_cell_Read
theorem R_page_Look : RunOk PP 38 (W [.addr, .int .i64] [.ag [.int .i64, .row .i64 9, .int .i64, .bool, .int .i64], .int .i64] F_page_Look) := runOk_of (T := [(62, W [.addr, .int .i64, .int .i64] [.ag [.row .u8 32], .int .i64] F_chip_Chip_Read), (91, W [.addr] [.ag [.int .i64, .int .i64, .int .i64, .int .i64, .int .i64, .int .i64, .int .i64]] F_chip_Chip_Config), (93, W [.addr, .int .i64] [.int .i64, .int .i64] F_chip_Chip_Erases), (94, W [.addr, .int .i64, .ag [.int .i64, .int .i64, .int .i64]] [] F_page_Info_lay), (95, W [.ag [.row .u8 32]] [.ag [.int .i64, .int .i64, .int .i64]] F_cell_Read)]) (ann := [(122, [(25, .sc (.int .i64))])]) (TblOk.cons R_chip_Chip_Read (TblOk.cons R_chip_Chip_Config (TblOk.cons R_chip_Chip_Erases (TblOk.cons R_page_Info_lay (TblOk.cons R_cell_Read (TblOk.nil)))))) Try.func38 (by kernel_rfl) (by kernel_rfl) (E_page_Look F_chip_Chip_Read F_chip_Chip_Config F_chip_Chip_Erases F_page_Info_lay F_cell_Read)
attribute [irreducible] F_page_Look
def G_wear_config_lays (a0_0 : Int) (a0_1 : Int) (a0_2 : Int) (a0_3 : Int) (a0_4 : Int) (a0_5 : Int) (a0_6 : Int) (Q : Int → H → Prop) (h : H) : Prop := ∀ (n9 : Nat) (h10 : H), hnew h n9 [Value.int IntKind.i64 a0_0, Value.int IntKind.i64 a0_1, Value.int IntKind.i64 a0_2, Value.int IntKind.i64 a0_3, Value.int IntKind.i64 a0_4, Value.int IntKind.i64 a0_5, Value.int IntKind.i64 a0_6] h10 → ∃ (i12 : Int), hc h10 (Addr.mk n9 0 none) = some (Value.int IntKind.i64 i12) ∧ ∃ (i13 : Int), hc h10 ((Addr.mk n9 0 none).add 1) = some (Value.int IntKind.i64 i13) ∧ Q (IntKind.i64.wrap (IntKind.i64.wrap (i12 - i13) - 1)) h10
theorem E_wear_config_lays  : ∀ (a0_0 : Int) (a0_1 : Int) (a0_2 : Int) (a0_3 : Int) (a0_4 : Int) (a0_5 : Int) (a0_6 : Int) (Q : Int → H → Prop) (h : H), G_wear_config_lays a0_0 a0_1 a0_2 a0_3 a0_4 a0_5 a0_6 Q h = Dbody PP [] [] Try.f103 [.agg [.c (.int .i64 a0_0), .c (.int .i64 a0_1), .c (.int .i64 a0_2), .c (.int .i64 a0_3), .c (.int .i64 a0_4), .c (.int .i64 a0_5), .c (.int .i64 a0_6)]] (decR [.int .i64] Q) h := by intros; kernel_rfl
def F_wear_config_lays := G_wear_config_lays
theorem R_wear_config_lays : RunOk PP 103 (W [.ag [.int .i64, .int .i64, .int .i64, .int .i64, .int .i64, .int .i64, .int .i64]] [.int .i64] F_wear_config_lays) := runOk_of (T := []) (ann := []) (TblOk.nil) Try.func103 (by kernel_rfl) (by kernel_rfl) (E_wear_config_lays)
attribute [irreducible] F_wear_config_lays
def G_wear_Budget (c_chip_May : Int → Int → Int → Int → Int → Int → Int → (Int → H → Prop) → H → Prop) (c_wear_config_lays : Int → Int → Int → Int → Int → Int → Int → (Int → H → Prop) → H → Prop) (a0_0 : Int) (a0_1 : Int) (a0_2 : Int) (a0_3 : Int) (a0_4 : Int) (a0_5 : Int) (a0_6 : Int) (a1 : Int) (Q : Int → H → Prop) (h : H) : Prop := ∀ (n12 : Nat) (h13 : H), hnew h n12 [Value.int IntKind.i64 a0_0, Value.int IntKind.i64 a0_1, Value.int IntKind.i64 a0_2, Value.int IntKind.i64 a0_3, Value.int IntKind.i64 a0_4, Value.int IntKind.i64 a0_5, Value.int IntKind.i64 a0_6] h13 → ∀ (J15 : List SV → H → Prop), (∀ (h16 : H), (∃ (i17 : Int), hc h16 ((Addr.mk n12 0 none).add 5) = some (Value.int IntKind.i64 i17) ∧ ∃ (i18 : Int), hc h16 (Addr.mk n12 0 none) = some (Value.int IntKind.i64 i18) ∧ ∃ (i19 : Int), hc h16 ((Addr.mk n12 0 none).add 1) = some (Value.int IntKind.i64 i19) ∧ ∃ (i20 : Int), hc h16 ((Addr.mk n12 0 none).add 2) = some (Value.int IntKind.i64 i20) ∧ ∃ (i21 : Int), hc h16 ((Addr.mk n12 0 none).add 3) = some (Value.int IntKind.i64 i21) ∧ ∃ (i22 : Int), hc h16 ((Addr.mk n12 0 none).add 4) = some (Value.int IntKind.i64 i22) ∧ ∃ (i23 : Int), hc h16 ((Addr.mk n12 0 none).add 5) = some (Value.int IntKind.i64 i23) ∧ ∃ (i24 : Int), hc h16 ((Addr.mk n12 0 none).add 6) = some (Value.int IntKind.i64 i24) ∧ c_wear_config_lays i18 i19 i20 i21 i22 i23 i24 (fun (i25 : Int) (h26 : H) => hcs h26 ((Addr.mk n12 0 none).add 5) [Value.int IntKind.i64 i17] ∧ Q (IntKind.i64.wrap (IntKind.i64.wrap (IntKind.i64.wrap (2 * IntKind.i64.wrap (i17 - a1)) + 2) * i25)) h26) h16) → J15 [] h16) → ∃ (i29 : Int), hc h13 (Addr.mk n12 0 none) = some (Value.int IntKind.i64 i29) ∧ ∃ (i30 : Int), hc h13 ((Addr.mk n12 0 none).add 1) = some (Value.int IntKind.i64 i30) ∧ ∃ (i31 : Int), hc h13 ((Addr.mk n12 0 none).add 2) = some (Value.int IntKind.i64 i31) ∧ ∃ (i32 : Int), hc h13 ((Addr.mk n12 0 none).add 3) = some (Value.int IntKind.i64 i32) ∧ ∃ (i33 : Int), hc h13 ((Addr.mk n12 0 none).add 4) = some (Value.int IntKind.i64 i33) ∧ ∃ (i34 : Int), hc h13 ((Addr.mk n12 0 none).add 5) = some (Value.int IntKind.i64 i34) ∧ ∃ (i35 : Int), hc h13 ((Addr.mk n12 0 none).add 6) = some (Value.int IntKind.i64 i35) ∧ c_chip_May i29 i30 i31 i32 i33 i34 i35 (fun (i36 : Int) (h37 : H) => if (i36 != 0) = true then Q 0 h37 else if ltI a1 0 = true then Q 0 h37 else ∃ (i38 : Int), hc h37 ((Addr.mk n12 0 none).add 5) = some (Value.int IntKind.i64 i38) ∧ if ltI i38 a1 = true then Q 0 h37 else J15 [] h37) h13
theorem E_wear_Budget (c_chip_May : Int → Int → Int → Int → Int → Int → Int → (Int → H → Prop) → H → Prop) (c_wear_config_lays : Int → Int → Int → Int → Int → Int → Int → (Int → H → Prop) → H → Prop) : ∀ (a0_0 : Int) (a0_1 : Int) (a0_2 : Int) (a0_3 : Int) (a0_4 : Int) (a0_5 : Int) (a0_6 : Int) (a1 : Int) (Q : Int → H → Prop) (h : H), G_wear_Budget c_chip_May c_wear_config_lays a0_0 a0_1 a0_2 a0_3 a0_4 a0_5 a0_6 a1 Q h = Dbody PP [(18, W [.ag [.int .i64, .int .i64, .int .i64, .int .i64, .int .i64, .int .i64, .int .i64]] [.int .i64] c_chip_May), (103, W [.ag [.int .i64, .int .i64, .int .i64, .int .i64, .int .i64, .int .i64, .int .i64]] [.int .i64] c_wear_config_lays)] [(3, [])] Try.f49 [.agg [.c (.int .i64 a0_0), .c (.int .i64 a0_1), .c (.int .i64 a0_2), .c (.int .i64 a0_3), .c (.int .i64 a0_4), .c (.int .i64 a0_5), .c (.int .i64 a0_6)], .one (.int .i64 a1)] (decR [.int .i64] Q) h := by intros; kernel_rfl
def F_wear_Budget := G_wear_Budget F_chip_May F_wear_config_lays
theorem R_wear_Budget : RunOk PP 49 (W [.ag [.int .i64, .int .i64, .int .i64, .int .i64, .int .i64, .int .i64, .int .i64], .int .i64] [.int .i64] F_wear_Budget) := runOk_of (T := [(18, W [.ag [.int .i64, .int .i64, .int .i64, .int .i64, .int .i64, .int .i64, .int .i64]] [.int .i64] F_chip_May), (103, W [.ag [.int .i64, .int .i64, .int .i64, .int .i64, .int .i64, .int .i64, .int .i64]] [.int .i64] F_wear_config_lays)]) (ann := [(3, [])]) (TblOk.cons R_chip_May (TblOk.cons R_wear_config_lays (TblOk.nil))) Try.func49 (by kernel_rfl) (by kernel_rfl) (E_wear_Budget F_chip_May F_wear_config_lays)
attribute [irreducible] F_wear_Budget
def G_wear_config_acts (a0_0 : Int) (a0_1 : Int) (a0_2 : Int) (a0_3 : Int) (a0_4 : Int) (a0_5 : Int) (a0_6 : Int) (Q : Option Nat → H → Prop) (h : H) : Prop := ∀ (n9 : Nat) (h10 : H), hnew h n9 [Value.int IntKind.i64 a0_0, Value.int IntKind.i64 a0_1, Value.int IntKind.i64 a0_2, Value.int IntKind.i64 a0_3, Value.int IntKind.i64 a0_4, Value.int IntKind.i64 a0_5, Value.int IntKind.i64 a0_6] h10 → ∀ (n12 : Nat) (h13 : H), hmnew h10 n12 h13 → ∃ (i15 : Int), hc h13 (Addr.mk n9 0 none) = some (Value.int IntKind.i64 i15) ∧ ∃ (i16 : Int), hc h13 ((Addr.mk n9 0 none).add 1) = some (Value.int IntKind.i64 i16) ∧ ∃ (i17 : Int), hc h13 ((Addr.mk n9 0 none).add 2) = some (Value.int IntKind.i64 i17) ∧ ∃ (i18 : Int), hc h13 ((Addr.mk n9 0 none).add 3) = some (Value.int IntKind.i64 i18) ∧ ∃ (i19 : Int), hc h13 ((Addr.mk n9 0 none).add 4) = some (Value.int IntKind.i64 i19) ∧ ∃ (i20 : Int), hc h13 ((Addr.mk n9 0 none).add 5) = some (Value.int IntKind.i64 i20) ∧ ∃ (i21 : Int), hc h13 ((Addr.mk n9 0 none).add 6) = some (Value.int IntKind.i64 i21) ∧ ∃ (n22 : Nat), ∃ (l23 : List (Value × DV)), ∃ (l24 : List (Value × DV)), some n12 = some n22 ∧ hmap h13 n22 l23 ∧ mins (Value.int IntKind.i64 2) (DV.one (Value.func (Fn.func id_wear_config_raise) (Array.mk [Value.agg (Array.mk [Value.int IntKind.i64 i15, Value.int IntKind.i64 i16, Value.int IntKind.i64 i17, Value.int IntKind.i64 i18, Value.int IntKind.i64 i19, Value.int IntKind.i64 i20, Value.int IntKind.i64 i21])]) (Array.mk []))) l23 = some l24 ∧ ∀ (h25 : H), hmset h13 n22 l24 h25 → ∃ (i27 : Int), hc h25 (Addr.mk n9 0 none) = some (Value.int IntKind.i64 i27) ∧ ∃ (i28 : Int), hc h25 ((Addr.mk n9 0 none).add 1) = some (Value.int IntKind.i64 i28) ∧ ∃ (i29 : Int), hc h25 ((Addr.mk n9 0 none).add 2) = some (Value.int IntKind.i64 i29) ∧ ∃ (i30 : Int), hc h25 ((Addr.mk n9 0 none).add 3) = some (Value.int IntKind.i64 i30) ∧ ∃ (i31 : Int), hc h25 ((Addr.mk n9 0 none).add 4) = some (Value.int IntKind.i64 i31) ∧ ∃ (i32 : Int), hc h25 ((Addr.mk n9 0 none).add 5) = some (Value.int IntKind.i64 i32) ∧ ∃ (i33 : Int), hc h25 ((Addr.mk n9 0 none).add 6) = some (Value.int IntKind.i64 i33) ∧ ∃ (n34 : Nat), ∃ (l35 : List (Value × DV)), ∃ (l36 : List (Value × DV)), some n12 = some n34 ∧ hmap h25 n34 l35 ∧ mins (Value.int IntKind.i64 3) (DV.one (Value.func (Fn.func id_wear_config_raise) (Array.mk [Value.agg (Array.mk [Value.int IntKind.i64 i27, Value.int IntKind.i64 i28, Value.int IntKind.i64 i29, Value.int IntKind.i64 i30, Value.int IntKind.i64 i31, Value.int IntKind.i64 i32, Value.int IntKind.i64 i33])]) (Array.mk []))) l35 = some l36 ∧ ∀ (h37 : H), hmset h25 n34 l36 h37 → ∃ (i39 : Int), hc h37 (Addr.mk n9 0 none) = some (Value.int IntKind.i64 i39) ∧ ∃ (i40 : Int), hc h37 ((Addr.mk n9 0 none).add 1) = some (Value.int IntKind.i64 i40) ∧ ∃ (i41 : Int), hc h37 ((Addr.mk n9 0 none).add 2) = some (Value.int IntKind.i64 i41) ∧ ∃ (i42 : Int), hc h37 ((Addr.mk n9 0 none).add 3) = some (Value.int IntKind.i64 i42) ∧ ∃ (i43 : Int), hc h37 ((Addr.mk n9 0 none).add 4) = some (Value.int IntKind.i64 i43) ∧ ∃ (i44 : Int), hc h37 ((Addr.mk n9 0 none).add 5) = some (Value.int IntKind.i64 i44) ∧ ∃ (i45 : Int), hc h37 ((Addr.mk n9 0 none).add 6) = some (Value.int IntKind.i64 i45) ∧ ∃ (n46 : Nat), ∃ (l47 : List (Value × DV)), ∃ (l48 : List (Value × DV)), some n12 = some n46 ∧ hmap h37 n46 l47 ∧ mins (Value.int IntKind.i64 7) (DV.one (Value.func (Fn.func id_wear_config_raise) (Array.mk [Value.agg (Array.mk [Value.int IntKind.i64 i39, Value.int IntKind.i64 i40, Value.int IntKind.i64 i41, Value.int IntKind.i64 i42, Value.int IntKind.i64 i43, Value.int IntKind.i64 i44, Value.int IntKind.i64 i45])]) (Array.mk []))) l47 = some l48 ∧ ∀ (h49 : H), hmset h37 n46 l48 h49 → ∃ (i51 : Int), hc h49 (Addr.mk n9 0 none) = some (Value.int IntKind.i64 i51) ∧ ∃ (i52 : Int), hc h49 ((Addr.mk n9 0 none).add 1) = some (Value.int IntKind.i64 i52) ∧ ∃ (i53 : Int), hc h49 ((Addr.mk n9 0 none).add 2) = some (Value.int IntKind.i64 i53) ∧ ∃ (i54 : Int), hc h49 ((Addr.mk n9 0 none).add 3) = some (Value.int IntKind.i64 i54) ∧ ∃ (i55 : Int), hc h49 ((Addr.mk n9 0 none).add 4) = some (Value.int IntKind.i64 i55) ∧ ∃ (i56 : Int), hc h49 ((Addr.mk n9 0 none).add 5) = some (Value.int IntKind.i64 i56) ∧ ∃ (i57 : Int), hc h49 ((Addr.mk n9 0 none).add 6) = some (Value.int IntKind.i64 i57) ∧ ∃ (n58 : Nat), ∃ (l59 : List (Value × DV)), ∃ (l60 : List (Value × DV)), some n12 = some n58 ∧ hmap h49 n58 l59 ∧ mins (Value.int IntKind.i64 4) (DV.one (Value.func (Fn.func id_wear_config_revoke) (Array.mk [Value.agg (Array.mk [Value.int IntKind.i64 i51, Value.int IntKind.i64 i52, Value.int IntKind.i64 i53, Value.int IntKind.i64 i54, Value.int IntKind.i64 i55, Value.int IntKind.i64 i56, Value.int IntKind.i64 i57])]) (Array.mk []))) l59 = some l60 ∧ ∀ (h61 : H), hmset h49 n58 l60 h61 → ∃ (i63 : Int), hc h61 (Addr.mk n9 0 none) = some (Value.int IntKind.i64 i63) ∧ ∃ (i64 : Int), hc h61 ((Addr.mk n9 0 none).add 1) = some (Value.int IntKind.i64 i64) ∧ ∃ (i65 : Int), hc h61 ((Addr.mk n9 0 none).add 2) = some (Value.int IntKind.i64 i65) ∧ ∃ (i66 : Int), hc h61 ((Addr.mk n9 0 none).add 3) = some (Value.int IntKind.i64 i66) ∧ ∃ (i67 : Int), hc h61 ((Addr.mk n9 0 none).add 4) = some (Value.int IntKind.i64 i67) ∧ ∃ (i68 : Int), hc h61 ((Addr.mk n9 0 none).add 5) = some (Value.int IntKind.i64 i68) ∧ ∃ (i69 : Int), hc h61 ((Addr.mk n9 0 none).add 6) = some (Value.int IntKind.i64 i69) ∧ ∃ (n70 : Nat), ∃ (l71 : List (Value × DV)), ∃ (l72 : List (Value × DV)), some n12 = some n70 ∧ hmap h61 n70 l71 ∧ mins (Value.int IntKind.i64 8) (DV.one (Value.func (Fn.func 152) (Array.mk [Value.agg (Array.mk [Value.int IntKind.i64 i63, Value.int IntKind.i64 i64, Value.int IntKind.i64 i65, Value.int IntKind.i64 i66, Value.int IntKind.i64 i67, Value.int IntKind.i64 i68, Value.int IntKind.i64 i69])]) (Array.mk []))) l71 = some l72 ∧ ∀ (h73 : H), hmset h61 n70 l72 h73 → Q (some n12) h73
theorem E_wear_config_acts  : ∀ (a0_0 : Int) (a0_1 : Int) (a0_2 : Int) (a0_3 : Int) (a0_4 : Int) (a0_5 : Int) (a0_6 : Int) (Q : (Option Nat) → H → Prop) (h : H), G_wear_config_acts a0_0 a0_1 a0_2 a0_3 a0_4 a0_5 a0_6 Q h = Dbody PP [] [] Try.f105 [.agg [.c (.int .i64 a0_0), .c (.int .i64 a0_1), .c (.int .i64 a0_2), .c (.int .i64 a0_3), .c (.int .i64 a0_4), .c (.int .i64 a0_5), .c (.int .i64 a0_6)]] (decR [.mp] Q) h := by intros; kernel_rfl
def F_wear_config_acts := G_wear_config_acts
theorem R_wear_config_acts : RunOk PP 105 (W [.ag [.int .i64, .int .i64, .int .i64, .int .i64, .int .i64, .int .i64, .int .i64]] [.mp] F_wear_config_acts) := runOk_of (T := []) (ann := []) (TblOk.nil) Try.func105 (by kernel_rfl) (by kernel_rfl) (E_wear_config_acts)
attribute [irreducible] F_wear_config_acts
def G_wear_Acts (c_chip_May : Int → Int → Int → Int → Int → Int → Int → (Int → H → Prop) → H → Prop) (c_wear_config_acts : Int → Int → Int → Int → Int → Int → Int → (Option Nat → H → Prop) → H → Prop) (a0_0 : Int) (a0_1 : Int) (a0_2 : Int) (a0_3 : Int) (a0_4 : Int) (a0_5 : Int) (a0_6 : Int) (a1 : Int) (Q : Int → H → Prop) (h : H) : Prop := ∀ (n12 : Nat) (h13 : H), hnew h n12 [Value.int IntKind.i64 a0_0, Value.int IntKind.i64 a0_1, Value.int IntKind.i64 a0_2, Value.int IntKind.i64 a0_3, Value.int IntKind.i64 a0_4, Value.int IntKind.i64 a0_5, Value.int IntKind.i64 a0_6] h13 → ∃ (i15 : Int), hc h13 (Addr.mk n12 0 none) = some (Value.int IntKind.i64 i15) ∧ ∃ (i16 : Int), hc h13 ((Addr.mk n12 0 none).add 1) = some (Value.int IntKind.i64 i16) ∧ ∃ (i17 : Int), hc h13 ((Addr.mk n12 0 none).add 2) = some (Value.int IntKind.i64 i17) ∧ ∃ (i18 : Int), hc h13 ((Addr.mk n12 0 none).add 3) = some (Value.int IntKind.i64 i18) ∧ ∃ (i19 : Int), hc h13 ((Addr.mk n12 0 none).add 4) = some (Value.int IntKind.i64 i19) ∧ ∃ (i20 : Int), hc h13 ((Addr.mk n12 0 none).add 5) = some (Value.int IntKind.i64 i20) ∧ ∃ (i21 : Int), hc h13 ((Addr.mk n12 0 none).add 6) = some (Value.int IntKind.i64 i21) ∧ c_chip_May i15 i16 i17 i18 i19 i20 i21 (fun (i22 : Int) (h23 : H) => if (i22 != 0) = true then Q 0 h23 else ∃ (i24 : Int), hc h23 (Addr.mk n12 0 none) = some (Value.int IntKind.i64 i24) ∧ ∃ (i25 : Int), hc h23 ((Addr.mk n12 0 none).add 1) = some (Value.int IntKind.i64 i25) ∧ ∃ (i26 : Int), hc h23 ((Addr.mk n12 0 none).add 2) = some (Value.int IntKind.i64 i26) ∧ ∃ (i27 : Int), hc h23 ((Addr.mk n12 0 none).add 3) = some (Value.int IntKind.i64 i27) ∧ ∃ (i28 : Int), hc h23 ((Addr.mk n12 0 none).add 4) = some (Value.int IntKind.i64 i28) ∧ ∃ (i29 : Int), hc h23 ((Addr.mk n12 0 none).add 5) = some (Value.int IntKind.i64 i29) ∧ ∃ (i30 : Int), hc h23 ((Addr.mk n12 0 none).add 6) = some (Value.int IntKind.i64 i30) ∧ c_wear_config_acts i24 i25 i26 i27 i28 i29 i30 (fun (o31 : Option Nat) (h32 : H) => ∃ (l33 : List (Value × DV)), ∃ (x34 : DV), ∃ (b35 : Bool), hmapO h32 o31 l33 ∧ mlook (Value.int IntKind.i64 a1) (DV.fnv Value.nilFunc) l33 = some (x34, b35) ∧ ∃ (v36 : Value), x34 = DV.fnv v36 ∧ if (!b35) = true then Q 0 h32 else callFn PP v36 [] (fun (l37 : List DV) (h38 : H) => ∃ (x39 : DV), ∃ (l40 : List DV), l37 = x39 :: l40 ∧ ∃ (i41 : Int), x39 = DV.one (Value.int IntKind.i64 i41) ∧ l40 = [] ∧ Q i41 h38) h32) h23) h13
theorem E_wear_Acts (c_chip_May : Int → Int → Int → Int → Int → Int → Int → (Int → H → Prop) → H → Prop) (c_wear_config_acts : Int → Int → Int → Int → Int → Int → Int → ((Option Nat) → H → Prop) → H → Prop) : ∀ (a0_0 : Int) (a0_1 : Int) (a0_2 : Int) (a0_3 : Int) (a0_4 : Int) (a0_5 : Int) (a0_6 : Int) (a1 : Int) (Q : Int → H → Prop) (h : H), G_wear_Acts c_chip_May c_wear_config_acts a0_0 a0_1 a0_2 a0_3 a0_4 a0_5 a0_6 a1 Q h = Dbody PP [(18, W [.ag [.int .i64, .int .i64, .int .i64, .int .i64, .int .i64, .int .i64, .int .i64]] [.int .i64] c_chip_May), (105, W [.ag [.int .i64, .int .i64, .int .i64, .int .i64, .int .i64, .int .i64, .int .i64]] [.mp] c_wear_config_acts)] [] Try.f51 [.agg [.c (.int .i64 a0_0), .c (.int .i64 a0_1), .c (.int .i64 a0_2), .c (.int .i64 a0_3), .c (.int .i64 a0_4), .c (.int .i64 a0_5), .c (.int .i64 a0_6)], .one (.int .i64 a1)] (decR [.int .i64] Q) h := by intros; kernel_rfl
def F_wear_Acts := G_wear_Acts F_chip_May F_wear_config_acts
theorem R_wear_Acts : RunOk PP 51 (W [.ag [.int .i64, .int .i64, .int .i64, .int .i64, .int .i64, .int .i64, .int .i64], .int .i64] [.int .i64] F_wear_Acts) := runOk_of (T := [(18, W [.ag [.int .i64, .int .i64, .int .i64, .int .i64, .int .i64, .int .i64, .int .i64]] [.int .i64] F_chip_May), (105, W [.ag [.int .i64, .int .i64, .int .i64, .int .i64, .int .i64, .int .i64, .int .i64]] [.mp] F_wear_config_acts)]) (ann := []) (TblOk.cons R_chip_May (TblOk.cons R_wear_config_acts (TblOk.nil))) Try.func51 (by kernel_rfl) (by kernel_rfl) (E_wear_Acts F_chip_May F_wear_config_acts)
attribute [irreducible] F_wear_Acts
def G_log_Mount (c_chip_Chip_Out : Addr → (Bool → H → Prop) → H → Prop) (a0 : Addr) (Q : Option Addr → Int → H → Prop) (h : H) : Prop := c_chip_Chip_Out a0 (fun (b4 : Bool) (h5 : H) => if b4 = true then Q none 8 h5 else ∀ (n6 : Nat) (h7 : H), hnew h5 n6 [Value.pointer (some a0)] h7 → Q (some (Addr.mk n6 0 none)) 0 h7) h
theorem E_log_Mount (c_chip_Chip_Out : Addr → (Bool → H → Prop) → H → Prop) : ∀ (a0 : Addr) (Q : (Option Addr) → Int → H → Prop) (h : H), G_log_Mount c_chip_Chip_Out a0 Q h = Dbody PP [(25, W [.addr] [.bool] c_chip_Chip_Out)] [] Try.f118 [.addr a0] (decR [.ptr, .int .i64] Q) h := by intros; kernel_rfl
def F_log_Mount := G_log_Mount F_chip_Chip_Out
theorem R_log_Mount : RunOk PP 118 (W [.addr] [.ptr, .int .i64] F_log_Mount) := runOk_of (T := [(25, W [.addr] [.bool] F_chip_Chip_Out)]) (ann := []) (TblOk.cons R_chip_Chip_Out (TblOk.nil)) Try.func118 (by kernel_rfl) (by kernel_rfl) (E_log_Mount F_chip_Chip_Out)
attribute [irreducible] F_log_Mount
def G_log_Log_look (c_page_Look : Addr → Int → (Int → List Int → Int → Bool → Int → Int → H → Prop) → H → Prop) (a0 : Addr) (Q : Int → List Int → Int → Bool → Int → Int → List Int → Int → Bool → Int → Int → Int → H → Prop) (h : H) : Prop := ∀ (n4 : Nat) (h5 : H), hnew h n4 (Value.int IntKind.i64 0 :: (ints IntKind.i64 (zeros 9) ++ Value.int IntKind.i64 0 :: Value.bool false :: Value.int IntKind.i64 0 :: Value.int IntKind.i64 0 :: (ints IntKind.i64 (zeros 9) ++ [Value.int IntKind.i64 0, Value.bool false, Value.int IntKind.i64 0, Value.int IntKind.i64 0]))) h5 → ∀ (n7 : Nat) (h8 : H), hnew h5 n7 (Value.int IntKind.i64 0 :: (ints IntKind.i64 (zeros 9) ++ Value.int IntKind.i64 0 :: Value.bool false :: Value.int IntKind.i64 0 :: Value.int IntKind.i64 0 :: (ints IntKind.i64 (zeros 9) ++ [Value.int IntKind.i64 0, Value.bool false, Value.int IntKind.i64 0, Value.int IntKind.i64 0]))) h8 → hcan h8 (Addr.mk n7 0 none) 27 ∧ ∀ (h10 : H), h10 = hwr h8 (Addr.mk n7 0 none) (Value.int IntKind.i64 0 :: (ints IntKind.i64 (zeros 9) ++ Value.int IntKind.i64 0 :: Value.bool false :: Value.int IntKind.i64 0 :: Value.int IntKind.i64 0 :: (ints IntKind.i64 (zeros 9) ++ [Value.int IntKind.i64 0, Value.bool false, Value.int IntKind.i64 0, Value.int IntKind.i64 (-1)]))) → ∀ (J12 : List SV → H → Prop), (∀ (i13 : Int) (h14 : H), (if ltI i13 2 = true then ∃ (o15 : Option Addr), hc h14 a0 = some (Value.pointer o15) ∧ ∃ (p16 : Addr), o15 = some p16 ∧ c_page_Look p16 i13 (fun (i17 : Int) (l18 : List Int) (i19 : Int) (b20 : Bool) (i21 i22 : Int) (h23 : H) => ∀ (n24 : Nat) (h25 : H), hnew h23 n24 (Value.int IntKind.i64 0 :: (ints IntKind.i64 (zeros 9) ++ [Value.int IntKind.i64 0, Value.bool false, Value.int IntKind.i64 0])) h25 → hcan h25 (Addr.mk n24 0 none) 13 ∧ ∀ (h27 : H), h27 = hwr h25 (Addr.mk n24 0 none) (Value.int IntKind.i64 i17 :: (ints IntKind.i64 l18 ++ [Value.int IntKind.i64 i19, Value.bool b20, Value.int IntKind.i64 i21])) → if (i22 != 0) = true then hcan h27 (Addr.mk n4 0 none) 27 ∧ ∀ (h29 : H), h29 = hwr h27 (Addr.mk n4 0 none) (Value.int IntKind.i64 0 :: (ints IntKind.i64 (zeros 9) ++ Value.int IntKind.i64 0 :: Value.bool false :: Value.int IntKind.i64 0 :: Value.int IntKind.i64 0 :: (ints IntKind.i64 (zeros 9) ++ [Value.int IntKind.i64 0, Value.bool false, Value.int IntKind.i64 0, Value.int IntKind.i64 0]))) → ∃ (i31 : Int), hc h29 (Addr.mk n4 0 none) = some (Value.int IntKind.i64 i31) ∧ ∃ (l32 : List Int), l32.length = 9 ∧ hrow h29 ((Addr.mk n4 0 none).add 1) IntKind.i64 l32 ∧ ∃ (i33 : Int), hc h29 ((Addr.mk n4 0 none).add 10) = some (Value.int IntKind.i64 i33) ∧ ∃ (b34 : Bool), hc h29 ((Addr.mk n4 0 none).add 11) = some (Value.bool b34) ∧ ∃ (i35 : Int), hc h29 ((Addr.mk n4 0 none).add 12) = some (Value.int IntKind.i64 i35) ∧ ∃ (i36 : Int), hc h29 ((Addr.mk n4 0 none).add 13) = some (Value.int IntKind.i64 i36) ∧ ∃ (l37 : List Int), l37.length = 9 ∧ hrow h29 ((Addr.mk n4 0 none).add 14) IntKind.i64 l37 ∧ ∃ (i38 : Int), hc h29 ((Addr.mk n4 0 none).add 23) = some (Value.int IntKind.i64 i38) ∧ ∃ (b39 : Bool), hc h29 ((Addr.mk n4 0 none).add 24) = some (Value.bool b39) ∧ ∃ (i40 : Int), hc h29 ((Addr.mk n4 0 none).add 25) = some (Value.int IntKind.i64 i40) ∧ ∃ (i41 : Int), hc h29 ((Addr.mk n4 0 none).add 26) = some (Value.int IntKind.i64 i41) ∧ Q i31 l32 i33 b34 i35 i36 l37 i38 b39 i40 i41 i22 h29 else ∃ (i42 : Int), hc h27 (Addr.mk n24 0 none) = some (Value.int IntKind.i64 i42) ∧ ∃ (l43 : List Int), l43.length = 9 ∧ hrow h27 ((Addr.mk n24 0 none).add 1) IntKind.i64 l43 ∧ ∃ (i44 : Int), hc h27 ((Addr.mk n24 0 none).add 10) = some (Value.int IntKind.i64 i44) ∧ ∃ (b45 : Bool), hc h27 ((Addr.mk n24 0 none).add 11) = some (Value.bool b45) ∧ ∃ (i46 : Int), hc h27 ((Addr.mk n24 0 none).add 12) = some (Value.int IntKind.i64 i46) ∧ 0 ≤ i13 ∧ i13 < (↑2 : Int) ∧ hcan h27 ((Addr.mk n7 0 none).add (i13.toNat * 13)) 13 ∧ ∀ (h47 : H), h47 = hwr h27 ((Addr.mk n7 0 none).add (i13.toNat * 13)) (Value.int IntKind.i64 i42 :: (ints IntKind.i64 l43 ++ [Value.int IntKind.i64 i44, Value.bool b45, Value.int IntKind.i64 i46])) → J12 [SV.dv (DV.one (Value.int IntKind.i64 (IntKind.i64.wrap (i13 + 1))))] h47) h14 else (0 : Int) ≤ 0 ∧ (0 : Int) < (↑2 : Int) ∧ ∃ (i49 : Int), hc h14 (Addr.mk n7 0 none) = some (Value.int IntKind.i64 i49) ∧ (0 : Int) ≤ 1 ∧ (1 : Int) < (↑2 : Int) ∧ ∃ (i50 : Int), hc h14 ((Addr.mk n7 0 none).add 13) = some (Value.int IntKind.i64 i50) ∧ if ltI 0 i49 = true then if leI i50 i49 = true then hcan h14 ((Addr.mk n7 0 none).add 26) 1 ∧ ∀ (h51 : H), h51 = hwr h14 ((Addr.mk n7 0 none).add 26) [Value.int IntKind.i64 0] → ∃ (i53 : Int), hc h51 (Addr.mk n7 0 none) = some (Value.int IntKind.i64 i53) ∧ ∃ (l54 : List Int), l54.length = 9 ∧ hrow h51 ((Addr.mk n7 0 none).add 1) IntKind.i64 l54 ∧ ∃ (i55 : Int), hc h51 ((Addr.mk n7 0 none).add 10) = some (Value.int IntKind.i64 i55) ∧ ∃ (b56 : Bool), hc h51 ((Addr.mk n7 0 none).add 11) = some (Value.bool b56) ∧ ∃ (i57 : Int), hc h51 ((Addr.mk n7 0 none).add 12) = some (Value.int IntKind.i64 i57) ∧ ∃ (i58 : Int), hc h51 ((Addr.mk n7 0 none).add 13) = some (Value.int IntKind.i64 i58) ∧ ∃ (l59 : List Int), l59.length = 9 ∧ hrow h51 ((Addr.mk n7 0 none).add 14) IntKind.i64 l59 ∧ ∃ (i60 : Int), hc h51 ((Addr.mk n7 0 none).add 23) = some (Value.int IntKind.i64 i60) ∧ ∃ (b61 : Bool), hc h51 ((Addr.mk n7 0 none).add 24) = some (Value.bool b61) ∧ ∃ (i62 : Int), hc h51 ((Addr.mk n7 0 none).add 25) = some (Value.int IntKind.i64 i62) ∧ ∃ (i63 : Int), hc h51 ((Addr.mk n7 0 none).add 26) = some (Value.int IntKind.i64 i63) ∧ hcan h51 (Addr.mk n4 0 none) 27 ∧ ∀ (h64 : H), h64 = hwr h51 (Addr.mk n4 0 none) (Value.int IntKind.i64 i53 :: (ints IntKind.i64 l54 ++ Value.int IntKind.i64 i55 :: Value.bool b56 :: Value.int IntKind.i64 i57 :: Value.int IntKind.i64 i58 :: (ints IntKind.i64 l59 ++ [Value.int IntKind.i64 i60, Value.bool b61, Value.int IntKind.i64 i62, Value.int IntKind.i64 i63]))) → ∃ (i66 : Int), hc h64 (Addr.mk n4 0 none) = some (Value.int IntKind.i64 i66) ∧ ∃ (l67 : List Int), l67.length = 9 ∧ hrow h64 ((Addr.mk n4 0 none).add 1) IntKind.i64 l67 ∧ ∃ (i68 : Int), hc h64 ((Addr.mk n4 0 none).add 10) = some (Value.int IntKind.i64 i68) ∧ ∃ (b69 : Bool), hc h64 ((Addr.mk n4 0 none).add 11) = some (Value.bool b69) ∧ ∃ (i70 : Int), hc h64 ((Addr.mk n4 0 none).add 12) = some (Value.int IntKind.i64 i70) ∧ ∃ (i71 : Int), hc h64 ((Addr.mk n4 0 none).add 13) = some (Value.int IntKind.i64 i71) ∧ ∃ (l72 : List Int), l72.length = 9 ∧ hrow h64 ((Addr.mk n4 0 none).add 14) IntKind.i64 l72 ∧ ∃ (i73 : Int), hc h64 ((Addr.mk n4 0 none).add 23) = some (Value.int IntKind.i64 i73) ∧ ∃ (b74 : Bool), hc h64 ((Addr.mk n4 0 none).add 24) = some (Value.bool b74) ∧ ∃ (i75 : Int), hc h64 ((Addr.mk n4 0 none).add 25) = some (Value.int IntKind.i64 i75) ∧ ∃ (i76 : Int), hc h64 ((Addr.mk n4 0 none).add 26) = some (Value.int IntKind.i64 i76) ∧ Q i66 l67 i68 b69 i70 i71 l72 i73 b74 i75 i76 0 h64 else if ltI 0 i50 = true then hcan h14 ((Addr.mk n7 0 none).add 26) 1 ∧ ∀ (h77 : H), h77 = hwr h14 ((Addr.mk n7 0 none).add 26) [Value.int IntKind.i64 1] → ∃ (i79 : Int), hc h77 (Addr.mk n7 0 none) = some (Value.int IntKind.i64 i79) ∧ ∃ (l80 : List Int), l80.length = 9 ∧ hrow h77 ((Addr.mk n7 0 none).add 1) IntKind.i64 l80 ∧ ∃ (i81 : Int), hc h77 ((Addr.mk n7 0 none).add 10) = some (Value.int IntKind.i64 i81) ∧ ∃ (b82 : Bool), hc h77 ((Addr.mk n7 0 none).add 11) = some (Value.bool b82) ∧ ∃ (i83 : Int), hc h77 ((Addr.mk n7 0 none).add 12) = some (Value.int IntKind.i64 i83) ∧ ∃ (i84 : Int), hc h77 ((Addr.mk n7 0 none).add 13) = some (Value.int IntKind.i64 i84) ∧ ∃ (l85 : List Int), l85.length = 9 ∧ hrow h77 ((Addr.mk n7 0 none).add 14) IntKind.i64 l85 ∧ ∃ (i86 : Int), hc h77 ((Addr.mk n7 0 none).add 23) = some (Value.int IntKind.i64 i86) ∧ ∃ (b87 : Bool), hc h77 ((Addr.mk n7 0 none).add 24) = some (Value.bool b87) ∧ ∃ (i88 : Int), hc h77 ((Addr.mk n7 0 none).add 25) = some (Value.int IntKind.i64 i88) ∧ ∃ (i89 : Int), hc h77 ((Addr.mk n7 0 none).add 26) = some (Value.int IntKind.i64 i89) ∧ hcan h77 (Addr.mk n4 0 none) 27 ∧ ∀ (h90 : H), h90 = hwr h77 (Addr.mk n4 0 none) (Value.int IntKind.i64 i79 :: (ints IntKind.i64 l80 ++ Value.int IntKind.i64 i81 :: Value.bool b82 :: Value.int IntKind.i64 i83 :: Value.int IntKind.i64 i84 :: (ints IntKind.i64 l85 ++ [Value.int IntKind.i64 i86, Value.bool b87, Value.int IntKind.i64 i88, Value.int IntKind.i64 i89]))) → ∃ (i92 : Int), hc h90 (Addr.mk n4 0 none) = some (Value.int IntKind.i64 i92) ∧ ∃ (l93 : List Int), l93.length = 9 ∧ hrow h90 ((Addr.mk n4 0 none).add 1) IntKind.i64 l93 ∧ ∃ (i94 : Int), hc h90 ((Addr.mk n4 0 none).add 10) = some (Value.int IntKind.i64 i94) ∧ ∃ (b95 : Bool), hc h90 ((Addr.mk n4 0 none).add 11) = some (Value.bool b95) ∧ ∃ (i96 : Int), hc h90 ((Addr.mk n4 0 none).add 12) = some (Value.int IntKind.i64 i96) ∧ ∃ (i97 : Int), hc h90 ((Addr.mk n4 0 none).add 13) = some (Value.int IntKind.i64 i97) ∧ ∃ (l98 : List Int), l98.length = 9 ∧ hrow h90 ((Addr.mk n4 0 none).add 14) IntKind.i64 l98 ∧ ∃ (i99 : Int), hc h90 ((Addr.mk n4 0 none).add 23) = some (Value.int IntKind.i64 i99) ∧ ∃ (b100 : Bool), hc h90 ((Addr.mk n4 0 none).add 24) = some (Value.bool b100) ∧ ∃ (i101 : Int), hc h90 ((Addr.mk n4 0 none).add 25) = some (Value.int IntKind.i64 i101) ∧ ∃ (i102 : Int), hc h90 ((Addr.mk n4 0 none).add 26) = some (Value.int IntKind.i64 i102) ∧ Q i92 l93 i94 b95 i96 i97 l98 i99 b100 i101 i102 0 h90 else ∃ (i103 : Int), hc h14 (Addr.mk n7 0 none) = some (Value.int IntKind.i64 i103) ∧ ∃ (l104 : List Int), l104.length = 9 ∧ hrow h14 ((Addr.mk n7 0 none).add 1) IntKind.i64 l104 ∧ ∃ (i105 : Int), hc h14 ((Addr.mk n7 0 none).add 10) = some (Value.int IntKind.i64 i105) ∧ ∃ (b106 : Bool), hc h14 ((Addr.mk n7 0 none).add 11) = some (Value.bool b106) ∧ ∃ (i107 : Int), hc h14 ((Addr.mk n7 0 none).add 12) = some (Value.int IntKind.i64 i107) ∧ ∃ (i108 : Int), hc h14 ((Addr.mk n7 0 none).add 13) = some (Value.int IntKind.i64 i108) ∧ ∃ (l109 : List Int), l109.length = 9 ∧ hrow h14 ((Addr.mk n7 0 none).add 14) IntKind.i64 l109 ∧ ∃ (i110 : Int), hc h14 ((Addr.mk n7 0 none).add 23) = some (Value.int IntKind.i64 i110) ∧ ∃ (b111 : Bool), hc h14 ((Addr.mk n7 0 none).add 24) = some (Value.bool b111) ∧ ∃ (i112 : Int), hc h14 ((Addr.mk n7 0 none).add 25) = some (Value.int IntKind.i64 i112) ∧ ∃ (i113 : Int), hc h14 ((Addr.mk n7 0 none).add 26) = some (Value.int IntKind.i64 i113) ∧ hcan h14 (Addr.mk n4 0 none) 27 ∧ ∀ (h114 : H), h114 = hwr h14 (Addr.mk n4 0 none) (Value.int IntKind.i64 i103 :: (ints IntKind.i64 l104 ++ Value.int IntKind.i64 i105 :: Value.bool b106 :: Value.int IntKind.i64 i107 :: Value.int IntKind.i64 i108 :: (ints IntKind.i64 l109 ++ [Value.int IntKind.i64 i110, Value.bool b111, Value.int IntKind.i64 i112, Value.int IntKind.i64 i113]))) → ∃ (i116 : Int), hc h114 (Addr.mk n4 0 none) = some (Value.int IntKind.i64 i116) ∧ ∃ (l117 : List Int), l117.length = 9 ∧ hrow h114 ((Addr.mk n4 0 none).add 1) IntKind.i64 l117 ∧ ∃ (i118 : Int), hc h114 ((Addr.mk n4 0 none).add 10) = some (Value.int IntKind.i64 i118) ∧ ∃ (b119 : Bool), hc h114 ((Addr.mk n4 0 none).add 11) = some (Value.bool b119) ∧ ∃ (i120 : Int), hc h114 ((Addr.mk n4 0 none).add 12) = some (Value.int IntKind.i64 i120) ∧ ∃ (i121 : Int), hc h114 ((Addr.mk n4 0 none).add 13) = some (Value.int IntKind.i64 i121) ∧ ∃ (l122 : List Int), l122.length = 9 ∧ hrow h114 ((Addr.mk n4 0 none).add 14) IntKind.i64 l122 ∧ ∃ (i123 : Int), hc h114 ((Addr.mk n4 0 none).add 23) = some (Value.int IntKind.i64 i123) ∧ ∃ (b124 : Bool), hc h114 ((Addr.mk n4 0 none).add 24) = some (Value.bool b124) ∧ ∃ (i125 : Int), hc h114 ((Addr.mk n4 0 none).add 25) = some (Value.int IntKind.i64 i125) ∧ ∃ (i126 : Int), hc h114 ((Addr.mk n4 0 none).add 26) = some (Value.int IntKind.i64 i126) ∧ Q i116 l117 i118 b119 i120 i121 l122 i123 b124 i125 i126 0 h114 else if ltI 0 i50 = true then hcan h14 ((Addr.mk n7 0 none).add 26) 1 ∧ ∀ (h127 : H), h127 = hwr h14 ((Addr.mk n7 0 none).add 26) [Value.int IntKind.i64 1] → ∃ (i129 : Int), hc h127 (Addr.mk n7 0 none) = some (Value.int IntKind.i64 i129) ∧ ∃ (l130 : List Int), l130.length = 9 ∧ hrow h127 ((Addr.mk n7 0 none).add 1) IntKind.i64 l130 ∧ ∃ (i131 : Int), hc h127 ((Addr.mk n7 0 none).add 10) = some (Value.int IntKind.i64 i131) ∧ ∃ (b132 : Bool), hc h127 ((Addr.mk n7 0 none).add 11) = some (Value.bool b132) ∧ ∃ (i133 : Int), hc h127 ((Addr.mk n7 0 none).add 12) = some (Value.int IntKind.i64 i133) ∧ ∃ (i134 : Int), hc h127 ((Addr.mk n7 0 none).add 13) = some (Value.int IntKind.i64 i134) ∧ ∃ (l135 : List Int), l135.length = 9 ∧ hrow h127 ((Addr.mk n7 0 none).add 14) IntKind.i64 l135 ∧ ∃ (i136 : Int), hc h127 ((Addr.mk n7 0 none).add 23) = some (Value.int IntKind.i64 i136) ∧ ∃ (b137 : Bool), hc h127 ((Addr.mk n7 0 none).add 24) = some (Value.bool b137) ∧ ∃ (i138 : Int), hc h127 ((Addr.mk n7 0 none).add 25) = some (Value.int IntKind.i64 i138) ∧ ∃ (i139 : Int), hc h127 ((Addr.mk n7 0 none).add 26) = some (Value.int IntKind.i64 i139) ∧ hcan h127 (Addr.mk n4 0 none) 27 ∧ ∀ (h140 : H), h140 = hwr h127 (Addr.mk n4 0 none) (Value.int IntKind.i64 i129 :: (ints IntKind.i64 l130 ++ Value.int IntKind.i64 i131 :: Value.bool b132 :: Value.int IntKind.i64 i133 :: Value.int IntKind.i64 i134 :: (ints IntKind.i64 l135 ++ [Value.int IntKind.i64 i136, Value.bool b137, Value.int IntKind.i64 i138, Value.int IntKind.i64 i139]))) → ∃ (i142 : Int), hc h140 (Addr.mk n4 0 none) = some (Value.int IntKind.i64 i142) ∧ ∃ (l143 : List Int), l143.length = 9 ∧ hrow h140 ((Addr.mk n4 0 none).add 1) IntKind.i64 l143 ∧ ∃ (i144 : Int), hc h140 ((Addr.mk n4 0 none).add 10) = some (Value.int IntKind.i64 i144) ∧ ∃ (b145 : Bool), hc h140 ((Addr.mk n4 0 none).add 11) = some (Value.bool b145) ∧ ∃ (i146 : Int), hc h140 ((Addr.mk n4 0 none).add 12) = some (Value.int IntKind.i64 i146) ∧ ∃ (i147 : Int), hc h140 ((Addr.mk n4 0 none).add 13) = some (Value.int IntKind.i64 i147) ∧ ∃ (l148 : List Int), l148.length = 9 ∧ hrow h140 ((Addr.mk n4 0 none).add 14) IntKind.i64 l148 ∧ ∃ (i149 : Int), hc h140 ((Addr.mk n4 0 none).add 23) = some (Value.int IntKind.i64 i149) ∧ ∃ (b150 : Bool), hc h140 ((Addr.mk n4 0 none).add 24) = some (Value.bool b150) ∧ ∃ (i151 : Int), hc h140 ((Addr.mk n4 0 none).add 25) = some (Value.int IntKind.i64 i151) ∧ ∃ (i152 : Int), hc h140 ((Addr.mk n4 0 none).add 26) = some (Value.int IntKind.i64 i152) ∧ Q i142 l143 i144 b145 i146 i147 l148 i149 b150 i151 i152 0 h140 else ∃ (i153 : Int), hc h14 (Addr.mk n7 0 none) = some (Value.int IntKind.i64 i153) ∧ ∃ (l154 : List Int), l154.length = 9 ∧ hrow h14 ((Addr.mk n7 0 none).add 1) IntKind.i64 l154 ∧ ∃ (i155 : Int), hc h14 ((Addr.mk n7 0 none).add 10) = some (Value.int IntKind.i64 i155) ∧ ∃ (b156 : Bool), hc h14 ((Addr.mk n7 0 none).add 11) = some (Value.bool b156) ∧ ∃ (i157 : Int), hc h14 ((Addr.mk n7 0 none).add 12) = some (Value.int IntKind.i64 i157) ∧ ∃ (i158 : Int), hc h14 ((Addr.mk n7 0 none).add 13) = some (Value.int IntKind.i64 i158) ∧ ∃ (l159 : List Int), l159.length = 9 ∧ hrow h14 ((Addr.mk n7 0 none).add 14) IntKind.i64 l159 ∧ ∃ (i160 : Int), hc h14 ((Addr.mk n7 0 none).add 23) = some (Value.int IntKind.i64 i160) ∧ ∃ (b161 : Bool), hc h14 ((Addr.mk n7 0 none).add 24) = some (Value.bool b161) ∧ ∃ (i162 : Int), hc h14 ((Addr.mk n7 0 none).add 25) = some (Value.int IntKind.i64 i162) ∧ ∃ (i163 : Int), hc h14 ((Addr.mk n7 0 none).add 26) = some (Value.int IntKind.i64 i163) ∧ hcan h14 (Addr.mk n4 0 none) 27 ∧ ∀ (h164 : H), h164 = hwr h14 (Addr.mk n4 0 none) (Value.int IntKind.i64 i153 :: (ints IntKind.i64 l154 ++ Value.int IntKind.i64 i155 :: Value.bool b156 :: Value.int IntKind.i64 i157 :: Value.int IntKind.i64 i158 :: (ints IntKind.i64 l159 ++ [Value.int IntKind.i64 i160, Value.bool b161, Value.int IntKind.i64 i162, Value.int IntKind.i64 i163]))) → ∃ (i166 : Int), hc h164 (Addr.mk n4 0 none) = some (Value.int IntKind.i64 i166) ∧ ∃ (l167 : List Int), l167.length = 9 ∧ hrow h164 ((Addr.mk n4 0 none).add 1) IntKind.i64 l167 ∧ ∃ (i168 : Int), hc h164 ((Addr.mk n4 0 none).add 10) = some (Value.int IntKind.i64 i168) ∧ ∃ (b169 : Bool), hc h164 ((Addr.mk n4 0 none).add 11) = some (Value.bool b169) ∧ ∃ (i170 : Int), hc h164 ((Addr.mk n4 0 none).add 12) = some (Value.int IntKind.i64 i170) ∧ ∃ (i171 : Int), hc h164 ((Addr.mk n4 0 none).add 13) = some (Value.int IntKind.i64 i171) ∧ ∃ (l172 : List Int), l172.length = 9 ∧ hrow h164 ((Addr.mk n4 0 none).add 14) IntKind.i64 l172 ∧ ∃ (i173 : Int), hc h164 ((Addr.mk n4 0 none).add 23) = some (Value.int IntKind.i64 i173) ∧ ∃ (b174 : Bool), hc h164 ((Addr.mk n4 0 none).add 24) = some (Value.bool b174) ∧ ∃ (i175 : Int), hc h164 ((Addr.mk n4 0 none).add 25) = some (Value.int IntKind.i64 i175) ∧ ∃ (i176 : Int), hc h164 ((Addr.mk n4 0 none).add 26) = some (Value.int IntKind.i64 i176) ∧ Q i166 l167 i168 b169 i170 i171 l172 i173 b174 i175 i176 0 h164) → J12 [SV.dv (DV.one (Value.int IntKind.i64 i13))] h14) → J12 [SV.dv (DV.one (Value.int IntKind.i64 0))] h10
theorem E_log_Log_look (c_page_Look : Addr → Int → (Int → (List Int) → Int → Bool → Int → Int → H → Prop) → H → Prop) : ∀ (a0 : Addr) (Q : Int → (List Int) → Int → Bool → Int → Int → (List Int) → Int → Bool → Int → Int → Int → H → Prop) (h : H), G_log_Log_look c_page_Look a0 Q h = Dbody PP [(38, W [.addr, .int .i64] [.ag [.int .i64, .row .i64 9, .int .i64, .bool, .int .i64], .int .i64] c_page_Look)] [(58, [(11, .sc (.int .i64))])] Try.f161 [.addr a0] (decR [.ag [.int .i64, .row .i64 9, .int .i64, .bool, .int .i64, .int .i64, .row .i64 9, .int .i64, .bool, .int .i64, .int .i64], .int .i64] Q) h := by intros; kernel_rfl
def F_log_Log_look := G_log_Log_look F_page_Look
theorem R_log_Log_look : RunOk PP 161 (W [.addr] [.ag [.int .i64, .row .i64 9, .int .i64, .bool, .int .i64, .int .i64, .row .i64 9, .int .i64, .bool, .int .i64, .int .i64], .int .i64] F_log_Log_look) := runOk_of (T := [(38, W [.addr, .int .i64] [.ag [.int .i64, .row .i64 9, .int .i64, .bool, .int .i64], .int .i64] F_page_Look)]) (ann := [(58, [(11, .sc (.int .i64))])]) (TblOk.cons R_page_Look (TblOk.nil)) Try.func161 (by kernel_rfl) (by kernel_rfl) (E_log_Log_look F_page_Look)
attribute [irreducible] F_log_Log_look
end Go.Proofs.Ytamfkofcpoglnaa
end

/- Denotations of functions of the program, printed by a program of ours, and that they are the model's. -/
section
set_option linter.unusedVariables false
set_option maxRecDepth 100000
namespace Go.Proofs.Ytamfkofcpoglnaa
open Go Go.Vc
def G_log_found_info (a0_0 : Int) (a0_1 : List Int) (a0_2 : Int) (a0_3 : Bool) (a0_4 : Int) (a0_5 : Int) (a0_6 : List Int) (a0_7 : Int) (a0_8 : Bool) (a0_9 : Int) (a0_10 : Int) (Q : Int → List Int → Int → Bool → Int → H → Prop) (h : H) : Prop := ∀ (n13 : Nat) (h14 : H), hnew h n13 (Value.int IntKind.i64 a0_0 :: (ints IntKind.i64 a0_1 ++ Value.int IntKind.i64 a0_2 :: Value.bool a0_3 :: Value.int IntKind.i64 a0_4 :: Value.int IntKind.i64 a0_5 :: (ints IntKind.i64 a0_6 ++ [Value.int IntKind.i64 a0_7, Value.bool a0_8, Value.int IntKind.i64 a0_9, Value.int IntKind.i64 a0_10]))) h14 → ∀ (n16 : Nat) (h17 : H), hnew h14 n16 (Value.int IntKind.i64 0 :: (ints IntKind.i64 (zeros 9) ++ [Value.int IntKind.i64 0, Value.bool false, Value.int IntKind.i64 0])) h17 → ∃ (i19 : Int), hc h17 ((Addr.mk n13 0 none).add 26) = some (Value.int IntKind.i64 i19) ∧ if ltI i19 0 = true then hcan h17 (Addr.mk n16 0 none) 13 ∧ ∀ (h20 : H), h20 = hwr h17 (Addr.mk n16 0 none) (Value.int IntKind.i64 0 :: (ints IntKind.i64 (zeros 9) ++ [Value.int IntKind.i64 0, Value.bool false, Value.int IntKind.i64 0])) → ∃ (i22 : Int), hc h20 (Addr.mk n16 0 none) = some (Value.int IntKind.i64 i22) ∧ ∃ (l23 : List Int), l23.length = 9 ∧ hrow h20 ((Addr.mk n16 0 none).add 1) IntKind.i64 l23 ∧ ∃ (i24 : Int), hc h20 ((Addr.mk n16 0 none).add 10) = some (Value.int IntKind.i64 i24) ∧ ∃ (b25 : Bool), hc h20 ((Addr.mk n16 0 none).add 11) = some (Value.bool b25) ∧ ∃ (i26 : Int), hc h20 ((Addr.mk n16 0 none).add 12) = some (Value.int IntKind.i64 i26) ∧ Q i22 l23 i24 b25 i26 h20 else ∃ (i27 : Int), hc h17 ((Addr.mk n13 0 none).add 26) = some (Value.int IntKind.i64 i27) ∧ 0 ≤ i27 ∧ i27 < (↑2 : Int) ∧ ∃ (i28 : Int), hc h17 ((Addr.mk n13 0 none).add (i27.toNat * 13)) = some (Value.int IntKind.i64 i28) ∧ ∃ (l29 : List Int), l29.length = 9 ∧ hrow h17 (((Addr.mk n13 0 none).add (i27.toNat * 13)).add 1) IntKind.i64 l29 ∧ ∃ (i30 : Int), hc h17 (((Addr.mk n13 0 none).add (i27.toNat * 13)).add 10) = some (Value.int IntKind.i64 i30) ∧ ∃ (b31 : Bool), hc h17 (((Addr.mk n13 0 none).add (i27.toNat * 13)).add 11) = some (Value.bool b31) ∧ ∃ (i32 : Int), hc h17 (((Addr.mk n13 0 none).add (i27.toNat * 13)).add 12) = some (Value.int IntKind.i64 i32) ∧ hcan h17 (Addr.mk n16 0 none) 13 ∧ ∀ (h33 : H), h33 = hwr h17 (Addr.mk n16 0 none) (Value.int IntKind.i64 i28 :: (ints IntKind.i64 l29 ++ [Value.int IntKind.i64 i30, Value.bool b31, Value.int IntKind.i64 i32])) → ∃ (i35 : Int), hc h33 (Addr.mk n16 0 none) = some (Value.int IntKind.i64 i35) ∧ ∃ (l36 : List Int), l36.length = 9 ∧ hrow h33 ((Addr.mk n16 0 none).add 1) IntKind.i64 l36 ∧ ∃ (i37 : Int), hc h33 ((Addr.mk n16 0 none).add 10) = some (Value.int IntKind.i64 i37) ∧ ∃ (b38 : Bool), hc h33 ((Addr.mk n16 0 none).add 11) = some (Value.bool b38) ∧ ∃ (i39 : Int), hc h33 ((Addr.mk n16 0 none).add 12) = some (Value.int IntKind.i64 i39) ∧ Q i35 l36 i37 b38 i39 h33
theorem E_log_found_info  : ∀ (a0_0 : Int) (a0_1 : List Int) (a0_2 : Int) (a0_3 : Bool) (a0_4 : Int) (a0_5 : Int) (a0_6 : List Int) (a0_7 : Int) (a0_8 : Bool) (a0_9 : Int) (a0_10 : Int) (Q : Int → (List Int) → Int → Bool → Int → H → Prop) (h : H), G_log_found_info a0_0 a0_1 a0_2 a0_3 a0_4 a0_5 a0_6 a0_7 a0_8 a0_9 a0_10 Q h = Dbody PP [] [] Try.f162 [.agg [.c (.int .i64 a0_0), .row .i64 9 a0_1, .c (.int .i64 a0_2), .c (.bool a0_3), .c (.int .i64 a0_4), .c (.int .i64 a0_5), .row .i64 9 a0_6, .c (.int .i64 a0_7), .c (.bool a0_8), .c (.int .i64 a0_9), .c (.int .i64 a0_10)]] (decR [.ag [.int .i64, .row .i64 9, .int .i64, .bool, .int .i64]] Q) h := by intros; kernel_rfl
def F_log_found_info := G_log_found_info
theorem R_log_found_info : RunOk PP 162 (W [.ag [.int .i64, .row .i64 9, .int .i64, .bool, .int .i64, .int .i64, .row .i64 9, .int .i64, .bool, .int .i64, .int .i64]] [.ag [.int .i64, .row .i64 9, .int .i64, .bool, .int .i64]] F_log_found_info) := runOk_of (T := []) (ann := []) (TblOk.nil) Try.func162 (by kernel_rfl) (by kernel_rfl) (E_log_found_info)
attribute [irreducible] F_log_found_info
def G_log_Log_Free (c_chip_Chip_Config : Addr → (Int → Int → Int → Int → Int → Int → Int → H → Prop) → H → Prop) (c_log_Log_look : Addr → (Int → List Int → Int → Bool → Int → Int → List Int → Int → Bool → Int → Int → Int → H → Prop) → H → Prop) (c_log_found_info : Int → List Int → Int → Bool → Int → Int → List Int → Int → Bool → Int → Int → (Int → List Int → Int → Bool → Int → H → Prop) → H → Prop) (a0 : Addr) (Q : Int → H → Prop) (h : H) : Prop := c_log_Log_look a0 (fun (i6 : Int) (l7 : List Int) (i8 : Int) (b9 : Bool) (i10 i11 : Int) (l12 : List Int) (i13 : Int) (b14 : Bool) (i15 i16 i17 : Int) (h18 : H) => ∀ (n19 : Nat) (h20 : H), hnew h18 n19 (Value.int IntKind.i64 0 :: (ints IntKind.i64 (zeros 9) ++ Value.int IntKind.i64 0 :: Value.bool false :: Value.int IntKind.i64 0 :: Value.int IntKind.i64 0 :: (ints IntKind.i64 (zeros 9) ++ [Value.int IntKind.i64 0, Value.bool false, Value.int IntKind.i64 0, Value.int IntKind.i64 0]))) h20 → hcan h20 (Addr.mk n19 0 none) 27 ∧ ∀ (h22 : H), h22 = hwr h20 (Addr.mk n19 0 none) (Value.int IntKind.i64 i6 :: (ints IntKind.i64 l7 ++ Value.int IntKind.i64 i8 :: Value.bool b9 :: Value.int IntKind.i64 i10 :: Value.int IntKind.i64 i11 :: (ints IntKind.i64 l12 ++ [Value.int IntKind.i64 i13, Value.bool b14, Value.int IntKind.i64 i15, Value.int IntKind.i64 i16]))) → if (i17 != 0) = true then Q 0 h22 else ∃ (i24 : Int), hc h22 ((Addr.mk n19 0 none).add 26) = some (Value.int IntKind.i64 i24) ∧ if ltI i24 0 = true then Q 0 h22 else ∃ (o25 : Option Addr), hc h22 a0 = some (Value.pointer o25) ∧ ∃ (i26 : Int), hc h22 (Addr.mk n19 0 none) = some (Value.int IntKind.i64 i26) ∧ ∃ (l27 : List Int), l27.length = 9 ∧ hrow h22 ((Addr.mk n19 0 none).add 1) IntKind.i64 l27 ∧ ∃ (i28 : Int), hc h22 ((Addr.mk n19 0 none).add 10) = some (Value.int IntKind.i64 i28) ∧ ∃ (b29 : Bool), hc h22 ((Addr.mk n19 0 none).add 11) = some (Value.bool b29) ∧ ∃ (i30 : Int), hc h22 ((Addr.mk n19 0 none).add 12) = some (Value.int IntKind.i64 i30) ∧ ∃ (i31 : Int), hc h22 ((Addr.mk n19 0 none).add 13) = some (Value.int IntKind.i64 i31) ∧ ∃ (l32 : List Int), l32.length = 9 ∧ hrow h22 ((Addr.mk n19 0 none).add 14) IntKind.i64 l32 ∧ ∃ (i33 : Int), hc h22 ((Addr.mk n19 0 none).add 23) = some (Value.int IntKind.i64 i33) ∧ ∃ (b34 : Bool), hc h22 ((Addr.mk n19 0 none).add 24) = some (Value.bool b34) ∧ ∃ (i35 : Int), hc h22 ((Addr.mk n19 0 none).add 25) = some (Value.int IntKind.i64 i35) ∧ ∃ (i36 : Int), hc h22 ((Addr.mk n19 0 none).add 26) = some (Value.int IntKind.i64 i36) ∧ ∃ (p37 : Addr), o25 = some p37 ∧ c_chip_Chip_Config p37 (fun (i38 i39 i40 i41 i42 i43 i44 : Int) (h45 : H) => hcs h45 (Addr.mk n19 0 none) (Value.int IntKind.i64 i26 :: (ints IntKind.i64 l27 ++ Value.int IntKind.i64 i28 :: Value.bool b29 :: Value.int IntKind.i64 i30 :: Value.int IntKind.i64 i31 :: (ints IntKind.i64 l32 ++ [Value.int IntKind.i64 i33, Value.bool b34, Value.int IntKind.i64 i35, Value.int IntKind.i64 i36]))) ∧ c_log_found_info i26 l27 i28 b29 i30 i31 l32 i33 b34 i35 i36 (fun (i46 : Int) (l47 : List Int) (i48 : Int) (b49 : Bool) (i50 : Int) (h51 : H) => Q (IntKind.i64.wrap (i38 - i48)) h51) h45) h22) h
theorem E_log_Log_Free (c_chip_Chip_Config : Addr → (Int → Int → Int → Int → Int → Int → Int → H → Prop) → H → Prop) (c_log_Log_look : Addr → (Int → (List Int) → Int → Bool → Int → Int → (List Int) → Int → Bool → Int → Int → Int → H → Prop) → H → Prop) (c_log_found_info : Int → (List Int) → Int → Bool → Int → Int → (List Int) → Int → Bool → Int → Int → (Int → (List Int) → Int → Bool → Int → H → Prop) → H → Prop) : ∀ (a0 : Addr) (Q : Int → H → Prop) (h : H), G_log_Log_Free c_chip_Chip_Config c_log_Log_look c_log_found_info a0 Q h = Dbody PP [(91, W [.addr] [.ag [.int .i64, .int .i64, .int .i64, .int .i64, .int .i64, .int .i64, .int .i64]] c_chip_Chip_Config), (161, W [.addr] [.ag [.int .i64, .row .i64 9, .int .i64, .bool, .int .i64, .int .i64, .row .i64 9, .int .i64, .bool, .int .i64, .int .i64], .int .i64] c_log_Log_look), (162, W [.ag [.int .i64, .row .i64 9, .int .i64, .bool, .int .i64, .int .i64, .row .i64 9, .int .i64, .bool, .int .i64, .int .i64]] [.ag [.int .i64, .row .i64 9, .int .i64, .bool, .int .i64]] c_log_found_info)] [] Try.f119 [.addr a0] (decR [.int .i64] Q) h := by intros; kernel_rfl
def F_log_Log_Free := G_log_Log_Free F_chip_Chip_Config F_log_Log_look F_log_found_info
theorem R_log_Log_Free : RunOk PP 119 (W [.addr] [.int .i64] F_log_Log_Free) := runOk_of (T := [(91, W [.addr] [.ag [.int .i64, .int .i64, .int .i64, .int .i64, .int .i64, .int .i64, .int .i64]] F_chip_Chip_Config), (161, W [.addr] [.ag [.int .i64, .row .i64 9, .int .i64, .bool, .int .i64, .int .i64, .row .i64 9, .int .i64, .bool, .int .i64, .int .i64], .int .i64] F_log_Log_look), (162, W [.ag [.int .i64, .row .i64 9, .int .i64, .bool, .int .i64, .int .i64, .row .i64 9, .int .i64, .bool, .int .i64, .int .i64]] [.ag [.int .i64, .row .i64 9, .int .i64, .bool, .int .i64]] F_log_found_info)]) (ann := []) (TblOk.cons R_chip_Chip_Config (TblOk.cons R_log_Log_look (TblOk.cons R_log_found_info (TblOk.nil)))) Try.func119 (by kernel_rfl) (by kernel_rfl) (E_log_Log_Free F_chip_Chip_Config F_log_Log_look F_log_found_info)
attribute [irreducible] F_log_Log_Free
def G_log_Log_Present (c_log_Log_look : Addr → (Int → List Int → Int → Bool → Int → Int → List Int → Int → Bool → Int → Int → Int → H → Prop) → H → Prop) (a0 : Addr) (Q : Int → H → Prop) (h : H) : Prop := c_log_Log_look a0 (fun (i4 : Int) (l5 : List Int) (i6 : Int) (b7 : Bool) (i8 i9 : Int) (l10 : List Int) (i11 : Int) (b12 : Bool) (i13 i14 i15 : Int) (h16 : H) => ∀ (n17 : Nat) (h18 : H), hnew h16 n17 (Value.int IntKind.i64 0 :: (ints IntKind.i64 (zeros 9) ++ Value.int IntKind.i64 0 :: Value.bool false :: Value.int IntKind.i64 0 :: Value.int IntKind.i64 0 :: (ints IntKind.i64 (zeros 9) ++ [Value.int IntKind.i64 0, Value.bool false, Value.int IntKind.i64 0, Value.int IntKind.i64 0]))) h18 → hcan h18 (Addr.mk n17 0 none) 27 ∧ ∀ (h20 : H), h20 = hwr h18 (Addr.mk n17 0 none) (Value.int IntKind.i64 i4 :: (ints IntKind.i64 l5 ++ Value.int IntKind.i64 i6 :: Value.bool b7 :: Value.int IntKind.i64 i8 :: Value.int IntKind.i64 i9 :: (ints IntKind.i64 l10 ++ [Value.int IntKind.i64 i11, Value.bool b12, Value.int IntKind.i64 i13, Value.int IntKind.i64 i14]))) → if (i15 != 0) = true then Q (-1) h20 else ∃ (i22 : Int), hc h20 ((Addr.mk n17 0 none).add 26) = some (Value.int IntKind.i64 i22) ∧ Q i22 h20) h
theorem E_log_Log_Present (c_log_Log_look : Addr → (Int → (List Int) → Int → Bool → Int → Int → (List Int) → Int → Bool → Int → Int → Int → H → Prop) → H → Prop) : ∀ (a0 : Addr) (Q : Int → H → Prop) (h : H), G_log_Log_Present c_log_Log_look a0 Q h = Dbody PP [(161, W [.addr] [.ag [.int .i64, .row .i64 9, .int .i64, .bool, .int .i64, .int .i64, .row .i64 9, .int .i64, .bool, .int .i64, .int .i64], .int .i64] c_log_Log_look)] [] Try.f120 [.addr a0] (decR [.int .i64] Q) h := by intros; kernel_rfl
def F_log_Log_Present := G_log_Log_Present F_log_Log_look
theorem R_log_Log_Present : RunOk PP 120 (W [.addr] [.int .i64] F_log_Log_Present) := runOk_of (T := [(161, W [.addr] [.ag [.int .i64, .row .i64 9, .int .i64, .bool, .int .i64, .int .i64, .row .i64 9, .int .i64, .bool, .int .i64, .int .i64], .int .i64] F_log_Log_look)]) (ann := []) (TblOk.cons R_log_Log_look (TblOk.nil)) Try.func120 (by kernel_rfl) (by kernel_rfl) (E_log_Log_Present F_log_Log_look)
attribute [irreducible] F_log_Log_Present
def G_wear_left (c_page_Look : Addr → Int → (Int → List Int → Int → Bool → Int → Int → H → Prop) → H → Prop) (c_chip_Chip_Config : Addr → (Int → Int → Int → Int → Int → Int → Int → H → Prop) → H → Prop) (a0 : Addr) (a1 : Int) (a2 : Int) (Q : Int → Int → H → Prop) (h : H) : Prop := c_page_Look a0 a1 (fun (i7 : Int) (l8 : List Int) (i9 : Int) (b10 : Bool) (i11 i12 : Int) (h13 : H) => ∀ (n14 : Nat) (h15 : H), hnew h13 n14 (Value.int IntKind.i64 0 :: (ints IntKind.i64 (zeros 9) ++ [Value.int IntKind.i64 0, Value.bool false, Value.int IntKind.i64 0])) h15 → hcan h15 (Addr.mk n14 0 none) 13 ∧ ∀ (h17 : H), h17 = hwr h15 (Addr.mk n14 0 none) (Value.int IntKind.i64 i7 :: (ints IntKind.i64 l8 ++ [Value.int IntKind.i64 i9, Value.bool b10, Value.int IntKind.i64 i11])) → if (i12 != 0) = true then Q 0 i12 h17 else c_chip_Chip_Config a0 (fun (i19 i20 i21 i22 i23 i24 i25 : Int) (h26 : H) => ∃ (b27 : Bool), hc h26 ((Addr.mk n14 0 none).add 11) = some (Value.bool b27) ∧ if b27 = true then Q (IntKind.i64.wrap ((if IntKind.i64.wrap (i24 - a2) > 0 then IntKind.i64.wrap (i24 - a2) else 0) + 1)) 0 h26 else Q (if IntKind.i64.wrap (i24 - a2) > 0 then IntKind.i64.wrap (i24 - a2) else 0) 0 h26) h17) h
theorem E_wear_left (c_page_Look : Addr → Int → (Int → (List Int) → Int → Bool → Int → Int → H → Prop) → H → Prop) (c_chip_Chip_Config : Addr → (Int → Int → Int → Int → Int → Int → Int → H → Prop) → H → Prop) : ∀ (a0 : Addr) (a1 : Int) (a2 : Int) (Q : Int → Int → H → Prop) (h : H), G_wear_left c_page_Look c_chip_Chip_Config a0 a1 a2 Q h = Dbody PP [(38, W [.addr, .int .i64] [.ag [.int .i64, .row .i64 9, .int .i64, .bool, .int .i64], .int .i64] c_page_Look), (91, W [.addr] [.ag [.int .i64, .int .i64, .int .i64, .int .i64, .int .i64, .int .i64, .int .i64]] c_chip_Chip_Config)] [] Try.f121 [.addr a0, .one (.int .i64 a1), .one (.int .i64 a2)] (decR [.int .i64, .int .i64] Q) h := by intros; kernel_rfl
def F_wear_left := G_wear_left F_page_Look F_chip_Chip_Config
theorem R_wear_left : RunOk PP 121 (W [.addr, .int .i64, .int .i64] [.int .i64, .int .i64] F_wear_left) := runOk_of (T := [(38, W [.addr, .int .i64] [.ag [.int .i64, .row .i64 9, .int .i64, .bool, .int .i64], .int .i64] F_page_Look), (91, W [.addr] [.ag [.int .i64, .int .i64, .int .i64, .int .i64, .int .i64, .int .i64, .int .i64]] F_chip_Chip_Config)]) (ann := []) (TblOk.cons R_page_Look (TblOk.cons R_chip_Chip_Config (TblOk.nil))) Try.func121 (by kernel_rfl) (by kernel_rfl) (E_wear_left F_page_Look F_chip_Chip_Config)
attribute [irreducible] F_wear_left
def G_wear_Of (c_chip_Chip_Config : Addr → (Int → Int → Int → Int → Int → Int → Int → H → Prop) → H → Prop) (c_chip_Chip_Erases : Addr → Int → (Int → Int → H → Prop) → H → Prop) (c_wear_config_lays : Int → Int → Int → Int → Int → Int → Int → (Int → H → Prop) → H → Prop) (c_log_Mount : Addr → (Option Addr → Int → H → Prop) → H → Prop) (c_log_Log_Free : Addr → (Int → H → Prop) → H → Prop) (c_log_Log_Present : Addr → (Int → H → Prop) → H → Prop) (c_wear_left : Addr → Int → Int → (Int → Int → H → Prop) → H → Prop) (a0 : Addr) (Q : Option Addr → Nat → Nat → Int → Int → Int → Int → Int → H → Prop) (h : H) : Prop := ∀ (n10 : Nat) (h11 : H), hnew h n10 [Value.slice none 0 0, Value.int IntKind.i64 0, Value.int IntKind.i64 0, Value.int IntKind.i64 0, Value.int IntKind.i64 0] h11 → c_log_Mount a0 (fun (o13 : Option Addr) (i14 : Int) (h15 : H) => if (i14 != 0) = true then hcan h15 (Addr.mk n10 0 none) 5 ∧ ∀ (h16 : H), h16 = hwr h15 (Addr.mk n10 0 none) [Value.slice none 0 0, Value.int IntKind.i64 0, Value.int IntKind.i64 0, Value.int IntKind.i64 0, Value.int IntKind.i64 0] → ∃ (o18 : Option Addr), ∃ (n19 : Nat), ∃ (n20 : Nat), hc h16 (Addr.mk n10 0 none) = some (Value.slice o18 n19 n20) ∧ ∃ (i21 : Int), hc h16 ((Addr.mk n10 0 none).add 1) = some (Value.int IntKind.i64 i21) ∧ ∃ (i22 : Int), hc h16 ((Addr.mk n10 0 none).add 2) = some (Value.int IntKind.i64 i22) ∧ ∃ (i23 : Int), hc h16 ((Addr.mk n10 0 none).add 3) = some (Value.int IntKind.i64 i23) ∧ ∃ (i24 : Int), hc h16 ((Addr.mk n10 0 none).add 4) = some (Value.int IntKind.i64 i24) ∧ Q o18 n19 n20 i21 i22 i23 i24 i14 h16 else ∃ (p25 : Addr), o13 = some p25 ∧ c_log_Log_Free p25 (fun (i26 : Int) (h27 : H) => ∀ (n28 : Nat) (h29 : H), hnew h27 n28 [Value.slice none 0 0, Value.int IntKind.i64 0, Value.int IntKind.i64 0, Value.int IntKind.i64 0, Value.int IntKind.i64 0] h29 → hcan h29 (Addr.mk n28 0 none) 5 ∧ ∀ (h31 : H), h31 = hwr h29 (Addr.mk n28 0 none) [Value.slice none 0 0, Value.int IntKind.i64 0, Value.int IntKind.i64 i26, Value.int IntKind.i64 0, Value.int IntKind.i64 0] → c_chip_Chip_Config a0 (fun (i33 i34 i35 i36 i37 i38 i39 : Int) (h40 : H) => ∀ (J41 : List SV → H → Prop), (∀ (i42 : Int) (h43 : H), (if ltI i42 (IntKind.i64.wrap (2 + IntKind.i64.wrap (2 * i39))) = true then c_chip_Chip_Erases a0 i42 (fun (i44 i45 : Int) (h46 : H) => if (i45 != 0) = true then hcan h46 (Addr.mk n10 0 none) 5 ∧ ∀ (h47 : H), h47 = hwr h46 (Addr.mk n10 0 none) [Value.slice none 0 0, Value.int IntKind.i64 0, Value.int IntKind.i64 0, Value.int IntKind.i64 0, Value.int IntKind.i64 0] → ∃ (o49 : Option Addr), ∃ (n50 : Nat), ∃ (n51 : Nat), hc h47 (Addr.mk n10 0 none) = some (Value.slice o49 n50 n51) ∧ ∃ (i52 : Int), hc h47 ((Addr.mk n10 0 none).add 1) = some (Value.int IntKind.i64 i52) ∧ ∃ (i53 : Int), hc h47 ((Addr.mk n10 0 none).add 2) = some (Value.int IntKind.i64 i53) ∧ ∃ (i54 : Int), hc h47 ((Addr.mk n10 0 none).add 3) = some (Value.int IntKind.i64 i54) ∧ ∃ (i55 : Int), hc h47 ((Addr.mk n10 0 none).add 4) = some (Value.int IntKind.i64 i55) ∧ Q o49 n50 n51 i52 i53 i54 i55 i45 h47 else ∃ (o56 : Option Addr), ∃ (n57 : Nat), ∃ (n58 : Nat), hc h46 (Addr.mk n28 0 none) = some (Value.slice o56 n57 n58) ∧ ∀ (n59 : Nat) (h60 : H), hnew h46 n59 [Value.int IntKind.i64 i44] h60 → ∃ (l62 : List Value), hsv h60 (some (Addr.mk n59 0 none)) 1 1 l62 ∧ pApp h60 1 [Value.int IntKind.i64 0] 8 o56 n57 n58 1 l62 fun (o63 : Option Addr) (n64 n65 : Nat) (h66 : H) => hcan h66 (Addr.mk n28 0 none) 1 ∧ ∀ (h67 : H), h67 = hwr h66 (Addr.mk n28 0 none) [Value.slice o63 n64 n65] → J41 [SV.dv (DV.one (Value.int IntKind.i64 (IntKind.i64.wrap (i42 + 1))))] h67) h43 else ∃ (o69 : Option Addr), ∃ (n70 : Nat), ∃ (n71 : Nat), hc h43 (Addr.mk n28 0 none) = some (Value.slice o69 n70 n71) ∧ ∃ (p72 : Addr), o69 = some p72 ∧ (0 : Int) ≤ 0 ∧ 0 < (↑n70 : Int) ∧ ∃ (i73 : Int), hc h43 p72 = some (Value.int IntKind.i64 i73) ∧ ∃ (o74 : Option Addr), ∃ (n75 : Nat), ∃ (n76 : Nat), hc h43 (Addr.mk n28 0 none) = some (Value.slice o74 n75 n76) ∧ ∃ (p77 : Addr), o74 = some p77 ∧ (0 : Int) ≤ 1 ∧ 1 < (↑n75 : Int) ∧ ∃ (i78 : Int), hc h43 (p77.add 1) = some (Value.int IntKind.i64 i78) ∧ ∃ (o79 : Option Addr), ∃ (n80 : Nat), ∃ (n81 : Nat), hc h43 (Addr.mk n28 0 none) = some (Value.slice o79 n80 n81) ∧ ∃ (p82 : Addr), o79 = some p82 ∧ (0 : Int) ≤ 0 ∧ 0 < (↑n80 : Int) ∧ ∃ (i83 : Int), hc h43 p82 = some (Value.int IntKind.i64 i83) ∧ ∃ (o84 : Option Addr), ∃ (n85 : Nat), ∃ (n86 : Nat), hc h43 (Addr.mk n28 0 none) = some (Value.slice o84 n85 n86) ∧ ∃ (p87 : Addr), o84 = some p87 ∧ (0 : Int) ≤ 1 ∧ 1 < (↑n85 : Int) ∧ ∃ (i88 : Int), hc h43 (p87.add 1) = some (Value.int IntKind.i64 i88) ∧ hcan h43 ((Addr.mk n28 0 none).add 1) 1 ∧ ∀ (h89 : H), h89 = hwr h43 ((Addr.mk n28 0 none).add 1) [Value.int IntKind.i64 (IntKind.i64.wrap ((if i78 > i73 then i78 else i73) - if i88 < i83 then i88 else i83))] → ∀ (J91 : List SV → H → Prop), (∀ (i92 : Int) (h93 : H), (∃ (o94 : Option Addr), ∃ (n95 : Nat), ∃ (n96 : Nat), hc h93 (Addr.mk n28 0 none) = some (Value.slice o94 n95 n96) ∧ ∃ (p97 : Addr), o94 = some p97 ∧ 0 ≤ i92 ∧ i92 < (↑n95 : Int) ∧ ∃ (i98 : Int), hc h93 (p97.add (i92.toNat * 1)) = some (Value.int IntKind.i64 i98) ∧ c_wear_left a0 i92 i98 (fun (i99 i100 : Int) (h101 : H) => if (i100 != 0) = true then hcan h101 (Addr.mk n10 0 none) 5 ∧ ∀ (h102 : H), h102 = hwr h101 (Addr.mk n10 0 none) [Value.slice none 0 0, Value.int IntKind.i64 0, Value.int IntKind.i64 0, Value.int IntKind.i64 0, Value.int IntKind.i64 0] → ∃ (o104 : Option Addr), ∃ (n105 : Nat), ∃ (n106 : Nat), hc h102 (Addr.mk n10 0 none) = some (Value.slice o104 n105 n106) ∧ ∃ (i107 : Int), hc h102 ((Addr.mk n10 0 none).add 1) = some (Value.int IntKind.i64 i107) ∧ ∃ (i108 : Int), hc h102 ((Addr.mk n10 0 none).add 2) = some (Value.int IntKind.i64 i108) ∧ ∃ (i109 : Int), hc h102 ((Addr.mk n10 0 none).add 3) = some (Value.int IntKind.i64 i109) ∧ ∃ (i110 : Int), hc h102 ((Addr.mk n10 0 none).add 4) = some (Value.int IntKind.i64 i110) ∧ Q o104 n105 n106 i107 i108 i109 i110 i100 h102 else ∃ (o111 : Option Addr), ∃ (n112 : Nat), ∃ (n113 : Nat), hc h101 (Addr.mk n28 0 none) = some (Value.slice o111 n112 n113) ∧ ∃ (p114 : Addr), o111 = some p114 ∧ 0 ≤ IntKind.i64.wrap (1 - i92) ∧ IntKind.i64.wrap (1 - i92) < (↑n112 : Int) ∧ ∃ (i115 : Int), hc h101 (p114.add ((IntKind.i64.wrap (1 - i92)).toNat * 1)) = some (Value.int IntKind.i64 i115) ∧ c_wear_left a0 (IntKind.i64.wrap (1 - i92)) i115 (fun (i116 i117 : Int) (h118 : H) => if (i117 != 0) = true then hcan h118 (Addr.mk n10 0 none) 5 ∧ ∀ (h119 : H), h119 = hwr h118 (Addr.mk n10 0 none) [Value.slice none 0 0, Value.int IntKind.i64 0, Value.int IntKind.i64 0, Value.int IntKind.i64 0, Value.int IntKind.i64 0] → ∃ (o121 : Option Addr), ∃ (n122 : Nat), ∃ (n123 : Nat), hc h119 (Addr.mk n10 0 none) = some (Value.slice o121 n122 n123) ∧ ∃ (i124 : Int), hc h119 ((Addr.mk n10 0 none).add 1) = some (Value.int IntKind.i64 i124) ∧ ∃ (i125 : Int), hc h119 ((Addr.mk n10 0 none).add 2) = some (Value.int IntKind.i64 i125) ∧ ∃ (i126 : Int), hc h119 ((Addr.mk n10 0 none).add 3) = some (Value.int IntKind.i64 i126) ∧ ∃ (i127 : Int), hc h119 ((Addr.mk n10 0 none).add 4) = some (Value.int IntKind.i64 i127) ∧ Q o121 n122 n123 i124 i125 i126 i127 i117 h119 else hcan h118 ((Addr.mk n28 0 none).add 3) 1 ∧ ∀ (h128 : H), h128 = hwr h118 ((Addr.mk n28 0 none).add 3) [Value.int IntKind.i64 (IntKind.i64.wrap (2 * i99))] → if ltI i116 i99 = true then hcan h128 ((Addr.mk n28 0 none).add 3) 1 ∧ ∀ (h130 : H), h130 = hwr h128 ((Addr.mk n28 0 none).add 3) [Value.int IntKind.i64 (IntKind.i64.wrap (IntKind.i64.wrap (2 * i116) + 1))] → ∃ (i132 : Int), hc h130 ((Addr.mk n28 0 none).add 2) = some (Value.int IntKind.i64 i132) ∧ ∃ (i133 : Int), hc h130 ((Addr.mk n28 0 none).add 3) = some (Value.int IntKind.i64 i133) ∧ c_chip_Chip_Config a0 (fun (i134 i135 i136 i137 i138 i139 i140 : Int) (h141 : H) => hcs h141 ((Addr.mk n28 0 none).add 3) [Value.int IntKind.i64 i133] ∧ hcs h141 ((Addr.mk n28 0 none).add 2) [Value.int IntKind.i64 i132] ∧ c_wear_config_lays i134 i135 i136 i137 i138 i139 i140 (fun (i142 : Int) (h143 : H) => hcs h143 ((Addr.mk n28 0 none).add 3) [Value.int IntKind.i64 i133] ∧ hcs h143 ((Addr.mk n28 0 none).add 2) [Value.int IntKind.i64 i132] ∧ hcan h143 ((Addr.mk n28 0 none).add 4) 1 ∧ ∀ (h144 : H), h144 = hwr h143 ((Addr.mk n28 0 none).add 4) [Value.int IntKind.i64 (IntKind.i64.wrap (i132 + IntKind.i64.wrap (i133 * i142)))] → ∃ (o146 : Option Addr), ∃ (n147 : Nat), ∃ (n148 : Nat), hc h144 (Addr.mk n28 0 none) = some (Value.slice o146 n147 n148) ∧ ∃ (i149 : Int), hc h144 ((Addr.mk n28 0 none).add 1) = some (Value.int IntKind.i64 i149) ∧ ∃ (i150 : Int), hc h144 ((Addr.mk n28 0 none).add 2) = some (Value.int IntKind.i64 i150) ∧ ∃ (i151 : Int), hc h144 ((Addr.mk n28 0 none).add 3) = some (Value.int IntKind.i64 i151) ∧ ∃ (i152 : Int), hc h144 ((Addr.mk n28 0 none).add 4) = some (Value.int IntKind.i64 i152) ∧ hcan h144 (Addr.mk n10 0 none) 5 ∧ ∀ (h153 : H), h153 = hwr h144 (Addr.mk n10 0 none) [Value.slice o146 n147 n148, Value.int IntKind.i64 i149, Value.int IntKind.i64 i150, Value.int IntKind.i64 i151, Value.int IntKind.i64 i152] → ∃ (o155 : Option Addr), ∃ (n156 : Nat), ∃ (n157 : Nat), hc h153 (Addr.mk n10 0 none) = some (Value.slice o155 n156 n157) ∧ ∃ (i158 : Int), hc h153 ((Addr.mk n10 0 none).add 1) = some (Value.int IntKind.i64 i158) ∧ ∃ (i159 : Int), hc h153 ((Addr.mk n10 0 none).add 2) = some (Value.int IntKind.i64 i159) ∧ ∃ (i160 : Int), hc h153 ((Addr.mk n10 0 none).add 3) = some (Value.int IntKind.i64 i160) ∧ ∃ (i161 : Int), hc h153 ((Addr.mk n10 0 none).add 4) = some (Value.int IntKind.i64 i161) ∧ Q o155 n156 n157 i158 i159 i160 i161 0 h153) h141) h130 else ∃ (i162 : Int), hc h128 ((Addr.mk n28 0 none).add 2) = some (Value.int IntKind.i64 i162) ∧ ∃ (i163 : Int), hc h128 ((Addr.mk n28 0 none).add 3) = some (Value.int IntKind.i64 i163) ∧ c_chip_Chip_Config a0 (fun (i164 i165 i166 i167 i168 i169 i170 : Int) (h171 : H) => hcs h171 ((Addr.mk n28 0 none).add 3) [Value.int IntKind.i64 i163] ∧ hcs h171 ((Addr.mk n28 0 none).add 2) [Value.int IntKind.i64 i162] ∧ c_wear_config_lays i164 i165 i166 i167 i168 i169 i170 (fun (i172 : Int) (h173 : H) => hcs h173 ((Addr.mk n28 0 none).add 3) [Value.int IntKind.i64 i163] ∧ hcs h173 ((Addr.mk n28 0 none).add 2) [Value.int IntKind.i64 i162] ∧ hcan h173 ((Addr.mk n28 0 none).add 4) 1 ∧ ∀ (h174 : H), h174 = hwr h173 ((Addr.mk n28 0 none).add 4) [Value.int IntKind.i64 (IntKind.i64.wrap (i162 + IntKind.i64.wrap (i163 * i172)))] → ∃ (o176 : Option Addr), ∃ (n177 : Nat), ∃ (n178 : Nat), hc h174 (Addr.mk n28 0 none) = some (Value.slice o176 n177 n178) ∧ ∃ (i179 : Int), hc h174 ((Addr.mk n28 0 none).add 1) = some (Value.int IntKind.i64 i179) ∧ ∃ (i180 : Int), hc h174 ((Addr.mk n28 0 none).add 2) = some (Value.int IntKind.i64 i180) ∧ ∃ (i181 : Int), hc h174 ((Addr.mk n28 0 none).add 3) = some (Value.int IntKind.i64 i181) ∧ ∃ (i182 : Int), hc h174 ((Addr.mk n28 0 none).add 4) = some (Value.int IntKind.i64 i182) ∧ hcan h174 (Addr.mk n10 0 none) 5 ∧ ∀ (h183 : H), h183 = hwr h174 (Addr.mk n10 0 none) [Value.slice o176 n177 n178, Value.int IntKind.i64 i179, Value.int IntKind.i64 i180, Value.int IntKind.i64 i181, Value.int IntKind.i64 i182] → ∃ (o185 : Option Addr), ∃ (n186 : Nat), ∃ (n187 : Nat), hc h183 (Addr.mk n10 0 none) = some (Value.slice o185 n186 n187) ∧ ∃ (i188 : Int), hc h183 ((Addr.mk n10 0 none).add 1) = some (Value.int IntKind.i64 i188) ∧ ∃ (i189 : Int), hc h183 ((Addr.mk n10 0 none).add 2) = some (Value.int IntKind.i64 i189) ∧ ∃ (i190 : Int), hc h183 ((Addr.mk n10 0 none).add 3) = some (Value.int IntKind.i64 i190) ∧ ∃ (i191 : Int), hc h183 ((Addr.mk n10 0 none).add 4) = some (Value.int IntKind.i64 i191) ∧ Q o185 n186 n187 i188 i189 i190 i191 0 h183) h171) h128) h101) h93) → J91 [SV.dv (DV.one (Value.int IntKind.i64 i92))] h93) → ∃ (p194 : Addr), o13 = some p194 ∧ c_log_Log_Present p194 (fun (i195 : Int) (h196 : H) => if (i195 == 0) = true then J91 [SV.dv (DV.one (Value.int IntKind.i64 1))] h196 else J91 [SV.dv (DV.one (Value.int IntKind.i64 0))] h196) h89) → J41 [SV.dv (DV.one (Value.int IntKind.i64 i42))] h43) → J41 [SV.dv (DV.one (Value.int IntKind.i64 0))] h40) h31) h15) h11
theorem E_wear_Of (c_chip_Chip_Config : Addr → (Int → Int → Int → Int → Int → Int → Int → H → Prop) → H → Prop) (c_chip_Chip_Erases : Addr → Int → (Int → Int → H → Prop) → H → Prop) (c_wear_config_lays : Int → Int → Int → Int → Int → Int → Int → (Int → H → Prop) → H → Prop) (c_log_Mount : Addr → ((Option Addr) → Int → H → Prop) → H → Prop) (c_log_Log_Free : Addr → (Int → H → Prop) → H → Prop) (c_log_Log_Present : Addr → (Int → H → Prop) → H → Prop) (c_wear_left : Addr → Int → Int → (Int → Int → H → Prop) → H → Prop) : ∀ (a0 : Addr) (Q : (Option Addr) → Nat → Nat → Int → Int → Int → Int → Int → H → Prop) (h : H), G_wear_Of c_chip_Chip_Config c_chip_Chip_Erases c_wear_config_lays c_log_Mount c_log_Log_Free c_log_Log_Present c_wear_left a0 Q h = Dbody PP [(91, W [.addr] [.ag [.int .i64, .int .i64, .int .i64, .int .i64, .int .i64, .int .i64, .int .i64]] c_chip_Chip_Config), (93, W [.addr, .int .i64] [.int .i64, .int .i64] c_chip_Chip_Erases), (103, W [.ag [.int .i64, .int .i64, .int .i64, .int .i64, .int .i64, .int .i64, .int .i64]] [.int .i64] c_wear_config_lays), (118, W [.addr] [.ptr, .int .i64] c_log_Mount), (119, W [.addr] [.int .i64] c_log_Log_Free), (120, W [.addr] [.int .i64] c_log_Log_Present), (121, W [.addr, .int .i64, .int .i64] [.int .i64, .int .i64] c_wear_left)] [(250, [(30, .sc (.int .i64))]), (255, [(10, .sc (.int .i64))])] Try.f59 [.addr a0] (decR [.ag [.slc, .int .i64, .int .i64, .int .i64, .int .i64], .int .i64] Q) h := by intros; kernel_rfl
def F_wear_Of := G_wear_Of F_chip_Chip_Config F_chip_Chip_Erases F_wear_config_lays F_log_Mount F_log_Log_Free F_log_Log_Present F_wear_left
theorem R_wear_Of : RunOk PP 59 (W [.addr] [.ag [.slc, .int .i64, .int .i64, .int .i64, .int .i64], .int .i64] F_wear_Of) := runOk_of (T := [(91, W [.addr] [.ag [.int .i64, .int .i64, .int .i64, .int .i64, .int .i64, .int .i64, .int .i64]] F_chip_Chip_Config), (93, W [.addr, .int .i64] [.int .i64, .int .i64] F_chip_Chip_Erases), (103, W [.ag [.int .i64, .int .i64, .int .i64, .int .i64, .int .i64, .int .i64, .int .i64]] [.int .i64] F_wear_config_lays), (118, W [.addr] [.ptr, .int .i64] F_log_Mount), (119, W [.addr] [.int .i64] F_log_Log_Free), (120, W [.addr] [.int .i64] F_log_Log_Present), (121, W [.addr, .int .i64, .int .i64] [.int .i64, .int .i64] F_wear_left)]) (ann := [(250, [(30, .sc (.int .i64))]), (255, [(10, .sc (.int .i64))])]) (TblOk.cons R_chip_Chip_Config (TblOk.cons R_chip_Chip_Erases (TblOk.cons R_wear_config_lays (TblOk.cons R_log_Mount (TblOk.cons R_log_Log_Free (TblOk.cons R_log_Log_Present (TblOk.cons R_wear_left (TblOk.nil)))))))) Try.func59 (by kernel_rfl) (by kernel_rfl) (E_wear_Of F_chip_Chip_Config F_chip_Chip_Erases F_wear_config_lays F_log_Mount F_log_Log_Free F_log_Log_Present F_wear_left)
attribute [irreducible] F_wear_Of
def G_portcullislaw20_small (Q : Int → Int → Int → Int → Int → Int → Int → H → Prop) (h : H) : Prop := ∀ (n2 : Nat) (h3 : H), hnew h n2 [Value.int IntKind.i64 0, Value.int IntKind.i64 0, Value.int IntKind.i64 0, Value.int IntKind.i64 0, Value.int IntKind.i64 0, Value.int IntKind.i64 0, Value.int IntKind.i64 0] h3 → hcan h3 (Addr.mk n2 0 none) 7 ∧ ∀ (h5 : H), h5 = hwr h3 (Addr.mk n2 0 none) [Value.int IntKind.i64 6, Value.int IntKind.i64 2, Value.int IntKind.i64 4, Value.int IntKind.i64 10, Value.int IntKind.i64 1, Value.int IntKind.i64 3, Value.int IntKind.i64 1] → ∃ (i7 : Int), hc h5 (Addr.mk n2 0 none) = some (Value.int IntKind.i64 i7) ∧ ∃ (i8 : Int), hc h5 ((Addr.mk n2 0 none).add 1) = some (Value.int IntKind.i64 i8) ∧ ∃ (i9 : Int), hc h5 ((Addr.mk n2 0 none).add 2) = some (Value.int IntKind.i64 i9) ∧ ∃ (i10 : Int), hc h5 ((Addr.mk n2 0 none).add 3) = some (Value.int IntKind.i64 i10) ∧ ∃ (i11 : Int), hc h5 ((Addr.mk n2 0 none).add 4) = some (Value.int IntKind.i64 i11) ∧ ∃ (i12 : Int), hc h5 ((Addr.mk n2 0 none).add 5) = some (Value.int IntKind.i64 i12) ∧ ∃ (i13 : Int), hc h5 ((Addr.mk n2 0 none).add 6) = some (Value.int IntKind.i64 i13) ∧ Q i7 i8 i9 i10 i11 i12 i13 h5
theorem E_portcullislaw20_small  : ∀ (Q : Int → Int → Int → Int → Int → Int → Int → H → Prop) (h : H), G_portcullislaw20_small Q h = Dbody PP [] [] Try.f102 [] (decR [.ag [.int .i64, .int .i64, .int .i64, .int .i64, .int .i64, .int .i64, .int .i64]] Q) h := by intros; kernel_rfl
def F_portcullislaw20_small := G_portcullislaw20_small
theorem R_portcullislaw20_small : RunOk PP 102 (W [] [.ag [.int .i64, .int .i64, .int .i64, .int .i64, .int .i64, .int .i64, .int .i64]] F_portcullislaw20_small) := runOk_of (T := []) (ann := []) (TblOk.nil) Try.func102 (by kernel_rfl) (by kernel_rfl) (E_portcullislaw20_small)
attribute [irreducible] F_portcullislaw20_small
def G_portcullislaw20_fixed (c_chip_New : Int → Int → Int → Int → Int → Int → Int → (Option Addr → Int → H → Prop) → H → Prop) (c_wear_Budget : Int → Int → Int → Int → Int → Int → Int → Int → (Int → H → Prop) → H → Prop) (c_wear_Acts : Int → Int → Int → Int → Int → Int → Int → Int → (Int → H → Prop) → H → Prop) (c_wear_Of : Addr → (Option Addr → Nat → Nat → Int → Int → Int → Int → Int → H → Prop) → H → Prop) (c_portcullislaw20_small : (Int → Int → Int → Int → Int → Int → Int → H → Prop) → H → Prop) (Q : Bool → H → Prop) (h : H) : Prop := c_portcullislaw20_small (fun (i7 i8 i9 i10 i11 i12 i13 : Int) (h14 : H) => c_chip_New i7 i8 i9 i10 i11 i12 i13 (fun (o15 : Option Addr) (i16 : Int) (h17 : H) => ∀ (J18 : List SV → H → Prop), (∀ (h19 : H), (∃ (p20 : Addr), o15 = some p20 ∧ c_wear_Of p20 (fun (o21 : Option Addr) (n22 n23 : Nat) (i24 i25 i26 i27 i28 : Int) (h29 : H) => ∀ (n30 : Nat) (h31 : H), hnew h29 n30 [Value.slice none 0 0, Value.int IntKind.i64 0, Value.int IntKind.i64 0, Value.int IntKind.i64 0, Value.int IntKind.i64 0] h31 → hcan h31 (Addr.mk n30 0 none) 5 ∧ ∀ (h33 : H), h33 = hwr h31 (Addr.mk n30 0 none) [Value.slice o21 n22 n23, Value.int IntKind.i64 i24, Value.int IntKind.i64 i25, Value.int IntKind.i64 i26, Value.int IntKind.i64 i27] → if (i28 == 0) = true then ∃ (i35 : Int), hc h33 ((Addr.mk n30 0 none).add 3) = some (Value.int IntKind.i64 i35) ∧ if (i35 == 8) = true then ∃ (i36 : Int), hc h33 ((Addr.mk n30 0 none).add 4) = some (Value.int IntKind.i64 i36) ∧ if (i36 == 24) = true then ∃ (o37 : Option Addr), ∃ (n38 : Nat), ∃ (n39 : Nat), hc h33 (Addr.mk n30 0 none) = some (Value.slice o37 n38 n39) ∧ if ((↑n38 : Int) == 4) = true then c_portcullislaw20_small (fun (i40 i41 i42 i43 i44 i45 i46 : Int) (h47 : H) => c_wear_Budget i40 i41 i42 i43 i44 i45 i46 1 (fun (i48 : Int) (h49 : H) => if (i48 == 18) = true then c_portcullislaw20_small (fun (i50 i51 i52 i53 i54 i55 i56 : Int) (h57 : H) => c_wear_Acts i50 i51 i52 i53 i54 i55 i56 2 (fun (i58 : Int) (h59 : H) => Q (i58 == 9) h59) h57) h49 else Q false h49) h47) h33 else Q false h33 else Q false h33 else Q false h33 else Q false h33) h19) → J18 [] h19) → if o15.isNone = true then Q false h17 else if (i16 != 0) = true then Q false h17 else J18 [] h17) h14) h
theorem E_portcullislaw20_fixed (c_chip_New : Int → Int → Int → Int → Int → Int → Int → ((Option Addr) → Int → H → Prop) → H → Prop) (c_wear_Budget : Int → Int → Int → Int → Int → Int → Int → Int → (Int → H → Prop) → H → Prop) (c_wear_Acts : Int → Int → Int → Int → Int → Int → Int → Int → (Int → H → Prop) → H → Prop) (c_wear_Of : Addr → ((Option Addr) → Nat → Nat → Int → Int → Int → Int → Int → H → Prop) → H → Prop) (c_portcullislaw20_small : (Int → Int → Int → Int → Int → Int → Int → H → Prop) → H → Prop) : ∀ (Q : Bool → H → Prop) (h : H), G_portcullislaw20_fixed c_chip_New c_wear_Budget c_wear_Acts c_wear_Of c_portcullislaw20_small Q h = Dbody PP [(16, W [.ag [.int .i64, .int .i64, .int .i64, .int .i64, .int .i64, .int .i64, .int .i64]] [.ptr, .int .i64] c_chip_New), (49, W [.ag [.int .i64, .int .i64, .int .i64, .int .i64, .int .i64, .int .i64, .int .i64], .int .i64] [.int .i64] c_wear_Budget), (51, W [.ag [.int .i64, .int .i64, .int .i64, .int .i64, .int .i64, .int .i64, .int .i64], .int .i64] [.int .i64] c_wear_Acts), (59, W [.addr] [.ag [.slc, .int .i64, .int .i64, .int .i64, .int .i64], .int .i64] c_wear_Of), (102, W [] [.ag [.int .i64, .int .i64, .int .i64, .int .i64, .int .i64, .int .i64, .int .i64]] c_portcullislaw20_small)] [(7, [])] Try.f48 [] (decR [.bool] Q) h := by intros; kernel_rfl
def F_portcullislaw20_fixed := G_portcullislaw20_fixed F_chip_New F_wear_Budget F_wear_Acts F_wear_Of F_portcullislaw20_small
theorem R_portcullislaw20_fixed : RunOk PP 48 (W [] [.bool] F_portcullislaw20_fixed) := runOk_of (T := [(16, W [.ag [.int .i64, .int .i64, .int .i64, .int .i64, .int .i64, .int .i64, .int .i64]] [.ptr, .int .i64] F_chip_New), (49, W [.ag [.int .i64, .int .i64, .int .i64, .int .i64, .int .i64, .int .i64, .int .i64], .int .i64] [.int .i64] F_wear_Budget), (51, W [.ag [.int .i64, .int .i64, .int .i64, .int .i64, .int .i64, .int .i64, .int .i64], .int .i64] [.int .i64] F_wear_Acts), (59, W [.addr] [.ag [.slc, .int .i64, .int .i64, .int .i64, .int .i64], .int .i64] F_wear_Of), (102, W [] [.ag [.int .i64, .int .i64, .int .i64, .int .i64, .int .i64, .int .i64, .int .i64]] F_portcullislaw20_small)]) (ann := [(7, [])]) (TblOk.cons R_chip_New (TblOk.cons R_wear_Budget (TblOk.cons R_wear_Acts (TblOk.cons R_wear_Of (TblOk.cons R_portcullislaw20_small (TblOk.nil)))))) Try.func48 (by kernel_rfl) (by kernel_rfl) (E_portcullislaw20_fixed F_chip_New F_wear_Budget F_wear_Acts F_wear_Of F_portcullislaw20_small)
attribute [irreducible] F_portcullislaw20_fixed
def G_portcullislaw20_WearNames (c_portcullislaw20_fixed : (Bool → H → Prop) → H → Prop) (Q : Bool → H → Prop) (h : H) : Prop := c_portcullislaw20_fixed (fun (b3 : Bool) (h4 : H) => Q b3 h4) h
theorem E_portcullislaw20_WearNames (c_portcullislaw20_fixed : (Bool → H → Prop) → H → Prop) : ∀ (Q : Bool → H → Prop) (h : H), G_portcullislaw20_WearNames c_portcullislaw20_fixed Q h = Dbody PP [(48, W [] [.bool] c_portcullislaw20_fixed)] [] Try.f10 [] (decR [.bool] Q) h := by intros; kernel_rfl
def F_portcullislaw20_WearNames := G_portcullislaw20_WearNames F_portcullislaw20_fixed
theorem R_portcullislaw20_WearNames : RunOk PP 10 (W [] [.bool] F_portcullislaw20_WearNames) := runOk_of (T := [(48, W [] [.bool] F_portcullislaw20_fixed)]) (ann := []) (TblOk.cons R_portcullislaw20_fixed (TblOk.nil)) Try.func10 (by kernel_rfl) (by kernel_rfl) (E_portcullislaw20_WearNames F_portcullislaw20_fixed)
attribute [irreducible] F_portcullislaw20_WearNames
def G_wear_config_raise (a0_0 : Int) (a0_1 : Int) (a0_2 : Int) (a0_3 : Int) (a0_4 : Int) (a0_5 : Int) (a0_6 : Int) (Q : Int → H → Prop) (h : H) : Prop := ∀ (n9 : Nat) (h10 : H), hnew h n9 [Value.int IntKind.i64 a0_0, Value.int IntKind.i64 a0_1, Value.int IntKind.i64 a0_2, Value.int IntKind.i64 a0_3, Value.int IntKind.i64 a0_4, Value.int IntKind.i64 a0_5, Value.int IntKind.i64 a0_6] h10 → ∃ (i12 : Int), hc h10 ((Addr.mk n9 0 none).add 1) = some (Value.int IntKind.i64 i12) ∧ ∃ (i13 : Int), hc h10 ((Addr.mk n9 0 none).add 2) = some (Value.int IntKind.i64 i13) ∧ Q (IntKind.i64.wrap (IntKind.i64.wrap (i12 + 3) + i13)) h10
theorem E_wear_config_raise  : ∀ (a0_0 : Int) (a0_1 : Int) (a0_2 : Int) (a0_3 : Int) (a0_4 : Int) (a0_5 : Int) (a0_6 : Int) (Q : Int → H → Prop) (h : H), G_wear_config_raise a0_0 a0_1 a0_2 a0_3 a0_4 a0_5 a0_6 Q h = Dbody PP [] [] Try.f150 [.agg [.c (.int .i64 a0_0), .c (.int .i64 a0_1), .c (.int .i64 a0_2), .c (.int .i64 a0_3), .c (.int .i64 a0_4), .c (.int .i64 a0_5), .c (.int .i64 a0_6)]] (decR [.int .i64] Q) h := by intros; kernel_rfl
def F_wear_config_raise := G_wear_config_raise
theorem R_wear_config_raise : RunOk PP 150 (W [.ag [.int .i64, .int .i64, .int .i64, .int .i64, .int .i64, .int .i64, .int .i64]] [.int .i64] F_wear_config_raise) := runOk_of (T := []) (ann := []) (TblOk.nil) Try.func150 (by kernel_rfl) (by kernel_rfl) (E_wear_config_raise)
attribute [irreducible] F_wear_config_raise
def G_wear_config_revoke (a0_0 : Int) (a0_1 : Int) (a0_2 : Int) (a0_3 : Int) (a0_4 : Int) (a0_5 : Int) (a0_6 : Int) (Q : Int → H → Prop) (h : H) : Prop := ∀ (n9 : Nat) (h10 : H), hnew h n9 [Value.int IntKind.i64 a0_0, Value.int IntKind.i64 a0_1, Value.int IntKind.i64 a0_2, Value.int IntKind.i64 a0_3, Value.int IntKind.i64 a0_4, Value.int IntKind.i64 a0_5, Value.int IntKind.i64 a0_6] h10 → Q 1 h10
theorem E_wear_config_revoke  : ∀ (a0_0 : Int) (a0_1 : Int) (a0_2 : Int) (a0_3 : Int) (a0_4 : Int) (a0_5 : Int) (a0_6 : Int) (Q : Int → H → Prop) (h : H), G_wear_config_revoke a0_0 a0_1 a0_2 a0_3 a0_4 a0_5 a0_6 Q h = Dbody PP [] [] Try.f151 [.agg [.c (.int .i64 a0_0), .c (.int .i64 a0_1), .c (.int .i64 a0_2), .c (.int .i64 a0_3), .c (.int .i64 a0_4), .c (.int .i64 a0_5), .c (.int .i64 a0_6)]] (decR [.int .i64] Q) h := by intros; kernel_rfl
def F_wear_config_revoke := G_wear_config_revoke
theorem R_wear_config_revoke : RunOk PP 151 (W [.ag [.int .i64, .int .i64, .int .i64, .int .i64, .int .i64, .int .i64, .int .i64]] [.int .i64] F_wear_config_revoke) := runOk_of (T := []) (ann := []) (TblOk.nil) Try.func151 (by kernel_rfl) (by kernel_rfl) (E_wear_config_revoke)
attribute [irreducible] F_wear_config_revoke
def G_wear_config_stage (a0_0 : Int) (a0_1 : Int) (a0_2 : Int) (a0_3 : Int) (a0_4 : Int) (a0_5 : Int) (a0_6 : Int) (Q : Int → H → Prop) (h : H) : Prop := ∀ (n9 : Nat) (h10 : H), hnew h n9 [Value.int IntKind.i64 a0_0, Value.int IntKind.i64 a0_1, Value.int IntKind.i64 a0_2, Value.int IntKind.i64 a0_3, Value.int IntKind.i64 a0_4, Value.int IntKind.i64 a0_5, Value.int IntKind.i64 a0_6] h10 → ∃ (i12 : Int), hc h10 ((Addr.mk n9 0 none).add 1) = some (Value.int IntKind.i64 i12) ∧ ∃ (i13 : Int), hc h10 ((Addr.mk n9 0 none).add 6) = some (Value.int IntKind.i64 i13) ∧ ∃ (i14 : Int), hc h10 ((Addr.mk n9 0 none).add 6) = some (Value.int IntKind.i64 i14) ∧ ∃ (i15 : Int), hc h10 (Addr.mk n9 0 none) = some (Value.int IntKind.i64 i15) ∧ Q (IntKind.i64.wrap (IntKind.i64.wrap (IntKind.i64.wrap (i12 + 3) + i13) + IntKind.i64.wrap (i14 * i15))) h10
theorem E_wear_config_stage  : ∀ (a0_0 : Int) (a0_1 : Int) (a0_2 : Int) (a0_3 : Int) (a0_4 : Int) (a0_5 : Int) (a0_6 : Int) (Q : Int → H → Prop) (h : H), G_wear_config_stage a0_0 a0_1 a0_2 a0_3 a0_4 a0_5 a0_6 Q h = Dbody PP [] [] Try.f152 [.agg [.c (.int .i64 a0_0), .c (.int .i64 a0_1), .c (.int .i64 a0_2), .c (.int .i64 a0_3), .c (.int .i64 a0_4), .c (.int .i64 a0_5), .c (.int .i64 a0_6)]] (decR [.int .i64] Q) h := by intros; kernel_rfl
def F_wear_config_stage := G_wear_config_stage
theorem R_wear_config_stage : RunOk PP 152 (W [.ag [.int .i64, .int .i64, .int .i64, .int .i64, .int .i64, .int .i64, .int .i64]] [.int .i64] F_wear_config_stage) := runOk_of (T := []) (ann := []) (TblOk.nil) Try.func152 (by kernel_rfl) (by kernel_rfl) (E_wear_config_stage)
attribute [irreducible] F_wear_config_stage
end Go.Proofs.Ytamfkofcpoglnaa
end

/- Blocks of memory as lists of cells, and what loads, stores and allocations do to them. Own work; generic over any program. -/
section
set_option linter.unusedVariables false
namespace Go.Vc

/-- Block b holds just these cells, and none of them is frozen. -/
def Blk (h : H) (b : Nat) (vs : List Value) : Prop :=
  ∃ t lo hi, h[b]? = some (.cells vs.toArray t (lo, hi)) ∧ ∀ i, i < vs.length → ¬ (lo ≤ i ∧ i < hi)

@[simp] theorem add_mk (b o n : Nat) : (Addr.mk b o none).add n = Addr.mk b (o + n) none := by
  unfold Addr.add; split
  · rename_i h; subst h; rfl
  · rfl

theorem Blk.lt {h : H} {b : Nat} {vs : List Value} (k : Blk h b vs) : b < h.size := by
  obtain ⟨t, lo, hi, hb, _⟩ := k
  exact (Array.getElem?_eq_some_iff.1 hb).1
theorem Blk.of_eq {h h' : H} {b : Nat} {vs : List Value} (k : Blk h b vs) (e : h'[b]? = h[b]?) : Blk h' b vs := by
  obtain ⟨t, lo, hi, hb, hf⟩ := k
  exact ⟨t, lo, hi, by rw [e]; exact hb, hf⟩

theorem Blk.hc {h : H} {b : Nat} {vs : List Value} (k : Blk h b vs) (o : Nat) : hc h ⟨b, o, none⟩ = vs[o]? := by
  obtain ⟨t, lo, hi, hb, _⟩ := k
  simp [Vc.hc, hb]
theorem Blk.hf {h : H} {b : Nat} {vs : List Value} (k : Blk h b vs) {o : Nat} (ho : o < vs.length) : hf h ⟨b, o, none⟩ = false := by
  obtain ⟨t, lo, hi, hb, hfz⟩ := k
  have := hfz o ho
  simp only [Vc.hf, hb]
  simp only [Bool.and_eq_false_imp, decide_eq_true_eq, decide_eq_false_iff_not]
  intro h1 h2; exact this ⟨h1, h2⟩
theorem Blk.can {h : H} {b : Nat} {vs : List Value} (k : Blk h b vs) {o n : Nat} (ho : o + n ≤ vs.length) : hcan h ⟨b, o, none⟩ n := by
  intro i hi
  have hl : o + i < vs.length := by omega
  rw [add_mk, k.hc, k.hf hl]
  simp [List.getElem?_eq_getElem hl]
theorem Blk.hcs {h : H} {b : Nat} {vs : List Value} (k : Blk h b vs) {o : Nat} {xs : List Value} (e : ∀ i, i < xs.length → vs[o + i]? = xs[i]?) : hcs h ⟨b, o, none⟩ xs := by
  intro i v hv
  rw [add_mk, k.hc, e i (List.getElem?_eq_some_iff.1 hv).1, hv]

/-! ### Writing -/
/-- Cells put in the place of others. -/
def splice (vs : List Value) : Nat → List Value → List Value
  | _, [] => vs
  | o, x :: r => splice (vs.set o x) (o + 1) r
@[simp] theorem splice_nil (vs : List Value) (o : Nat) : splice vs o [] = vs := rfl
@[simp] theorem splice_cons (vs : List Value) (o : Nat) (x : Value) (r : List Value) : splice vs o (x :: r) = splice (vs.set o x) (o + 1) r := rfl
@[simp] theorem splice_length (vs : List Value) (o : Nat) (xs : List Value) : (splice vs o xs).length = vs.length := by
  induction xs generalizing vs o with
  | nil => rfl
  | cons x r ih => simp [ih]
theorem splice_get (vs : List Value) (o : Nat) (xs : List Value) (i : Nat) : (splice vs o xs)[i]? = if o ≤ i ∧ i < o + xs.length ∧ i < vs.length then xs[i - o]? else vs[i]? := by
  induction xs generalizing vs o with
  | nil =>
    have : ¬ (o ≤ i ∧ i < o + ([] : List Value).length ∧ i < vs.length) := by simp; omega
    rw [if_neg this]; rfl
  | cons x r ih =>
    rw [splice_cons, ih]
    simp only [List.length_cons, List.length_set]
    by_cases h1 : o = i
    · subst h1
      rw [if_neg (by omega)]
      by_cases h2 : o < vs.length
      · rw [if_pos (by omega)]; simp [h2]
      · rw [if_neg (by omega)]
        have : (vs.set o x) = vs := List.set_eq_of_length_le (by omega)
        rw [this]
    · rw [List.getElem?_set_ne h1]
      by_cases h2 : o + 1 ≤ i ∧ i < o + 1 + r.length ∧ i < vs.length
      · rw [if_pos h2, if_pos (by omega)]
        have : i - o = (i - (o + 1)) + 1 := by omega
        rw [this]; simp
      · rw [if_neg h2, if_neg (by omega)]
theorem splice_all (vs xs : List Value) (h : xs.length = vs.length) : splice vs 0 xs = xs := by
  apply List.ext_getElem?
  intro i
  rw [splice_get]
  split
  · simp
  · rename_i hn
    rw [List.getElem?_eq_none (by omega), List.getElem?_eq_none (by omega)]
theorem splice_append (a b c xs : List Value) (h : xs.length = b.length) : splice (a ++ b ++ c) a.length xs = a ++ xs ++ c := by
  apply List.ext_getElem?
  intro i
  rw [splice_get]
  simp only [List.length_append]
  split
  · rename_i hh
    rw [List.append_assoc, List.getElem?_append_right hh.1, List.getElem?_append_left (by omega)]
  · rename_i hh
    rw [List.append_assoc, List.append_assoc]
    by_cases h1 : i < a.length
    · rw [List.getElem?_append_left h1, List.getElem?_append_left h1]
    · rw [List.getElem?_append_right (by omega), List.getElem?_append_right (by omega)]
      by_cases h2 : i - a.length < b.length
      · omega
      · rw [List.getElem?_append_right (by omega), List.getElem?_append_right (by omega), h]

theorem hs_eq {h : H} {b : Nat} {vs : List Value} (k : Blk h b vs) (o : Nat) (v : Value) : Blk (hs h ⟨b, o, none⟩ v) b (vs.set o v) := by
  obtain ⟨t, lo, hi, hb, hfz⟩ := k
  refine ⟨t, lo, hi, ?_, by simpa using hfz⟩
  simp only [hs, Array.getElem?_modify, hb]
  simp
theorem hs_ne (h : H) (a : Addr) (v : Value) {x : Nat} (hx : x ≠ a.block) : (hs h a v)[x]? = h[x]? := by
  simp only [hs, Array.getElem?_modify]
  rw [if_neg (by omega)]
theorem hs_size (h : H) (a : Addr) (v : Value) : (hs h a v).size = h.size := by simp [hs]
theorem hwrFrom_blk {h : H} {b : Nat} {vs : List Value} (k : Blk h b vs) (o : Nat) (xs : List Value) (j : Nat) : Blk (hwrFrom h ⟨b, o, none⟩ j xs) b (splice vs (o + j) xs) := by
  induction xs generalizing h vs j with
  | nil => exact k
  | cons x r ih =>
    simp only [hwrFrom, splice_cons, add_mk]
    exact ih (hs_eq k (o + j) x) (j + 1)
theorem add_block (a : Addr) (n : Nat) : (a.add n).block = a.block := by unfold Addr.add; split <;> rfl
theorem hwrFrom_ne (h : H) (a : Addr) (j : Nat) (xs : List Value) {x : Nat} (hx : x ≠ a.block) : (hwrFrom h a j xs)[x]? = h[x]? := by
  induction xs generalizing h j with
  | nil => rfl
  | cons y r ih => simp only [hwrFrom]; rw [ih, hs_ne]; rw [add_block]; exact hx
theorem hwrFrom_size (h : H) (a : Addr) (j : Nat) (xs : List Value) : (hwrFrom h a j xs).size = h.size := by
  induction xs generalizing h j with
  | nil => rfl
  | cons y r ih => simp only [hwrFrom]; rw [ih, hs_size]
theorem Blk.wr {h : H} {b : Nat} {vs : List Value} (k : Blk h b vs) (o : Nat) (xs : List Value) : Blk (hwr h ⟨b, o, none⟩ xs) b (splice vs o xs) := hwrFrom_blk k o xs 0
theorem hwr_ne (h : H) (a : Addr) (xs : List Value) {x : Nat} (hx : x ≠ a.block) : (hwr h a xs)[x]? = h[x]? := hwrFrom_ne h a 0 xs hx
theorem hwr_size (h : H) (a : Addr) (xs : List Value) : (hwr h a xs).size = h.size := hwrFrom_size h a 0 xs
theorem Blk.wr_ne {h : H} {b : Nat} {vs : List Value} (k : Blk h b vs) {a : Addr} {xs : List Value} (hx : b ≠ a.block) : Blk (hwr h a xs) b vs := k.of_eq (hwr_ne h a xs hx)

/-! ### What is left alone -/
/-- From h to h' only these blocks, and new ones, may differ. -/
structure Ext (S : Nat → Prop) (h h' : H) : Prop where
  size : h.size ≤ h'.size
  eq : ∀ b, b < h.size → ¬ S b → h'[b]? = h[b]?
abbrev none_ : Nat → Prop := fun _ => False
theorem Ext.refl (S : Nat → Prop) (h : H) : Ext S h h := ⟨Nat.le_refl _, fun _ _ _ => rfl⟩
theorem Ext.trans {S : Nat → Prop} {h h' h'' : H} (a : Ext S h h') (b : Ext S h' h'') : Ext S h h'' :=
  ⟨Nat.le_trans a.size b.size, fun x hx hs => by rw [b.eq x (Nat.lt_of_lt_of_le hx a.size) hs, a.eq x hx hs]⟩
theorem Ext.mono {S T : Nat → Prop} {h h' : H} (a : Ext S h h') (st : ∀ b, b < h.size → S b → T b) : Ext T h h' :=
  ⟨a.size, fun x hx hs => a.eq x hx fun h => hs (st x hx h)⟩
/-- A change of blocks that are new, or allowed, is no change of old ones. -/
theorem Ext.comp {S T : Nat → Prop} {h h' h'' : H} (a : Ext S h h') (b : Ext T h' h'') (st : ∀ x, x < h.size → T x → S x) : Ext S h h'' :=
  ⟨Nat.le_trans a.size b.size, fun x hx hs => by rw [b.eq x (Nat.lt_of_lt_of_le hx a.size) (fun t => hs (st x hx t)), a.eq x hx hs]⟩
theorem Ext.blk {S : Nat → Prop} {h h' : H} (a : Ext S h h') {b : Nat} {vs : List Value} (k : Blk h b vs) (hb : ¬ S b) : Blk h' b vs := k.of_eq (a.eq b k.lt hb)
theorem Ext.wr (h : H) (b o : Nat) (xs : List Value) : Ext (fun x => x = b) h (hwr h ⟨b, o, none⟩ xs) :=
  ⟨by rw [hwr_size]; exact Nat.le_refl _, fun x _ hx => hwr_ne h _ xs hx⟩
theorem hnew.size {h h' : H} {b : Nat} {c : List Value} (n : hnew h b c h') : h'.size = h.size + 1 := by
  obtain ⟨_, t, lo, hi, _, rfl⟩ := n; simp
theorem hnew.b {h h' : H} {b : Nat} {c : List Value} (n : hnew h b c h') : b = h.size := n.1
theorem hnew.ext {h h' : H} {b : Nat} {c : List Value} (n : hnew h b c h') : Ext none_ h h' := by
  refine ⟨by rw [n.size]; omega, ?_⟩
  obtain ⟨_, t, lo, hi, _, rfl⟩ := n
  intro x hx _
  rw [Array.getElem?_push]; rw [if_neg (by omega)]
theorem hnew.blk {h h' : H} {b : Nat} {c : List Value} (n : hnew h b c h') : Blk h' b c := by
  obtain ⟨rfl, t, lo, hi, hf, rfl⟩ := n
  exact ⟨t, lo, hi, by simp, hf⟩
theorem Blk.ne {h : H} {b b' : Nat} {vs vs' : List Value} (k : Blk h b vs) (k' : ¬ b' < h.size) : b ≠ b' := fun e => k' (e ▸ k.lt)

/-! ### Rows of integers -/
@[simp] theorem ints_nil (k : IntKind) : ints k [] = [] := rfl
@[simp] theorem ints_cons (k : IntKind) (n : Int) (r : List Int) : ints k (n :: r) = .int k n :: ints k r := rfl
@[simp] theorem ints_length (k : IntKind) (ns : List Int) : (ints k ns).length = ns.length := by simp [ints]
@[simp] theorem ints_append (k : IntKind) (a b : List Int) : ints k (a ++ b) = ints k a ++ ints k b := by simp [ints]
theorem ints_get (k : IntKind) (ns : List Int) (i : Nat) : (ints k ns)[i]? = ns[i]?.map (Value.int k) := by simp [ints]
@[simp] theorem zeros_length (n : Nat) : (zeros n).length = n := by simp [zeros]
theorem Blk.hrow {h : H} {b : Nat} {vs : List Value} (k : Blk h b vs) {o : Nat} {kd : IntKind} {ns : List Int} (e : ∀ i, i < ns.length → vs[o + i]? = ns[i]?.map (Value.int kd)) : hrow h ⟨b, o, none⟩ kd ns := by
  apply k.hcs
  intro i hi
  rw [e i (by simpa using hi), ints_get]
@[simp] theorem oneCell_int (k : IntKind) (n : Int) : (Value.int k n).oneCell' = true := rfl
end Go.Vc
end

/- Slices: what they hold, who owns it, and appending. Own work; generic over any program. -/
section
set_option linter.unusedVariables false
namespace Go.Vc

theorem hc_congr {h h' : H} {a : Addr} (e : h'[a.block]? = h[a.block]?) : hc h' a = hc h a := by simp only [hc, e]
theorem hc_lt {h : H} {a : Addr} {v : Value} (e : hc h a = some v) : a.block < h.size := by
  rcases Nat.lt_or_ge a.block h.size with k | k
  · exact k
  · simp [hc, Array.getElem?_eq_none k] at e
theorem hc_ext {S : Nat → Prop} {h h' : H} (x : Ext S h h') {a : Addr} {v : Value} (e : hc h a = some v) (hs : ¬ S a.block) : hc h' a = some v := by
  rw [hc_congr (x.eq _ (hc_lt e) hs), e]
theorem hcs_ext {S : Nat → Prop} {h h' : H} (x : Ext S h h') {a : Addr} {vs : List Value} (e : hcs h a vs) (hs : ¬ S a.block) : hcs h' a vs := by
  intro i v hv
  exact hc_ext x (e i v hv) (by rw [add_block]; exact hs)
theorem hsv_ext {S : Nat → Prop} {h h' : H} (x : Ext S h h') {p : Option Addr} {sz l : Nat} {vs : List Value} (e : hsv h p sz l vs) (hs : ∀ q, p = some q → ¬ S q.block) : hsv h' p sz l vs := by
  obtain ⟨h1, h2, h3⟩ := e
  refine ⟨h1, h2, ?_⟩
  rcases h3 with h3 | ⟨q, hq, h3⟩
  · exact Or.inl h3
  · exact Or.inr ⟨q, hq, hcs_ext x h3 (hs q hq)⟩
theorem hsv_get {h : H} {p : Option Addr} {sz l : Nat} {vs : List Value} (e : hsv h p sz l vs) {i : Nat} {v : Value} (hi : vs[i]? = some v) : ∃ q, p = some q ∧ hc h (q.add i) = some v := by
  obtain ⟨_, _, h3⟩ := e
  rcases h3 with h3 | ⟨q, hq, h3⟩
  · subst h3; simp at hi
  · exact ⟨q, hq, h3 i v hi⟩
/-- A slice whose cells lie at the head of a block of their own (bs: that block, if there is one). -/
def OwnS (h : H) (p : Option Addr) (l c sz : Nat) (vs : List Value) (bs : List Nat) : Prop :=
  vs.length = l * sz ∧ l ≤ c ∧ (∀ v, v ∈ vs → v.oneCell' = true) ∧
    ((l = 0 ∧ c = 0 ∧ bs = []) ∨ ∃ b rest, p = some ⟨b, 0, none⟩ ∧ bs = [b] ∧ Blk h b (vs ++ rest) ∧ (c - l) * sz ≤ rest.length)
theorem OwnS.hsv {h : H} {p : Option Addr} {l c sz : Nat} {vs : List Value} {bs : List Nat} (o : OwnS h p l c sz vs bs) : hsv h p sz l vs := by
  obtain ⟨h1, h2, h3, h4⟩ := o
  refine ⟨h1, h3, ?_⟩
  rcases h4 with ⟨rfl, _, _⟩ | ⟨b, rest, rfl, _, k, _⟩
  · left; apply List.eq_nil_of_length_eq_zero; simp [h1]
  · right
    exact ⟨_, rfl, k.hcs fun i hi => by rw [Nat.zero_add, List.getElem?_append_left hi]⟩
theorem OwnS.lt {h : H} {p : Option Addr} {l c sz : Nat} {vs : List Value} {bs : List Nat} (o : OwnS h p l c sz vs bs) : ∀ b, b ∈ bs → b < h.size := by
  obtain ⟨_, _, _, h4⟩ := o
  rcases h4 with ⟨_, _, rfl⟩ | ⟨b, rest, _, rfl, k, _⟩
  · intro b hb; simp at hb
  · intro b' hb; simp at hb; subst hb; exact k.lt
theorem OwnS.ext {S : Nat → Prop} {h h' : H} (x : Ext S h h') {p : Option Addr} {l c sz : Nat} {vs : List Value} {bs : List Nat} (o : OwnS h p l c sz vs bs) (hs : ∀ b, b ∈ bs → ¬ S b) : OwnS h' p l c sz vs bs := by
  obtain ⟨h1, h2, h3, h4⟩ := o
  refine ⟨h1, h2, h3, ?_⟩
  rcases h4 with h4 | ⟨b, rest, hp, rfl, k, hr⟩
  · exact Or.inl h4
  · exact Or.inr ⟨b, rest, hp, rfl, x.blk k (hs b (by simp)), hr⟩
theorem OwnS.nil (h : H) (p : Option Addr) (sz : Nat) : OwnS h p 0 0 sz [] [] := ⟨by simp, Nat.le_refl _, by simp, Or.inl ⟨rfl, rfl, rfl⟩⟩

theorem flatten_replicate_length {α : Type} (n : Nat) (z : List α) : (List.replicate n z).flatten.length = n * z.length := by
  induction n with
  | zero => simp
  | succ n ih => simp [List.replicate_succ, Nat.succ_mul, ih]; omega

/-- Blocks that are new. -/
def newB (h : H) (bs : List Nat) : Prop := ∀ b, b ∈ bs → h.size ≤ b
theorem newB.ext {S : Nat → Prop} {h h' : H} (x : Ext S h h') {bs : List Nat} (n : newB h' bs) : newB h bs := fun b hb => Nat.le_trans x.size (n b hb)

/-- Cells are appended to a slice that is owned. -/
theorem pApp_own {h : H} {sz : Nat} {z : List Value} {B : Nat} {p : Option Addr} {l c n : Nat} {old vs : List Value} {bs : List Nat} {K : Option Addr → Nat → Nat → H → Prop}
    (o : OwnS h p l c sz old bs) (hl : vs.length = n * sz) (hz : z.length = sz) (hv : ∀ v, v ∈ vs → v.oneCell' = true) (hb : (l + n) * B ≤ 2 ^ 47)
    (hk : ∀ p' c' h' bs', Ext (fun b => b ∈ bs) h h' → OwnS h' p' (l + n) c' sz (old ++ vs) bs' → (∀ b, b ∈ bs' → b ∈ bs ∨ h.size ≤ b) → K p' (l + n) c' h') : pApp h sz z B p l c n vs K := by
  have ohs := o.hsv
  have olt := o.lt
  obtain ⟨h1, h2, h3, h4⟩ := o
  have hov : ∀ v, v ∈ old ++ vs → v.oneCell' = true := by
    intro v hm; rcases List.mem_append.1 hm with hm | hm
    · exact h3 v hm
    · exact hv v hm
  have hlen : (old ++ vs).length = (l + n) * sz := by simp [h1, hl, Nat.add_mul]
  unfold pApp
  split
  · rename_i hroom
    rcases h4 with ⟨rfl, rfl, rfl⟩ | ⟨b, rest, rfl, rfl, k, hr⟩
    · have hn : n = 0 := by omega
      subst hn
      have hv0 : vs = [] := List.eq_nil_of_length_eq_zero (by simp [hl])
      have ho0 : old = [] := List.eq_nil_of_length_eq_zero (by simp [h1])
      subst hv0; subst ho0
      refine ⟨Or.inl rfl, fun h' e => ?_⟩
      have e' : h' = h := by rw [e]; cases p <;> rfl
      subst e'
      exact hk _ _ _ [] (Ext.refl _ _) (OwnS.nil _ _ _) (by intro b hb; simp at hb)
    · have hnr : n * sz ≤ rest.length := by
        have : n * sz ≤ (c - l) * sz := Nat.mul_le_mul_right _ (by omega)
        omega
      refine ⟨Or.inr ⟨_, rfl, ?_⟩, fun h' e => ?_⟩
      · rw [add_mk]; apply k.can; simp [h1]; omega
      · simp only [Option.map_some, hwrO, add_mk, Nat.zero_add] at e
        have hs : splice (old ++ rest) (l * sz) vs = (old ++ vs) ++ rest.drop (n * sz) := by
          have : old ++ rest = old ++ rest.take (n * sz) ++ rest.drop (n * sz) := by simp
          rw [this, ← h1, splice_append]
          simp [hl, Nat.min_eq_left hnr]
        have kb := k.wr (l * sz) vs
        rw [hs] at kb
        subst e
        refine hk _ _ _ [b] ⟨by rw [hwr_size]; exact Nat.le_refl _, fun x _ hx => hwr_ne _ _ _ (by simpa using hx)⟩ ⟨hlen, hroom, hov, Or.inr ⟨b, rest.drop (n * sz), rfl, rfl, kb, ?_⟩⟩ (fun x hx => Or.inl hx)
        simp
        have : c - (l + n) = (c - l) - n := by omega
        rw [this, Nat.sub_mul]; omega
  · rename_i hroom
    refine ⟨hb, old, ohs, fun c' b h' hc hw => ?_⟩
    refine hk _ _ _ [b] (hw.ext.mono fun _ _ hf => hf.elim) ⟨hlen, hc, hov, Or.inr ⟨b, (List.replicate (c' - (l + n)) z).flatten, rfl, rfl, ?_, ?_⟩⟩ ?_
    · exact hw.blk
    · rw [flatten_replicate_length, hz]; exact Nat.le_refl _
    · intro x hx; simp at hx; subst hx; right; rw [hw.b]; exact Nat.le_refl _
end Go.Vc
end

/- Loops that count up. Own work; generic over any program. -/
section
set_option linter.unusedVariables false
namespace Go.Vc
abbrev si (i : Nat) : SV := .dv (.one (.int .i64 (i : Int)))
theorem loop_up {J : List SV → H → Prop} (N : Nat) (Inv : Nat → H → Prop) (step : ∀ i h, i < N → Inv i h → (∀ h', Inv (i + 1) h' → J [si (i + 1)] h') → J [si i] h)
    (exit : ∀ h, Inv N h → J [si N] h) (i : Nat) (h : H) (hi : i ≤ N) (inv : Inv i h) : J [si i] h := by
  generalize e : N - i = n
  induction n generalizing i h with
  | zero =>
    have : i = N := by omega
    subst this; exact exit h inv
  | succ n ih => exact step i h (by omega) inv fun h' inv' => ih (i + 1) h' (by omega) inv' (by omega)
theorem wrap_succ {i : Nat} (h : i < 2 ^ 62) : IntKind.i64.wrap ((i : Int) + 1) = ((i + 1 : Nat) : Int) := by
  rw [IntKind.wrap_i64]; omega
theorem wrap_id {n : Int} (h : -(2 ^ 62) ≤ n ∧ n ≤ 2 ^ 62) : IntKind.i64.wrap n = n := by
  rw [IntKind.wrap_i64]; omega
/-- The first i entries are mapped. -/
def mapTo (g : Nat → Int → Int) (i : Nat) (ns : List Int) : List Int := ns.mapIdx fun j v => if j < i then g j v else v
@[simp] theorem mapTo_length (g : Nat → Int → Int) (i : Nat) (ns : List Int) : (mapTo g i ns).length = ns.length := by simp [mapTo]
theorem mapTo_get (g : Nat → Int → Int) (i : Nat) (ns : List Int) (j : Nat) : (mapTo g i ns)[j]? = ns[j]?.map fun v => if j < i then g j v else v := by simp [mapTo]
@[simp] theorem mapTo_zero (g : Nat → Int → Int) (ns : List Int) : mapTo g 0 ns = ns := by
  apply List.ext_getElem?; intro j; rw [mapTo_get]; simp
theorem mapTo_succ (g : Nat → Int → Int) (i : Nat) (ns : List Int) (hi : i < ns.length) : (mapTo g i ns).set i (g i ns[i]) = mapTo g (i + 1) ns := by
  apply List.ext_getElem?; intro j
  by_cases h : i = j
  · subst h; rw [List.getElem?_set_self (by simpa using hi), mapTo_get]; simp [hi]
  · rw [List.getElem?_set_ne h, mapTo_get, mapTo_get]
    congr 1; funext v
    by_cases h1 : j < i
    · rw [if_pos h1, if_pos (by omega)]
    · rw [if_neg h1, if_neg (by omega)]
theorem ints_set (k : IntKind) (ns : List Int) (i : Nat) (n : Int) : (ints k ns).set i (.int k n) = ints k (ns.set i n) := by simp [ints, List.map_set]
end Go.Vc
end

/- Assertions: a list of things that own blocks, none twice; all else is as it was in a base heap. Own work; generic over any program. -/
section
set_option linter.unusedVariables false
namespace Go.Vc

@[simp] theorem oneCell_slice (p : Option Addr) (l c : Nat) : (Value.slice p l c).oneCell' = true := rfl
@[simp] theorem oneCell_bool (b : Bool) : (Value.bool b).oneCell' = true := rfl
@[simp] theorem oneCell_ptr (p : Option Addr) : (Value.pointer p).oneCell' = true := rfl
@[simp] theorem oneCell_str (s : ByteArray) : (Value.string s).oneCell' = true := rfl

inductive Tag where
  | blk (b : Nat) (vs : List Value)
  | sl (p : Option Addr) (l c sz : Nat) (vs : List Value)
  | of (n : Nat)

/-- Something that lies in memory: what it says of a heap and of the blocks that it owns. -/
structure Ent where
  tag : Tag
  P : H → (Nat → Prop) → Prop
  st : ∀ {h h' : H} {f : Nat → Prop}, P h f → (∀ b, f b → h'[b]? = h[b]?) → P h' f
  lt : ∀ {h : H} {f : Nat → Prop} {b : Nat}, P h f → f b → b < h.size

def SatX : List Ent → H → (Nat → Prop) → Prop
  | [], _, O => ∀ b, ¬ O b
  | e :: A, h, O => ∃ f g, e.P h f ∧ SatX A h g ∧ (∀ b, f b → ¬ g b) ∧ (∀ b, O b ↔ f b ∨ g b)

theorem SatX.st {A : List Ent} {h h' : H} {O : Nat → Prop} (s : SatX A h O) (e : ∀ b, O b → h'[b]? = h[b]?) : SatX A h' O := by
  induction A generalizing O with
  | nil => exact s
  | cons x A ih =>
    obtain ⟨f, g, hp, hg, hd, ho⟩ := s
    exact ⟨f, g, x.st hp fun b hb => e b ((ho b).2 (Or.inl hb)), ih hg fun b hb => e b ((ho b).2 (Or.inr hb)), hd, ho⟩
theorem SatX.lt {A : List Ent} {h : H} {O : Nat → Prop} (s : SatX A h O) {b : Nat} (hb : O b) : b < h.size := by
  induction A generalizing O with
  | nil => exact absurd hb (s b)
  | cons x A ih =>
    obtain ⟨f, g, hp, hg, hd, ho⟩ := s
    rcases (ho b).1 hb with k | k
    · exact x.lt hp k
    · exact ih hg k
theorem SatX.iff {A : List Ent} {h : H} {O O' : Nat → Prop} (s : SatX A h O) (e : ∀ b, O b ↔ O' b) : SatX A h O' := by
  have : O = O' := funext fun b => propext (e b)
  exact this ▸ s
theorem SatX.append {A B : List Ent} {h : H} {O : Nat → Prop} : SatX (A ++ B) h O ↔ ∃ f g, SatX A h f ∧ SatX B h g ∧ (∀ b, f b → ¬ g b) ∧ (∀ b, O b ↔ f b ∨ g b) := by
  induction A generalizing O with
  | nil =>
    constructor
    · intro s; exact ⟨fun _ => False, O, fun _ x => x, s, fun _ x => x.elim, fun b => by simp⟩
    · rintro ⟨f, g, hf, hg, _, ho⟩
      refine hg.iff fun b => ?_
      rw [ho]; constructor
      · exact Or.inr
      · rintro (k | k)
        · exact absurd k (hf b)
        · exact k
  | cons x A ih =>
    constructor
    · rintro ⟨f, g, hp, hg, hd, ho⟩
      obtain ⟨f', g', h1, h2, h3, h4⟩ := ih.1 hg
      refine ⟨fun b => f b ∨ f' b, g', ⟨f, f', hp, h1, fun b k k' => hd b k ((h4 b).2 (Or.inl k')), fun b => Iff.rfl⟩, h2, ?_, ?_⟩
      · rintro b (k | k) k'
        · exact hd b k ((h4 b).2 (Or.inr k'))
        · exact h3 b k k'
      · intro b; rw [ho, h4, or_assoc]
    · rintro ⟨f, g, ⟨f1, f2, hp, h1, h2, h3⟩, hg, hd, ho⟩
      refine ⟨f1, fun b => f2 b ∨ g b, hp, ih.2 ⟨f2, g, h1, hg, fun b k k' => hd b ((h3 b).2 (Or.inr k)) k', fun b => Iff.rfl⟩, ?_, ?_⟩
      · rintro b k (k' | k')
        · exact h2 b k k'
        · exact hd b ((h3 b).2 (Or.inl k)) k'
      · intro b; rw [ho, h3, or_assoc]

/-- The thing at a place of the list. -/
inductive At : List Ent → Nat → Ent → Prop where
  | z {A : List Ent} {e : Ent} : At (e :: A) 0 e
  | s {A : List Ent} {e x : Ent} {i : Nat} : At A i e → At (x :: A) (i + 1) e
def put : List Ent → Nat → Ent → List Ent
  | [], _, _ => []
  | _ :: A, 0, e => e :: A
  | x :: A, i + 1, e => x :: put A i e
@[simp] theorem put_zero (x e : Ent) (A : List Ent) : put (x :: A) 0 e = e :: A := rfl
@[simp] theorem put_succ (x e : Ent) (A : List Ent) (i : Nat) : put (x :: A) (i + 1) e = x :: put A i e := rfl
theorem At.put {A : List Ent} {i : Nat} {e : Ent} (a : At A i e) (x : Ent) : At (Vc.put A i x) i x := by
  induction a with
  | z => exact .z
  | s _ ih => exact .s ih
@[simp] theorem put_put (A : List Ent) (i : Nat) (x y : Ent) : put (put A i x) i y = put A i y := by
  induction A generalizing i with
  | nil => rfl
  | cons a A ih => cases i with
    | zero => rfl
    | succ i => simp [ih]
theorem At.put_self {A : List Ent} {i : Nat} {e : Ent} (a : At A i e) : Vc.put A i e = A := by
  induction a with
  | z => rfl
  | s _ ih => simp [ih]

/-- A thing taken out of the list, and another one put in its place. -/
theorem SatX.take {A : List Ent} {i : Nat} {e : Ent} (a : At A i e) {h : H} {O : Nat → Prop} (s : SatX A h O) :
    ∃ f g : Nat → Prop, e.P h f ∧ (∀ b, f b → ¬ g b) ∧ (∀ b, O b ↔ f b ∨ g b) ∧
      ∀ (e' : Ent) (h' : H) (f' : Nat → Prop), e'.P h' f' → (∀ b, g b → h'[b]? = h[b]?) → (∀ b, f' b → ¬ g b) → SatX (Vc.put A i e') h' (fun b => f' b ∨ g b) := by
  induction a generalizing O with
  | z =>
    obtain ⟨f, g, hp, hg, hd, ho⟩ := s
    exact ⟨f, g, hp, hd, ho, fun e' h' f' hp' hsame hd' => ⟨f', g, hp', hg.st hsame, hd', fun b => Iff.rfl⟩⟩
  | s a ih =>
    obtain ⟨f, g, hp, hg, hd, ho⟩ := s
    obtain ⟨f1, g1, h1, h2, h3, h4⟩ := ih hg
    refine ⟨f1, fun b => f b ∨ g1 b, h1, ?_, ?_, ?_⟩
    · rintro b k (k' | k')
      · exact hd b k' ((h3 b).2 (Or.inl k))
      · exact h2 b k k'
    · intro b; rw [ho, h3]; constructor
      · rintro (k | k | k) <;> simp [k]
      · rintro (k | k | k) <;> simp [k]
    · intro e' h' f' hp' hsame hd'
      refine ⟨f, fun b => f' b ∨ g1 b, Ent.st _ hp fun b k => hsame b (Or.inl k), h4 e' h' f' hp' (fun b k => hsame b (Or.inr k)) (fun b k k' => hd' b k (Or.inr k')), ?_, ?_⟩
      · rintro b k (k' | k')
        · exact hd' b k' (Or.inl k)
        · exact hd b k ((h3 b).2 (Or.inr k'))
      · intro b; constructor
        · rintro (k | k | k) <;> simp [k]
        · rintro (k | k | k) <;> simp [k]

/-! ### With a base -/
/-- The things lie in new blocks; all blocks of the base heap are as they were. -/
def Sat (h0 : H) (A : List Ent) (h : H) : Prop := Ext none_ h0 h ∧ ∃ O, SatX A h O ∧ ∀ b, O b → h0.size ≤ b

theorem Sat.init (h : H) : Sat h [] h := ⟨Ext.refl _ _, fun _ => False, fun _ x => x, fun _ x => x.elim⟩
theorem Sat.ex {h0 h : H} {A : List Ent} (s : Sat h0 A h) : Ext none_ h0 h := s.1
theorem Sat.ext {h0 h h' : H} {A : List Ent} (s : Sat h0 A h) (x : Ext none_ h h') : Sat h0 A h' := by
  obtain ⟨s1, O, s2, s3⟩ := s
  exact ⟨s1.trans x, O, s2.st fun b hb => x.eq b (s2.lt hb) (fun y => y), s3⟩
theorem Sat.add {h0 h h' : H} {A : List Ent} (s : Sat h0 A h) (x : Ext none_ h h') {e : Ent} {f : Nat → Prop} (p : e.P h' f) (n : ∀ b, f b → h.size ≤ b) : Sat h0 (e :: A) h' := by
  obtain ⟨s1, O, s2, s3⟩ := s
  refine ⟨s1.trans x, fun b => f b ∨ O b, ⟨f, O, p, s2.st fun b hb => x.eq b (s2.lt hb) (fun y => y), ?_, fun b => Iff.rfl⟩, ?_⟩
  · intro b k k'; have := n b k; have := s2.lt k'; omega
  · rintro b (k | k)
    · have := n b k; have := s1.size; omega
    · exact s3 b k
theorem Sat.drop {h0 h : H} {A : List Ent} {e : Ent} (s : Sat h0 (e :: A) h) : Sat h0 A h := by
  obtain ⟨s1, O, ⟨f, g, _, hg, _, ho⟩, s3⟩ := s
  exact ⟨s1, g, hg, fun b hb => s3 b ((ho b).2 (Or.inr hb))⟩
theorem Sat.sub {h0 h : H} {A B : List Ent} (s : Sat h0 A h) (p : B.Sublist A) : Sat h0 B h := by
  obtain ⟨s1, O, s2, s3⟩ := s
  have : ∃ O', SatX B h O' ∧ ∀ b, O' b → O b := by
    clear s3
    induction p generalizing O with
    | slnil => exact ⟨O, s2, fun _ x => x⟩
    | cons a _ ih =>
      obtain ⟨f, g, hp, hg, hd, ho⟩ := s2
      obtain ⟨O', h1, h2⟩ := ih g hg
      exact ⟨O', h1, fun b hb => (ho b).2 (Or.inr (h2 b hb))⟩
    | cons_cons a _ ih =>
      obtain ⟨f, g, hp, hg, hd, ho⟩ := s2
      obtain ⟨O', h1, h2⟩ := ih g hg
      exact ⟨fun b => f b ∨ O' b, ⟨f, O', hp, h1, fun b k k' => hd b k (h2 b k'), fun b => Iff.rfl⟩, fun b hb => (ho b).2 (hb.imp id (h2 b))⟩
  obtain ⟨O', h1, h2⟩ := this
  exact ⟨s1, O', h1, fun b hb => s3 b (h2 b hb)⟩
theorem Sat.nil {h0 h : H} {A : List Ent} (s : Sat h0 A h) : Sat h0 [] h := ⟨s.1, fun _ => False, fun _ x => x, fun _ x => x.elim⟩
theorem Sat.perm {h0 h : H} {A B : List Ent} (s : Sat h0 A h) (p : A.Perm B) : Sat h0 B h := by
  obtain ⟨s1, O, s2, s3⟩ := s
  refine ⟨s1, O, ?_, s3⟩
  clear s3
  induction p generalizing O with
  | nil => exact s2
  | cons x _ ih =>
    obtain ⟨f, g, hp, hg, hd, ho⟩ := s2
    exact ⟨f, g, hp, ih g hg, hd, ho⟩
  | swap x y l =>
    obtain ⟨f, g, hp, ⟨f1, g1, hp1, hg1, hd1, ho1⟩, hd, ho⟩ := s2
    refine ⟨f1, fun b => f b ∨ g1 b, hp1, ⟨f, g1, hp, hg1, fun b k k' => hd b k ((ho1 b).2 (Or.inr k')), fun b => Iff.rfl⟩, ?_, ?_⟩
    · rintro b k (k' | k')
      · exact hd b k' ((ho1 b).2 (Or.inl k))
      · exact hd1 b k k'
    · intro b; rw [ho, ho1]; constructor
      · rintro (k | k | k) <;> simp [k]
      · rintro (k | k | k) <;> simp [k]
  | trans _ _ ih1 ih2 => exact ih2 O (ih1 O s2)
theorem Sat.takeK {h0 h : H} {A : List Ent} (s : Sat h0 A h) {i : Nat} {e : Ent} (a : At A i e) : ∃ f : Nat → Prop, e.P h f ∧ (∀ b, f b → h0.size ≤ b) ∧
    ∀ (h' : H) (e' : Ent) (f' : Nat → Prop), e'.P h' f' → (∀ b, f' b → f b ∨ h.size ≤ b) → Ext f h h' → Sat h0 (Vc.put A i e') h' := by
  obtain ⟨s1, O, s2, s3⟩ := s
  obtain ⟨f, g, hp, hd, ho, hk⟩ := s2.take a
  refine ⟨f, hp, fun b hb => s3 b ((ho b).2 (Or.inl hb)), fun h' e' f' hp' hn hx => ?_⟩
  have hg : ∀ b, g b → b < h.size := fun b hb => s2.lt ((ho b).2 (Or.inr hb))
  refine ⟨s1.comp hx (fun b hb hf => ?_), _, hk e' h' f' hp' (fun b hb => hx.eq b (hg b hb) (fun hf => hd b hf hb)) ?_, ?_⟩
  · have := s3 b ((ho b).2 (Or.inl hf)); omega
  · intro b k1 k2
    rcases hn b k1 with k | k
    · exact hd b k k2
    · have := hg b k2; omega
  · rintro b (k1 | k1)
    · rcases hn b k1 with k | k
      · exact s3 b ((ho b).2 (Or.inl k))
      · have := s1.size; omega
    · exact s3 b ((ho b).2 (Or.inr k1))
theorem Sat.take {h0 h : H} {A : List Ent} (s : Sat h0 A h) {i : Nat} {e : Ent} (a : At A i e) : ∃ f, e.P h f ∧ ∀ b, f b → h0.size ≤ b := by
  obtain ⟨f, h1, h2, _⟩ := s.takeK a
  exact ⟨f, h1, h2⟩
/-- One thing becomes another one: only its own blocks, and new ones, change. -/
theorem Sat.upd {h0 h h' : H} {A : List Ent} (s : Sat h0 A h) {i : Nat} {e e' : Ent} (a : At A i e)
    (k : ∀ f, e.P h f → ∃ f', e'.P h' f' ∧ (∀ b, f' b → f b ∨ h.size ≤ b) ∧ Ext f h h') : Sat h0 (Vc.put A i e') h' := by
  obtain ⟨f, hp, _, hk⟩ := s.takeK a
  obtain ⟨f', h1, h2, h3⟩ := k f hp
  exact hk h' e' f' h1 h2 h3
/-- The same heap, read otherwise. -/
theorem Sat.as {h0 h : H} {A : List Ent} (s : Sat h0 A h) {i : Nat} {e e' : Ent} (a : At A i e) (k : ∀ f, e.P h f → e'.P h f) : Sat h0 (Vc.put A i e') h :=
  s.upd a fun f hp => ⟨f, k f hp, fun _ => Or.inl, Ext.refl _ _⟩

/-! ### A block; a slice -/
@[irreducible] def blkP (b : Nat) (vs : List Value) (h : H) (f : Nat → Prop) : Prop := Blk h b vs ∧ ∀ x, f x ↔ x = b
def blk (b : Nat) (vs : List Value) : Ent where
  tag := .blk b vs
  P := blkP b vs
  st := by unfold blkP; rintro h h' f ⟨k, e⟩ hs; exact ⟨k.of_eq (hs b ((e b).2 rfl)), e⟩
  lt := by unfold blkP; rintro h f x ⟨k, e⟩ hx; rw [(e x).1 hx]; exact k.lt
theorem blk_P {b : Nat} {vs : List Value} {h : H} {f : Nat → Prop} : (blk b vs).P h f ↔ Blk h b vs ∧ ∀ x, f x ↔ x = b := by
  show blkP b vs h f ↔ _; unfold blkP; rfl
@[irreducible] def slP (p : Option Addr) (l c sz : Nat) (vs : List Value) (h : H) (f : Nat → Prop) : Prop := ∃ bs, OwnS h p l c sz vs bs ∧ ∀ x, f x ↔ x ∈ bs
def slE (p : Option Addr) (l c sz : Nat) (vs : List Value) : Ent where
  tag := .sl p l c sz vs
  P := slP p l c sz vs
  st := by
    unfold slP; rintro h h' f ⟨bs, ⟨h1, h2, h3, h4⟩, e⟩ hs
    refine ⟨bs, ⟨h1, h2, h3, ?_⟩, e⟩
    rcases h4 with h4 | ⟨b, rest, e1, rfl, k, e2⟩
    · exact Or.inl h4
    · exact Or.inr ⟨b, rest, e1, rfl, k.of_eq (hs b ((e b).2 (by simp))), e2⟩
  lt := by unfold slP; rintro h f x ⟨bs, o, e⟩ hx; exact o.lt x ((e x).1 hx)
theorem slE_P {p : Option Addr} {l c sz : Nat} {vs : List Value} {h : H} {f : Nat → Prop} : (slE p l c sz vs).P h f ↔ ∃ bs, OwnS h p l c sz vs bs ∧ ∀ x, f x ↔ x ∈ bs := by
  show slP p l c sz vs h f ↔ _; unfold slP; rfl
@[irreducible] def exP {α : Type} (φ : α → Prop) (F : α → List Ent) (h : H) (f : Nat → Prop) : Prop := ∃ a, φ a ∧ SatX (F a) h f
/-- Things whose places nobody need know. -/
def exE {α : Type} (n : Nat) (φ : α → Prop) (F : α → List Ent) : Ent where
  tag := .of n
  P := exP φ F
  st := by unfold exP; rintro h h' f ⟨a, ha, s⟩ hs; exact ⟨a, ha, s.st hs⟩
  lt := by unfold exP; rintro h f x ⟨a, ha, s⟩ hx; exact s.lt hx
theorem exE_P {α : Type} {n : Nat} {φ : α → Prop} {F : α → List Ent} {h : H} {f : Nat → Prop} : (exE n φ F).P h f ↔ ∃ a, φ a ∧ SatX (F a) h f := by
  show exP φ F h f ↔ _; unfold exP; rfl
theorem Sat.open_ {h0 h : H} {A : List Ent} {α : Type} {n : Nat} {φ : α → Prop} {F : α → List Ent} (s : Sat h0 (exE n φ F :: A) h) : ∃ a, φ a ∧ Sat h0 (F a ++ A) h := by
  obtain ⟨s1, O, ⟨f, g, hp, hg, hd, ho⟩, s3⟩ := s
  obtain ⟨a, ha, s⟩ := exE_P.1 hp
  exact ⟨a, ha, s1, O, SatX.append.2 ⟨f, g, s, hg, hd, ho⟩, s3⟩
theorem Sat.close {h0 h : H} {A : List Ent} {α : Type} {n : Nat} {φ : α → Prop} {F : α → List Ent} (a : α) (ha : φ a) (s : Sat h0 (F a ++ A) h) : Sat h0 (exE n φ F :: A) h := by
  obtain ⟨s1, O, s2, s3⟩ := s
  obtain ⟨f, g, hf, hg, hd, ho⟩ := SatX.append.1 s2
  exact ⟨s1, O, ⟨f, g, exE_P.2 ⟨a, ha, hf⟩, hg, hd, ho⟩, s3⟩
/-- Moved to the front. -/
def del : List Ent → Nat → List Ent
  | [], _ => []
  | _ :: A, 0 => A
  | x :: A, i + 1 => x :: del A i
theorem At.perm {A : List Ent} {i : Nat} {e : Ent} (a : At A i e) : A.Perm (e :: del A i) := by
  induction a with
  | z => exact .refl _
  | s _ ih => exact (ih.cons _).trans (.swap _ _ _)
theorem At.perm_put {A : List Ent} {i : Nat} {e : Ent} (a : At A i e) (x : Ent) : (x :: del A i).Perm (Vc.put A i x) := by
  induction a with
  | z => exact .refl _
  | s _ ih => exact (List.Perm.swap _ _ _).trans (ih.cons _)
theorem Sat.front {h0 h : H} {A : List Ent} (s : Sat h0 A h) {i : Nat} {e : Ent} (a : At A i e) : Sat h0 (e :: del A i) h := s.perm a.perm
theorem Sat.back {h0 h : H} {A : List Ent} {i : Nat} {e x : Ent} (a : At A i e) (s : Sat h0 (x :: del A i) h) : Sat h0 (Vc.put A i x) h := s.perm (a.perm_put x)

/-! ### Steps -/
theorem Sat.new {h0 h h' : H} {A : List Ent} (s : Sat h0 A h) {b : Nat} {vs : List Value} (n : hnew h b vs h') : Sat h0 (blk b vs :: A) h' :=
  s.add n.ext (blk_P.2 ⟨n.blk, fun _ => Iff.rfl⟩) fun x hx => by rw [hx, n.b]; exact Nat.le_refl _
theorem Sat.blkOf {h0 h : H} {A : List Ent} (s : Sat h0 A h) {i b : Nat} {vs : List Value} (a : At A i (blk b vs)) : Blk h b vs := by
  obtain ⟨f, hp, _⟩ := s.take a
  exact (blk_P.1 hp).1
theorem Sat.old {h0 h : H} {A : List Ent} (s : Sat h0 A h) {i b : Nat} {vs : List Value} (a : At A i (blk b vs)) : h0.size ≤ b := by
  obtain ⟨f, hp, hl⟩ := s.take a
  exact hl b (((blk_P.1 hp).2 b).2 rfl)
theorem Sat.ld {h0 h : H} {A : List Ent} (s : Sat h0 A h) {i b : Nat} {vs : List Value} (a : At A i (blk b vs)) {o : Nat} {v : Value} (e : vs[o]? = some v) : hc h ⟨b, o, none⟩ = some v := by
  rw [(s.blkOf a).hc, e]
theorem Sat.cs1 {h0 h : H} {A : List Ent} (s : Sat h0 A h) {i b : Nat} {vs : List Value} (a : At A i (blk b vs)) {o : Nat} {xs : List Value} (e : ∀ i, i < xs.length → vs[o + i]? = xs[i]?) : hcs h ⟨b, o, none⟩ xs := (s.blkOf a).hcs e
theorem Sat.cs {h0 h : H} {A : List Ent} (s : Sat h0 A h) {i b : Nat} {vs : List Value} (a : At A i (blk b vs)) {o : Nat} {xs : List Value} (e : (vs.drop o).take xs.length = xs) : hcs h ⟨b, o, none⟩ xs := by
  refine s.cs1 a fun i hi => ?_
  have : ((vs.drop o).take xs.length)[i]? = xs[i]? := by rw [e]
  rw [List.getElem?_take_of_lt hi, List.getElem?_drop] at this
  exact this
theorem Sat.row {h0 h : H} {A : List Ent} (s : Sat h0 A h) {i b : Nat} {vs : List Value} (a : At A i (blk b vs)) {o : Nat} {k : IntKind} {ns : List Int} (e : ∀ i, i < ns.length → vs[o + i]? = ns[i]?.map (Value.int k)) : hrow h ⟨b, o, none⟩ k ns := (s.blkOf a).hrow e
theorem Sat.can {h0 h : H} {A : List Ent} (s : Sat h0 A h) {i b : Nat} {vs : List Value} (a : At A i (blk b vs)) {o n : Nat} (e : o + n ≤ vs.length) : hcan h ⟨b, o, none⟩ n := (s.blkOf a).can e
theorem Sat.wr {h0 h h' : H} {A : List Ent} (s : Sat h0 A h) {i b : Nat} {vs : List Value} (a : At A i (blk b vs)) {o : Nat} {xs : List Value} (e : h' = hwr h ⟨b, o, none⟩ xs) : Sat h0 (Vc.put A i (blk b (splice vs o xs))) h' := by
  subst e
  refine s.upd a fun f hp => ?_
  obtain ⟨k, hf⟩ := blk_P.1 hp
  refine ⟨f, blk_P.2 ⟨k.wr o xs, hf⟩, fun _ => Or.inl, (Ext.wr h b o xs).mono fun x _ hx => (hf x).2 hx⟩
theorem Sat.sv {h0 h : H} {A : List Ent} (s : Sat h0 A h) {i : Nat} {p : Option Addr} {l c sz : Nat} {vs : List Value} (a : At A i (slE p l c sz vs)) : hsv h p sz l vs := by
  obtain ⟨f, hp, _⟩ := s.take a
  obtain ⟨bs, o, _⟩ := slE_P.1 hp
  exact o.hsv
theorem Sat.base {h0 h : H} {A : List Ent} (s : Sat h0 A h) {p : Option Addr} {sz l : Nat} {vs : List Value} (e : hsv h0 p sz l vs) : hsv h p sz l vs := hsv_ext s.1 e fun _ _ x => x
theorem Sat.own {h0 h h' : H} {A : List Ent} (s : Sat h0 A h) (x : Ext none_ h h') {p : Option Addr} {l c sz : Nat} {vs : List Value} {bs : List Nat} (o : OwnS h' p l c sz vs bs) (n : newB h bs) : Sat h0 (slE p l c sz vs :: A) h' :=
  s.add x (f := fun x => x ∈ bs) (slE_P.2 ⟨bs, o, fun _ => Iff.rfl⟩) n
/-- Cells are appended to a slice that is owned. -/
theorem Sat.app {h0 h : H} {A : List Ent} (s : Sat h0 A h) {i : Nat} {p : Option Addr} {l c n sz : Nat} {old vs z : List Value} {B : Nat} (a : At A i (slE p l c sz old)) {K : Option Addr → Nat → Nat → H → Prop}
    (hl : vs.length = n * sz) (hz : z.length = sz) (hv : ∀ v, v ∈ vs → v.oneCell' = true) (hb : (l + n) * B ≤ 2 ^ 47)
    (k : ∀ p' c' h', Sat h0 (Vc.put A i (slE p' (l + n) c' sz (old ++ vs))) h' → K p' (l + n) c' h') : pApp h sz z B p l c n vs K := by
  obtain ⟨f, hp, _, hk⟩ := s.takeK a
  obtain ⟨bs, o, hf⟩ := slE_P.1 hp
  refine pApp_own o hl hz hv hb fun p' c' h' bs' hx ho hn => k _ _ _ ?_
  refine hk h' _ (fun x => x ∈ bs') (slE_P.2 ⟨bs', ho, fun _ => Iff.rfl⟩) (fun b hb => ?_) (hx.mono fun x _ hx => (hf x).2 hx)
  rcases hn b hb with h1 | h1
  · exact Or.inl ((hf b).2 h1)
  · exact Or.inr h1
theorem At.app {A B : List Ent} {i : Nat} {e : Ent} (a : At A i e) : At (A ++ B) i e := by
  induction a with
  | z => exact .z
  | s _ ih => exact .s ih
theorem At.get {A : List Ent} {i : Nat} {e : Ent} (h : A[i]? = some e) : At A i e := by
  induction A generalizing i with
  | nil => simp at h
  | cons x A ih => cases i with
    | zero => simp at h; subst h; exact .z
    | succ i => exact .s (ih (by simpa using h))
theorem At.mem {A : List Ent} {e : Ent} (h : e ∈ A) : ∃ i, At A i e := by
  obtain ⟨i, hi⟩ := List.mem_iff_getElem?.1 h
  exact ⟨i, At.get hi⟩

end Go.Vc
end

/- Slices of slices of bytes. Own work; generic over any program. -/
section
set_option linter.unusedVariables false
namespace Go.Vc

def bools (bs : List Bool) : List Value := bs.map Value.bool
@[simp] theorem bools_length (bs : List Bool) : (bools bs).length = bs.length := by simp [bools]
@[simp] theorem bools_get (bs : List Bool) (i : Nat) : (bools bs)[i]? = bs[i]?.map Value.bool := by simp [bools]
abbrev Sl := Option Addr × Nat × Nat
abbrev Sl.v (s : Sl) : Value := .slice s.1 s.2.1 s.2.2
abbrev sE (s : Sl) (sz : Nat) (vs : List Value) : Ent := slE s.1 s.2.1 s.2.2 sz vs

/-- A row's slice, and its bytes. -/
structure Pg where
  sl : Sl
  bytes : List Int
def Pg.rd (h : H) (sz : Nat) (x : Pg) : Prop := hsv h x.sl.1 sz x.sl.2.1 (ints .u8 x.bytes)
def pgSl (l : List Pg) : List Value := l.map fun x => x.sl.v
def pgBytes (l : List Pg) : List (List Int) := l.map Pg.bytes
def rowsE (sz : Nat) (l : List Pg) : List Ent := l.map fun x => sE x.sl sz (ints .u8 x.bytes)
@[simp] theorem pgSl_length (l : List Pg) : (pgSl l).length = l.length := by simp [pgSl]
@[simp] theorem pgBytes_length (l : List Pg) : (pgBytes l).length = l.length := by simp [pgBytes]

/-- A slice of slices of bytes (sz a element of the inner ones), read only. -/
def RdM (h : H) (sz : Nat) (a : Sl) (rows : List (List Int)) : Prop := ∃ pgs, rows = pgBytes pgs ∧ hsv h a.1 1 a.2.1 (pgSl pgs) ∧ ∀ x, x ∈ pgs → x.rd h sz
/-- A slice of slices of bytes that is owned. -/
def matL (sz : Nat) (a : Sl) (pgs : List Pg) : List Ent := sE a 1 (pgSl pgs) :: rowsE sz pgs
def matE (sz : Nat) (a : Sl) (rows : List (List Int)) : Ent := exE 1 (fun pgs => rows = pgBytes pgs) (matL sz a)
theorem RdM.ext {h h' : H} (x : Ext none_ h h') {sz : Nat} {a : Sl} {rows : List (List Int)} (r : RdM h sz a rows) : RdM h' sz a rows := by
  obtain ⟨pgs, h1, h2, h3⟩ := r
  exact ⟨pgs, h1, hsv_ext x h2 (fun _ _ y => y), fun y hy => hsv_ext x (h3 y hy) (fun _ _ y => y)⟩
theorem RdM.len {h : H} {sz : Nat} {a : Sl} {rows : List (List Int)} (r : RdM h sz a rows) : rows.length = a.2.1 := by
  obtain ⟨pgs, rfl, h2, _⟩ := r
  have := h2.1; simpa using this
/-- The slice of a row, and what it holds. -/
theorem RdM.at {h : H} {sz : Nat} {a : Sl} {rows : List (List Int)} (r : RdM h sz a rows) {j : Nat} (hj : j < rows.length) :
    ∃ q x, a.1 = some q ∧ hc h (q.add (j * 1)) = some (Sl.v x) ∧ hsv h x.1 sz x.2.1 (ints .u8 rows[j]) := by
  obtain ⟨pgs, rfl, h2, h3⟩ := r
  have hj' : j < pgs.length := by simpa using hj
  have e : (pgSl pgs)[j]? = some (pgs[j].sl.v) := by simp [pgSl, hj']
  obtain ⟨q, hq, g⟩ := hsv_get h2 e
  refine ⟨q, pgs[j].sl, hq, by simpa using g, ?_⟩
  have := h3 pgs[j] (List.getElem_mem hj')
  simpa [Pg.rd, pgBytes] using this
theorem Sat.rdM {h0 h : H} {A : List Ent} (hs : Sat h0 A h) {i sz : Nat} {a : Sl} {rows : List (List Int)} (m : At A i (matE sz a rows)) : RdM h sz a rows := by
  obtain ⟨pgs, he, hs⟩ := (hs.front m).open_
  refine ⟨pgs, he, hs.sv (.z), ?_⟩
  intro x hx
  obtain ⟨j, hj⟩ := At.mem (A := rowsE sz pgs) (e := sE x.sl sz (ints .u8 x.bytes)) (List.mem_map_of_mem hx)
  exact hs.sv (.s hj.app)
/-- A row is appended. -/
theorem Sat.app_row {h0 h : H} {A : List Ent} {i sz : Nat} {p : Option Addr} {l c : Nat} {r : Sl} {rows : List (List Int)} {bs : List Int} {K : Option Addr → Nat → Nat → H → Prop}
    (hs : Sat h0 (sE r sz (ints .u8 bs) :: A) h) (m : At A i (matE sz (p, l, c) rows)) (hb : (l + 1) * 24 ≤ 2 ^ 47)
    (k : ∀ p' c' h', Sat h0 (Vc.put A i (matE sz (p', l + 1, c') (rows ++ [bs]))) h' → K p' (l + 1) c' h') : pApp h 1 [.slice none 0 0] 24 p l c 1 [r.v] K := by
  obtain ⟨pgs, he, hs⟩ := (hs.front (m.s)).open_
  have hs : Sat h0 (sE (p, l, c) 1 (pgSl pgs) :: (rowsE sz pgs ++ (sE r sz (ints .u8 bs) :: del A i))) h := hs
  refine hs.app (.z) (by simp) rfl (by intro v hv; simp at hv; subst hv; rfl) hb ?_
  intro p' c' h' hs
  refine k p' c' h' (Sat.back m ?_)
  refine Sat.close (pgs ++ [⟨r, bs⟩]) (by simp [he, pgBytes]) ?_
  refine hs.perm ?_
  simp only [Vc.put, matL, rowsE, pgSl, List.map_append, List.map_cons, List.map_nil, List.cons_append, List.append_assoc, List.nil_append]
  exact .refl _
theorem Sat.mat_nil {h0 h : H} {A : List Ent} (hs : Sat h0 A h) (sz : Nat) (p : Option Addr) : Sat h0 (matE sz (p, 0, 0) [] :: A) h := by
  refine Sat.close [] rfl ?_
  refine hs.own (Ext.refl _ _) (bs := []) (OwnS.nil _ _ _) (by intro b hb; simp at hb)
theorem Sat.sl_nil {h0 h : H} {A : List Ent} (hs : Sat h0 A h) (sz : Nat) (p : Option Addr) : Sat h0 (sE (p, 0, 0) sz [] :: A) h :=
  hs.own (Ext.refl _ _) (bs := []) (OwnS.nil _ _ _) (by intro b hb; simp at hb)
/-- A block, held for a slice. -/
theorem Sat.as_sl {h0 h : H} {A : List Ent} (hs : Sat h0 A h) {i b l sz : Nat} {vs : List Value} (m : At A i (blk b vs)) (hl : vs.length = l * sz) (hv : ∀ v, v ∈ vs → v.oneCell' = true) :
    Sat h0 (Vc.put A i (slE (some ⟨b, 0, none⟩) l l sz vs)) h := by
  refine hs.as m fun f hp => ?_
  obtain ⟨k, hf⟩ := blk_P.1 hp
  refine slE_P.2 ⟨[b], ⟨hl, Nat.le_refl _, hv, Or.inr ⟨b, [], rfl, rfl, by simpa using k, by simp⟩⟩, fun x => ?_⟩
  rw [hf]; simp
theorem Sat.bv {h0 h : H} {A : List Ent} (hs : Sat h0 A h) {i b l sz : Nat} {vs : List Value} (m : At A i (blk b vs)) (hl : vs.length = l * sz) (hv : ∀ v, v ∈ vs → v.oneCell' = true) :
    hsv h (some ⟨b, 0, none⟩) sz l vs := (hs.as_sl m hl hv).sv (m.put _)
theorem ints_one (k : IntKind) (ns : List Int) : ∀ v, v ∈ ints k ns → v.oneCell' = true := by
  intro v hv
  simp only [ints, List.mem_map] at hv
  obtain ⟨n, _, rfl⟩ := hv; rfl
theorem bools_one (ns : List Bool) : ∀ v, v ∈ bools ns → v.oneCell' = true := by
  intro v hv
  simp only [bools, List.mem_map] at hv
  obtain ⟨n, _, rfl⟩ := hv; rfl
theorem Sat.ofBlk {h0 h h' : H} {A : List Ent} (hs : Sat h0 A h) (x : Ext none_ h h') {b : Nat} {vs : List Value} (k : Blk h' b vs) (n : h.size ≤ b) : Sat h0 (blk b vs :: A) h' :=
  hs.add x (blk_P.2 ⟨k, fun _ => Iff.rfl⟩) fun y hy => by rw [hy]; exact n

/-! ### Slices whose first cell is known -/
theorem Sat.sl_some {h0 h : H} {A : List Ent} (hs : Sat h0 A h) {i : Nat} {p : Option Addr} {l c sz : Nat} {vs : List Value} (m : At A i (slE p l c sz vs)) (hl : 0 < l) : ∃ b, p = some ⟨b, 0, none⟩ := by
  obtain ⟨f, hp, _⟩ := hs.take m
  obtain ⟨bs, ⟨_, _, _, h4⟩, _⟩ := slE_P.1 hp
  rcases h4 with ⟨h1, _, _⟩ | ⟨b, _, h1, _⟩
  · omega
  · exact ⟨b, h1⟩
theorem Sat.sl_len {h0 h : H} {A : List Ent} (hs : Sat h0 A h) {i : Nat} {p : Option Addr} {l c sz : Nat} {vs : List Value} (m : At A i (slE p l c sz vs)) : vs.length = l * sz := (hs.sv m).1
theorem Sat.sld {h0 h : H} {A : List Ent} (hs : Sat h0 A h) {i b l c sz : Nat} {vs : List Value} (m : At A i (slE (some ⟨b, 0, none⟩) l c sz vs)) {o : Nat} {v : Value} (e : vs[o]? = some v) : hc h ⟨b, o, none⟩ = some v := by
  obtain ⟨q, hq, g⟩ := hsv_get (hs.sv m) e
  injection hq with hq; subst hq
  rwa [add_mk, Nat.zero_add] at g
/-! ### Whole blocks -/
theorem Sat.wra {h0 h h' : H} {A : List Ent} (s : Sat h0 A h) {i b : Nat} {vs xs : List Value} (a : At A i (blk b vs)) (e : h' = hwr h ⟨b, 0, none⟩ xs) (hl : xs.length = vs.length) : Sat h0 (Vc.put A i (blk b xs)) h' := by
  have := s.wr a e
  rwa [splice_all _ _ hl] at this
theorem Sat.row0 {h0 h : H} {A : List Ent} (s : Sat h0 A h) {i b : Nat} {k : IntKind} {ns : List Int} (a : At A i (blk b (ints k ns))) : hrow h ⟨b, 0, none⟩ k ns :=
  s.row a fun i _ => by rw [Nat.zero_add, ints_get]

/-! ### Cells of a slice of slices -/
def cellAt (row : List Int) (k : Nat) : List Int := (row.drop (k * 32)).take 32
theorem cellAt_length {row : List Int} {k : Nat} (h : (k + 1) * 32 ≤ row.length) : (cellAt row k).length = 32 := by simp [cellAt]; omega
theorem cellAt_get (row : List Int) (k i : Nat) (hi : i < 32) : (cellAt row k)[i]? = row[k * 32 + i]? := by
  simp only [cellAt]
  rw [List.getElem?_take_of_lt hi, List.getElem?_drop]
/-- A cell is read. -/
theorem RdM.cell {h : H} {a : Sl} {rows : List (List Int)} (r : RdM h 32 a rows) {j k : Nat} (hj : j < rows.length) (hk : (k + 1) * 32 ≤ rows[j].length) :
    ∃ q x q', a.1 = some q ∧ hc h (q.add (j * 1)) = some (Sl.v x) ∧ x.2.1 * 32 = rows[j].length ∧ x.1 = some q' ∧ hrow h (q'.add (k * 32)) .u8 (cellAt rows[j] k) := by
  obtain ⟨q, x, h1, h2, h3⟩ := r.at hj
  have hl : x.2.1 * 32 = rows[j].length := by have := h3.1; simp at this; omega
  obtain ⟨e1, e2, e3⟩ := h3
  rcases e3 with e3 | ⟨q', hq, g⟩
  · have : rows[j].length = 0 := by have := congrArg List.length e3; simpa using this
    omega
  · refine ⟨q, x, q', h1, h2, hl, hq, ?_⟩
    intro i v hv
    have hi : i < 32 := by
      have := (List.getElem?_eq_some_iff.1 hv).1
      rw [ints_length, cellAt_length hk] at this; exact this
    rw [ints_get, cellAt_get _ _ _ hi] at hv
    have : (q'.add (k * 32)).add i = q'.add (k * 32 + i) := by
      cases q' with | mk b o s => unfold Addr.add; by_cases h1 : k * 32 = 0 <;> by_cases h2 : i = 0 <;> simp [h1, h2, Nat.add_assoc]
    rw [this]
    exact g _ _ (by rw [ints_get]; exact hv)

/-! ### A row taken out of a slice of slices -/
end Go.Vc
end

/- Arguments that are read as data: what their cells are. Own work; generic over any program. -/
section
set_option maxRecDepth 100000
set_option linter.unusedVariables false
namespace Go.Vc

/-- The cells read as a datum of a type, no piece of which is too great. -/
def Rdt {D : Type} (enc : TypeId × Value → D) (P : Program) (W : World) (t : TypeId) (cs : List Value) : Prop :=
  ∃ fuel x, DataW.trod enc P W 0 (fun _ => true) true fuel t cs = some x ∧ ∀ n, n ∈ DataW.weights P t x.1 → n ≤ reachBytes

inductive XSh where
  | int (k : IntKind) | bool | str | slc (e : TypeId) | row (k : IntKind) (n : Nat)
def XSh.size : XSh → Nat
  | .row _ n => n
  | _ => 1
def xSize : List XSh → Nat
  | [] => 0
  | s :: r => s.size + xSize r

/-- A slice of so many elements of a type. -/
def Sli {D : Type} (enc : TypeId × Value → D) (P : Program) (W : World) (e : TypeId) (p : Option Addr) (l c : Nat) : Prop :=
  l ≤ c ∧ c * P.bytesOf e ≤ reachBytes ∧ (p = none → l = 0 ∧ c = 0) ∧
    ∀ i, i < l → ∃ a es, p = some a ∧ es.length = P.cellsOf e ∧ hcs W.heap (a.add (i * P.cellsOf e)) es ∧ Rdt enc P W e es
def has (k : IntKind) (n : Int) : Prop := k.min ≤ n ∧ n ≤ k.max
def XM {D : Type} (enc : TypeId × Value → D) (P : Program) (W : World) : List XSh → List Value → Prop
  | [], cs => cs = []
  | .int k :: r, cs => ∃ n rest, cs = .int k n :: rest ∧ has k n ∧ XM enc P W r rest
  | .bool :: r, cs => ∃ b rest, cs = .bool b :: rest ∧ XM enc P W r rest
  | .str :: r, cs => ∃ s rest, cs = .string s :: rest ∧ s.size ≤ reachBytes ∧ XM enc P W r rest
  | .slc e :: r, cs => ∃ p l c rest, cs = .slice p l c :: rest ∧ Sli enc P W e p l c ∧ XM enc P W r rest
  | .row k n :: r, cs => ∃ ns rest, cs = ints k ns ++ rest ∧ ns.length = n ∧ (∀ x, x ∈ ns → has k x) ∧ XM enc P W r rest

section
variable {D : Type} {enc : TypeId × Value → D} {P : Program} {W : World}
theorem XM.append : ∀ {s1 s2 : List XSh} {c1 c2 : List Value}, XM enc P W s1 c1 → XM enc P W s2 c2 → XM enc P W (s1 ++ s2) (c1 ++ c2)
  | [], s2, c1, c2, h1, h2 => by simp only [XM] at h1; subst h1; exact h2
  | .int k :: r, s2, c1, c2, h1, h2 => by obtain ⟨n, rest, rfl, hn, h⟩ := h1; exact ⟨n, rest ++ c2, rfl, hn, XM.append h h2⟩
  | .bool :: r, s2, c1, c2, h1, h2 => by obtain ⟨n, rest, rfl, h⟩ := h1; exact ⟨n, rest ++ c2, rfl, XM.append h h2⟩
  | .str :: r, s2, c1, c2, h1, h2 => by obtain ⟨n, rest, rfl, hn, h⟩ := h1; exact ⟨n, rest ++ c2, rfl, hn, XM.append h h2⟩
  | .slc e :: r, s2, c1, c2, h1, h2 => by obtain ⟨p, l, c, rest, rfl, hn, h⟩ := h1; exact ⟨p, l, c, rest ++ c2, rfl, hn, XM.append h h2⟩
  | .row k n :: r, s2, c1, c2, h1, h2 => by obtain ⟨ns, rest, rfl, hn, hh, h⟩ := h1; exact ⟨ns, rest ++ c2, by simp, hn, hh, XM.append h h2⟩
theorem XM.len : ∀ {s : List XSh} {c : List Value}, XM enc P W s c → c.length = xSize s
  | [], c, h => by simp only [XM] at h; subst h; rfl
  | .int k :: r, c, h => by obtain ⟨n, rest, rfl, _, h⟩ := h; simp [xSize, XSh.size, XM.len h]; omega
  | .bool :: r, c, h => by obtain ⟨n, rest, rfl, h⟩ := h; simp [xSize, XSh.size, XM.len h]; omega
  | .str :: r, c, h => by obtain ⟨n, rest, rfl, _, h⟩ := h; simp [xSize, XSh.size, XM.len h]; omega
  | .slc e :: r, c, h => by obtain ⟨p, l, c, rest, rfl, _, h⟩ := h; simp [xSize, XSh.size, XM.len h]; omega
  | .row k n :: r, c, h => by obtain ⟨ns, rest, rfl, hn, _, h⟩ := h; simp [xSize, XSh.size, XM.len h, hn]

theorem cells_hcs {a : Addr} {n : Nat} {es : List Value} (h : W.cells? 0 a n = some es) : es.length = n ∧ hcs W.heap a es := by
  simp only [World.cells?, Nat.zero_le, if_true] at h
  have hl : es.length = n := by simpa using mapM_some_length h
  refine ⟨hl, fun i v hv => ?_⟩
  have hi : i < n := by have := (List.getElem?_eq_some_iff.1 hv).1; omega
  have := mapM_some_get h i i (by simp [hi])
  rw [hv, cell_hc] at this
  exact this
theorem weights_mem_all {e : TypeId} : ∀ {ds : List (DataW D)} {d : DataW D}, d ∈ ds → ∀ n, n ∈ DataW.weights P e d → n ∈ DataW.weightsAll P e ds
  | d0 :: ds, d, hd, n, hn => by
    simp only [DataW.weightsAll, List.mem_append]
    rcases List.mem_cons.1 hd with rfl | hd
    · exact Or.inl hn
    · exact Or.inr (weights_mem_all hd n hn)

theorem Rdt.slice {t e : TypeId} {cs : List Value} (u : P.underlying t = some (.slice e)) (h : Rdt enc P W t cs) : ∃ p l c, cs = [.slice p l c] ∧ Sli enc P W e p l c := by
  obtain ⟨fuel, x, h, hw⟩ := h
  rcases DataW.trod_slice u h with ⟨rfl, rfl⟩ | ⟨a, len, cap, elems, rest, n, rfl, rfl, rfl, _, hl, hc, he, h1, h2, _⟩
  · exact ⟨none, 0, 0, rfl, Nat.le_refl _, by simp, fun _ => ⟨rfl, rfl⟩, fun i hi => by omega⟩
  · refine ⟨some a, len, cap, rfl, hl, ?_, by simp, ?_⟩
    · obtain ⟨h3, _⟩ := h2 rfl
      have := hw ((elems.length + rest.length) * P.bytesOf e) (by simp [DataW.weights, u])
      rw [he, h3] at this
      rwa [show len + (cap - len) = cap by omega] at this
    · intro i hi
      have h4 := h1 i hi
      have hei : i < elems.length := by omega
      rw [List.getElem?_eq_getElem hei] at h4
      obtain ⟨es, h5, h6⟩ := Option.bind_eq_some_iff.1 h4
      obtain ⟨h7, h8⟩ := cells_hcs h5
      refine ⟨a, es, rfl, h7, h8, n, elems[i], h6, fun m hm => hw m ?_⟩
      simp only [DataW.weights, u, List.mem_cons, List.mem_append]
      exact Or.inr (Or.inl (weights_mem_all (List.mem_map_of_mem (List.getElem_mem hei)) m hm))
end
end Go.Vc
end
