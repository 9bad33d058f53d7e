/- AreaDoes: what is proved and its parts, laid together by a program of ours: Fa0 F -/
import Derived.Test.YtamfkofcpoglnaaProg
import Derived.Test.YtamfkofcpoglnaaK2
set_option autoImplicit false
set_option linter.all false
/- The denotations of some functions of the program, printed by a program of ours (wip/tools/vcgen.py), and that they are the model's. -/
section
set_option linter.unusedVariables false
set_option maxRecDepth 100000
namespace Go.Proofs.Ytamfkofcpoglnaa
open Go Go.Vc
abbrev id_portcullislaw04_ChipDoes : Nat := 3
abbrev id_portcullislaw04_ChipCuts : Nat := 4
abbrev id_portcullislaw04_ChipLays : Nat := 5
abbrev id_portcullislaw07_FuseDoes : Nat := 6
abbrev id_portcullislaw07_FuseRises : Nat := 7
abbrev id_portcullislaw08_PageLooks : Nat := 8
abbrev id_portcullislaw08_PageHalf : Nat := 9
abbrev id_portcullislaw20_WearNames : Nat := 10
abbrev id_portcullislaw20_WearBudgets : Nat := 11
abbrev id_portcullislaw14_AreaWrites : Nat := 12
abbrev id_portcullislaw14_AreaDoes : Nat := 13
abbrev id_portcullislaw20_WearReports : Nat := 14
abbrev id_portcullislaw04_fixed : Nat := 15
abbrev id_chip_New : Nat := 16
abbrev id_portcullisref04_New : Nat := 17
abbrev id_chip_May : Nat := 18
abbrev id_portcullislaw04_game : Nat := 19
abbrev id_chip_Lay : Nat := 20
abbrev id_chip_Chip_Copy : Nat := 21
abbrev id_chip_Chip_State : Nat := 22
abbrev id_chip_Chip_Cut : Nat := 23
abbrev id_portcullislaw04_done : Nat := 24
abbrev id_chip_Chip_Out : Nat := 25
abbrev id_portcullisref04_SameState : Nat := 26
abbrev id_chip_Chip_Acts : Nat := 27
abbrev id_portcullislaw04_mixed : Nat := 28
abbrev id_portcullisref04_CopyState : Nat := 29
abbrev id_portcullisref04_Lay : Nat := 30
abbrev id_portcullislaw04_wreck : Nat := 31
abbrev id_portcullislaw07_fixed : Nat := 32
abbrev id_portcullislaw07_step : Nat := 33
abbrev id_fuse_Count : Nat := 34
abbrev id_fuse_Raise : Nat := 35
abbrev id_chip_Chip_Restore : Nat := 36
abbrev id_portcullislaw08_fixed : Nat := 37
abbrev id_page_Look : Nat := 38
abbrev id_portcullisref08_Look : Nat := 39
abbrev id_portcullislaw08_like : Nat := 40
abbrev id_chip_Chip_Blow : Nat := 41
abbrev id_cell_Value : Nat := 42
abbrev id_cell_Head : Nat := 43
abbrev id_portcullisref08_Sound : Nat := 44
abbrev id_portcullisref04_Blank : Nat := 45
abbrev id_chip_Chip_Erase : Nat := 46
abbrev id_chip_Chip_Program : Nat := 47
abbrev id_portcullislaw20_fixed : Nat := 48
abbrev id_wear_Budget : Nat := 49
abbrev id_portcullisref20_Budget : Nat := 50
abbrev id_wear_Acts : Nat := 51
abbrev id_portcullisref20_Acts : Nat := 52
abbrev id_portcullislaw14_fixed : Nat := 53
abbrev id_area_Write : Nat := 54
abbrev id_area_Size : Nat := 55
abbrev id_portcullislaw14_byteOf : Nat := 56
abbrev id_portcullisref14_Size : Nat := 57
abbrev id_portcullislaw14_step : Nat := 58
abbrev id_wear_Of : Nat := 59
abbrev id_portcullisref20_Of : Nat := 60
abbrev id_portcullislaw20_same : Nat := 61
abbrev id_chip_Chip_Read : Nat := 62
abbrev id_chip_Chip_Blown : Nat := 63
abbrev id_chip_pages : Nat := 64
abbrev id_chip_fuses : Nat := 65
abbrev id_slices_Repeat_api_Cell_api_Cell : Nat := 66
abbrev id_chip_blank : Nat := 67
abbrev id_portcullisref04_May : Nat := 68
abbrev id_portcullisref04_fresh : Nat := 69
abbrev id_chip_within : Nat := 70
abbrev id_portcullisref04_Chip_Copy : Nat := 71
abbrev id_portcullislaw04_pair_step : Nat := 72
abbrev id_portcullislaw04_pair_same : Nat := 73
abbrev id_slices_ContainsFunc_api_Cell_api_Cell : Nat := 74
abbrev id_chip_Lay_1 : Nat := 75
abbrev id_slices_ContainsFunc_int_int : Nat := 76
abbrev id_chip_Lay_2 : Nat := 77
abbrev id_chip_copied : Nat := 78
abbrev id_slices_Clone_byte_byte : Nat := 79
abbrev id_portcullisref04_Fits : Nat := 80
abbrev id_fuse_Revoke : Nat := 81
abbrev id_fuse_Revoked : Nat := 82
abbrev id_portcullisref07_Count : Nat := 83
abbrev id_portcullisref07_Raise : Nat := 84
abbrev id_portcullisref07_Revoked : Nat := 85
abbrev id_portcullisref07_Revoke : Nat := 86
abbrev id_portcullisref04_Chip_Cut : Nat := 87
abbrev id_portcullisref04_Chip_Blow : Nat := 88
abbrev id_portcullisref04_Chip_Restore : Nat := 89
abbrev id_fuse_asked : Nat := 90
abbrev id_chip_Chip_Config : Nat := 91
abbrev id_fuse_row : Nat := 92
abbrev id_chip_Chip_Erases : Nat := 93
abbrev id_page_Info_lay : Nat := 94
abbrev id_cell_Read : Nat := 95
abbrev id_portcullisref04_Chip_Read : Nat := 96
abbrev id_portcullisref08_Of : Nat := 97
abbrev id_chip_Chip_asked : Nat := 98
abbrev id_chip_Chip_begins : Nat := 99
abbrev id_cell_laid : Nat := 100
abbrev id_chip_Chip_asksCell : Nat := 101
abbrev id_portcullislaw20_small : Nat := 102
abbrev id_wear_config_lays : Nat := 103
abbrev id_portcullisref20_lays : Nat := 104
abbrev id_wear_config_acts : Nat := 105
abbrev id_portcullislaw14_small : Nat := 106
abbrev id_area_Read : Nat := 107
abbrev id_area_Worn : Nat := 108
abbrev id_area_pages : Nat := 109
abbrev id_area_used : Nat := 110
abbrev id_area_place : Nat := 111
abbrev id_area_filled : Nat := 112
abbrev id_portcullislaw14_reads : Nat := 113
abbrev id_portcullislaw14_lent : Nat := 114
abbrev id_portcullisref14_Write : Nat := 115
abbrev id_portcullislaw14_kept : Nat := 116
abbrev id_portcullisref14_Worn : Nat := 117
abbrev id_log_Mount : Nat := 118
abbrev id_log_Log_Free : Nat := 119
abbrev id_log_Log_Present : Nat := 120
abbrev id_wear_left : Nat := 121
abbrev id_portcullisref09_Free : Nat := 122
abbrev id_portcullisref09_Present : Nat := 123
abbrev id_portcullisref20_left : Nat := 124
abbrev id_math_bits_Mul : Nat := 125
abbrev id_portcullisref04_within : Nat := 126
abbrev id_portcullisref04_Chip_Program : Nat := 127
abbrev id_portcullisref04_Chip_Erase : Nat := 128
abbrev id_portcullisref04_Chip_Blown : Nat := 129
abbrev id_portcullisref04_Chip_Erases : Nat := 130
abbrev id_slices_IndexFunc_api_Cell_api_Cell : Nat := 131
abbrev id_slices_IndexFunc_int_int : Nat := 132
abbrev id_slices_Clone_int_int : Nat := 133
abbrev id_slices_Clone_bool_bool : Nat := 134
abbrev id_slices_Clone_api_Cell_api_Cell : Nat := 135
abbrev id_fuse_of : Nat := 136
abbrev id_portcullisref07_may : Nat := 137
abbrev id_portcullisref04_Chip_fuse : Nat := 138
abbrev id_portcullisref04_Chip_act : Nat := 139
abbrev id_portcullisref04_Chip_bits : Nat := 140
abbrev id_cell_got : Nat := 141
abbrev id_cell_Blank : Nat := 142
abbrev id_portcullisref04_Chip_at : Nat := 143
abbrev id_portcullisref06_Read : Nat := 144
abbrev id_chip_Chip_begins_1 : Nat := 145
abbrev id_chip_Chip_begins_2 : Nat := 146
abbrev id_cell_put : Nat := 147
abbrev id_crc_Of : Nat := 148
abbrev id_rail_Put : Nat := 149
abbrev id_wear_config_raise : Nat := 150
abbrev id_wear_config_revoke : Nat := 151
abbrev id_wear_config_stage : Nat := 152
abbrev id_area_asked : Nat := 153
abbrev id_area_bytes : Nat := 154
abbrev id_image_Parse : Nat := 155
abbrev id_area_blank : Nat := 156
abbrev id_portcullisref14_Read : Nat := 157
abbrev id_portcullisref14_blank : Nat := 158
abbrev id_portcullisref14_lay : Nat := 159
abbrev id_portcullisref14_may : Nat := 160
abbrev id_log_Log_look : Nat := 161
abbrev id_log_found_info : Nat := 162
abbrev id_portcullisref09_Log_Free : Nat := 163
abbrev id_portcullisref09_Log_Present : Nat := 164
abbrev id_math_bits_Mul32 : Nat := 165
abbrev id_math_bits_Mul64 : Nat := 166
abbrev id_portcullisref06_Blank : Nat := 167
abbrev id_portcullisref06_Head : Nat := 168
abbrev id_portcullisref06_Value : Nat := 169
abbrev id_crc_New : Nat := 170
abbrev id_crc_Sum_Write : Nat := 171
abbrev id_crc_Sum_Sum : Nat := 172
abbrev id_rail_halves : Nat := 173
abbrev id_image_may : Nat := 174
abbrev id_image_number : Nat := 175
abbrev id_portcullisref14_Bytes : Nat := 176
abbrev id_portcullisref11_Parse : Nat := 177
abbrev id_portcullisref09_Log_info : Nat := 178
abbrev id_portcullisref06_cell : Nat := 179
abbrev id_crc_eight : Nat := 180
abbrev id_portcullisref11_must : Nat := 181
abbrev id_portcullisref11_number : Nat := 182
abbrev id_portcullisref01_Of : Nat := 183
abbrev id_portcullisref01_eight : Nat := 184
abbrev id_portcullisref01_step : Nat := 185
abbrev id_runtime_boundsError_Error : Nat := 186
abbrev id_runtime_boundsError_RuntimeError : Nat := 187
abbrev id_runtime_errorString_Error : Nat := 188
abbrev id_runtime_errorString_RuntimeError : Nat := 189
abbrev id_runtime_plainError_Error : Nat := 190
abbrev id_runtime_plainError_RuntimeError : Nat := 191
abbrev id_runtime_errorAddressString_Error : Nat := 192
abbrev id_runtime_errorAddressString_RuntimeError : Nat := 193
abbrev id_runtime_TypeAssertionError_Error : Nat := 194
abbrev id_runtime_TypeAssertionError_RuntimeError : Nat := 195
abbrev id_runtime_PanicNilError_Error : Nat := 196
abbrev id_runtime_PanicNilError_RuntimeError : Nat := 197
abbrev id_internal_abi_Type_Align : Nat := 198
abbrev id_internal_runtime_maps_unhashableTypeError_Error : Nat := 199
abbrev id_internal_runtime_maps_unhashableTypeError_RuntimeError : Nat := 200
abbrev id_api_Errno_Error : Nat := 201
abbrev id_log_found_target : Nat := 202
abbrev id_image_Wrong_Error : Nat := 203
abbrev id_internal_abi_Kind_String : Nat := 204
noncomputable abbrev PP : Program := Try.prog
end Go.Proofs.Ytamfkofcpoglnaa
end

/- Denotations of functions of the program, printed by a program of ours, and that they are the model's. -/
section
set_option linter.unusedVariables false
set_option maxRecDepth 100000
namespace Go.Proofs.Ytamfkofcpoglnaa
open Go Go.Vc
def G_chip_within (a0 : Int) (a1 : Int) (a2 : Int) (Q : Bool → H → Prop) (h : H) : Prop := if leI a1 a0 = true then Q (leI a0 a2) h else Q false h
theorem E_chip_within  : ∀ (a0 : Int) (a1 : Int) (a2 : Int) (Q : Bool → H → Prop) (h : H), G_chip_within a0 a1 a2 Q h = Dbody PP [] [] Try.f70 [.one (.int .i64 a0), .one (.int .i64 a1), .one (.int .i64 a2)] (decR [.bool] Q) h := by intros; kernel_rfl
def F_chip_within := G_chip_within
theorem R_chip_within : RunOk PP 70 (W [.int .i64, .int .i64, .int .i64] [.bool] F_chip_within) := runOk_of (T := []) (ann := []) (TblOk.nil) Try.func70 (by kernel_rfl) (by kernel_rfl) (E_chip_within)
attribute [irreducible] F_chip_within
def G_chip_May (c_chip_within : Int → Int → Int → (Bool → H → Prop) → H → Prop) (a0_0 : Int) (a0_1 : Int) (a0_2 : Int) (a0_3 : Int) (a0_4 : Int) (a0_5 : Int) (a0_6 : Int) (Q : Int → H → Prop) (h : H) : Prop := ∀ (n10 : Nat) (h11 : H), hnew h n10 [Value.int IntKind.i64 a0_0, Value.int IntKind.i64 a0_1, Value.int IntKind.i64 a0_2, Value.int IntKind.i64 a0_3, Value.int IntKind.i64 a0_4, Value.int IntKind.i64 a0_5, Value.int IntKind.i64 a0_6] h11 → ∀ (J13 : List SV → H → Prop), (∀ (b14 : Bool) (h15 : H), (if (!b14) = true then Q 1 h15 else Q 0 h15) → J13 [SV.dv (DV.one (Value.bool b14))] h15) → ∃ (i18 : Int), hc h11 ((Addr.mk n10 0 none).add 1) = some (Value.int IntKind.i64 i18) ∧ c_chip_within i18 1 8 (fun (b19 : Bool) (h20 : H) => if b19 = true then ∃ (i21 : Int), hc h20 (Addr.mk n10 0 none) = some (Value.int IntKind.i64 i21) ∧ ∃ (i22 : Int), hc h20 ((Addr.mk n10 0 none).add 1) = some (Value.int IntKind.i64 i22) ∧ c_chip_within i21 (IntKind.i64.wrap (i22 + 3)) 256 (fun (b23 : Bool) (h24 : H) => if b23 = true then ∃ (i25 : Int), hc h24 ((Addr.mk n10 0 none).add 2) = some (Value.int IntKind.i64 i25) ∧ c_chip_within i25 1 64 (fun (b26 : Bool) (h27 : H) => if b26 = true then ∃ (i28 : Int), hc h27 ((Addr.mk n10 0 none).add 3) = some (Value.int IntKind.i64 i28) ∧ c_chip_within i28 1 65536 (fun (b29 : Bool) (h30 : H) => if b29 = true then ∃ (i31 : Int), hc h30 ((Addr.mk n10 0 none).add 4) = some (Value.int IntKind.i64 i31) ∧ c_chip_within i31 1 64 (fun (b32 : Bool) (h33 : H) => if b32 = true then ∃ (i34 : Int), hc h33 ((Addr.mk n10 0 none).add 5) = some (Value.int IntKind.i64 i34) ∧ c_chip_within i34 0 65536 (fun (b35 : Bool) (h36 : H) => if b35 = true then ∃ (i37 : Int), hc h36 ((Addr.mk n10 0 none).add 6) = some (Value.int IntKind.i64 i37) ∧ c_chip_within i37 0 64 (fun (b38 : Bool) (h39 : H) => J13 [SV.dv (DV.one (Value.bool b38))] h39) h36 else J13 [SV.dv (DV.one (Value.bool false))] h36) h33 else J13 [SV.dv (DV.one (Value.bool false))] h33) h30 else J13 [SV.dv (DV.one (Value.bool false))] h30) h27 else J13 [SV.dv (DV.one (Value.bool false))] h27) h24 else J13 [SV.dv (DV.one (Value.bool false))] h24) h20 else J13 [SV.dv (DV.one (Value.bool false))] h20) h11
theorem E_chip_May (c_chip_within : Int → Int → Int → (Bool → H → Prop) → H → Prop) : ∀ (a0_0 : Int) (a0_1 : Int) (a0_2 : Int) (a0_3 : Int) (a0_4 : Int) (a0_5 : Int) (a0_6 : Int) (Q : Int → H → Prop) (h : H), G_chip_May c_chip_within a0_0 a0_1 a0_2 a0_3 a0_4 a0_5 a0_6 Q h = Dbody PP [(70, W [.int .i64, .int .i64, .int .i64] [.bool] c_chip_within)] [(3, [(3, .sc (.bool))])] Try.f18 [.agg [.c (.int .i64 a0_0), .c (.int .i64 a0_1), .c (.int .i64 a0_2), .c (.int .i64 a0_3), .c (.int .i64 a0_4), .c (.int .i64 a0_5), .c (.int .i64 a0_6)]] (decR [.int .i64] Q) h := by intros; kernel_rfl
def F_chip_May := G_chip_May F_chip_within
theorem R_chip_May : RunOk PP 18 (W [.ag [.int .i64, .int .i64, .int .i64, .int .i64, .int .i64, .int .i64, .int .i64]] [.int .i64] F_chip_May) := runOk_of (T := [(70, W [.int .i64, .int .i64, .int .i64] [.bool] F_chip_within)]) (ann := [(3, [(3, .sc (.bool))])]) (TblOk.cons R_chip_within (TblOk.nil)) Try.func18 (by kernel_rfl) (by kernel_rfl) (E_chip_May F_chip_within)
attribute [irreducible] F_chip_May
def G_chip_pages (a0_0 : Int) (a0_1 : Int) (a0_2 : Int) (a0_3 : Int) (a0_4 : Int) (a0_5 : Int) (a0_6 : Int) (Q : Int → H → Prop) (h : H) : Prop := ∀ (n9 : Nat) (h10 : H), hnew h n9 [Value.int IntKind.i64 a0_0, Value.int IntKind.i64 a0_1, Value.int IntKind.i64 a0_2, Value.int IntKind.i64 a0_3, Value.int IntKind.i64 a0_4, Value.int IntKind.i64 a0_5, Value.int IntKind.i64 a0_6] h10 → ∃ (i12 : Int), hc h10 ((Addr.mk n9 0 none).add 6) = some (Value.int IntKind.i64 i12) ∧ Q (IntKind.i64.wrap (2 + IntKind.i64.wrap (2 * i12))) h10
theorem E_chip_pages  : ∀ (a0_0 : Int) (a0_1 : Int) (a0_2 : Int) (a0_3 : Int) (a0_4 : Int) (a0_5 : Int) (a0_6 : Int) (Q : Int → H → Prop) (h : H), G_chip_pages a0_0 a0_1 a0_2 a0_3 a0_4 a0_5 a0_6 Q h = Dbody PP [] [] Try.f64 [.agg [.c (.int .i64 a0_0), .c (.int .i64 a0_1), .c (.int .i64 a0_2), .c (.int .i64 a0_3), .c (.int .i64 a0_4), .c (.int .i64 a0_5), .c (.int .i64 a0_6)]] (decR [.int .i64] Q) h := by intros; kernel_rfl
def F_chip_pages := G_chip_pages
theorem R_chip_pages : RunOk PP 64 (W [.ag [.int .i64, .int .i64, .int .i64, .int .i64, .int .i64, .int .i64, .int .i64]] [.int .i64] F_chip_pages) := runOk_of (T := []) (ann := []) (TblOk.nil) Try.func64 (by kernel_rfl) (by kernel_rfl) (E_chip_pages)
attribute [irreducible] F_chip_pages
def G_chip_fuses (a0_0 : Int) (a0_1 : Int) (a0_2 : Int) (a0_3 : Int) (a0_4 : Int) (a0_5 : Int) (a0_6 : Int) (Q : Int → H → Prop) (h : H) : Prop := ∀ (n9 : Nat) (h10 : H), hnew h n9 [Value.int IntKind.i64 a0_0, Value.int IntKind.i64 a0_1, Value.int IntKind.i64 a0_2, Value.int IntKind.i64 a0_3, Value.int IntKind.i64 a0_4, Value.int IntKind.i64 a0_5, Value.int IntKind.i64 a0_6] h10 → ∃ (i12 : Int), hc h10 ((Addr.mk n9 0 none).add 1) = some (Value.int IntKind.i64 i12) ∧ ∃ (i13 : Int), hc h10 ((Addr.mk n9 0 none).add 2) = some (Value.int IntKind.i64 i13) ∧ ∃ (i14 : Int), hc h10 ((Addr.mk n9 0 none).add 4) = some (Value.int IntKind.i64 i14) ∧ Q (IntKind.i64.wrap (IntKind.i64.wrap (i12 * i13) + i14)) h10
theorem E_chip_fuses  : ∀ (a0_0 : Int) (a0_1 : Int) (a0_2 : Int) (a0_3 : Int) (a0_4 : Int) (a0_5 : Int) (a0_6 : Int) (Q : Int → H → Prop) (h : H), G_chip_fuses a0_0 a0_1 a0_2 a0_3 a0_4 a0_5 a0_6 Q h = Dbody PP [] [] Try.f65 [.agg [.c (.int .i64 a0_0), .c (.int .i64 a0_1), .c (.int .i64 a0_2), .c (.int .i64 a0_3), .c (.int .i64 a0_4), .c (.int .i64 a0_5), .c (.int .i64 a0_6)]] (decR [.int .i64] Q) h := by intros; kernel_rfl
def F_chip_fuses := G_chip_fuses
theorem R_chip_fuses : RunOk PP 65 (W [.ag [.int .i64, .int .i64, .int .i64, .int .i64, .int .i64, .int .i64, .int .i64]] [.int .i64] F_chip_fuses) := runOk_of (T := []) (ann := []) (TblOk.nil) Try.func65 (by kernel_rfl) (by kernel_rfl) (E_chip_fuses)
attribute [irreducible] F_chip_fuses
def G_math_bits_Mul32 (a0 : Int) (a1 : Int) (Q : Int → Int → H → Prop) (h : H) : Prop := (0 : Int) ≤ 32 ∧ Q (IntKind.u32.wrap ((IntKind.u64.wrap (IntKind.u64.wrap a0 * IntKind.u64.wrap a1)).fdiv (2 ^ 32))) (IntKind.u32.wrap (IntKind.u64.wrap (IntKind.u64.wrap a0 * IntKind.u64.wrap a1))) h
theorem E_math_bits_Mul32  : ∀ (a0 : Int) (a1 : Int) (Q : Int → Int → H → Prop) (h : H), G_math_bits_Mul32 a0 a1 Q h = Dbody PP [] [] Try.f165 [.one (.int .u32 a0), .one (.int .u32 a1)] (decR [.int .u32, .int .u32] Q) h := by intros; kernel_rfl
def F_math_bits_Mul32 := G_math_bits_Mul32
theorem R_math_bits_Mul32 : RunOk PP 165 (W [.int .u32, .int .u32] [.int .u32, .int .u32] F_math_bits_Mul32) := runOk_of (T := []) (ann := []) (TblOk.nil) Try.func165 (by kernel_rfl) (by kernel_rfl) (E_math_bits_Mul32)
attribute [irreducible] F_math_bits_Mul32
def G_math_bits_Mul64 (a0 : Int) (a1 : Int) (Q : Int → Int → H → Prop) (h : H) : Prop := ∀ (i4 : Int), i4 = 4294967295 → (0 : Int) ≤ 32 ∧ ∀ (i6 : Int), i6 = 4294967295 → (0 : Int) ≤ 32 ∧ (0 : Int) ≤ 32 ∧ ∀ (i8 : Int), i8 = 4294967295 → (0 : Int) ≤ 32 ∧ (0 : Int) ≤ 32 ∧ Q (IntKind.u64.wrap (IntKind.u64.wrap (IntKind.u64.wrap (a0.fdiv (2 ^ 32) * a1.fdiv (2 ^ 32)) + (IntKind.u64.wrap (IntKind.u64.wrap (a0.fdiv (2 ^ 32) * bits BinOp.and IntKind.u64 a1 i6) + (IntKind.u64.wrap (bits BinOp.and IntKind.u64 a0 i4 * bits BinOp.and IntKind.u64 a1 i6)).fdiv (2 ^ 32))).fdiv (2 ^ 32)) + (IntKind.u64.wrap (bits BinOp.and IntKind.u64 (IntKind.u64.wrap (IntKind.u64.wrap (a0.fdiv (2 ^ 32) * bits BinOp.and IntKind.u64 a1 i6) + (IntKind.u64.wrap (bits BinOp.and IntKind.u64 a0 i4 * bits BinOp.and IntKind.u64 a1 i6)).fdiv (2 ^ 32))) i8 + IntKind.u64.wrap (bits BinOp.and IntKind.u64 a0 i4 * a1.fdiv (2 ^ 32)))).fdiv (2 ^ 32))) (IntKind.u64.wrap (a0 * a1)) h
theorem E_math_bits_Mul64  : ∀ (a0 : Int) (a1 : Int) (Q : Int → Int → H → Prop) (h : H), G_math_bits_Mul64 a0 a1 Q h = Dbody PP [] [] Try.f166 [.one (.int .u64 a0), .one (.int .u64 a1)] (decR [.int .u64, .int .u64] Q) h := by intros; kernel_rfl
def F_math_bits_Mul64 := G_math_bits_Mul64
theorem R_math_bits_Mul64 : RunOk PP 166 (W [.int .u64, .int .u64] [.int .u64, .int .u64] F_math_bits_Mul64) := runOk_of (T := []) (ann := []) (TblOk.nil) Try.func166 (by kernel_rfl) (by kernel_rfl) (E_math_bits_Mul64)
attribute [irreducible] F_math_bits_Mul64
def G_math_bits_Mul (c_math_bits_Mul32 : Int → Int → (Int → Int → H → Prop) → H → Prop) (c_math_bits_Mul64 : Int → Int → (Int → Int → H → Prop) → H → Prop) (a0 : Int) (a1 : Int) (Q : Int → Int → H → Prop) (h : H) : Prop := c_math_bits_Mul64 a0 a1 (fun (i6 i7 : Int) (h8 : H) => Q i6 i7 h8) h
theorem E_math_bits_Mul (c_math_bits_Mul32 : Int → Int → (Int → Int → H → Prop) → H → Prop) (c_math_bits_Mul64 : Int → Int → (Int → Int → H → Prop) → H → Prop) : ∀ (a0 : Int) (a1 : Int) (Q : Int → Int → H → Prop) (h : H), G_math_bits_Mul c_math_bits_Mul32 c_math_bits_Mul64 a0 a1 Q h = Dbody PP [(165, W [.int .u32, .int .u32] [.int .u32, .int .u32] c_math_bits_Mul32), (166, W [.int .u64, .int .u64] [.int .u64, .int .u64] c_math_bits_Mul64)] [] Try.f125 [.one (.int .u64 a0), .one (.int .u64 a1)] (decR [.int .u64, .int .u64] Q) h := by intros; kernel_rfl
def F_math_bits_Mul := G_math_bits_Mul F_math_bits_Mul32 F_math_bits_Mul64
theorem R_math_bits_Mul : RunOk PP 125 (W [.int .u64, .int .u64] [.int .u64, .int .u64] F_math_bits_Mul) := runOk_of (T := [(165, W [.int .u32, .int .u32] [.int .u32, .int .u32] F_math_bits_Mul32), (166, W [.int .u64, .int .u64] [.int .u64, .int .u64] F_math_bits_Mul64)]) (ann := []) (TblOk.cons R_math_bits_Mul32 (TblOk.cons R_math_bits_Mul64 (TblOk.nil))) Try.func125 (by kernel_rfl) (by kernel_rfl) (E_math_bits_Mul F_math_bits_Mul32 F_math_bits_Mul64)
attribute [irreducible] F_math_bits_Mul
def G_slices_Repeat_api_Cell_api_Cell (c_math_bits_Mul : Int → Int → (Int → Int → H → Prop) → H → Prop) (a0p : Option Addr) (a0l : Nat) (a0c : Nat) (a1 : Int) (Q : Option Addr → Nat → Nat → H → Prop) (h : H) : Prop := ∀ (J7 : List SV → H → Prop), (∀ (h8 : H), c_math_bits_Mul (IntKind.u64.wrap (↑a0l : Int)) (IntKind.u64.wrap a1) (fun (i9 i10 : Int) (h11 : H) => ∀ (J12 : List SV → H → Prop), (∀ (h13 : H), (0 ≤ IntKind.i64.wrap i10 ∧ IntKind.i64.wrap i10 ≤ IntKind.i64.wrap i10 ∧ (↑32 : Int) * IntKind.i64.wrap i10 ≤ 2 ^ 48 ∧ IntKind.i64.wrap i10 ≤ 2 ^ 48 ∧ ∀ (n14 : Nat) (h15 : H), hnew h13 n14 (List.replicate (IntKind.i64.wrap i10).toNat (ints IntKind.u8 (zeros 32))).flatten h15 → ∃ (l17 : List Value), hsv h15 a0p 32 (a0l.min (IntKind.i64.wrap i10).toNat) l17 ∧ (l17 = [] ∨ ∃ (p18 : Addr), some (Addr.mk n14 0 none) = some p18 ∧ hcan h15 p18 (a0l.min (IntKind.i64.wrap i10).toNat * 32)) ∧ ∀ (h19 : H), h19 = hwrO h15 (some (Addr.mk n14 0 none)) l17 → ∀ (J21 : List SV → H → Prop), (∀ (i22 : Int) (h23 : H), (if ltI i22 (↑(IntKind.i64.wrap i10).toNat : Int) = true then 0 ≤ i22 ∧ i22 ≤ (↑(IntKind.i64.wrap i10).toNat : Int) ∧ 0 ≤ i22 ∧ i22 ≤ (↑(IntKind.i64.wrap i10).toNat : Int) ∧ ∃ (l24 : List Value), hsv h23 (subAddr (some (Addr.mk n14 0 none)) 0 (IntKind.i64.wrap i10).toNat 32) 32 ((i22.toNat - 0).min ((IntKind.i64.wrap i10).toNat - i22.toNat)) l24 ∧ (l24 = [] ∨ ∃ (p25 : Addr), subAddr (some (Addr.mk n14 0 none)) i22.toNat (IntKind.i64.wrap i10).toNat 32 = some p25 ∧ hcan h23 p25 ((i22.toNat - 0).min ((IntKind.i64.wrap i10).toNat - i22.toNat) * 32)) ∧ ∀ (h26 : H), h26 = hwrO h23 (subAddr (some (Addr.mk n14 0 none)) i22.toNat (IntKind.i64.wrap i10).toNat 32) l24 → J21 [SV.dv (DV.one (Value.int IntKind.i64 (IntKind.i64.wrap (i22 + (↑((i22.toNat - 0).min ((IntKind.i64.wrap i10).toNat - i22.toNat)) : Int)))))] h26 else Q (some (Addr.mk n14 0 none)) (IntKind.i64.wrap i10).toNat (IntKind.i64.wrap i10).toNat h23) → J21 [SV.dv (DV.one (Value.int IntKind.i64 i22))] h23) → J21 [SV.dv (DV.one (Value.int IntKind.i64 (↑(a0l.min (IntKind.i64.wrap i10).toNat) : Int)))] h19) → J12 [] h13) → if ltI 0 i9 = true then False else ∀ (i32 : Int), i32 = 9223372036854775807 → if ltI i32 i10 = true then False else J12 [] h11) h8 → J7 [] h8) → if ltI a1 0 = true then False else J7 [] h
theorem E_slices_Repeat_api_Cell_api_Cell (c_math_bits_Mul : Int → Int → (Int → Int → H → Prop) → H → Prop) : ∀ (a0p : Option Addr) (a0l : Nat) (a0c : Nat) (a1 : Int) (Q : (Option Addr) → Nat → Nat → H → Prop) (h : H), G_slices_Repeat_api_Cell_api_Cell c_math_bits_Mul a0p a0l a0c a1 Q h = Dbody PP [(125, W [.int .u64, .int .u64] [.int .u64, .int .u64] c_math_bits_Mul)] [(3, []), (15, []), (508, [(8, .sc (.int .i64))])] Try.f66 [.one (.slice a0p a0l a0c), .one (.int .i64 a1)] (decR [.slc] Q) h := by intros; kernel_rfl
def F_slices_Repeat_api_Cell_api_Cell := G_slices_Repeat_api_Cell_api_Cell F_math_bits_Mul
theorem R_slices_Repeat_api_Cell_api_Cell : RunOk PP 66 (W [.slc, .int .i64] [.slc] F_slices_Repeat_api_Cell_api_Cell) := runOk_of (T := [(125, W [.int .u64, .int .u64] [.int .u64, .int .u64] F_math_bits_Mul)]) (ann := [(3, []), (15, []), (508, [(8, .sc (.int .i64))])]) (TblOk.cons R_math_bits_Mul (TblOk.nil)) Try.func66 (by kernel_rfl) (by kernel_rfl) (E_slices_Repeat_api_Cell_api_Cell F_math_bits_Mul)
attribute [irreducible] F_slices_Repeat_api_Cell_api_Cell
def G_chip_blank (Q : List Int → H → Prop) (h : H) : Prop := ∀ (n2 : Nat) (h3 : H), hnew h n2 (ints IntKind.u8 (zeros 32)) h3 → ∀ (n5 : Nat) (h6 : H), hnew h3 n5 (ints IntKind.u8 (zeros 32)) h6 → ∀ (J8 : List SV → H → Prop), (∀ (i9 : Int) (h10 : H), (if ltI i9 32 = true then 0 ≤ i9 ∧ i9 < (↑32 : Int) ∧ hcan h10 ((Addr.mk n5 0 none).add (i9.toNat * 1)) 1 ∧ ∀ (h11 : H), h11 = hwr h10 ((Addr.mk n5 0 none).add (i9.toNat * 1)) [Value.int IntKind.u8 255] → J8 [SV.dv (DV.one (Value.int IntKind.i64 (IntKind.i64.wrap (i9 + 1))))] h11 else ∃ (l13 : List Int), l13.length = 32 ∧ hrow h10 (Addr.mk n5 0 none) IntKind.u8 l13 ∧ hcan h10 (Addr.mk n2 0 none) 32 ∧ ∀ (h14 : H), h14 = hwr h10 (Addr.mk n2 0 none) (ints IntKind.u8 l13 ++ []) → ∃ (l16 : List Int), l16.length = 32 ∧ hrow h14 (Addr.mk n2 0 none) IntKind.u8 l16 ∧ Q l16 h14) → J8 [SV.dv (DV.one (Value.int IntKind.i64 i9))] h10) → J8 [SV.dv (DV.one (Value.int IntKind.i64 0))] h6
theorem E_chip_blank  : ∀ (Q : (List Int) → H → Prop) (h : H), G_chip_blank Q h = Dbody PP [] [(58, [(3, .sc (.int .i64))])] Try.f67 [] (decR [.ag [.row .u8 32]] Q) h := by intros; kernel_rfl
def F_chip_blank := G_chip_blank
theorem R_chip_blank : RunOk PP 67 (W [] [.ag [.row .u8 32]] F_chip_blank) := runOk_of (T := []) (ann := [(58, [(3, .sc (.int .i64))])]) (TblOk.nil) Try.func67 (by kernel_rfl) (by kernel_rfl) (E_chip_blank)
attribute [irreducible] F_chip_blank
def G_chip_New (c_chip_May : Int → Int → Int → Int → Int → Int → Int → (Int → H → Prop) → H → Prop) (c_chip_pages : Int → Int → Int → Int → Int → Int → Int → (Int → H → Prop) → H → Prop) (c_chip_fuses : Int → Int → Int → Int → Int → Int → Int → (Int → H → Prop) → H → Prop) (c_slices_Repeat_api_Cell_api_Cell : Option Addr → Nat → Nat → Int → (Option Addr → Nat → Nat → H → Prop) → H → Prop) (c_chip_blank : (List Int → H → Prop) → H → Prop) (a0_0 : Int) (a0_1 : Int) (a0_2 : Int) (a0_3 : Int) (a0_4 : Int) (a0_5 : Int) (a0_6 : Int) (Q : Option Addr → Int → H → Prop) (h : H) : Prop := ∀ (n14 : Nat) (h15 : H), hnew h n14 [Value.int IntKind.i64 a0_0, Value.int IntKind.i64 a0_1, Value.int IntKind.i64 a0_2, Value.int IntKind.i64 a0_3, Value.int IntKind.i64 a0_4, Value.int IntKind.i64 a0_5, Value.int IntKind.i64 a0_6] h15 → ∃ (i17 : Int), hc h15 (Addr.mk n14 0 none) = some (Value.int IntKind.i64 i17) ∧ ∃ (i18 : Int), hc h15 ((Addr.mk n14 0 none).add 1) = some (Value.int IntKind.i64 i18) ∧ ∃ (i19 : Int), hc h15 ((Addr.mk n14 0 none).add 2) = some (Value.int IntKind.i64 i19) ∧ ∃ (i20 : Int), hc h15 ((Addr.mk n14 0 none).add 3) = some (Value.int IntKind.i64 i20) ∧ ∃ (i21 : Int), hc h15 ((Addr.mk n14 0 none).add 4) = some (Value.int IntKind.i64 i21) ∧ ∃ (i22 : Int), hc h15 ((Addr.mk n14 0 none).add 5) = some (Value.int IntKind.i64 i22) ∧ ∃ (i23 : Int), hc h15 ((Addr.mk n14 0 none).add 6) = some (Value.int IntKind.i64 i23) ∧ c_chip_May i17 i18 i19 i20 i21 i22 i23 (fun (i24 : Int) (h25 : H) => if (i24 != 0) = true then Q none i24 h25 else ∀ (J26 : List SV → H → Prop), (∀ (p27 : Addr) (h28 : H), (∃ (i29 : Int), hc h28 (Addr.mk n14 0 none) = some (Value.int IntKind.i64 i29) ∧ ∃ (i30 : Int), hc h28 ((Addr.mk n14 0 none).add 1) = some (Value.int IntKind.i64 i30) ∧ ∃ (i31 : Int), hc h28 ((Addr.mk n14 0 none).add 2) = some (Value.int IntKind.i64 i31) ∧ ∃ (i32 : Int), hc h28 ((Addr.mk n14 0 none).add 3) = some (Value.int IntKind.i64 i32) ∧ ∃ (i33 : Int), hc h28 ((Addr.mk n14 0 none).add 4) = some (Value.int IntKind.i64 i33) ∧ ∃ (i34 : Int), hc h28 ((Addr.mk n14 0 none).add 5) = some (Value.int IntKind.i64 i34) ∧ ∃ (i35 : Int), hc h28 ((Addr.mk n14 0 none).add 6) = some (Value.int IntKind.i64 i35) ∧ c_chip_pages i29 i30 i31 i32 i33 i34 i35 (fun (i36 : Int) (h37 : H) => ∀ (J38 : List SV → H → Prop), (∀ (i39 : Int) (h40 : H), (if ltI i39 i36 = true then ∃ (o41 : Option Addr), ∃ (n42 : Nat), ∃ (n43 : Nat), hc h40 p27 = some (Value.slice o41 n42 n43) ∧ ∃ (i44 : Int), hc h40 (Addr.mk n14 0 none) = some (Value.int IntKind.i64 i44) ∧ c_chip_blank (fun (l45 : List Int) (h46 : H) => hcs h46 (Addr.mk n14 0 none) [Value.int IntKind.i64 i44] ∧ hcs h46 p27 [Value.slice o41 n42 n43] ∧ ∀ (n47 : Nat) (h48 : H), hnew h46 n47 (ints IntKind.u8 l45 ++ []) h48 → hcs h48 (Addr.mk n14 0 none) [Value.int IntKind.i64 i44] ∧ hcs h48 p27 [Value.slice o41 n42 n43] ∧ c_slices_Repeat_api_Cell_api_Cell (some (Addr.mk n47 0 none)) 1 1 i44 (fun (o50 : Option Addr) (n51 n52 : Nat) (h53 : H) => hcs h53 p27 [Value.slice o41 n42 n43] ∧ ∀ (n54 : Nat) (h55 : H), hnew h53 n54 [Value.slice o50 n51 n52] h55 → hcs h55 p27 [Value.slice o41 n42 n43] ∧ ∃ (l57 : List Value), hsv h55 (some (Addr.mk n54 0 none)) 1 1 l57 ∧ pApp h55 1 [Value.slice none 0 0] 24 o41 n42 n43 1 l57 fun (o58 : Option Addr) (n59 n60 : Nat) (h61 : H) => hcan h61 p27 1 ∧ ∀ (h62 : H), h62 = hwr h61 p27 [Value.slice o58 n59 n60] → J38 [SV.dv (DV.one (Value.int IntKind.i64 (IntKind.i64.wrap (i39 + 1))))] h62) h48) h40 else ∃ (i64 : Int), hc h40 (Addr.mk n14 0 none) = some (Value.int IntKind.i64 i64) ∧ ∃ (i65 : Int), hc h40 ((Addr.mk n14 0 none).add 1) = some (Value.int IntKind.i64 i65) ∧ ∃ (i66 : Int), hc h40 ((Addr.mk n14 0 none).add 2) = some (Value.int IntKind.i64 i66) ∧ ∃ (i67 : Int), hc h40 ((Addr.mk n14 0 none).add 3) = some (Value.int IntKind.i64 i67) ∧ ∃ (i68 : Int), hc h40 ((Addr.mk n14 0 none).add 4) = some (Value.int IntKind.i64 i68) ∧ ∃ (i69 : Int), hc h40 ((Addr.mk n14 0 none).add 5) = some (Value.int IntKind.i64 i69) ∧ ∃ (i70 : Int), hc h40 ((Addr.mk n14 0 none).add 6) = some (Value.int IntKind.i64 i70) ∧ ∃ (o71 : Option Addr), ∃ (n72 : Nat), ∃ (n73 : Nat), hc h40 p27 = some (Value.slice o71 n72 n73) ∧ ∃ (o74 : Option Addr), ∃ (n75 : Nat), ∃ (n76 : Nat), hc h40 (p27.add 1) = some (Value.slice o74 n75 n76) ∧ ∃ (o77 : Option Addr), ∃ (n78 : Nat), ∃ (n79 : Nat), hc h40 (p27.add 2) = some (Value.slice o77 n78 n79) ∧ ∀ (n80 : Nat) (h81 : H), hnew h40 n80 [Value.int IntKind.i64 i64, Value.int IntKind.i64 i65, Value.int IntKind.i64 i66, Value.int IntKind.i64 i67, Value.int IntKind.i64 i68, Value.int IntKind.i64 i69, Value.int IntKind.i64 i70, Value.slice o71 n72 n73, Value.slice o74 n75 n76, Value.slice o77 n78 n79, Value.int IntKind.i64 0, Value.bool false, Value.int IntKind.i64 (-1), Value.slice none 0 0] h81 → Q (some (Addr.mk n80 0 none)) 0 h81) → J38 [SV.dv (DV.one (Value.int IntKind.i64 i39))] h40) → J38 [SV.dv (DV.one (Value.int IntKind.i64 0))] h37) h28) → J26 [SV.dv (DV.addr p27)] h28) → ∃ (i87 : Int), hc h25 (Addr.mk n14 0 none) = some (Value.int IntKind.i64 i87) ∧ ∃ (i88 : Int), hc h25 ((Addr.mk n14 0 none).add 1) = some (Value.int IntKind.i64 i88) ∧ ∃ (i89 : Int), hc h25 ((Addr.mk n14 0 none).add 2) = some (Value.int IntKind.i64 i89) ∧ ∃ (i90 : Int), hc h25 ((Addr.mk n14 0 none).add 3) = some (Value.int IntKind.i64 i90) ∧ ∃ (i91 : Int), hc h25 ((Addr.mk n14 0 none).add 4) = some (Value.int IntKind.i64 i91) ∧ ∃ (i92 : Int), hc h25 ((Addr.mk n14 0 none).add 5) = some (Value.int IntKind.i64 i92) ∧ ∃ (i93 : Int), hc h25 ((Addr.mk n14 0 none).add 6) = some (Value.int IntKind.i64 i93) ∧ ∃ (i94 : Int), hc h25 (Addr.mk n14 0 none) = some (Value.int IntKind.i64 i94) ∧ ∃ (i95 : Int), hc h25 ((Addr.mk n14 0 none).add 1) = some (Value.int IntKind.i64 i95) ∧ ∃ (i96 : Int), hc h25 ((Addr.mk n14 0 none).add 2) = some (Value.int IntKind.i64 i96) ∧ ∃ (i97 : Int), hc h25 ((Addr.mk n14 0 none).add 3) = some (Value.int IntKind.i64 i97) ∧ ∃ (i98 : Int), hc h25 ((Addr.mk n14 0 none).add 4) = some (Value.int IntKind.i64 i98) ∧ ∃ (i99 : Int), hc h25 ((Addr.mk n14 0 none).add 5) = some (Value.int IntKind.i64 i99) ∧ ∃ (i100 : Int), hc h25 ((Addr.mk n14 0 none).add 6) = some (Value.int IntKind.i64 i100) ∧ c_chip_pages i87 i88 i89 i90 i91 i92 i93 (fun (i101 : Int) (h102 : H) => hcs h102 (Addr.mk n14 0 none) [Value.int IntKind.i64 i94, Value.int IntKind.i64 i95, Value.int IntKind.i64 i96, Value.int IntKind.i64 i97, Value.int IntKind.i64 i98, Value.int IntKind.i64 i99, Value.int IntKind.i64 i100] ∧ (0 ≤ i101 ∧ i101 ≤ i101 ∧ (↑8 : Int) * i101 ≤ 2 ^ 48 ∧ i101 ≤ 2 ^ 48 ∧ ∀ (n103 : Nat) (h104 : H), hnew h102 n103 (List.replicate i101.toNat [Value.int IntKind.i64 0]).flatten h104 → hcs h104 (Addr.mk n14 0 none) [Value.int IntKind.i64 i94, Value.int IntKind.i64 i95, Value.int IntKind.i64 i96, Value.int IntKind.i64 i97, Value.int IntKind.i64 i98, Value.int IntKind.i64 i99, Value.int IntKind.i64 i100] ∧ c_chip_fuses i94 i95 i96 i97 i98 i99 i100 (fun (i106 : Int) (h107 : H) => (0 ≤ i106 ∧ i106 ≤ i106 ∧ (↑1 : Int) * i106 ≤ 2 ^ 48 ∧ i106 ≤ 2 ^ 48 ∧ ∀ (n108 : Nat) (h109 : H), hnew h107 n108 (List.replicate i106.toNat [Value.bool false]).flatten h109 → ∀ (n111 : Nat) (h112 : H), hnew h109 n111 [Value.slice none 0 0, Value.slice none 0 0, Value.slice none 0 0] h112 → hcan h112 (Addr.mk n111 0 none) 3 ∧ ∀ (h114 : H), h114 = hwr h112 (Addr.mk n111 0 none) [Value.slice none 0 0, Value.slice (some (Addr.mk n103 0 none)) i101.toNat i101.toNat, Value.slice (some (Addr.mk n108 0 none)) i106.toNat i106.toNat] → J26 [SV.dv (DV.addr (Addr.mk n111 0 none))] h114) ∧ ∀ (n116 : Nat) (h117 : H), hnew h107 n116 [Value.slice none 0 0, Value.slice none 0 0, Value.slice none 0 0] h117 → 0 ≤ i106 ∧ i106 ≤ i106 ∧ (↑1 : Int) * i106 ≤ 2 ^ 48 ∧ i106 ≤ 2 ^ 48 ∧ ∀ (n119 : Nat) (h120 : H), hnew h117 n119 (List.replicate i106.toNat [Value.bool false]).flatten h120 → hcan h120 (Addr.mk n116 0 none) 3 ∧ ∀ (h122 : H), h122 = hwr h120 (Addr.mk n116 0 none) [Value.slice none 0 0, Value.slice (some (Addr.mk n103 0 none)) i101.toNat i101.toNat, Value.slice (some (Addr.mk n119 0 none)) i106.toNat i106.toNat] → J26 [SV.dv (DV.addr (Addr.mk n116 0 none))] h122) h104 ∧ ∀ (n124 : Nat) (h125 : H), hnew h104 n124 [Value.slice none 0 0, Value.slice none 0 0, Value.slice none 0 0] h125 → hcs h125 (Addr.mk n14 0 none) [Value.int IntKind.i64 i94, Value.int IntKind.i64 i95, Value.int IntKind.i64 i96, Value.int IntKind.i64 i97, Value.int IntKind.i64 i98, Value.int IntKind.i64 i99, Value.int IntKind.i64 i100] ∧ c_chip_fuses i94 i95 i96 i97 i98 i99 i100 (fun (i127 : Int) (h128 : H) => 0 ≤ i127 ∧ i127 ≤ i127 ∧ (↑1 : Int) * i127 ≤ 2 ^ 48 ∧ i127 ≤ 2 ^ 48 ∧ ∀ (n129 : Nat) (h130 : H), hnew h128 n129 (List.replicate i127.toNat [Value.bool false]).flatten h130 → hcan h130 (Addr.mk n124 0 none) 3 ∧ ∀ (h132 : H), h132 = hwr h130 (Addr.mk n124 0 none) [Value.slice none 0 0, Value.slice (some (Addr.mk n103 0 none)) i101.toNat i101.toNat, Value.slice (some (Addr.mk n129 0 none)) i127.toNat i127.toNat] → J26 [SV.dv (DV.addr (Addr.mk n124 0 none))] h132) h125) ∧ c_chip_fuses i94 i95 i96 i97 i98 i99 i100 (fun (i134 : Int) (h135 : H) => (0 ≤ i101 ∧ i101 ≤ i101 ∧ (↑8 : Int) * i101 ≤ 2 ^ 48 ∧ i101 ≤ 2 ^ 48 ∧ ∀ (n136 : Nat) (h137 : H), hnew h135 n136 (List.replicate i101.toNat [Value.int IntKind.i64 0]).flatten h137 → (0 ≤ i134 ∧ i134 ≤ i134 ∧ (↑1 : Int) * i134 ≤ 2 ^ 48 ∧ i134 ≤ 2 ^ 48 ∧ ∀ (n139 : Nat) (h140 : H), hnew h137 n139 (List.replicate i134.toNat [Value.bool false]).flatten h140 → ∀ (n142 : Nat) (h143 : H), hnew h140 n142 [Value.slice none 0 0, Value.slice none 0 0, Value.slice none 0 0] h143 → hcan h143 (Addr.mk n142 0 none) 3 ∧ ∀ (h145 : H), h145 = hwr h143 (Addr.mk n142 0 none) [Value.slice none 0 0, Value.slice (some (Addr.mk n136 0 none)) i101.toNat i101.toNat, Value.slice (some (Addr.mk n139 0 none)) i134.toNat i134.toNat] → J26 [SV.dv (DV.addr (Addr.mk n142 0 none))] h145) ∧ ∀ (n147 : Nat) (h148 : H), hnew h137 n147 [Value.slice none 0 0, Value.slice none 0 0, Value.slice none 0 0] h148 → 0 ≤ i134 ∧ i134 ≤ i134 ∧ (↑1 : Int) * i134 ≤ 2 ^ 48 ∧ i134 ≤ 2 ^ 48 ∧ ∀ (n150 : Nat) (h151 : H), hnew h148 n150 (List.replicate i134.toNat [Value.bool false]).flatten h151 → hcan h151 (Addr.mk n147 0 none) 3 ∧ ∀ (h153 : H), h153 = hwr h151 (Addr.mk n147 0 none) [Value.slice none 0 0, Value.slice (some (Addr.mk n136 0 none)) i101.toNat i101.toNat, Value.slice (some (Addr.mk n150 0 none)) i134.toNat i134.toNat] → J26 [SV.dv (DV.addr (Addr.mk n147 0 none))] h153) ∧ (0 ≤ i134 ∧ i134 ≤ i134 ∧ (↑1 : Int) * i134 ≤ 2 ^ 48 ∧ i134 ≤ 2 ^ 48 ∧ ∀ (n155 : Nat) (h156 : H), hnew h135 n155 (List.replicate i134.toNat [Value.bool false]).flatten h156 → (0 ≤ i101 ∧ i101 ≤ i101 ∧ (↑8 : Int) * i101 ≤ 2 ^ 48 ∧ i101 ≤ 2 ^ 48 ∧ ∀ (n158 : Nat) (h159 : H), hnew h156 n158 (List.replicate i101.toNat [Value.int IntKind.i64 0]).flatten h159 → ∀ (n161 : Nat) (h162 : H), hnew h159 n161 [Value.slice none 0 0, Value.slice none 0 0, Value.slice none 0 0] h162 → hcan h162 (Addr.mk n161 0 none) 3 ∧ ∀ (h164 : H), h164 = hwr h162 (Addr.mk n161 0 none) [Value.slice none 0 0, Value.slice (some (Addr.mk n158 0 none)) i101.toNat i101.toNat, Value.slice (some (Addr.mk n155 0 none)) i134.toNat i134.toNat] → J26 [SV.dv (DV.addr (Addr.mk n161 0 none))] h164) ∧ ∀ (n166 : Nat) (h167 : H), hnew h156 n166 [Value.slice none 0 0, Value.slice none 0 0, Value.slice none 0 0] h167 → 0 ≤ i101 ∧ i101 ≤ i101 ∧ (↑8 : Int) * i101 ≤ 2 ^ 48 ∧ i101 ≤ 2 ^ 48 ∧ ∀ (n169 : Nat) (h170 : H), hnew h167 n169 (List.replicate i101.toNat [Value.int IntKind.i64 0]).flatten h170 → hcan h170 (Addr.mk n166 0 none) 3 ∧ ∀ (h172 : H), h172 = hwr h170 (Addr.mk n166 0 none) [Value.slice none 0 0, Value.slice (some (Addr.mk n169 0 none)) i101.toNat i101.toNat, Value.slice (some (Addr.mk n155 0 none)) i134.toNat i134.toNat] → J26 [SV.dv (DV.addr (Addr.mk n166 0 none))] h172) ∧ ∀ (n174 : Nat) (h175 : H), hnew h135 n174 [Value.slice none 0 0, Value.slice none 0 0, Value.slice none 0 0] h175 → (0 ≤ i101 ∧ i101 ≤ i101 ∧ (↑8 : Int) * i101 ≤ 2 ^ 48 ∧ i101 ≤ 2 ^ 48 ∧ ∀ (n177 : Nat) (h178 : H), hnew h175 n177 (List.replicate i101.toNat [Value.int IntKind.i64 0]).flatten h178 → 0 ≤ i134 ∧ i134 ≤ i134 ∧ (↑1 : Int) * i134 ≤ 2 ^ 48 ∧ i134 ≤ 2 ^ 48 ∧ ∀ (n180 : Nat) (h181 : H), hnew h178 n180 (List.replicate i134.toNat [Value.bool false]).flatten h181 → hcan h181 (Addr.mk n174 0 none) 3 ∧ ∀ (h183 : H), h183 = hwr h181 (Addr.mk n174 0 none) [Value.slice none 0 0, Value.slice (some (Addr.mk n177 0 none)) i101.toNat i101.toNat, Value.slice (some (Addr.mk n180 0 none)) i134.toNat i134.toNat] → J26 [SV.dv (DV.addr (Addr.mk n174 0 none))] h183) ∧ 0 ≤ i134 ∧ i134 ≤ i134 ∧ (↑1 : Int) * i134 ≤ 2 ^ 48 ∧ i134 ≤ 2 ^ 48 ∧ ∀ (n185 : Nat) (h186 : H), hnew h175 n185 (List.replicate i134.toNat [Value.bool false]).flatten h186 → 0 ≤ i101 ∧ i101 ≤ i101 ∧ (↑8 : Int) * i101 ≤ 2 ^ 48 ∧ i101 ≤ 2 ^ 48 ∧ ∀ (n188 : Nat) (h189 : H), hnew h186 n188 (List.replicate i101.toNat [Value.int IntKind.i64 0]).flatten h189 → hcan h189 (Addr.mk n174 0 none) 3 ∧ ∀ (h191 : H), h191 = hwr h189 (Addr.mk n174 0 none) [Value.slice none 0 0, Value.slice (some (Addr.mk n188 0 none)) i101.toNat i101.toNat, Value.slice (some (Addr.mk n185 0 none)) i134.toNat i134.toNat] → J26 [SV.dv (DV.addr (Addr.mk n174 0 none))] h191) h102 ∧ ∀ (n193 : Nat) (h194 : H), hnew h102 n193 [Value.slice none 0 0, Value.slice none 0 0, Value.slice none 0 0] h194 → hcs h194 (Addr.mk n14 0 none) [Value.int IntKind.i64 i94, Value.int IntKind.i64 i95, Value.int IntKind.i64 i96, Value.int IntKind.i64 i97, Value.int IntKind.i64 i98, Value.int IntKind.i64 i99, Value.int IntKind.i64 i100] ∧ (0 ≤ i101 ∧ i101 ≤ i101 ∧ (↑8 : Int) * i101 ≤ 2 ^ 48 ∧ i101 ≤ 2 ^ 48 ∧ ∀ (n196 : Nat) (h197 : H), hnew h194 n196 (List.replicate i101.toNat [Value.int IntKind.i64 0]).flatten h197 → hcs h197 (Addr.mk n14 0 none) [Value.int IntKind.i64 i94, Value.int IntKind.i64 i95, Value.int IntKind.i64 i96, Value.int IntKind.i64 i97, Value.int IntKind.i64 i98, Value.int IntKind.i64 i99, Value.int IntKind.i64 i100] ∧ c_chip_fuses i94 i95 i96 i97 i98 i99 i100 (fun (i199 : Int) (h200 : H) => 0 ≤ i199 ∧ i199 ≤ i199 ∧ (↑1 : Int) * i199 ≤ 2 ^ 48 ∧ i199 ≤ 2 ^ 48 ∧ ∀ (n201 : Nat) (h202 : H), hnew h200 n201 (List.replicate i199.toNat [Value.bool false]).flatten h202 → hcan h202 (Addr.mk n193 0 none) 3 ∧ ∀ (h204 : H), h204 = hwr h202 (Addr.mk n193 0 none) [Value.slice none 0 0, Value.slice (some (Addr.mk n196 0 none)) i101.toNat i101.toNat, Value.slice (some (Addr.mk n201 0 none)) i199.toNat i199.toNat] → J26 [SV.dv (DV.addr (Addr.mk n193 0 none))] h204) h197) ∧ c_chip_fuses i94 i95 i96 i97 i98 i99 i100 (fun (i206 : Int) (h207 : H) => (0 ≤ i101 ∧ i101 ≤ i101 ∧ (↑8 : Int) * i101 ≤ 2 ^ 48 ∧ i101 ≤ 2 ^ 48 ∧ ∀ (n208 : Nat) (h209 : H), hnew h207 n208 (List.replicate i101.toNat [Value.int IntKind.i64 0]).flatten h209 → 0 ≤ i206 ∧ i206 ≤ i206 ∧ (↑1 : Int) * i206 ≤ 2 ^ 48 ∧ i206 ≤ 2 ^ 48 ∧ ∀ (n211 : Nat) (h212 : H), hnew h209 n211 (List.replicate i206.toNat [Value.bool false]).flatten h212 → hcan h212 (Addr.mk n193 0 none) 3 ∧ ∀ (h214 : H), h214 = hwr h212 (Addr.mk n193 0 none) [Value.slice none 0 0, Value.slice (some (Addr.mk n208 0 none)) i101.toNat i101.toNat, Value.slice (some (Addr.mk n211 0 none)) i206.toNat i206.toNat] → J26 [SV.dv (DV.addr (Addr.mk n193 0 none))] h214) ∧ 0 ≤ i206 ∧ i206 ≤ i206 ∧ (↑1 : Int) * i206 ≤ 2 ^ 48 ∧ i206 ≤ 2 ^ 48 ∧ ∀ (n216 : Nat) (h217 : H), hnew h207 n216 (List.replicate i206.toNat [Value.bool false]).flatten h217 → 0 ≤ i101 ∧ i101 ≤ i101 ∧ (↑8 : Int) * i101 ≤ 2 ^ 48 ∧ i101 ≤ 2 ^ 48 ∧ ∀ (n219 : Nat) (h220 : H), hnew h217 n219 (List.replicate i101.toNat [Value.int IntKind.i64 0]).flatten h220 → hcan h220 (Addr.mk n193 0 none) 3 ∧ ∀ (h222 : H), h222 = hwr h220 (Addr.mk n193 0 none) [Value.slice none 0 0, Value.slice (some (Addr.mk n219 0 none)) i101.toNat i101.toNat, Value.slice (some (Addr.mk n216 0 none)) i206.toNat i206.toNat] → J26 [SV.dv (DV.addr (Addr.mk n193 0 none))] h222) h194) h25 ∧ ∀ (n224 : Nat) (h225 : H), hnew h25 n224 [Value.slice none 0 0, Value.slice none 0 0, Value.slice none 0 0] h225 → hcs h225 (Addr.mk n14 0 none) [Value.int IntKind.i64 i94, Value.int IntKind.i64 i95, Value.int IntKind.i64 i96, Value.int IntKind.i64 i97, Value.int IntKind.i64 i98, Value.int IntKind.i64 i99, Value.int IntKind.i64 i100] ∧ hcs h225 (Addr.mk n14 0 none) [Value.int IntKind.i64 i87, Value.int IntKind.i64 i88, Value.int IntKind.i64 i89, Value.int IntKind.i64 i90, Value.int IntKind.i64 i91, Value.int IntKind.i64 i92, Value.int IntKind.i64 i93] ∧ c_chip_pages i87 i88 i89 i90 i91 i92 i93 (fun (i227 : Int) (h228 : H) => hcs h228 (Addr.mk n14 0 none) [Value.int IntKind.i64 i94, Value.int IntKind.i64 i95, Value.int IntKind.i64 i96, Value.int IntKind.i64 i97, Value.int IntKind.i64 i98, Value.int IntKind.i64 i99, Value.int IntKind.i64 i100] ∧ (0 ≤ i227 ∧ i227 ≤ i227 ∧ (↑8 : Int) * i227 ≤ 2 ^ 48 ∧ i227 ≤ 2 ^ 48 ∧ ∀ (n229 : Nat) (h230 : H), hnew h228 n229 (List.replicate i227.toNat [Value.int IntKind.i64 0]).flatten h230 → hcs h230 (Addr.mk n14 0 none) [Value.int IntKind.i64 i94, Value.int IntKind.i64 i95, Value.int IntKind.i64 i96, Value.int IntKind.i64 i97, Value.int IntKind.i64 i98, Value.int IntKind.i64 i99, Value.int IntKind.i64 i100] ∧ c_chip_fuses i94 i95 i96 i97 i98 i99 i100 (fun (i232 : Int) (h233 : H) => 0 ≤ i232 ∧ i232 ≤ i232 ∧ (↑1 : Int) * i232 ≤ 2 ^ 48 ∧ i232 ≤ 2 ^ 48 ∧ ∀ (n234 : Nat) (h235 : H), hnew h233 n234 (List.replicate i232.toNat [Value.bool false]).flatten h235 → hcan h235 (Addr.mk n224 0 none) 3 ∧ ∀ (h237 : H), h237 = hwr h235 (Addr.mk n224 0 none) [Value.slice none 0 0, Value.slice (some (Addr.mk n229 0 none)) i227.toNat i227.toNat, Value.slice (some (Addr.mk n234 0 none)) i232.toNat i232.toNat] → J26 [SV.dv (DV.addr (Addr.mk n224 0 none))] h237) h230) ∧ c_chip_fuses i94 i95 i96 i97 i98 i99 i100 (fun (i239 : Int) (h240 : H) => (0 ≤ i227 ∧ i227 ≤ i227 ∧ (↑8 : Int) * i227 ≤ 2 ^ 48 ∧ i227 ≤ 2 ^ 48 ∧ ∀ (n241 : Nat) (h242 : H), hnew h240 n241 (List.replicate i227.toNat [Value.int IntKind.i64 0]).flatten h242 → 0 ≤ i239 ∧ i239 ≤ i239 ∧ (↑1 : Int) * i239 ≤ 2 ^ 48 ∧ i239 ≤ 2 ^ 48 ∧ ∀ (n244 : Nat) (h245 : H), hnew h242 n244 (List.replicate i239.toNat [Value.bool false]).flatten h245 → hcan h245 (Addr.mk n224 0 none) 3 ∧ ∀ (h247 : H), h247 = hwr h245 (Addr.mk n224 0 none) [Value.slice none 0 0, Value.slice (some (Addr.mk n241 0 none)) i227.toNat i227.toNat, Value.slice (some (Addr.mk n244 0 none)) i239.toNat i239.toNat] → J26 [SV.dv (DV.addr (Addr.mk n224 0 none))] h247) ∧ 0 ≤ i239 ∧ i239 ≤ i239 ∧ (↑1 : Int) * i239 ≤ 2 ^ 48 ∧ i239 ≤ 2 ^ 48 ∧ ∀ (n249 : Nat) (h250 : H), hnew h240 n249 (List.replicate i239.toNat [Value.bool false]).flatten h250 → 0 ≤ i227 ∧ i227 ≤ i227 ∧ (↑8 : Int) * i227 ≤ 2 ^ 48 ∧ i227 ≤ 2 ^ 48 ∧ ∀ (n252 : Nat) (h253 : H), hnew h250 n252 (List.replicate i227.toNat [Value.int IntKind.i64 0]).flatten h253 → hcan h253 (Addr.mk n224 0 none) 3 ∧ ∀ (h255 : H), h255 = hwr h253 (Addr.mk n224 0 none) [Value.slice none 0 0, Value.slice (some (Addr.mk n252 0 none)) i227.toNat i227.toNat, Value.slice (some (Addr.mk n249 0 none)) i239.toNat i239.toNat] → J26 [SV.dv (DV.addr (Addr.mk n224 0 none))] h255) h228) h225) h15
theorem E_chip_New (c_chip_May : Int → Int → Int → Int → Int → Int → Int → (Int → H → Prop) → H → Prop) (c_chip_pages : Int → Int → Int → Int → Int → Int → Int → (Int → H → Prop) → H → Prop) (c_chip_fuses : Int → Int → Int → Int → Int → Int → Int → (Int → H → Prop) → H → Prop) (c_slices_Repeat_api_Cell_api_Cell : (Option Addr) → Nat → Nat → Int → ((Option Addr) → Nat → Nat → H → Prop) → H → Prop) (c_chip_blank : ((List Int) → H → Prop) → H → Prop) : ∀ (a0_0 : Int) (a0_1 : Int) (a0_2 : Int) (a0_3 : Int) (a0_4 : Int) (a0_5 : Int) (a0_6 : Int) (Q : (Option Addr) → Int → H → Prop) (h : H), G_chip_New c_chip_May c_chip_pages c_chip_fuses c_slices_Repeat_api_Cell_api_Cell c_chip_blank a0_0 a0_1 a0_2 a0_3 a0_4 a0_5 a0_6 Q h = Dbody PP [(18, W [.ag [.int .i64, .int .i64, .int .i64, .int .i64, .int .i64, .int .i64, .int .i64]] [.int .i64] c_chip_May), (64, W [.ag [.int .i64, .int .i64, .int .i64, .int .i64, .int .i64, .int .i64, .int .i64]] [.int .i64] c_chip_pages), (65, W [.ag [.int .i64, .int .i64, .int .i64, .int .i64, .int .i64, .int .i64, .int .i64]] [.int .i64] c_chip_fuses), (66, W [.slc, .int .i64] [.slc] c_slices_Repeat_api_Cell_api_Cell), (67, W [] [.ag [.row .u8 32]] c_chip_blank)] [(7, [(5, .addr)]), (122, [(20, .sc (.int .i64))])] Try.f16 [.agg [.c (.int .i64 a0_0), .c (.int .i64 a0_1), .c (.int .i64 a0_2), .c (.int .i64 a0_3), .c (.int .i64 a0_4), .c (.int .i64 a0_5), .c (.int .i64 a0_6)]] (decR [.ptr, .int .i64] Q) h := by intros; kernel_rfl
def F_chip_New := G_chip_New F_chip_May F_chip_pages F_chip_fuses F_slices_Repeat_api_Cell_api_Cell F_chip_blank
theorem R_chip_New : RunOk PP 16 (W [.ag [.int .i64, .int .i64, .int .i64, .int .i64, .int .i64, .int .i64, .int .i64]] [.ptr, .int .i64] F_chip_New) := runOk_of (T := [(18, W [.ag [.int .i64, .int .i64, .int .i64, .int .i64, .int .i64, .int .i64, .int .i64]] [.int .i64] F_chip_May), (64, W [.ag [.int .i64, .int .i64, .int .i64, .int .i64, .int .i64, .int .i64, .int .i64]] [.int .i64] F_chip_pages), (65, W [.ag [.int .i64, .int .i64, .int .i64, .int .i64, .int .i64, .int .i64, .int .i64]] [.int .i64] F_chip_fuses), (66, W [.slc, .int .i64] [.slc] F_slices_Repeat_api_Cell_api_Cell), (67, W [] [.ag [.row .u8 32]] F_chip_blank)]) (ann := [(7, [(5, .addr)]), (122, [(20, .sc (.int .i64))])]) (TblOk.cons R_chip_May (TblOk.cons R_chip_pages (TblOk.cons R_chip_fuses (TblOk.cons R_slices_Repeat_api_Cell_api_Cell (TblOk.cons R_chip_blank (TblOk.nil)))))) Try.func16 (by kernel_rfl) (by kernel_rfl) (E_chip_New F_chip_May F_chip_pages F_chip_fuses F_slices_Repeat_api_Cell_api_Cell F_chip_blank)
attribute [irreducible] F_chip_New
def G_slices_Clone_byte_byte (a0p : Option Addr) (a0l : Nat) (a0c : Nat) (Q : Option Addr → Nat → Nat → H → Prop) (h : H) : Prop := if a0p.isNone = true then Q none 0 0 h else ∀ (n5 : Nat) (h6 : H), hnew h n5 [] h6 → ∃ (l8 : List Value), hsv h6 a0p 1 a0l l8 ∧ pApp h6 1 [Value.int IntKind.u8 0] 1 (some (Addr.mk n5 0 none)) 0 0 a0l l8 fun (o9 : Option Addr) (n10 n11 : Nat) (h12 : H) => Q o9 n10 n11 h12
theorem E_slices_Clone_byte_byte  : ∀ (a0p : Option Addr) (a0l : Nat) (a0c : Nat) (Q : (Option Addr) → Nat → Nat → H → Prop) (h : H), G_slices_Clone_byte_byte a0p a0l a0c Q h = Dbody PP [] [] Try.f79 [.one (.slice a0p a0l a0c)] (decR [.slc] Q) h := by intros; kernel_rfl
def F_slices_Clone_byte_byte := G_slices_Clone_byte_byte
theorem R_slices_Clone_byte_byte : RunOk PP 79 (W [.slc] [.slc] F_slices_Clone_byte_byte) := runOk_of (T := []) (ann := []) (TblOk.nil) Try.func79 (by kernel_rfl) (by kernel_rfl) (E_slices_Clone_byte_byte)
attribute [irreducible] F_slices_Clone_byte_byte
def G_chip_Chip_Cut (c_slices_Clone_byte_byte : Option Addr → Nat → Nat → (Option Addr → Nat → Nat → H → Prop) → H → Prop) (a0 : Addr) (a1 : Int) (a2p : Option Addr) (a2l : Nat) (a2c : Nat) (Q : H → Prop) (h : H) : Prop := c_slices_Clone_byte_byte a2p a2l a2c (fun (o8 : Option Addr) (n9 n10 : Nat) (h11 : H) => hcan h11 (a0.add 12) 1 ∧ ∀ (h12 : H), h12 = hwr h11 (a0.add 12) [Value.int IntKind.i64 (if a1 > -1 then a1 else -1)] → hcan h12 (a0.add 13) 1 ∧ ∀ (h14 : H), h14 = hwr h12 (a0.add 13) [Value.slice o8 n9 n10] → Q h14) h
theorem E_chip_Chip_Cut (c_slices_Clone_byte_byte : (Option Addr) → Nat → Nat → ((Option Addr) → Nat → Nat → H → Prop) → H → Prop) : ∀ (a0 : Addr) (a1 : Int) (a2p : Option Addr) (a2l : Nat) (a2c : Nat) (Q : H → Prop) (h : H), G_chip_Chip_Cut c_slices_Clone_byte_byte a0 a1 a2p a2l a2c Q h = Dbody PP [(79, W [.slc] [.slc] c_slices_Clone_byte_byte)] [] Try.f23 [.addr a0, .one (.int .i64 a1), .one (.slice a2p a2l a2c)] (decR [] Q) h := by intros; kernel_rfl
def F_chip_Chip_Cut := G_chip_Chip_Cut F_slices_Clone_byte_byte
theorem R_chip_Chip_Cut : RunOk PP 23 (W [.addr, .int .i64, .slc] [] F_chip_Chip_Cut) := runOk_of (T := [(79, W [.slc] [.slc] F_slices_Clone_byte_byte)]) (ann := []) (TblOk.cons R_slices_Clone_byte_byte (TblOk.nil)) Try.func23 (by kernel_rfl) (by kernel_rfl) (E_chip_Chip_Cut F_slices_Clone_byte_byte)
attribute [irreducible] F_chip_Chip_Cut
def G_chip_Chip_Acts (a0 : Addr) (Q : Int → H → Prop) (h : H) : Prop := ∃ (i3 : Int), hc h (a0.add 10) = some (Value.int IntKind.i64 i3) ∧ Q i3 h
theorem E_chip_Chip_Acts  : ∀ (a0 : Addr) (Q : Int → H → Prop) (h : H), G_chip_Chip_Acts a0 Q h = Dbody PP [] [] Try.f27 [.addr a0] (decR [.int .i64] Q) h := by intros; kernel_rfl
def F_chip_Chip_Acts := G_chip_Chip_Acts
theorem R_chip_Chip_Acts : RunOk PP 27 (W [.addr] [.int .i64] F_chip_Chip_Acts) := runOk_of (T := []) (ann := []) (TblOk.nil) Try.func27 (by kernel_rfl) (by kernel_rfl) (E_chip_Chip_Acts)
attribute [irreducible] F_chip_Chip_Acts
def G_chip_Chip_Restore (a0 : Addr) (Q : H → Prop) (h : H) : Prop := hcan h (a0.add 11) 1 ∧ ∀ (h3 : H), h3 = hwr h (a0.add 11) [Value.bool false] → Q h3
theorem E_chip_Chip_Restore  : ∀ (a0 : Addr) (Q : H → Prop) (h : H), G_chip_Chip_Restore a0 Q h = Dbody PP [] [] Try.f36 [.addr a0] (decR [] Q) h := by intros; kernel_rfl
def F_chip_Chip_Restore := G_chip_Chip_Restore
theorem R_chip_Chip_Restore : RunOk PP 36 (W [.addr] [] F_chip_Chip_Restore) := runOk_of (T := []) (ann := []) (TblOk.nil) Try.func36 (by kernel_rfl) (by kernel_rfl) (E_chip_Chip_Restore)
attribute [irreducible] F_chip_Chip_Restore
def G_chip_Chip_asked (a0 : Addr) (a1 : Int) (a2 : Int) (Q : Int → H → Prop) (h : H) : Prop := ∃ (b5 : Bool), hc h (a0.add 11) = some (Value.bool b5) ∧ if b5 = true then Q 8 h else if ltI a1 0 = true then Q 2 h else if leI a2 a1 = true then Q 2 h else Q 0 h
theorem E_chip_Chip_asked  : ∀ (a0 : Addr) (a1 : Int) (a2 : Int) (Q : Int → H → Prop) (h : H), G_chip_Chip_asked a0 a1 a2 Q h = Dbody PP [] [] Try.f98 [.addr a0, .one (.int .i64 a1), .one (.int .i64 a2)] (decR [.int .i64] Q) h := by intros; kernel_rfl
def F_chip_Chip_asked := G_chip_Chip_asked
theorem R_chip_Chip_asked : RunOk PP 98 (W [.addr, .int .i64, .int .i64] [.int .i64] F_chip_Chip_asked) := runOk_of (T := []) (ann := []) (TblOk.nil) Try.func98 (by kernel_rfl) (by kernel_rfl) (E_chip_Chip_asked)
attribute [irreducible] F_chip_Chip_asked
def G_chip_Chip_begins (a0 : Addr) (Q : Value → Int → H → Prop) (h : H) : Prop := ∃ (i3 : Int), hc h (a0.add 10) = some (Value.int IntKind.i64 i3) ∧ hcan h (a0.add 10) 1 ∧ ∀ (h4 : H), h4 = hwr h (a0.add 10) [Value.int IntKind.i64 (IntKind.i64.wrap (i3 + 1))] → ∃ (i6 : Int), hc h4 (a0.add 12) = some (Value.int IntKind.i64 i6) ∧ if (i6 != 0) = true then ∃ (i7 : Int), hc h4 (a0.add 12) = some (Value.int IntKind.i64 i7) ∧ hcan h4 (a0.add 12) 1 ∧ ∀ (h8 : H), h8 = hwr h4 (a0.add 12) [Value.int IntKind.i64 (if IntKind.i64.wrap (i7 - 1) > -1 then IntKind.i64.wrap (i7 - 1) else -1)] → Q (Value.func (Fn.func id_chip_Chip_begins_1) (Array.mk []) (Array.mk [])) 0 h8 else ∃ (o10 : Option Addr), ∃ (n11 : Nat), ∃ (n12 : Nat), hc h4 (a0.add 13) = some (Value.slice o10 n11 n12) ∧ ∀ (n13 : Nat) (h14 : H), hnew h4 n13 [Value.slice none 0 0] h14 → hcan h14 (Addr.mk n13 0 none) 1 ∧ ∀ (h16 : H), h16 = hwr h14 (Addr.mk n13 0 none) [Value.slice o10 n11 n12] → hcan h16 (a0.add 11) 1 ∧ ∀ (h18 : H), h18 = hwr h16 (a0.add 11) [Value.bool true] → hcan h18 (a0.add 12) 1 ∧ ∀ (h20 : H), h20 = hwr h18 (a0.add 12) [Value.int IntKind.i64 (-1)] → hcan h20 (a0.add 13) 1 ∧ ∀ (h22 : H), h22 = hwr h20 (a0.add 13) [Value.slice none 0 0] → Q (Value.func (Fn.func id_chip_Chip_begins_2) (Array.mk []) (Array.mk [Value.pointer (some (Addr.mk n13 0 none))])) 8 h22
theorem E_chip_Chip_begins  : ∀ (a0 : Addr) (Q : Value → Int → H → Prop) (h : H), G_chip_Chip_begins a0 Q h = Dbody PP [] [] Try.f99 [.addr a0] (decR [.fn, .int .i64] Q) h := by intros; kernel_rfl
def F_chip_Chip_begins := G_chip_Chip_begins
theorem R_chip_Chip_begins : RunOk PP 99 (W [.addr] [.fn, .int .i64] F_chip_Chip_begins) := runOk_of (T := []) (ann := []) (TblOk.nil) Try.func99 (by kernel_rfl) (by kernel_rfl) (E_chip_Chip_begins)
attribute [irreducible] F_chip_Chip_begins
def G_chip_Chip_asksCell (c_chip_Chip_asked : Addr → Int → Int → (Int → H → Prop) → H → Prop) (a0 : Addr) (a1 : Int) (a2 : Int) (Q : Int → H → Prop) (h : H) : Prop := ∃ (o6 : Option Addr), ∃ (n7 : Nat), ∃ (n8 : Nat), hc h (a0.add 7) = some (Value.slice o6 n7 n8) ∧ c_chip_Chip_asked a0 a1 (↑n7 : Int) (fun (i9 : Int) (h10 : H) => if (i9 != 0) = true then Q i9 h10 else ∃ (i11 : Int), hc h10 a0 = some (Value.int IntKind.i64 i11) ∧ c_chip_Chip_asked a0 a2 i11 (fun (i12 : Int) (h13 : H) => Q i12 h13) h10) h
theorem E_chip_Chip_asksCell (c_chip_Chip_asked : Addr → Int → Int → (Int → H → Prop) → H → Prop) : ∀ (a0 : Addr) (a1 : Int) (a2 : Int) (Q : Int → H → Prop) (h : H), G_chip_Chip_asksCell c_chip_Chip_asked a0 a1 a2 Q h = Dbody PP [(98, W [.addr, .int .i64, .int .i64] [.int .i64] c_chip_Chip_asked)] [] Try.f101 [.addr a0, .one (.int .i64 a1), .one (.int .i64 a2)] (decR [.int .i64] Q) h := by intros; kernel_rfl
def F_chip_Chip_asksCell := G_chip_Chip_asksCell F_chip_Chip_asked
theorem R_chip_Chip_asksCell : RunOk PP 101 (W [.addr, .int .i64, .int .i64] [.int .i64] F_chip_Chip_asksCell) := runOk_of (T := [(98, W [.addr, .int .i64, .int .i64] [.int .i64] F_chip_Chip_asked)]) (ann := []) (TblOk.cons R_chip_Chip_asked (TblOk.nil)) Try.func101 (by kernel_rfl) (by kernel_rfl) (E_chip_Chip_asksCell F_chip_Chip_asked)
attribute [irreducible] F_chip_Chip_asksCell
def G_chip_Chip_Program (c_chip_Chip_begins : Addr → (Value → Int → H → Prop) → H → Prop) (c_chip_Chip_asksCell : Addr → Int → Int → (Int → H → Prop) → H → Prop) (a0 : Addr) (a1 : Int) (a2 : Int) (a3_0 : List Int) (Q : Int → H → Prop) (h : H) : Prop := ∀ (n8 : Nat) (h9 : H), hnew h n8 (ints IntKind.u8 a3_0 ++ []) h9 → c_chip_Chip_asksCell a0 a1 a2 (fun (i11 : Int) (h12 : H) => if (i11 != 0) = true then Q i11 h12 else c_chip_Chip_begins a0 (fun (v13 : Value) (i14 : Int) (h15 : H) => ∃ (o16 : Option Addr), ∃ (n17 : Nat), ∃ (n18 : Nat), hc h15 (a0.add 7) = some (Value.slice o16 n17 n18) ∧ ∃ (p19 : Addr), o16 = some p19 ∧ 0 ≤ a1 ∧ a1 < (↑n17 : Int) ∧ ∃ (o20 : Option Addr), ∃ (n21 : Nat), ∃ (n22 : Nat), hc h15 (p19.add (a1.toNat * 1)) = some (Value.slice o20 n21 n22) ∧ ∃ (p23 : Addr), o20 = some p23 ∧ 0 ≤ a2 ∧ a2 < (↑n21 : Int) ∧ ∃ (l24 : List Int), l24.length = 32 ∧ hrow h15 (p23.add (a2.toNat * 32)) IntKind.u8 l24 ∧ ∀ (n25 : Nat) (h26 : H), hnew h15 n25 (ints IntKind.u8 (zeros 32)) h26 → hcan h26 (Addr.mk n25 0 none) 32 ∧ ∀ (h28 : H), h28 = hwr h26 (Addr.mk n25 0 none) (ints IntKind.u8 l24 ++ []) → ∃ (l30 : List Int), l30.length = 32 ∧ hrow h28 (Addr.mk n25 0 none) IntKind.u8 l30 ∧ ∀ (n31 : Nat) (h32 : H), hnew h28 n31 (ints IntKind.u8 (zeros 32)) h32 → hcan h32 (Addr.mk n31 0 none) 32 ∧ ∀ (h34 : H), h34 = hwr h32 (Addr.mk n31 0 none) (ints IntKind.u8 l30 ++ []) → ∀ (J36 : List SV → H → Prop), (∀ (i37 : Int) (h38 : H), (if ltI i37 32 = true then 0 ≤ i37 ∧ i37 < (↑32 : Int) ∧ ∃ (i39 : Int), hc h38 ((Addr.mk n31 0 none).add (i37.toNat * 1)) = some (Value.int IntKind.u8 i39) ∧ 0 ≤ i37 ∧ i37 < (↑32 : Int) ∧ ∃ (i40 : Int), hc h38 ((Addr.mk n8 0 none).add (i37.toNat * 1)) = some (Value.int IntKind.u8 i40) ∧ callFn PP v13 [DV.one (Value.int IntKind.i64 i37)] (fun (l41 : List DV) (h42 : H) => ∃ (x43 : DV), ∃ (l44 : List DV), l41 = x43 :: l44 ∧ ∃ (i45 : Int), x43 = DV.one (Value.int IntKind.u8 i45) ∧ l44 = [] ∧ hcs h42 ((Addr.mk n8 0 none).add (i37.toNat * 1)) [Value.int IntKind.u8 i40] ∧ hcs h42 ((Addr.mk n31 0 none).add (i37.toNat * 1)) [Value.int IntKind.u8 i39] ∧ 0 ≤ i37 ∧ i37 < (↑32 : Int) ∧ hcan h42 ((Addr.mk n31 0 none).add (i37.toNat * 1)) 1 ∧ ∀ (h46 : H), h46 = hwr h42 ((Addr.mk n31 0 none).add (i37.toNat * 1)) [Value.int IntKind.u8 (bits BinOp.andNot IntKind.u8 i39 (bits BinOp.andNot IntKind.u8 i45 i40))] → J36 [SV.dv (DV.one (Value.int IntKind.i64 (IntKind.i64.wrap (i37 + 1))))] h46) h38 else ∃ (l48 : List Int), l48.length = 32 ∧ hrow h38 (Addr.mk n31 0 none) IntKind.u8 l48 ∧ ∃ (l49 : List Int), l49.length = 32 ∧ hrow h38 (Addr.mk n25 0 none) IntKind.u8 l49 ∧ if (!l48 == l49) = true then ∃ (o50 : Option Addr), ∃ (n51 : Nat), ∃ (n52 : Nat), hc h38 (a0.add 7) = some (Value.slice o50 n51 n52) ∧ ∃ (p53 : Addr), o50 = some p53 ∧ 0 ≤ a1 ∧ a1 < (↑n51 : Int) ∧ ∃ (o54 : Option Addr), ∃ (n55 : Nat), ∃ (n56 : Nat), hc h38 (p53.add (a1.toNat * 1)) = some (Value.slice o54 n55 n56) ∧ ∃ (l57 : List Int), l57.length = 32 ∧ hrow h38 (Addr.mk n31 0 none) IntKind.u8 l57 ∧ ∃ (p58 : Addr), o54 = some p58 ∧ 0 ≤ a2 ∧ a2 < (↑n55 : Int) ∧ hcan h38 (p58.add (a2.toNat * 32)) 32 ∧ ∀ (h59 : H), h59 = hwr h38 (p58.add (a2.toNat * 32)) (ints IntKind.u8 l57 ++ []) → Q i14 h59 else Q i14 h38) → J36 [SV.dv (DV.one (Value.int IntKind.i64 i37))] h38) → J36 [SV.dv (DV.one (Value.int IntKind.i64 0))] h34) h12) h9
theorem E_chip_Chip_Program (c_chip_Chip_begins : Addr → (Value → Int → H → Prop) → H → Prop) (c_chip_Chip_asksCell : Addr → Int → Int → (Int → H → Prop) → H → Prop) : ∀ (a0 : Addr) (a1 : Int) (a2 : Int) (a3_0 : List Int) (Q : Int → H → Prop) (h : H), G_chip_Chip_Program c_chip_Chip_begins c_chip_Chip_asksCell a0 a1 a2 a3_0 Q h = Dbody PP [(99, W [.addr] [.fn, .int .i64] c_chip_Chip_begins), (101, W [.addr, .int .i64, .int .i64] [.int .i64] c_chip_Chip_asksCell)] [(506, [(39, .sc (.int .i64))])] Try.f47 [.addr a0, .one (.int .i64 a1), .one (.int .i64 a2), .agg [.row .u8 32 a3_0]] (decR [.int .i64] Q) h := by intros; kernel_rfl
def F_chip_Chip_Program := G_chip_Chip_Program F_chip_Chip_begins F_chip_Chip_asksCell
theorem R_chip_Chip_Program : RunOk PP 47 (W [.addr, .int .i64, .int .i64, .ag [.row .u8 32]] [.int .i64] F_chip_Chip_Program) := runOk_of (T := [(99, W [.addr] [.fn, .int .i64] F_chip_Chip_begins), (101, W [.addr, .int .i64, .int .i64] [.int .i64] F_chip_Chip_asksCell)]) (ann := [(506, [(39, .sc (.int .i64))])]) (TblOk.cons R_chip_Chip_begins (TblOk.cons R_chip_Chip_asksCell (TblOk.nil))) Try.func47 (by kernel_rfl) (by kernel_rfl) (E_chip_Chip_Program F_chip_Chip_begins F_chip_Chip_asksCell)
attribute [irreducible] F_chip_Chip_Program
def G_chip_Chip_Read (c_chip_Chip_asksCell : Addr → Int → Int → (Int → H → Prop) → H → Prop) (a0 : Addr) (a1 : Int) (a2 : Int) (Q : List Int → Int → H → Prop) (h : H) : Prop := ∀ (n6 : Nat) (h7 : H), hnew h n6 (ints IntKind.u8 (zeros 32)) h7 → c_chip_Chip_asksCell a0 a1 a2 (fun (i9 : Int) (h10 : H) => if (i9 != 0) = true then hcan h10 (Addr.mk n6 0 none) 32 ∧ ∀ (h11 : H), h11 = hwr h10 (Addr.mk n6 0 none) (ints IntKind.u8 (zeros 32)) → ∃ (l13 : List Int), l13.length = 32 ∧ hrow h11 (Addr.mk n6 0 none) IntKind.u8 l13 ∧ Q l13 i9 h11 else ∃ (o14 : Option Addr), ∃ (n15 : Nat), ∃ (n16 : Nat), hc h10 (a0.add 7) = some (Value.slice o14 n15 n16) ∧ ∃ (p17 : Addr), o14 = some p17 ∧ 0 ≤ a1 ∧ a1 < (↑n15 : Int) ∧ ∃ (o18 : Option Addr), ∃ (n19 : Nat), ∃ (n20 : Nat), hc h10 (p17.add (a1.toNat * 1)) = some (Value.slice o18 n19 n20) ∧ ∃ (p21 : Addr), o18 = some p21 ∧ 0 ≤ a2 ∧ a2 < (↑n19 : Int) ∧ ∃ (l22 : List Int), l22.length = 32 ∧ hrow h10 (p21.add (a2.toNat * 32)) IntKind.u8 l22 ∧ hcan h10 (Addr.mk n6 0 none) 32 ∧ ∀ (h23 : H), h23 = hwr h10 (Addr.mk n6 0 none) (ints IntKind.u8 l22 ++ []) → ∃ (l25 : List Int), l25.length = 32 ∧ hrow h23 (Addr.mk n6 0 none) IntKind.u8 l25 ∧ Q l25 0 h23) h7
theorem E_chip_Chip_Read (c_chip_Chip_asksCell : Addr → Int → Int → (Int → H → Prop) → H → Prop) : ∀ (a0 : Addr) (a1 : Int) (a2 : Int) (Q : (List Int) → Int → H → Prop) (h : H), G_chip_Chip_Read c_chip_Chip_asksCell a0 a1 a2 Q h = Dbody PP [(101, W [.addr, .int .i64, .int .i64] [.int .i64] c_chip_Chip_asksCell)] [] Try.f62 [.addr a0, .one (.int .i64 a1), .one (.int .i64 a2)] (decR [.ag [.row .u8 32], .int .i64] Q) h := by intros; kernel_rfl
def F_chip_Chip_Read := G_chip_Chip_Read F_chip_Chip_asksCell
theorem R_chip_Chip_Read : RunOk PP 62 (W [.addr, .int .i64, .int .i64] [.ag [.row .u8 32], .int .i64] F_chip_Chip_Read) := runOk_of (T := [(101, W [.addr, .int .i64, .int .i64] [.int .i64] F_chip_Chip_asksCell)]) (ann := []) (TblOk.cons R_chip_Chip_asksCell (TblOk.nil)) Try.func62 (by kernel_rfl) (by kernel_rfl) (E_chip_Chip_Read F_chip_Chip_asksCell)
attribute [irreducible] F_chip_Chip_Read
def G_portcullisref04_within (a0 : Int) (a1 : Int) (a2 : Int) (Q : Bool → H → Prop) (h : H) : Prop := if leI a1 a0 = true then Q (leI a0 a2) h else Q false h
theorem E_portcullisref04_within  : ∀ (a0 : Int) (a1 : Int) (a2 : Int) (Q : Bool → H → Prop) (h : H), G_portcullisref04_within a0 a1 a2 Q h = Dbody PP [] [] Try.f126 [.one (.int .i64 a0), .one (.int .i64 a1), .one (.int .i64 a2)] (decR [.bool] Q) h := by intros; kernel_rfl
def F_portcullisref04_within := G_portcullisref04_within
theorem R_portcullisref04_within : RunOk PP 126 (W [.int .i64, .int .i64, .int .i64] [.bool] F_portcullisref04_within) := runOk_of (T := []) (ann := []) (TblOk.nil) Try.func126 (by kernel_rfl) (by kernel_rfl) (E_portcullisref04_within)
attribute [irreducible] F_portcullisref04_within
def G_portcullisref04_May (c_portcullisref04_within : Int → Int → Int → (Bool → H → Prop) → H → Prop) (a0_0 : Int) (a0_1 : Int) (a0_2 : Int) (a0_3 : Int) (a0_4 : Int) (a0_5 : Int) (a0_6 : Int) (Q : Int → H → Prop) (h : H) : Prop := ∀ (n10 : Nat) (h11 : H), hnew h n10 [Value.int IntKind.i64 a0_0, Value.int IntKind.i64 a0_1, Value.int IntKind.i64 a0_2, Value.int IntKind.i64 a0_3, Value.int IntKind.i64 a0_4, Value.int IntKind.i64 a0_5, Value.int IntKind.i64 a0_6] h11 → ∀ (J13 : List SV → H → Prop), (∀ (b14 : Bool) (h15 : H), (∃ (i16 : Int), hc h15 ((Addr.mk n10 0 none).add 4) = some (Value.int IntKind.i64 i16) ∧ c_portcullisref04_within i16 1 64 (fun (b17 : Bool) (h18 : H) => if b17 = true then ∃ (i19 : Int), hc h18 ((Addr.mk n10 0 none).add 5) = some (Value.int IntKind.i64 i19) ∧ c_portcullisref04_within i19 0 65536 (fun (b20 : Bool) (h21 : H) => if b20 = true then ∃ (i22 : Int), hc h21 ((Addr.mk n10 0 none).add 6) = some (Value.int IntKind.i64 i22) ∧ c_portcullisref04_within i22 0 64 (fun (b23 : Bool) (h24 : H) => if (!b14) = true then Q 1 h24 else if (!b23) = true then Q 1 h24 else Q 0 h24) h21 else if (!b14) = true then Q 1 h21 else Q 1 h21) h18 else if (!b14) = true then Q 1 h18 else Q 1 h18) h15) → J13 [SV.dv (DV.one (Value.bool b14))] h15) → ∃ (i27 : Int), hc h11 ((Addr.mk n10 0 none).add 1) = some (Value.int IntKind.i64 i27) ∧ c_portcullisref04_within i27 1 8 (fun (b28 : Bool) (h29 : H) => if b28 = true then ∃ (i30 : Int), hc h29 (Addr.mk n10 0 none) = some (Value.int IntKind.i64 i30) ∧ ∃ (i31 : Int), hc h29 ((Addr.mk n10 0 none).add 1) = some (Value.int IntKind.i64 i31) ∧ c_portcullisref04_within i30 (IntKind.i64.wrap (i31 + 3)) 256 (fun (b32 : Bool) (h33 : H) => if b32 = true then ∃ (i34 : Int), hc h33 ((Addr.mk n10 0 none).add 2) = some (Value.int IntKind.i64 i34) ∧ c_portcullisref04_within i34 1 64 (fun (b35 : Bool) (h36 : H) => if b35 = true then ∃ (i37 : Int), hc h36 ((Addr.mk n10 0 none).add 3) = some (Value.int IntKind.i64 i37) ∧ c_portcullisref04_within i37 1 65536 (fun (b38 : Bool) (h39 : H) => J13 [SV.dv (DV.one (Value.bool b38))] h39) h36 else J13 [SV.dv (DV.one (Value.bool false))] h36) h33 else J13 [SV.dv (DV.one (Value.bool false))] h33) h29 else J13 [SV.dv (DV.one (Value.bool false))] h29) h11
theorem E_portcullisref04_May (c_portcullisref04_within : Int → Int → Int → (Bool → H → Prop) → H → Prop) : ∀ (a0_0 : Int) (a0_1 : Int) (a0_2 : Int) (a0_3 : Int) (a0_4 : Int) (a0_5 : Int) (a0_6 : Int) (Q : Int → H → Prop) (h : H), G_portcullisref04_May c_portcullisref04_within a0_0 a0_1 a0_2 a0_3 a0_4 a0_5 a0_6 Q h = Dbody PP [(126, W [.int .i64, .int .i64, .int .i64] [.bool] c_portcullisref04_within)] [(3, [(3, .sc (.bool))])] Try.f68 [.agg [.c (.int .i64 a0_0), .c (.int .i64 a0_1), .c (.int .i64 a0_2), .c (.int .i64 a0_3), .c (.int .i64 a0_4), .c (.int .i64 a0_5), .c (.int .i64 a0_6)]] (decR [.int .i64] Q) h := by intros; kernel_rfl
def F_portcullisref04_May := G_portcullisref04_May F_portcullisref04_within
theorem R_portcullisref04_May : RunOk PP 68 (W [.ag [.int .i64, .int .i64, .int .i64, .int .i64, .int .i64, .int .i64, .int .i64]] [.int .i64] F_portcullisref04_May) := runOk_of (T := [(126, W [.int .i64, .int .i64, .int .i64] [.bool] F_portcullisref04_within)]) (ann := [(3, [(3, .sc (.bool))])]) (TblOk.cons R_portcullisref04_within (TblOk.nil)) Try.func68 (by kernel_rfl) (by kernel_rfl) (E_portcullisref04_May F_portcullisref04_within)
attribute [irreducible] F_portcullisref04_May
def G_portcullisref04_Blank (Q : List Int → H → Prop) (h : H) : Prop := ∀ (n2 : Nat) (h3 : H), hnew h n2 (ints IntKind.u8 (zeros 32)) h3 → ∀ (n5 : Nat) (h6 : H), hnew h3 n5 (ints IntKind.u8 (zeros 32)) h6 → hcan h6 (Addr.mk n5 0 none) 32 ∧ ∀ (h8 : H), h8 = hwr h6 (Addr.mk n5 0 none) (ints IntKind.u8 (zeros 32)) → ∀ (J10 : List SV → H → Prop), (∀ (i11 : Int) (h12 : H), (if ltI i11 32 = true then 0 ≤ i11 ∧ i11 < (↑32 : Int) ∧ hcan h12 ((Addr.mk n5 0 none).add (i11.toNat * 1)) 1 ∧ ∀ (h13 : H), h13 = hwr h12 ((Addr.mk n5 0 none).add (i11.toNat * 1)) [Value.int IntKind.u8 255] → J10 [SV.dv (DV.one (Value.int IntKind.i64 (IntKind.i64.wrap (i11 + 1))))] h13 else ∃ (l15 : List Int), l15.length = 32 ∧ hrow h12 (Addr.mk n5 0 none) IntKind.u8 l15 ∧ hcan h12 (Addr.mk n2 0 none) 32 ∧ ∀ (h16 : H), h16 = hwr h12 (Addr.mk n2 0 none) (ints IntKind.u8 l15 ++ []) → ∃ (l18 : List Int), l18.length = 32 ∧ hrow h16 (Addr.mk n2 0 none) IntKind.u8 l18 ∧ Q l18 h16) → J10 [SV.dv (DV.one (Value.int IntKind.i64 i11))] h12) → J10 [SV.dv (DV.one (Value.int IntKind.i64 0))] h8
theorem E_portcullisref04_Blank  : ∀ (Q : (List Int) → H → Prop) (h : H), G_portcullisref04_Blank Q h = Dbody PP [] [(58, [(2, .sc (.int .i64))])] Try.f45 [] (decR [.ag [.row .u8 32]] Q) h := by intros; kernel_rfl
def F_portcullisref04_Blank := G_portcullisref04_Blank
theorem R_portcullisref04_Blank : RunOk PP 45 (W [] [.ag [.row .u8 32]] F_portcullisref04_Blank) := runOk_of (T := []) (ann := [(58, [(2, .sc (.int .i64))])]) (TblOk.nil) Try.func45 (by kernel_rfl) (by kernel_rfl) (E_portcullisref04_Blank)
attribute [irreducible] F_portcullisref04_Blank
def G_slices_Clone_int_int (a0p : Option Addr) (a0l : Nat) (a0c : Nat) (Q : Option Addr → Nat → Nat → H → Prop) (h : H) : Prop := if a0p.isNone = true then Q none 0 0 h else ∀ (n5 : Nat) (h6 : H), hnew h n5 [] h6 → ∃ (l8 : List Value), hsv h6 a0p 1 a0l l8 ∧ pApp h6 1 [Value.int IntKind.i64 0] 8 (some (Addr.mk n5 0 none)) 0 0 a0l l8 fun (o9 : Option Addr) (n10 n11 : Nat) (h12 : H) => Q o9 n10 n11 h12
theorem E_slices_Clone_int_int  : ∀ (a0p : Option Addr) (a0l : Nat) (a0c : Nat) (Q : (Option Addr) → Nat → Nat → H → Prop) (h : H), G_slices_Clone_int_int a0p a0l a0c Q h = Dbody PP [] [] Try.f133 [.one (.slice a0p a0l a0c)] (decR [.slc] Q) h := by intros; kernel_rfl
def F_slices_Clone_int_int := G_slices_Clone_int_int
theorem R_slices_Clone_int_int : RunOk PP 133 (W [.slc] [.slc] F_slices_Clone_int_int) := runOk_of (T := []) (ann := []) (TblOk.nil) Try.func133 (by kernel_rfl) (by kernel_rfl) (E_slices_Clone_int_int)
attribute [irreducible] F_slices_Clone_int_int
def G_slices_Clone_bool_bool (a0p : Option Addr) (a0l : Nat) (a0c : Nat) (Q : Option Addr → Nat → Nat → H → Prop) (h : H) : Prop := if a0p.isNone = true then Q none 0 0 h else ∀ (n5 : Nat) (h6 : H), hnew h n5 [] h6 → ∃ (l8 : List Value), hsv h6 a0p 1 a0l l8 ∧ pApp h6 1 [Value.bool false] 1 (some (Addr.mk n5 0 none)) 0 0 a0l l8 fun (o9 : Option Addr) (n10 n11 : Nat) (h12 : H) => Q o9 n10 n11 h12
theorem E_slices_Clone_bool_bool  : ∀ (a0p : Option Addr) (a0l : Nat) (a0c : Nat) (Q : (Option Addr) → Nat → Nat → H → Prop) (h : H), G_slices_Clone_bool_bool a0p a0l a0c Q h = Dbody PP [] [] Try.f134 [.one (.slice a0p a0l a0c)] (decR [.slc] Q) h := by intros; kernel_rfl
def F_slices_Clone_bool_bool := G_slices_Clone_bool_bool
theorem R_slices_Clone_bool_bool : RunOk PP 134 (W [.slc] [.slc] F_slices_Clone_bool_bool) := runOk_of (T := []) (ann := []) (TblOk.nil) Try.func134 (by kernel_rfl) (by kernel_rfl) (E_slices_Clone_bool_bool)
attribute [irreducible] F_slices_Clone_bool_bool
end Go.Proofs.Ytamfkofcpoglnaa
end
