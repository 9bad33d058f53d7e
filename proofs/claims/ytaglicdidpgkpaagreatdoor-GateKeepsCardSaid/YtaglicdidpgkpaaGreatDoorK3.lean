/- GateKeeps: what is proved and its parts, laid together by a program of ours: Fa0 Eac Eat Ear F -/
import Derived.LaidEql
import Derived.RowKitTokens
import Derived.Stop.Asserts
import Derived.Test.YtaglicdidpgkpaaGreatDoorProg
import Derived.WalkKit
import Derived.Test.YtaglicdidpgkpaaGreatDoorK2
set_option autoImplicit false
set_option linter.all false
/- The denotations of some functions of the program, printed by a program of ours (wip/tools/vcgen.py), and that they are the model's. -/
section
set_option linter.unusedVariables false
set_option maxRecDepth 100000
namespace Go.Proofs.YtaglicdidpgkpaaGreatDoor
open Go Go.Vc
abbrev id_main_main : Nat := 0
abbrev id_gosem_cut : Nat := 1
abbrev id_gosem_cut_init : Nat := 2
abbrev id_portcullislaw24_TokenNarrows : Nat := 3
abbrev id_portcullislaw24_TokenChecks : Nat := 4
abbrev id_portcullislaw13_GateNames : Nat := 5
abbrev id_portcullislaw13_GateKeeps : Nat := 6
abbrev id_portcullislaw13_GateHands : Nat := 7
abbrev id_portcullislaw13_GateChecks : Nat := 8
abbrev id_portcullislaw13_GateStays : Nat := 9
abbrev id_portcullislaw26_StreamPieces : Nat := 10
abbrev id_portcullislaw24_awake : Nat := 11
abbrev id_portcullisref24_Few : Nat := 12
abbrev id_portcullislaw24_scene : Nat := 13
abbrev id_portcullislaw24_of : Nat := 14
abbrev id_token_Token_Narrow : Nat := 15
abbrev id_portcullislaw24_caveat : Nat := 16
abbrev id_portcullisref24_Caveat_May : Nat := 17
abbrev id_token_Check : Nat := 18
abbrev id_portcullislaw24_wish : Nat := 19
abbrev id_portcullisref24_Meets : Nat := 20
abbrev id_portcullislaw24_clash : Nat := 21
abbrev id_portcullisref24_Check : Nat := 22
abbrev id_chip_Chip_Acts : Nat := 23
abbrev id_portcullisref21_Same : Nat := 24
abbrev id_chip_Chip_State : Nat := 25
abbrev id_chip_Chip_Cut : Nat := 26
abbrev id_portcullisref04_Chip_Cut : Nat := 27
abbrev id_chip_Chip_Blow : Nat := 28
abbrev id_portcullisref04_Chip_Blow : Nat := 29
abbrev id_portcullislaw13_awake : Nat := 30
abbrev id_portcullislaw13_scene : Nat := 31
abbrev id_portcullislaw13_may : Nat := 32
abbrev id_portcullisref13_Check : Nat := 33
abbrev id_gate_Check : Nat := 34
abbrev id_portcullisref11_Same : Nat := 35
abbrev id_image_Make : Nat := 36
abbrev id_portcullisref11_May : Nat := 37
abbrev id_store_Store_Read : Nat := 38
abbrev id_store_Store_Revoked : Nat := 39
abbrev id_store_Store_Last : Nat := 40
abbrev id_portcullisref03_Of : Nat := 41
abbrev id_image_Body : Nat := 42
abbrev id_portcullisref01_Beyond : Nat := 43
abbrev id_store_Store_BumpTo : Nat := 44
abbrev id_store_Store_Revoke : Nat := 45
abbrev id_portcullislaw26_fixed : Nat := 46
abbrev id_portcullislaw26_begun : Nat := 47
abbrev id_image_Parse : Nat := 48
abbrev id_portcullislaw26_cut : Nat := 49
abbrev id_stream_Gate_Write : Nat := 50
abbrev id_portcullisref11_Parse : Nat := 51
abbrev id_stream_Gate_Sum : Nat := 52
abbrev id_stream_Gate_Digest : Nat := 53
abbrev id_sha_Of : Nat := 54
abbrev id_keys_New : Nat := 55
abbrev id_token_Issue : Nat := 56
abbrev id_token_Put : Nat := 57
abbrev id_token_Get : Nat := 58
abbrev id_portcullislaw24_told : Nat := 59
abbrev id_chip_Lay : Nat := 60
abbrev id_portcullisref04_Lay : Nat := 61
abbrev id_portcullisref12_New : Nat := 62
abbrev id_store_Mount : Nat := 63
abbrev id_token_Caveat_may : Nat := 64
abbrev id_slices_Clone_byte_byte : Nat := 65
abbrev id_slices_Clone_token_Caveat_token_Caveat : Nat := 66
abbrev id_token_next : Nat := 67
abbrev id_portcullisref24_Caveat_only : Nat := 68
abbrev id_portcullisref24_within : Nat := 69
abbrev id_store_Store_Active : Nat := 70
abbrev id_token_Token_may : Nat := 71
abbrev id_keys_Ring_Has : Nat := 72
abbrev id_token_Token_right : Nat := 73
abbrev id_token_of : Nat := 74
abbrev id_portcullisref10_Read : Nat := 75
abbrev id_portcullisref24_Right : Nat := 76
abbrev id_portcullisref24_Caveat_Bytes : Nat := 77
abbrev id_portcullisref24_Token_May : Nat := 78
abbrev id_portcullisref12_Ring_Has : Nat := 79
abbrev id_portcullisref10_Revoked : Nat := 80
abbrev id_portcullisref24_secret : Nat := 81
abbrev id_chip_copied : Nat := 82
abbrev id_chip_Chip_asked : Nat := 83
abbrev id_chip_Chip_begins : Nat := 84
abbrev id_portcullisref04_Chip_fuse : Nat := 85
abbrev id_portcullisref04_Chip_act : Nat := 86
abbrev id_portcullisref04_Chip_bits : Nat := 87
abbrev id_chip_New : Nat := 88
abbrev id_portcullisref11_Tagged : Nat := 89
abbrev id_portcullisref11_Make : Nat := 90
abbrev id_portcullisref12_Ring_Sign : Nat := 91
abbrev id_portcullisref11_Body : Nat := 92
abbrev id_portcullisref10_Last : Nat := 93
abbrev id_gate_Check_1 : Nat := 94
abbrev id_gate_Check_2 : Nat := 95
abbrev id_errors_As : Nat := 96
abbrev id_gate_Check_3 : Nat := 97
abbrev id_gate_Check_4 : Nat := 98
abbrev id_gate_Check_5 : Nat := 99
abbrev id_keys_Ring_Check : Nat := 100
abbrev id_gate_Check_6 : Nat := 101
abbrev id_image_four : Nat := 102
abbrev id_mac_Of : Nat := 103
abbrev id_store_Store_asked : Nat := 104
abbrev id_chip_Chip_Config : Nat := 105
abbrev id_fuse_Count : Nat := 106
abbrev id_log_Log_Number : Nat := 107
abbrev id_fuse_Revoked : Nat := 108
abbrev id_portcullisref03_block : Nat := 109
abbrev id_portcullisref03_over : Nat := 110
abbrev id_portcullisref02_Of : Nat := 111
abbrev id_store_Store_BumpTo_1 : Nat := 112
abbrev id_log_Log_Lay : Nat := 113
abbrev id_fuse_Raise : Nat := 114
abbrev id_fuse_Revoke : Nat := 115
abbrev id_portcullislaw26_small : Nat := 116
abbrev id_portcullislaw26_secrets : Nat := 117
abbrev id_portcullisref04_New : Nat := 118
abbrev id_stream_New : Nat := 119
abbrev id_image_may : Nat := 120
abbrev id_image_number : Nat := 121
abbrev id_sha_Digest_Write : Nat := 122
abbrev id_stream_Gate_tells : Nat := 123
abbrev id_portcullisref11_must : Nat := 124
abbrev id_portcullisref11_number : Nat := 125
abbrev id_sha_Digest_Sum : Nat := 126
abbrev id_sha_New : Nat := 127
abbrev id_keys_Ring_Sign : Nat := 128
abbrev id_token_message : Nat := 129
abbrev id_token_Caveat_bytes : Nat := 130
abbrev id_token_stands : Nat := 131
abbrev id_token_number : Nat := 132
abbrev id_chip_May : Nat := 133
abbrev id_chip_pages : Nat := 134
abbrev id_chip_fuses : Nat := 135
abbrev id_slices_ContainsFunc_api_Cell_api_Cell : Nat := 136
abbrev id_chip_Lay_1 : Nat := 137
abbrev id_slices_ContainsFunc_int_int : Nat := 138
abbrev id_chip_Lay_2 : Nat := 139
abbrev id_portcullisref04_May : Nat := 140
abbrev id_portcullisref04_Fits : Nat := 141
abbrev id_portcullisref04_CopyState : Nat := 142
abbrev id_log_Mount : Nat := 143
abbrev id_token_told : Nat := 144
abbrev id_chip_Chip_Out : Nat := 145
abbrev id_slices_ContainsFunc_token_Caveat_token_Caveat : Nat := 146
abbrev id_token_Token_may_1 : Nat := 147
abbrev id_mac_Equal : Nat := 148
abbrev id_portcullisref10_Slot : Nat := 149
abbrev id_portcullisref09_Number : Nat := 150
abbrev id_portcullisref07_Count : Nat := 151
abbrev id_portcullisref24_Pairs : Nat := 152
abbrev id_portcullisref24_eight : Nat := 153
abbrev id_portcullisref12_Ring_find : Nat := 154
abbrev id_portcullisref07_Revoked : Nat := 155
abbrev id_slices_Clone_int_int : Nat := 156
abbrev id_slices_Clone_bool_bool : Nat := 157
abbrev id_slices_Clone_api_Cell_api_Cell : Nat := 158
abbrev id_chip_Chip_begins_1 : Nat := 159
abbrev id_chip_Chip_begins_2 : Nat := 160
abbrev id_slices_Repeat_api_Cell_api_Cell : Nat := 161
abbrev id_chip_blank : Nat := 162
abbrev id_portcullisref11_Cover : Nat := 163
abbrev id_internal_reflectlite_ValueOf : Nat := 164
abbrev id_internal_reflectlite_Value_Type : Nat := 165
abbrev id_internal_reflectlite_Value_IsNil : Nat := 166
abbrev id_errors_as : Nat := 167
abbrev id_mac_New : Nat := 168
abbrev id_mac_Mac_Sum : Nat := 169
abbrev id_fuse_asked : Nat := 170
abbrev id_fuse_row : Nat := 171
abbrev id_log_Log_look : Nat := 172
abbrev id_log_Log_slot : Nat := 173
abbrev id_log_found_info : Nat := 174
abbrev id_chip_Chip_Blown : Nat := 175
abbrev id_fuse_of : Nat := 176
abbrev id_portcullisref02_padded : Nat := 177
abbrev id_portcullisref02_begins : Nat := 178
abbrev id_portcullisref02_rounds : Nat := 179
abbrev id_portcullisref02_piece : Nat := 180
abbrev id_cell_Value : Nat := 181
abbrev id_chip_Chip_Program : Nat := 182
abbrev id_log_Log_worn : Nat := 183
abbrev id_log_Log_turn : Nat := 184
abbrev id_portcullisref04_fresh : Nat := 185
abbrev id_sha_Digest_take : Nat := 186
abbrev id_errors_Is : Nat := 187
abbrev id_stream_Gate_slot : Nat := 188
abbrev id_stream_Gate_key : Nat := 189
abbrev id_sha_Digest_Copy : Nat := 190
abbrev id_sha_start : Nat := 191
abbrev id_sha_rounds : Nat := 192
abbrev id_token_eight : Nat := 193
abbrev id_chip_within : Nat := 194
abbrev id_slices_IndexFunc_api_Cell_api_Cell : Nat := 195
abbrev id_slices_IndexFunc_int_int : Nat := 196
abbrev id_portcullisref04_within : Nat := 197
abbrev id_slices_IndexFunc_token_Caveat_token_Caveat : Nat := 198
abbrev id_portcullisref09_Log_Number : Nat := 199
abbrev id_portcullisref07_may : Nat := 200
abbrev id_portcullisref24_first : Nat := 201
abbrev id_math_bits_Mul : Nat := 202
abbrev id_portcullisref11_four : Nat := 203
abbrev id_internal_reflectlite_TypeOf : Nat := 204
abbrev id_internal_reflectlite_Value_Elem : Nat := 205
abbrev id_internal_reflectlite_Value_Set : Nat := 206
abbrev id_page_Look : Nat := 207
abbrev id_portcullisref02_words : Nat := 208
abbrev id_portcullisref02_turned : Nat := 209
abbrev id_cell_laid : Nat := 210
abbrev id_chip_Chip_asksCell : Nat := 211
abbrev id_chip_Chip_Erases : Nat := 212
abbrev id_log_found_target : Nat := 213
abbrev id_chip_Chip_Erase : Nat := 214
abbrev id_log_Log_turn_1 : Nat := 215
abbrev id_cell_Head : Nat := 216
abbrev id_portcullisref04_Blank : Nat := 217
abbrev id_sha_turn : Nat := 218
abbrev id_errors_is : Nat := 219
abbrev id_portcullisref09_Log_info : Nat := 220
abbrev id_math_bits_Mul32 : Nat := 221
abbrev id_math_bits_Mul64 : Nat := 222
abbrev id_chip_Chip_Read : Nat := 223
abbrev id_page_Info_lay : Nat := 224
abbrev id_cell_Read : Nat := 225
abbrev id_cell_put : Nat := 226
abbrev id_crc_Of : Nat := 227
abbrev id_rail_Put : Nat := 228
abbrev id_math_bits_RotateLeft32 : Nat := 229
abbrev id_portcullisref09_Log_Present : Nat := 230
abbrev id_portcullisref08_Of : Nat := 231
abbrev id_cell_got : Nat := 232
abbrev id_cell_Blank : Nat := 233
abbrev id_crc_New : Nat := 234
abbrev id_crc_Sum_Write : Nat := 235
abbrev id_crc_Sum_Sum : Nat := 236
abbrev id_rail_halves : Nat := 237
abbrev id_portcullisref06_Read : Nat := 238
abbrev id_crc_eight : Nat := 239
abbrev id_portcullisref06_Blank : Nat := 240
abbrev id_portcullisref06_Head : Nat := 241
abbrev id_portcullisref06_Value : Nat := 242
abbrev id_portcullisref06_cell : Nat := 243
abbrev id_portcullisref01_Of : Nat := 244
abbrev id_portcullisref01_eight : Nat := 245
abbrev id_portcullisref01_step : Nat := 246
abbrev id_runtime_boundsError_Error : Nat := 247
abbrev id_runtime_boundsError_RuntimeError : Nat := 248
abbrev id_runtime_errorString_Error : Nat := 249
abbrev id_runtime_errorString_RuntimeError : Nat := 250
abbrev id_runtime_plainError_Error : Nat := 251
abbrev id_runtime_plainError_RuntimeError : Nat := 252
abbrev id_runtime_errorAddressString_Error : Nat := 253
abbrev id_runtime_errorAddressString_RuntimeError : Nat := 254
abbrev id_runtime_TypeAssertionError_Error : Nat := 255
abbrev id_runtime_TypeAssertionError_RuntimeError : Nat := 256
abbrev id_runtime_PanicNilError_Error : Nat := 257
abbrev id_runtime_PanicNilError_RuntimeError : Nat := 258
abbrev id_internal_abi_Type_Align : Nat := 259
abbrev id_internal_abi_Type_Elem : Nat := 260
abbrev id_internal_abi_Type_Kind : Nat := 261
abbrev id_internal_runtime_maps_unhashableTypeError_Error : Nat := 262
abbrev id_internal_runtime_maps_unhashableTypeError_RuntimeError : Nat := 263
abbrev id_chip_Chip_Restore : Nat := 264
abbrev id_portcullisref04_Chip_Restore : Nat := 265
abbrev id_api_Errno_Error : Nat := 266
abbrev id_portcullislaw26_world_step : Nat := 267
abbrev id_stream_Gate_Reset : Nat := 268
abbrev id_portcullisref26_Gate_Digest : Nat := 269
abbrev id_portcullislaw26_pair_sum : Nat := 270
abbrev id_log_Log_Free : Nat := 271
abbrev id_image_Wrong_Error : Nat := 272
abbrev id_image_Wrong_Unwrap : Nat := 273
abbrev id_token_onSlot_may : Nat := 274
abbrev id_token_onSlot_met : Nat := 275
abbrev id_token_slot : Nat := 276
abbrev id_token_versions_may : Nat := 277
abbrev id_token_versions_met : Nat := 278
abbrev id_token_ofKinds_may : Nat := 279
abbrev id_token_ofKinds_met : Nat := 280
abbrev id_token_atLeast_may : Nat := 281
abbrev id_token_atLeast_met : Nat := 282
abbrev id_token_value : Nat := 283
abbrev id_token_lies : Nat := 284
abbrev id_token_atMost_may : Nat := 285
abbrev id_token_atMost_met : Nat := 286
abbrev id_internal_reflectlite_flag_mustBeAssignable : Nat := 287
abbrev id_internal_reflectlite_Value_Kind : Nat := 288
abbrev id_internal_abi_Kind_String : Nat := 289
abbrev id_portcullisref09_Log_Free : Nat := 290
abbrev id_internal_abi_Type_Size : Nat := 291
abbrev id_internal_reflectlite_rtype_AssignableTo : Nat := 292
abbrev id_internal_reflectlite_rtype_Comparable : Nat := 293
abbrev id_internal_reflectlite_rtype_Elem : Nat := 294
abbrev id_internal_reflectlite_rtype_Implements : Nat := 295
abbrev id_internal_reflectlite_rtype_Name : Nat := 296
abbrev id_internal_reflectlite_rtype_PkgPath : Nat := 297
abbrev id_internal_reflectlite_rtype_String : Nat := 298
abbrev id_internal_reflectlite_rtype_common : Nat := 299
abbrev id_internal_reflectlite_rtype_uncommon : Nat := 300
abbrev id_internal_reflectlite_ValueError_Error : Nat := 301
abbrev id_internal_abi_UncommonType_ExportedMethods : Nat := 302
abbrev id_var_s_door_errors_errorType_is_laid_by_its_own_call_of_reflectlite_TypeOf_on_a_nil_pointer_and_Elem_of_it_handle_1_ : Nat := 303
abbrev id_var_s_door_gosem_cut_vars_holds_initialisers_alone_see_the_manifest_s_row_cutvarsword_look_11_test_files_too_ : Nat := 304
abbrev id_var_s_door_the_look_of_gosem_cut_vars_went_over_the_folder_that_the_caller_named_as_the_repository_s_root_look_11_ : Nat := 305
abbrev id_gosem_cut_vars : Nat := 306
noncomputable abbrev PP : Program := Tryz.prog
end Go.Proofs.YtaglicdidpgkpaaGreatDoor
end

/- errors.As by contract, at a nil error and at the error that it looks for: Go's own text, walked. Turned from the guide's worked example (ToyasAs) to this seat's numbers. -/
section
set_option linter.unusedVariables false
namespace Go.Proofs.YtaglicdidpgkpaaGreatDoor
open Go Go.RowKit Go.Extern.Stop Go.Stop Go.Extern

theorem as_nil (t : Value) (w : World) :
    Calls Tryz.prog 96 #[.nilIface, t] w fun e w' => e = .returned (.bool false) ∧ w' = w := by
  go_enter Tryz.func96, Tryz.ntmps96
  go_wp2
  go_ret
  exact ⟨rfl, rfl⟩

theorem AsvalueOf27 (t : Addr) (w : World) : (ReflectliteValue.unpack (.iface 213 (.pointer (some t)))).run Tryz.prog w
    = .ok (.agg #[.pointer (some ⟨1, 213, none⟩), .pointer (some ⟨w.heap.size, 0, none⟩), .int .u64 150]) (w.alloc (.cells #[.pointer (some t)] 213)) := by kernel_rfl
theorem Astype27 (a : Addr) (w : World) : (ReflectliteValue.methodAny (ReflectliteValue.valueError "reflectlite.Value.Type" 0) (fun t _ _ _ => ReflectliteType.toType t) #[.agg #[.pointer (some ⟨1, 213, none⟩), .pointer (some a), .int .u64 150]]).run Tryz.prog w
    = .ok (.iface 312 (.agg #[.pointer (some ⟨1, 213, none⟩)])) w := by kernel_rfl
theorem AsmethodKind (h : Value) (w : World) : (Go.method (496) 312 (.agg #[h]) "Kind").run Tryz.prog w = .ok (261, h) w := by kernel_rfl
theorem Askind27 (w : World) : ((ReflectliteType.abiMethod fun t => (fun a : Nat => Value.int IntKind.u8 (a : Int)) <$> Rtype.kind t) #[.pointer (some ⟨1, 213, none⟩)]).run Tryz.prog w = .ok (.int .u8 22) w := by kernel_rfl
theorem Askind25 (w : World) : ((ReflectliteType.abiMethod fun t => (fun a : Nat => Value.int IntKind.u8 (a : Int)) <$> Rtype.kind t) #[.pointer (some ⟨1, 200, none⟩)]).run Tryz.prog w = .ok (.int .u8 22) w := by kernel_rfl

theorem rlm (z : Sem Value) (f : TypeId → Addr → Nat → Nat → Sem Value) (v : Value) :
    ReflectliteValue.method z f #[v] = (do match ← ReflectliteValue.parts v with | none => z | some (t, a, fl) => f t a fl (fl % 32)) := rfl
theorem Asparts27 (a : Addr) (w : World) : (ReflectliteValue.parts (.agg #[.pointer (some ⟨1, 213, none⟩), .pointer (some a), .int .u64 150])).run Tryz.prog w = .ok (some (213, a, 150)) w := by kernel_rfl
theorem AsisNil27 (a p : Addr) (W : World) (ha : W.cell? a = some (.pointer (some p))) :
    (ReflectliteValue.method (ReflectliteValue.valueError "reflectlite.Value.IsNil" 0) ReflectliteValue.isNil #[.agg #[.pointer (some ⟨1, 213, none⟩), .pointer (some a), .int .u64 150]]).run Tryz.prog W = .ok (.bool false) W := by
  rw [rlm]
  simp only [Sem.run_bind, Asparts27, Result.andThen]
  simp [ReflectliteValue.isNil, loadVar, isAgg, underlying, Tryz.underlying213, ha, Result.andThen]

theorem AsmethodElem (h : Value) (w : World) : (Go.method (496) 312 (.agg #[h]) "Elem").run Tryz.prog w = .ok (294, .agg #[h]) w := by kernel_rfl
theorem AsmethodImplements (h : Value) (w : World) : (Go.method (496) 312 (.agg #[h]) "Implements").run Tryz.prog w = .ok (295, .agg #[h]) w := by kernel_rfl
theorem AsmethodAssignableTo (h : Value) (w : World) : (Go.method (496) 312 (.agg #[h]) "AssignableTo").run Tryz.prog w = .ok (292, .agg #[h]) w := by kernel_rfl
theorem Aselem27 (w : World) : (ReflectliteType.method ReflectliteType.elem #[.agg #[.pointer (some ⟨1, 213, none⟩)]]).run Tryz.prog w = .ok (.iface 312 (.agg #[.pointer (some ⟨1, 200, none⟩)])) w := by kernel_rfl
theorem Asimplements25 (w : World) : (ReflectliteType.relation "Implements" ReflectliteType.implements_ #[.agg #[.pointer (some ⟨1, 200, none⟩)], .iface 312 (.agg #[.pointer (some ⟨1, 115, none⟩)])]).run Tryz.prog w = .ok (.bool true) w := by kernel_rfl
theorem AstypeOf25 (v : Value) (w : World) : (ReflectliteType.typeOf #[.iface 200 v]).run Tryz.prog w = .ok (.iface 312 (.agg #[.pointer (some ⟨1, 200, none⟩)])) w := by kernel_rfl
theorem Asassignable25 (w : World) : (ReflectliteType.relation "AssignableTo" ReflectliteType.assignableTo #[.agg #[.pointer (some ⟨1, 200, none⟩)], .iface 312 (.agg #[.pointer (some ⟨1, 200, none⟩)])]).run Tryz.prog w = .ok (.bool true) w := by kernel_rfl
theorem AsvalueOf25 (e : Addr) (w : World) : (ReflectliteValue.unpack (.iface 200 (.pointer (some e)))).run Tryz.prog w
    = .ok (.agg #[.pointer (some ⟨1, 200, none⟩), .pointer (some ⟨w.heap.size, 0, none⟩), .int .u64 150]) (w.alloc (.cells #[.pointer (some e)] 200)) := by kernel_rfl

theorem AselemOf27 (w : World) : (Rtype.elem? 213).run Tryz.prog w = .ok (some 200) w := by kernel_rfl
theorem Asmk25 (p : Addr) (w : World) : (ReflectliteValue.mk 200 p ReflectliteValue.flagAddr).run Tryz.prog w = .ok (.agg #[.pointer (some ⟨1, 200, none⟩), .pointer (some p), .int .u64 406]) w := by kernel_rfl
theorem AselemV27 (a p : Addr) (W : World) (ha : W.cell? a = some (.pointer (some p))) :
    (ReflectliteValue.method (ReflectliteValue.valueError "reflectlite.Value.Elem" 0) ReflectliteValue.elem #[.agg #[.pointer (some ⟨1, 213, none⟩), .pointer (some a), .int .u64 150]]).run Tryz.prog W
      = .ok (.agg #[.pointer (some ⟨1, 200, none⟩), .pointer (some p), .int .u64 406]) W := by
  rw [rlm]
  simp only [Sem.run_bind, Asparts27, Result.andThen]
  simp [ReflectliteValue.elem, loadVar, isAgg, underlying, Tryz.underlying213, ha, Result.andThen, AselemOf27, Asmk25]
theorem rls (v x : Value) : ReflectliteValue.set #[v, x] = (do
    let (some (dst, a, fl), some (src, b, _)) := (← ReflectliteValue.parts v, ← ReflectliteValue.parts x)
      | unsupported (.noEntry "extern/(internal/reflectlite.Value).Set.zeroValue")
    if fl / ReflectliteValue.flagAddr % 2 == 0 then unsupported (.noEntry "extern/(internal/reflectlite.Value).Set.unaddressable")
    let val ← loadVar src b
    if ← Rtype.directlyAssignable dst src then storeVar dst a val
    else if ← Rtype.implements dst src then
      if (← Rtype.kind src) == 20 then
        match val with
        | .nilIface => unsupported (.noEntry "extern/reflectlite: a nil value of one interface type handed on as a value of another")
        | _ => storeVar dst a val
      else storeVar dst a (.iface src val)
    else panicString ("reflectlite.Set: value of type " ++ (← Rtype.spelt src) ++ " is not assignable to type " ++ (← Rtype.spelt dst))
    pure (.tuple #[])) := rfl
theorem Asparts25a (a : Addr) (w : World) : (ReflectliteValue.parts (.agg #[.pointer (some ⟨1, 200, none⟩), .pointer (some a), .int .u64 406])).run Tryz.prog w = .ok (some (200, a, 406)) w := by kernel_rfl
theorem Asparts25 (a : Addr) (w : World) : (ReflectliteValue.parts (.agg #[.pointer (some ⟨1, 200, none⟩), .pointer (some a), .int .u64 150])).run Tryz.prog w = .ok (some (200, a, 150)) w := by kernel_rfl
theorem Asdirect25 (w : World) : (Rtype.directlyAssignable 200 200).run Tryz.prog w = .ok true w := by kernel_rfl
theorem Asset25 (ta b e : Addr) (old : Value) (W : World) (hb : W.cell? b = some (.pointer (some e))) (ht : W.cell? ta = some old) (hf : W.frozen? ta = false) :
    (ReflectliteValue.set #[.agg #[.pointer (some ⟨1, 200, none⟩), .pointer (some ta), .int .u64 406], .agg #[.pointer (some ⟨1, 200, none⟩), .pointer (some b), .int .u64 150]]).run Tryz.prog W
      = .ok (.tuple #[]) (W.setCell ta (.pointer (some e))) := by
  rw [rls]
  simp only [Sem.run_bind, Asparts25a, Asparts25, Result.andThen]
  simp [ReflectliteValue.flagAddr, loadVar, isAgg, underlying, Tryz.underlying200, hb, Result.andThen, Asdirect25, storeVar, Value.cells, storeCells, Addr.add]
  rw [run_store Tryz.prog W ta _ _ (by rfl)]
  simp [ht, hf]

set_option maxHeartbeats 4000000 in
theorem as_hit (e t : Addr) (old : Value) (w : World) (hg : w.cell? ⟨0, 0, none⟩ = some (.iface 312 (.agg #[.pointer (some ⟨1, 115, none⟩)]))) (ht0 : w.cell? t = some old) (hf0 : w.frozen? t = false) :
    Calls Tryz.prog 96 #[.iface 200 (.pointer (some e)), .iface 213 (.pointer (some t))] w fun ev w' => ev = .returned (.bool true) ∧ w' = ((((w.alloc (.cells #[.pointer (some t)] 213)).alloc (.cells #[.pointer (some ⟨1, 213, none⟩), .pointer (some ⟨w.heap.size, 0, none⟩), .int .u64 150] 255)).alloc (.cells #[.pointer (some ⟨1, 213, none⟩), .pointer (some ⟨w.heap.size, 0, none⟩), .int .u64 150] 255)).alloc (.cells #[.pointer (some e)] 200)).setCell t (.pointer (some e)) := by
  have h6 := @run_callFunc_extern Tryz.prog 164 _ (fun args => ReflectliteValue.unpack (args.getD 0 (.tuple #[]))) Tryz.func164 (by kernel_rfl) (by kernel_rfl) (by kernel_rfl) (by kernel_rfl)
  have h7 := @run_callFunc_extern Tryz.prog 165 _ (ReflectliteValue.methodAny (ReflectliteValue.valueError "reflectlite.Value.Type" 0) (fun t _ _ _ => ReflectliteType.toType t)) Tryz.func165 (by kernel_rfl) (by kernel_rfl) (by kernel_rfl) (by kernel_rfl)
  have h8 := @run_callFunc_extern Tryz.prog 166 _ (ReflectliteValue.method (ReflectliteValue.valueError "reflectlite.Value.IsNil" 0) ReflectliteValue.isNil) Tryz.func166 (by kernel_rfl) (by kernel_rfl) (by kernel_rfl) (by kernel_rfl)
  have h27 := @run_callFunc_extern Tryz.prog 261 _ (ReflectliteType.abiMethod fun t => do pure (.int .u8 (← Rtype.kind t))) Tryz.func261 (by kernel_rfl) (by kernel_rfl) (by kernel_rfl) (by kernel_rfl)
  have h37 := @run_callFunc_extern Tryz.prog 294 _ (ReflectliteType.method ReflectliteType.elem) Tryz.func294 (by kernel_rfl) (by kernel_rfl) (by kernel_rfl) (by kernel_rfl)
  have h38 := @run_callFunc_extern Tryz.prog 295 _ (ReflectliteType.relation "Implements" ReflectliteType.implements_) Tryz.func295 (by kernel_rfl) (by kernel_rfl) (by kernel_rfl) (by kernel_rfl)
  have h10 := @run_callFunc_extern Tryz.prog 204 _ ReflectliteType.typeOf Tryz.func204 (by kernel_rfl) (by kernel_rfl) (by kernel_rfl) (by kernel_rfl)
  have h35 := @run_callFunc_extern Tryz.prog 292 _ (ReflectliteType.relation "AssignableTo" ReflectliteType.assignableTo) Tryz.func292 (by kernel_rfl) (by kernel_rfl) (by kernel_rfl) (by kernel_rfl)
  have h11 := @run_callFunc_extern Tryz.prog 205 _ (ReflectliteValue.method (ReflectliteValue.valueError "reflectlite.Value.Elem" 0) ReflectliteValue.elem) Tryz.func205 (by kernel_rfl) (by kernel_rfl) (by kernel_rfl) (by kernel_rfl)
  have h12 := @run_callFunc_extern Tryz.prog 206 _ ReflectliteValue.set Tryz.func206 (by kernel_rfl) (by kernel_rfl) (by kernel_rfl) (by kernel_rfl)
  have tO := AstypeOf25
  have mA := AsmethodAssignableTo
  have a25 := Asassignable25
  have v25 := AsvalueOf25
  have f6 := AsvalueOf27
  have f7 := Astype27
  have mK := AsmethodKind
  have mE := AsmethodElem
  have mI := AsmethodImplements
  have k27 := Askind27
  have k25 := Askind25
  have e27 := Aselem27
  have i25 := Asimplements25
  have n8 := AsisNil27 ⟨w.heap.size, 0, none⟩ t ((w.alloc (.cells #[.pointer (some t)] 213)).alloc (.cells #[.pointer (some ⟨1, 213, none⟩), .pointer (some ⟨w.heap.size, 0, none⟩), .int .u64 150] 255)) (by simp)
  have hlt : 0 < w.heap.size := by
    rcases Nat.eq_zero_or_pos w.heap.size with h0 | h
    · simp [World.cell?, h0] at hg
    · exact h
  have hg2 : ((w.alloc (.cells #[.pointer (some t)] 213)).alloc (.cells #[.pointer (some ⟨1, 213, none⟩), .pointer (some ⟨w.heap.size, 0, none⟩), .int .u64 150] 255)).cell? ⟨0, 0, none⟩ = some (.iface 312 (.agg #[.pointer (some ⟨1, 115, none⟩)])) := by
    rw [World.cell?_alloc_lt _ _ ⟨0, 0, none⟩ (by simp), World.cell?_alloc_lt _ _ ⟨0, 0, none⟩ hlt]; exact hg
  have htl : t.block < w.heap.size := by
    rcases Nat.lt_or_ge t.block w.heap.size with h | h
    · exact h
    · simp [World.cell?, Array.getElem?_eq_none h] at ht0
  have el := AselemV27 ⟨w.heap.size, 0, none⟩ t (((w.alloc (.cells #[.pointer (some t)] 213)).alloc (.cells #[.pointer (some ⟨1, 213, none⟩), .pointer (some ⟨w.heap.size, 0, none⟩), .int .u64 150] 255)).alloc (.cells #[.pointer (some ⟨1, 213, none⟩), .pointer (some ⟨w.heap.size, 0, none⟩), .int .u64 150] 255)) (by rw [World.cell?_alloc_lt _ _ ⟨w.heap.size, 0, none⟩ (by simp; omega)]; simp)
  have st := Asset25 t ⟨w.heap.size + 1 + 1 + 1, 0, none⟩ e old ((((w.alloc (.cells #[.pointer (some t)] 213)).alloc (.cells #[.pointer (some ⟨1, 213, none⟩), .pointer (some ⟨w.heap.size, 0, none⟩), .int .u64 150] 255)).alloc (.cells #[.pointer (some ⟨1, 213, none⟩), .pointer (some ⟨w.heap.size, 0, none⟩), .int .u64 150] 255)).alloc (.cells #[.pointer (some e)] 200))
    (by rw [World.cell?_alloc_at _ _ _ _ (by simp)]; rfl)
    (by rw [World.cell?_alloc_lt _ _ t (by simp; omega), World.cell?_alloc_lt _ _ t (by simp; omega), World.cell?_alloc_lt _ _ t (by simp; omega), World.cell?_alloc_lt _ _ t htl]; exact ht0)
    (by rw [World.frozen?_alloc_old _ _ t (by simp; omega), World.frozen?_alloc_old _ _ t (by simp; omega), World.frozen?_alloc_old _ _ t (by simp; omega), World.frozen?_alloc_old _ _ t (Nat.ne_of_lt htl)]; exact hf0)
  go_enter Tryz.func96, Tryz.ntmps96
  go_wp2
  refine wp_loop_rounds 1 ?_
  rw [rounds_succ]
  go_wp2
  go_ret
  exact ⟨rfl, rfl⟩

open Go.Vc
/-- The error type, as the program's start lays it. -/
def errTypeV : Value := .iface 312 (.agg #[.pointer (some ⟨1, 115, none⟩)])
theorem hnew_push (h : H) (c : List Value) (t : TypeId) : hnew h h.size c (h.push (.cells c.toArray t)) := ⟨rfl, t, 0, 0, fun i _ => by omega, rfl⟩
end Go.Proofs.YtaglicdidpgkpaaGreatDoor
end

/- errors.As by contract, at an image's error and a number that is looked for. Own work. -/
section
set_option maxRecDepth 100000
set_option linter.unusedVariables false
namespace Go.Proofs.YtaglicdidpgkpaaGreatDoor
open Go Go.RowKit Go.Extern.Stop Go.Stop Go.Extern
theorem EvalueOf (t : Addr) (w : World) : (ReflectliteValue.unpack (.iface 179 (.pointer (some t)))).run Tryz.prog w
    = .ok (.agg #[.pointer (some ⟨1, 179, none⟩), .pointer (some ⟨w.heap.size, 0, none⟩), .int .u64 150]) (w.alloc (.cells #[.pointer (some t)] 179)) := by kernel_rfl
theorem Etype (a : Addr) (w : World) : (ReflectliteValue.methodAny (ReflectliteValue.valueError "reflectlite.Value.Type" 0) (fun t _ _ _ => ReflectliteType.toType t) #[.agg #[.pointer (some ⟨1, 179, none⟩), .pointer (some a), .int .u64 150]]).run Tryz.prog w
    = .ok (.iface 312 (.agg #[.pointer (some ⟨1, 179, none⟩)])) w := by kernel_rfl
theorem EkindP (w : World) : ((ReflectliteType.abiMethod fun t => (fun a : Nat => Value.int IntKind.u8 (a : Int)) <$> Rtype.kind t) #[.pointer (some ⟨1, 179, none⟩)]).run Tryz.prog w = .ok (.int .u8 22) w := by kernel_rfl
theorem Ekind (w : World) : ((ReflectliteType.abiMethod fun t => (fun a : Nat => Value.int IntKind.u8 (a : Int)) <$> Rtype.kind t) #[.pointer (some ⟨1, 55, none⟩)]).run Tryz.prog w = .ok (.int .u8 2) w := by kernel_rfl
theorem Eparts (a : Addr) (w : World) : (ReflectliteValue.parts (.agg #[.pointer (some ⟨1, 179, none⟩), .pointer (some a), .int .u64 150])).run Tryz.prog w = .ok (some (179, a, 150)) w := by kernel_rfl
theorem EisNil (a p : Addr) (W : World) (ha : W.cell? a = some (.pointer (some p))) :
    (ReflectliteValue.method (ReflectliteValue.valueError "reflectlite.Value.IsNil" 0) ReflectliteValue.isNil #[.agg #[.pointer (some ⟨1, 179, none⟩), .pointer (some a), .int .u64 150]]).run Tryz.prog W = .ok (.bool false) W := by
  rw [rlm]
  simp only [Sem.run_bind, Eparts, Result.andThen]
  simp [ReflectliteValue.isNil, loadVar, isAgg, underlying, Tryz.underlying179, ha, Result.andThen]
theorem Eelem (w : World) : (ReflectliteType.method ReflectliteType.elem #[.agg #[.pointer (some ⟨1, 179, none⟩)]]).run Tryz.prog w = .ok (.iface 312 (.agg #[.pointer (some ⟨1, 55, none⟩)])) w := by kernel_rfl
theorem Eimplements (w : World) : (ReflectliteType.relation "Implements" ReflectliteType.implements_ #[.agg #[.pointer (some ⟨1, 55, none⟩)], .iface 312 (.agg #[.pointer (some ⟨1, 115, none⟩)])]).run Tryz.prog w = .ok (.bool true) w := by kernel_rfl
theorem EassignW (w : World) : (ReflectliteType.relation "AssignableTo" ReflectliteType.assignableTo #[.agg #[.pointer (some ⟨1, 200, none⟩)], .iface 312 (.agg #[.pointer (some ⟨1, 55, none⟩)])]).run Tryz.prog w = .ok (.bool false) w := by kernel_rfl
theorem EtypeOf (v : Value) (w : World) : (ReflectliteType.typeOf #[.iface 55 v]).run Tryz.prog w = .ok (.iface 312 (.agg #[.pointer (some ⟨1, 55, none⟩)])) w := by kernel_rfl
theorem Eassign (w : World) : (ReflectliteType.relation "AssignableTo" ReflectliteType.assignableTo #[.agg #[.pointer (some ⟨1, 55, none⟩)], .iface 312 (.agg #[.pointer (some ⟨1, 55, none⟩)])]).run Tryz.prog w = .ok (.bool true) w := by kernel_rfl
theorem EvalueOfI (n : Int) (w : World) : (ReflectliteValue.unpack (.iface 55 (.int .i64 n))).run Tryz.prog w
    = .ok (.agg #[.pointer (some ⟨1, 55, none⟩), .pointer (some ⟨w.heap.size, 0, none⟩), .int .u64 130]) (w.alloc (.cells #[.int .i64 n] 55)) := by kernel_rfl
theorem EelemOf (w : World) : (Rtype.elem? 179).run Tryz.prog w = .ok (some 55) w := by kernel_rfl
theorem Emk (p : Addr) (w : World) : (ReflectliteValue.mk 55 p ReflectliteValue.flagAddr).run Tryz.prog w = .ok (.agg #[.pointer (some ⟨1, 55, none⟩), .pointer (some p), .int .u64 386]) w := by kernel_rfl
theorem EelemV (a p : Addr) (W : World) (ha : W.cell? a = some (.pointer (some p))) :
    (ReflectliteValue.method (ReflectliteValue.valueError "reflectlite.Value.Elem" 0) ReflectliteValue.elem #[.agg #[.pointer (some ⟨1, 179, none⟩), .pointer (some a), .int .u64 150]]).run Tryz.prog W
      = .ok (.agg #[.pointer (some ⟨1, 55, none⟩), .pointer (some p), .int .u64 386]) W := by
  rw [rlm]
  simp only [Sem.run_bind, Eparts, Result.andThen]
  simp [ReflectliteValue.elem, loadVar, isAgg, underlying, Tryz.underlying179, ha, Result.andThen, EelemOf, Emk]
theorem EpartsA (a : Addr) (w : World) : (ReflectliteValue.parts (.agg #[.pointer (some ⟨1, 55, none⟩), .pointer (some a), .int .u64 386])).run Tryz.prog w = .ok (some (55, a, 386)) w := by kernel_rfl
theorem EpartsI (a : Addr) (w : World) : (ReflectliteValue.parts (.agg #[.pointer (some ⟨1, 55, none⟩), .pointer (some a), .int .u64 130])).run Tryz.prog w = .ok (some (55, a, 130)) w := by kernel_rfl
theorem Edirect (w : World) : (Rtype.directlyAssignable 55 55).run Tryz.prog w = .ok true w := by kernel_rfl
theorem Eset (ta b : Addr) (n : Int) (old : Value) (W : World) (hb : W.cell? b = some (.int .i64 n)) (ht : W.cell? ta = some old) (hf : W.frozen? ta = false) :
    (ReflectliteValue.set #[.agg #[.pointer (some ⟨1, 55, none⟩), .pointer (some ta), .int .u64 386], .agg #[.pointer (some ⟨1, 55, none⟩), .pointer (some b), .int .u64 130]]).run Tryz.prog W
      = .ok (.tuple #[]) (W.setCell ta (.int .i64 n)) := by
  rw [rls]
  simp only [Sem.run_bind, EpartsA, EpartsI, Result.andThen]
  simp [ReflectliteValue.flagAddr, loadVar, isAgg, underlying, Tryz.underlying55, hb, Result.andThen, Edirect, storeVar, Value.cells, storeCells, Addr.add]
  rw [run_store Tryz.prog W ta _ _ (by rfl)]
  simp [ht, hf]
theorem EnoAs (v : Value) (xT : TypeId) (w : World) : (Instr.typeAssert (.iface 200 v) xT 317 true).run Tryz.prog w = .ok (.tuple #[.nilIface, .bool false]) w := run_typeAssert_lacksB Tryz.underlying317 (by kernel_rfl) (by kernel_rfl) v xT w
theorem EhasUn (v : Value) (xT : TypeId) (w : World) : (Instr.typeAssert (.iface 200 v) xT 320 true).run Tryz.prog w = .ok (.tuple #[.iface 200 v, .bool true]) w := run_typeAssert_hasB Tryz.underlying320 (by kernel_rfl) v xT w
theorem EmethodUn (v : Value) (w : World) : (Go.method (496) 200 v "Unwrap").run Tryz.prog w = .ok (273, v) w := by kernel_rfl
set_option maxHeartbeats 4000000 in
theorem as_far (e t : Addr) (n : Int) (old : Value) (w : World) (hg : w.cell? ⟨0, 0, none⟩ = some (.iface 312 (.agg #[.pointer (some ⟨1, 115, none⟩)]))) (ht0 : w.cell? t = some old) (hf0 : w.frozen? t = false) (he : w.cell? e = some (.int .i64 n)) :
    Calls Tryz.prog 96 #[.iface 200 (.pointer (some e)), .iface 179 (.pointer (some t))] w fun ev w' => ev = .returned (.bool true) ∧ w' = ((((w.alloc (.cells #[.pointer (some t)] 179)).alloc (.cells #[.pointer (some ⟨1, 179, none⟩), .pointer (some ⟨w.heap.size, 0, none⟩), .int .u64 150] 255)).alloc (.cells #[.pointer (some ⟨1, 179, none⟩), .pointer (some ⟨w.heap.size, 0, none⟩), .int .u64 150] 255)).alloc (.cells #[.int .i64 n] 55)).setCell t (.int .i64 n) := by
  have h6 := @run_callFunc_extern Tryz.prog 164 _ (fun args => ReflectliteValue.unpack (args.getD 0 (.tuple #[]))) Tryz.func164 (by kernel_rfl) (by kernel_rfl) (by kernel_rfl) (by kernel_rfl)
  have h7 := @run_callFunc_extern Tryz.prog 165 _ (ReflectliteValue.methodAny (ReflectliteValue.valueError "reflectlite.Value.Type" 0) (fun t _ _ _ => ReflectliteType.toType t)) Tryz.func165 (by kernel_rfl) (by kernel_rfl) (by kernel_rfl) (by kernel_rfl)
  have h8 := @run_callFunc_extern Tryz.prog 166 _ (ReflectliteValue.method (ReflectliteValue.valueError "reflectlite.Value.IsNil" 0) ReflectliteValue.isNil) Tryz.func166 (by kernel_rfl) (by kernel_rfl) (by kernel_rfl) (by kernel_rfl)
  have h27 := @run_callFunc_extern Tryz.prog 261 _ (ReflectliteType.abiMethod fun t => do pure (.int .u8 (← Rtype.kind t))) Tryz.func261 (by kernel_rfl) (by kernel_rfl) (by kernel_rfl) (by kernel_rfl)
  have h37 := @run_callFunc_extern Tryz.prog 294 _ (ReflectliteType.method ReflectliteType.elem) Tryz.func294 (by kernel_rfl) (by kernel_rfl) (by kernel_rfl) (by kernel_rfl)
  have h38 := @run_callFunc_extern Tryz.prog 295 _ (ReflectliteType.relation "Implements" ReflectliteType.implements_) Tryz.func295 (by kernel_rfl) (by kernel_rfl) (by kernel_rfl) (by kernel_rfl)
  have h10 := @run_callFunc_extern Tryz.prog 204 _ ReflectliteType.typeOf Tryz.func204 (by kernel_rfl) (by kernel_rfl) (by kernel_rfl) (by kernel_rfl)
  have h35 := @run_callFunc_extern Tryz.prog 292 _ (ReflectliteType.relation "AssignableTo" ReflectliteType.assignableTo) Tryz.func292 (by kernel_rfl) (by kernel_rfl) (by kernel_rfl) (by kernel_rfl)
  have h11 := @run_callFunc_extern Tryz.prog 205 _ (ReflectliteValue.method (ReflectliteValue.valueError "reflectlite.Value.Elem" 0) ReflectliteValue.elem) Tryz.func205 (by kernel_rfl) (by kernel_rfl) (by kernel_rfl) (by kernel_rfl)
  have h12 := @run_callFunc_extern Tryz.prog 206 _ ReflectliteValue.set Tryz.func206 (by kernel_rfl) (by kernel_rfl) (by kernel_rfl) (by kernel_rfl)
  have tO := AstypeOf25
  have mA := AsmethodAssignableTo
  have a25 := EassignW
  have f6 := EvalueOf
  have f7 := Etype
  have mK := AsmethodKind
  have mE := AsmethodElem
  have mI := AsmethodImplements
  have k27 := EkindP
  have k25 := Ekind
  have e27 := Eelem
  have i25 := Eimplements
  have aE := Eassign
  have tE := EtypeOf
  have vE := EvalueOfI
  have nA := EnoAs
  have hU := EhasUn
  have mU := EmethodUn
  have n8 := EisNil ⟨w.heap.size, 0, none⟩ t ((w.alloc (.cells #[.pointer (some t)] 179)).alloc (.cells #[.pointer (some ⟨1, 179, none⟩), .pointer (some ⟨w.heap.size, 0, none⟩), .int .u64 150] 255)) (by simp)
  have hlt : 0 < w.heap.size := by
    rcases Nat.eq_zero_or_pos w.heap.size with h0 | h
    · simp [World.cell?, h0] at hg
    · exact h
  have hg2 : ((w.alloc (.cells #[.pointer (some t)] 179)).alloc (.cells #[.pointer (some ⟨1, 179, none⟩), .pointer (some ⟨w.heap.size, 0, none⟩), .int .u64 150] 255)).cell? ⟨0, 0, none⟩ = some (.iface 312 (.agg #[.pointer (some ⟨1, 115, none⟩)])) := by
    rw [World.cell?_alloc_lt _ _ ⟨0, 0, none⟩ (by simp), World.cell?_alloc_lt _ _ ⟨0, 0, none⟩ hlt]; exact hg
  have htl : t.block < w.heap.size := by
    rcases Nat.lt_or_ge t.block w.heap.size with h | h
    · exact h
    · simp [World.cell?, Array.getElem?_eq_none h] at ht0
  have hel : e.block < w.heap.size := by
    rcases Nat.lt_or_ge e.block w.heap.size with h | h
    · exact h
    · simp [World.cell?, Array.getElem?_eq_none h] at he
  have he3 : (((w.alloc (.cells #[.pointer (some t)] 179)).alloc (.cells #[.pointer (some ⟨1, 179, none⟩), .pointer (some ⟨w.heap.size, 0, none⟩), .int .u64 150] 255)).alloc (.cells #[.pointer (some ⟨1, 179, none⟩), .pointer (some ⟨w.heap.size, 0, none⟩), .int .u64 150] 255)).cell? e = some (.int .i64 n) := by
    rw [World.cell?_alloc_lt _ _ e (by simp; omega), World.cell?_alloc_lt _ _ e (by simp; omega), World.cell?_alloc_lt _ _ e hel]; exact he
  have el := EelemV ⟨w.heap.size, 0, none⟩ t (((w.alloc (.cells #[.pointer (some t)] 179)).alloc (.cells #[.pointer (some ⟨1, 179, none⟩), .pointer (some ⟨w.heap.size, 0, none⟩), .int .u64 150] 255)).alloc (.cells #[.pointer (some ⟨1, 179, none⟩), .pointer (some ⟨w.heap.size, 0, none⟩), .int .u64 150] 255)) (by rw [World.cell?_alloc_lt _ _ ⟨w.heap.size, 0, none⟩ (by simp; omega)]; simp)
  have st := Eset t ⟨w.heap.size + 1 + 1 + 1, 0, none⟩ n old ((((w.alloc (.cells #[.pointer (some t)] 179)).alloc (.cells #[.pointer (some ⟨1, 179, none⟩), .pointer (some ⟨w.heap.size, 0, none⟩), .int .u64 150] 255)).alloc (.cells #[.pointer (some ⟨1, 179, none⟩), .pointer (some ⟨w.heap.size, 0, none⟩), .int .u64 150] 255)).alloc (.cells #[.int .i64 n] 55))
    (by rw [World.cell?_alloc_at _ _ _ _ (by simp)]; rfl)
    (by rw [World.cell?_alloc_lt _ _ t (by simp; omega), World.cell?_alloc_lt _ _ t (by simp; omega), World.cell?_alloc_lt _ _ t (by simp; omega), World.cell?_alloc_lt _ _ t htl]; exact ht0)
    (by rw [World.frozen?_alloc_old _ _ t (by simp; omega), World.frozen?_alloc_old _ _ t (by simp; omega), World.frozen?_alloc_old _ _ t (by simp; omega), World.frozen?_alloc_old _ _ t (Nat.ne_of_lt htl)]; exact hf0)
  go_enter Tryz.func96, Tryz.ntmps96
  go_wp2
  refine wp_loop_rounds 2 ?_
  rw [rounds_succ]
  go_wp2
  rw [rounds_succ]
  go_wp2
  go_ret
  exact ⟨rfl, rfl⟩
end Go.Proofs.YtaglicdidpgkpaaGreatDoor
end

/- errors.As as a denotation: at a nil error, at the error and at the number that it looks for. Own work, after the guide's worked example (ToyasAs). -/
section
set_option linter.unusedVariables false
namespace Go.Proofs.YtaglicdidpgkpaaGreatDoor
open Go Go.RowKit Go.Extern.Stop Go.Stop Go.Extern Go.Vc
def F_errors_As (e t : Value) (Q : Bool → H → Prop) (h : H) : Prop :=
  ((e = .nilIface ∧ Q false h) ∨
  ∃ (x : Addr) (b o : Nat) (n : Int), e = .iface 200 (.pointer (some x)) ∧ t = .iface 179 (.pointer (some ⟨b, o, none⟩)) ∧ hc h ⟨0, 0, none⟩ = some errTypeV ∧ (∃ old, hc h ⟨b, o, none⟩ = some old) ∧ hf h ⟨b, o, none⟩ = false ∧ hc h x = some (.int .i64 n) ∧
    ∀ b1 h1, hnew h b1 [.pointer (some ⟨b, o, none⟩)] h1 → ∀ b2 h2, hnew h1 b2 [.pointer (some ⟨1, 179, none⟩), .pointer (some ⟨b1, 0, none⟩), .int .u64 150] h2 → ∀ b3 h3, hnew h2 b3 [.pointer (some ⟨1, 179, none⟩), .pointer (some ⟨b1, 0, none⟩), .int .u64 150] h3 →
      ∀ b4 h4, hnew h3 b4 [.int .i64 n] h4 → ∀ h5, h5 = hwr h4 ⟨b, o, none⟩ [.int .i64 n] → Q true h5) ∨
  ∃ (x : Addr) (b o : Nat) (old : Value), e = .iface 200 (.pointer (some x)) ∧ t = .iface 213 (.pointer (some ⟨b, o, none⟩)) ∧ hc h ⟨0, 0, none⟩ = some errTypeV ∧ hc h ⟨b, o, none⟩ = some old ∧ hf h ⟨b, o, none⟩ = false ∧
    ∀ b1 h1, hnew h b1 [.pointer (some ⟨b, o, none⟩)] h1 → ∀ b2 h2, hnew h1 b2 [.pointer (some ⟨1, 213, none⟩), .pointer (some ⟨b1, 0, none⟩), .int .u64 150] h2 → ∀ b3 h3, hnew h2 b3 [.pointer (some ⟨1, 213, none⟩), .pointer (some ⟨b1, 0, none⟩), .int .u64 150] h3 →
      ∀ b4 h4, hnew h3 b4 [.pointer (some x)] h4 → ∀ h5, h5 = hwr h4 ⟨b, o, none⟩ [.pointer (some x)] → Q true h5
theorem R_errors_As : RunOk PP 96 (W [.fn, .fn] [.bool] F_errors_As) := by
  intro args Q h hok hr
  have hcal : callable PP 96 = true := by kernel_rfl
  have two : ∃ e t : Value, args.map DV.flat = [e, t] ∧ F_errors_As e t (enR [.bool] Q) h := by
    unfold W at hr
    match args, hr with
    | [.one e, .one t], hr => exact ⟨e, t, rfl, hr⟩
    | [.one e, .fnv t], hr => exact ⟨e, t, rfl, hr⟩
    | [.fnv e, .one t], hr => exact ⟨e, t, rfl, hr⟩
    | [.fnv e, .fnv t], hr => exact ⟨e, t, rfl, hr⟩
    | [], hr => exact absurd hr id
    | [.one e], hr => exact absurd hr id
    | [.fnv e], hr => exact absurd hr id
  obtain ⟨e, t, ha, hF⟩ := two
  rw [ha]
  refine ⟨hcal, fun w hw => ?_⟩
  subst hw
  rcases hF with (⟨rfl, hq⟩ | ⟨x, b, o, n, rfl, rfl, hg, ⟨old, ht⟩, hf0, he, hq⟩) | ⟨x, b, o, old, rfl, rfl, hg, ht, hf0, hq⟩
  · refine (as_nil t w).mono fun e' w' he => ?_
    obtain ⟨rfl, rfl⟩ := he
    exact ⟨[.one (.bool false)], by intro y hy; simp at hy; subst hy; rfl, rfl, ⟨rfl, rfl, rfl⟩, hq⟩
  · refine (as_far x ⟨b, o, none⟩ n old w hg ht hf0 he).mono fun e' w' he => ?_
    obtain ⟨rfl, rfl⟩ := he
    refine ⟨[.one (.bool true)], by intro y hy; simp at hy; subst hy; rfl, rfl, ⟨rfl, rfl, rfl⟩, ?_⟩
    exact hq _ _ (hnew_push w.heap _ 179) _ _ (hnew_push _ _ 255) _ _ (hnew_push _ _ 255) _ _ (hnew_push _ _ 55) _ rfl
  · refine (as_hit x ⟨b, o, none⟩ old w hg ht hf0).mono fun e' w' he => ?_
    obtain ⟨rfl, rfl⟩ := he
    refine ⟨[.one (.bool true)], by intro y hy; simp at hy; subst hy; rfl, rfl, ⟨rfl, rfl, rfl⟩, ?_⟩
    exact hq _ _ (hnew_push w.heap _ 213) _ _ (hnew_push _ _ 255) _ _ (hnew_push _ _ 255) _ _ (hnew_push _ _ 200) _ rfl
attribute [irreducible] F_errors_As
end Go.Proofs.YtaglicdidpgkpaaGreatDoor
end

/- Denotations of functions of the program, printed by a program of ours, and that they are the model's. -/
section
set_option linter.unusedVariables false
set_option maxRecDepth 100000
namespace Go.Proofs.YtaglicdidpgkpaaGreatDoor
open Go Go.Vc
abbrev JT : Type := List SV → H → Prop
abbrev OA : Type := Option Addr
def G_slices_Clone_byte_byte (a0p : OA) (a0l : Nat) (a0c : Nat) (Q : OA → Nat → Nat → H → Prop) (h : H) : Prop := if a0p.isNone = true then Q none 0 0 h else ∀ n5 h6, hnew h n5 [] h6 → ∃ (l8 : List Value), hsv h6 a0p 1 a0l l8 ∧ pApp h6 1 [.int .u8 0] 1 (some (Addr.mk n5 0 none)) 0 0 a0l l8 fun o9 n10 n11 h12 => Q o9 n10 n11 h12
theorem E_slices_Clone_byte_byte : ∀ a0p a0l a0c Q h, G_slices_Clone_byte_byte a0p a0l a0c Q h = Dbody PP [] [] Tryz.f65 [.one (.slice a0p a0l a0c)] (decR [.slc] Q) h := by intros; kernel_rfl
def F_slices_Clone_byte_byte := G_slices_Clone_byte_byte
theorem R_slices_Clone_byte_byte : RunOk PP 65 (W [.slc] [.slc] F_slices_Clone_byte_byte) := runOk_of (TblOk.nil) Tryz.func65 (by kernel_rfl) (by kernel_rfl) (E_slices_Clone_byte_byte)
attribute [irreducible] F_slices_Clone_byte_byte
def G_math_bits_RotateLeft32 (a0 : Int) (a1 : Int) (Q : Int → H → Prop) (h : H) : Prop := 0 ≤ bits .and .u64 (IntKind.u64.wrap a1) 31 ∧ 0 ≤ IntKind.u64.wrap (32 - bits .and .u64 (IntKind.u64.wrap a1) 31) ∧ Q (bits .or .u32 (IntKind.u32.wrap (a0 * 2 ^ min (bits .and .u64 (IntKind.u64.wrap a1) 31).toNat 32)) (a0.fdiv (2 ^ min (IntKind.u64.wrap (32 - bits .and .u64 (IntKind.u64.wrap a1) 31)).toNat 32))) h
theorem E_math_bits_RotateLeft32 : ∀ a0 a1 Q h, G_math_bits_RotateLeft32 a0 a1 Q h = Dbody PP [] [] Tryz.f229 [.one (.int .u32 a0), .one (.int .i64 a1)] (decR [.int .u32] Q) h := by intros; kernel_rfl
def F_math_bits_RotateLeft32 := G_math_bits_RotateLeft32
theorem R_math_bits_RotateLeft32 : RunOk PP 229 (W [.int .u32, .int .i64] [.int .u32] F_math_bits_RotateLeft32) := runOk_of (TblOk.nil) Tryz.func229 (by kernel_rfl) (by kernel_rfl) (E_math_bits_RotateLeft32)
attribute [irreducible] F_math_bits_RotateLeft32
def G_sha_turn (c0 : Int → Int → (Int → H → Prop) → H → Prop) (a0 : Int) (a1 : Int) (Q : Int → H → Prop) (h : H) : Prop := c0 a0 (IntKind.i64.wrap (0 - a1)) (fun i5 h6 => Q i5 h6) h
theorem E_sha_turn : ∀ c0 a0 a1 Q h, G_sha_turn c0 a0 a1 Q h = Dbody PP [(229, W [.int .u32, .int .i64] [.int .u32] c0)] [] Tryz.f218 [.one (.int .u32 a0), .one (.int .i64 a1)] (decR [.int .u32] Q) h := by intros; kernel_rfl
def F_sha_turn := G_sha_turn F_math_bits_RotateLeft32
theorem R_sha_turn : RunOk PP 218 (W [.int .u32, .int .i64] [.int .u32] F_sha_turn) := runOk_of (TblOk.cons R_math_bits_RotateLeft32 (TblOk.nil)) Tryz.func218 (by kernel_rfl) (by kernel_rfl) (E_sha_turn _)
attribute [irreducible] F_sha_turn
def G_sha_Digest_take (c0 : Int → Int → (Int → H → Prop) → H → Prop) (a0 : Addr) (a1p : OA) (a1l : Nat) (a1c : Nat) (Q : H → Prop) (h : H) : Prop := ∀ n7 h8, hnew h n7 (ints .u32 (zeros 64)) h8 → ∀ (J10 : JT), (∀ (i11 : Int) (h12 : H), (if ltI i11 16 = true then 0 ≤ IntKind.i64.wrap (4 * i11) ∧ IntKind.i64.wrap (4 * i11) ≤ IntKind.i64.wrap (IntKind.i64.wrap (4 * i11) + 4) ∧ IntKind.i64.wrap (IntKind.i64.wrap (4 * i11) + 4) ≤ (↑a1c : Int) ∧ ∀ (J13 : JT), (∀ (i14 : Int) (h15 : H), (if ltI i14 (↑((IntKind.i64.wrap (IntKind.i64.wrap (4 * i11) + 4)).toNat - (IntKind.i64.wrap (4 * i11)).toNat) : Int) = true then ∃ (p16 : Addr), subAddr a1p (IntKind.i64.wrap (4 * i11)).toNat a1c 1 = some p16 ∧ 0 ≤ i14 ∧ i14 < (↑((IntKind.i64.wrap (IntKind.i64.wrap (4 * i11) + 4)).toNat - (IntKind.i64.wrap (4 * i11)).toNat) : Int) ∧ ∃ i17, hc h15 (p16.add (i14.toNat * 1)) = some (.int .u8 i17) ∧ 0 ≤ i11 ∧ i11 < (↑64 : Int) ∧ ∃ i18, hc h15 ((Addr.mk n7 0 none).add (i11.toNat * 1)) = some (.int .u32 i18) ∧ (0 : Int) ≤ 8 ∧ 0 ≤ i11 ∧ i11 < (↑64 : Int) ∧ hcan h15 ((Addr.mk n7 0 none).add (i11.toNat * 1)) 1 ∧ ∀ h19, h19 = hwr h15 ((Addr.mk n7 0 none).add (i11.toNat * 1)) [.int .u32 (bits .or .u32 (IntKind.u32.wrap (i18 * 2 ^ 8)) (IntKind.u32.wrap i17))] → J13 [.dv (.one (.int .i64 (IntKind.i64.wrap (i14 + 1))))] h19 else J10 [.dv (.one (.int .i64 (IntKind.i64.wrap (i11 + 1))))] h15) → J13 [.dv (.one (.int .i64 i14))] h15) → J13 [.dv (.one (.int .i64 0))] h12 else ∀ (J23 : JT), (∀ (i24 : Int) (h25 : H), (if ltI i24 64 = true then 0 ≤ IntKind.i64.wrap (i24 - 15) ∧ IntKind.i64.wrap (i24 - 15) < (↑64 : Int) ∧ ∃ i26, hc h25 ((Addr.mk n7 0 none).add ((IntKind.i64.wrap (i24 - 15)).toNat * 1)) = some (.int .u32 i26) ∧ 0 ≤ IntKind.i64.wrap (i24 - 2) ∧ IntKind.i64.wrap (i24 - 2) < (↑64 : Int) ∧ ∃ i27, hc h25 ((Addr.mk n7 0 none).add ((IntKind.i64.wrap (i24 - 2)).toNat * 1)) = some (.int .u32 i27) ∧ 0 ≤ IntKind.i64.wrap (i24 - 16) ∧ IntKind.i64.wrap (i24 - 16) < (↑64 : Int) ∧ ∃ i28, hc h25 ((Addr.mk n7 0 none).add ((IntKind.i64.wrap (i24 - 16)).toNat * 1)) = some (.int .u32 i28) ∧ (0 : Int) ≤ 3 ∧ 0 ≤ IntKind.i64.wrap (i24 - 7) ∧ IntKind.i64.wrap (i24 - 7) < (↑64 : Int) ∧ ∃ i29, hc h25 ((Addr.mk n7 0 none).add ((IntKind.i64.wrap (i24 - 7)).toNat * 1)) = some (.int .u32 i29) ∧ (0 : Int) ≤ 10 ∧ c0 i26 7 (fun i30 h31 => hcs h31 ((Addr.mk n7 0 none).add ((IntKind.i64.wrap (i24 - 7)).toNat * 1)) [.int .u32 i29] ∧ hcs h31 ((Addr.mk n7 0 none).add ((IntKind.i64.wrap (i24 - 16)).toNat * 1)) [.int .u32 i28] ∧ c0 i26 18 (fun i32 h33 => hcs h33 ((Addr.mk n7 0 none).add ((IntKind.i64.wrap (i24 - 7)).toNat * 1)) [.int .u32 i29] ∧ hcs h33 ((Addr.mk n7 0 none).add ((IntKind.i64.wrap (i24 - 16)).toNat * 1)) [.int .u32 i28] ∧ c0 i27 17 (fun i34 h35 => hcs h35 ((Addr.mk n7 0 none).add ((IntKind.i64.wrap (i24 - 7)).toNat * 1)) [.int .u32 i29] ∧ hcs h35 ((Addr.mk n7 0 none).add ((IntKind.i64.wrap (i24 - 16)).toNat * 1)) [.int .u32 i28] ∧ c0 i27 19 (fun i36 h37 => hcs h37 ((Addr.mk n7 0 none).add ((IntKind.i64.wrap (i24 - 7)).toNat * 1)) [.int .u32 i29] ∧ hcs h37 ((Addr.mk n7 0 none).add ((IntKind.i64.wrap (i24 - 16)).toNat * 1)) [.int .u32 i28] ∧ 0 ≤ i24 ∧ i24 < (↑64 : Int) ∧ hcan h37 ((Addr.mk n7 0 none).add (i24.toNat * 1)) 1 ∧ ∀ h38, h38 = hwr h37 ((Addr.mk n7 0 none).add (i24.toNat * 1)) [.int .u32 (IntKind.u32.wrap (IntKind.u32.wrap (IntKind.u32.wrap (i28 + bits .xor .u32 (bits .xor .u32 i30 i32) (i26.fdiv (2 ^ 3))) + i29) + bits .xor .u32 (bits .xor .u32 i34 i36) (i27.fdiv (2 ^ 10))))] → J23 [.dv (.one (.int .i64 (IntKind.i64.wrap (i24 + 1))))] h38) h35) h33) h31) h25 else ∃ (l40 : List Int), l40.length = 8 ∧ hrow h25 a0 .u32 l40 ∧ ∀ n41 h42, hnew h25 n41 (ints .u32 (zeros 8)) h42 → hcan h42 ⟨n41, 0, none⟩ 8 ∧ ∀ h44, h44 = hwr h42 ⟨n41, 0, none⟩ (ints .u32 l40 ++ []) → ∀ (J46 : JT), (∀ (i47 : Int) (h48 : H), (if ltI i47 64 = true then (0 : Int) ≤ 7 ∧ (7 : Int) < (↑8 : Int) ∧ ∃ i49, hc h48 ⟨n41, 7, none⟩ = some (.int .u32 i49) ∧ (0 : Int) ≤ 4 ∧ (4 : Int) < (↑8 : Int) ∧ ∃ i50, hc h48 ⟨n41, 4, none⟩ = some (.int .u32 i50) ∧ (0 : Int) ≤ 4 ∧ (4 : Int) < (↑8 : Int) ∧ ∃ i51, hc h48 ⟨n41, 4, none⟩ = some (.int .u32 i51) ∧ (0 : Int) ≤ 4 ∧ (4 : Int) < (↑8 : Int) ∧ ∃ i52, hc h48 ⟨n41, 4, none⟩ = some (.int .u32 i52) ∧ (0 : Int) ≤ 4 ∧ (4 : Int) < (↑8 : Int) ∧ ∃ i53, hc h48 ⟨n41, 4, none⟩ = some (.int .u32 i53) ∧ (0 : Int) ≤ 5 ∧ (5 : Int) < (↑8 : Int) ∧ ∃ i54, hc h48 ⟨n41, 5, none⟩ = some (.int .u32 i54) ∧ (0 : Int) ≤ 4 ∧ (4 : Int) < (↑8 : Int) ∧ ∃ i55, hc h48 ⟨n41, 4, none⟩ = some (.int .u32 i55) ∧ (0 : Int) ≤ 6 ∧ (6 : Int) < (↑8 : Int) ∧ ∃ i56, hc h48 ⟨n41, 6, none⟩ = some (.int .u32 i56) ∧ 0 ≤ i47 ∧ i47 < (↑64 : Int) ∧ ∃ i57, hc h48 ((a0.add 73).add (i47.toNat * 1)) = some (.int .u32 i57) ∧ 0 ≤ i47 ∧ i47 < (↑64 : Int) ∧ ∃ i58, hc h48 ((Addr.mk n7 0 none).add (i47.toNat * 1)) = some (.int .u32 i58) ∧ c0 i50 6 (fun i59 h60 => hcs h60 ((Addr.mk n7 0 none).add (i47.toNat * 1)) [.int .u32 i58] ∧ hcs h60 ((a0.add 73).add (i47.toNat * 1)) [.int .u32 i57] ∧ hcs h60 ⟨n41, 6, none⟩ [.int .u32 i56] ∧ hcs h60 ⟨n41, 4, none⟩ [.int .u32 i55] ∧ hcs h60 ⟨n41, 5, none⟩ [.int .u32 i54] ∧ hcs h60 ⟨n41, 4, none⟩ [.int .u32 i53] ∧ hcs h60 ⟨n41, 4, none⟩ [.int .u32 i52] ∧ hcs h60 ⟨n41, 4, none⟩ [.int .u32 i51] ∧ hcs h60 ⟨n41, 7, none⟩ [.int .u32 i49] ∧ c0 i51 11 (fun i61 h62 => hcs h62 ((Addr.mk n7 0 none).add (i47.toNat * 1)) [.int .u32 i58] ∧ hcs h62 ((a0.add 73).add (i47.toNat * 1)) [.int .u32 i57] ∧ hcs h62 ⟨n41, 6, none⟩ [.int .u32 i56] ∧ hcs h62 ⟨n41, 4, none⟩ [.int .u32 i55] ∧ hcs h62 ⟨n41, 5, none⟩ [.int .u32 i54] ∧ hcs h62 ⟨n41, 4, none⟩ [.int .u32 i53] ∧ hcs h62 ⟨n41, 4, none⟩ [.int .u32 i52] ∧ hcs h62 ⟨n41, 7, none⟩ [.int .u32 i49] ∧ c0 i52 25 (fun i63 h64 => hcs h64 ((Addr.mk n7 0 none).add (i47.toNat * 1)) [.int .u32 i58] ∧ hcs h64 ((a0.add 73).add (i47.toNat * 1)) [.int .u32 i57] ∧ hcs h64 ⟨n41, 6, none⟩ [.int .u32 i56] ∧ hcs h64 ⟨n41, 4, none⟩ [.int .u32 i55] ∧ hcs h64 ⟨n41, 5, none⟩ [.int .u32 i54] ∧ hcs h64 ⟨n41, 4, none⟩ [.int .u32 i53] ∧ hcs h64 ⟨n41, 7, none⟩ [.int .u32 i49] ∧ (0 : Int) ≤ 0 ∧ (0 : Int) < (↑8 : Int) ∧ ∃ i65, hc h64 ⟨n41, 0, none⟩ = some (.int .u32 i65) ∧ (0 : Int) ≤ 0 ∧ (0 : Int) < (↑8 : Int) ∧ ∃ i66, hc h64 ⟨n41, 0, none⟩ = some (.int .u32 i66) ∧ (0 : Int) ≤ 0 ∧ (0 : Int) < (↑8 : Int) ∧ ∃ i67, hc h64 ⟨n41, 0, none⟩ = some (.int .u32 i67) ∧ (0 : Int) ≤ 0 ∧ (0 : Int) < (↑8 : Int) ∧ ∃ i68, hc h64 ⟨n41, 0, none⟩ = some (.int .u32 i68) ∧ (0 : Int) ≤ 1 ∧ (1 : Int) < (↑8 : Int) ∧ ∃ i69, hc h64 ⟨n41, 1, none⟩ = some (.int .u32 i69) ∧ (0 : Int) ≤ 0 ∧ (0 : Int) < (↑8 : Int) ∧ ∃ i70, hc h64 ⟨n41, 0, none⟩ = some (.int .u32 i70) ∧ (0 : Int) ≤ 2 ∧ (2 : Int) < (↑8 : Int) ∧ ∃ i71, hc h64 ⟨n41, 2, none⟩ = some (.int .u32 i71) ∧ (0 : Int) ≤ 1 ∧ (1 : Int) < (↑8 : Int) ∧ ∃ i72, hc h64 ⟨n41, 1, none⟩ = some (.int .u32 i72) ∧ (0 : Int) ≤ 2 ∧ (2 : Int) < (↑8 : Int) ∧ ∃ i73, hc h64 ⟨n41, 2, none⟩ = some (.int .u32 i73) ∧ c0 i65 2 (fun i74 h75 => hcs h75 ⟨n41, 2, none⟩ [.int .u32 i73] ∧ hcs h75 ⟨n41, 1, none⟩ [.int .u32 i72] ∧ hcs h75 ⟨n41, 2, none⟩ [.int .u32 i71] ∧ hcs h75 ⟨n41, 0, none⟩ [.int .u32 i70] ∧ hcs h75 ⟨n41, 1, none⟩ [.int .u32 i69] ∧ hcs h75 ⟨n41, 0, none⟩ [.int .u32 i68] ∧ hcs h75 ⟨n41, 0, none⟩ [.int .u32 i67] ∧ hcs h75 ⟨n41, 0, none⟩ [.int .u32 i66] ∧ c0 i66 13 (fun i76 h77 => hcs h77 ⟨n41, 2, none⟩ [.int .u32 i73] ∧ hcs h77 ⟨n41, 1, none⟩ [.int .u32 i72] ∧ hcs h77 ⟨n41, 2, none⟩ [.int .u32 i71] ∧ hcs h77 ⟨n41, 0, none⟩ [.int .u32 i70] ∧ hcs h77 ⟨n41, 1, none⟩ [.int .u32 i69] ∧ hcs h77 ⟨n41, 0, none⟩ [.int .u32 i68] ∧ hcs h77 ⟨n41, 0, none⟩ [.int .u32 i67] ∧ c0 i67 22 (fun i78 h79 => hcs h79 ⟨n41, 2, none⟩ [.int .u32 i73] ∧ hcs h79 ⟨n41, 1, none⟩ [.int .u32 i72] ∧ hcs h79 ⟨n41, 2, none⟩ [.int .u32 i71] ∧ hcs h79 ⟨n41, 0, none⟩ [.int .u32 i70] ∧ hcs h79 ⟨n41, 1, none⟩ [.int .u32 i69] ∧ hcs h79 ⟨n41, 0, none⟩ [.int .u32 i68] ∧ (0 : Int) ≤ 0 ∧ (0 : Int) < (↑8 : Int) ∧ ∃ i80, hc h79 ⟨n41, 0, none⟩ = some (.int .u32 i80) ∧ (0 : Int) ≤ 1 ∧ (1 : Int) < (↑8 : Int) ∧ ∃ i81, hc h79 ⟨n41, 1, none⟩ = some (.int .u32 i81) ∧ (0 : Int) ≤ 2 ∧ (2 : Int) < (↑8 : Int) ∧ ∃ i82, hc h79 ⟨n41, 2, none⟩ = some (.int .u32 i82) ∧ (0 : Int) ≤ 3 ∧ (3 : Int) < (↑8 : Int) ∧ ∃ i83, hc h79 ⟨n41, 3, none⟩ = some (.int .u32 i83) ∧ (0 : Int) ≤ 4 ∧ (4 : Int) < (↑8 : Int) ∧ ∃ i84, hc h79 ⟨n41, 4, none⟩ = some (.int .u32 i84) ∧ (0 : Int) ≤ 5 ∧ (5 : Int) < (↑8 : Int) ∧ ∃ i85, hc h79 ⟨n41, 5, none⟩ = some (.int .u32 i85) ∧ (0 : Int) ≤ 6 ∧ (6 : Int) < (↑8 : Int) ∧ ∃ i86, hc h79 ⟨n41, 6, none⟩ = some (.int .u32 i86) ∧ hcan h79 ⟨n41, 0, none⟩ 8 ∧ ∀ h87, h87 = hwr h79 ⟨n41, 0, none⟩ (ints .u32 [IntKind.u32.wrap (IntKind.u32.wrap (IntKind.u32.wrap (IntKind.u32.wrap (IntKind.u32.wrap (i49 + bits .xor .u32 (bits .xor .u32 i59 i61) i63) + bits .xor .u32 (bits .and .u32 i53 i54) (bits .and .u32 (bits .xor .u32 (if IntKind.u32.signed = true then -1 else IntKind.u32.max) i55) i56)) + i57) + i58) + IntKind.u32.wrap (bits .xor .u32 (bits .xor .u32 i74 i76) i78 + bits .xor .u32 (bits .xor .u32 (bits .and .u32 i68 i69) (bits .and .u32 i70 i71)) (bits .and .u32 i72 i73))), i80, i81, i82, IntKind.u32.wrap (i83 + IntKind.u32.wrap (IntKind.u32.wrap (IntKind.u32.wrap (IntKind.u32.wrap (i49 + bits .xor .u32 (bits .xor .u32 i59 i61) i63) + bits .xor .u32 (bits .and .u32 i53 i54) (bits .and .u32 (bits .xor .u32 (if IntKind.u32.signed = true then -1 else IntKind.u32.max) i55) i56)) + i57) + i58)), i84, i85, i86] ++ []) → J46 [.dv (.one (.int .i64 (IntKind.i64.wrap (i47 + 1))))] h87) h77) h75) h64) h62) h60) h48 else ∀ (J89 : JT), (∀ (i90 : Int) (h91 : H), (if ltI i90 8 = true then 0 ≤ i90 ∧ i90 < (↑8 : Int) ∧ ∃ i92, hc h91 (a0.add (i90.toNat * 1)) = some (.int .u32 i92) ∧ 0 ≤ i90 ∧ i90 < (↑8 : Int) ∧ ∃ i93, hc h91 ((Addr.mk n41 0 none).add (i90.toNat * 1)) = some (.int .u32 i93) ∧ 0 ≤ i90 ∧ i90 < (↑8 : Int) ∧ hcan h91 (a0.add (i90.toNat * 1)) 1 ∧ ∀ h94, h94 = hwr h91 (a0.add (i90.toNat * 1)) [.int .u32 (IntKind.u32.wrap (i92 + i93))] → J89 [.dv (.one (.int .i64 (IntKind.i64.wrap (i90 + 1))))] h94 else Q h91) → J89 [.dv (.one (.int .i64 i90))] h91) → J89 [.dv (.one (.int .i64 0))] h48) → J46 [.dv (.one (.int .i64 i47))] h48) → J46 [.dv (.one (.int .i64 0))] h44) → J23 [.dv (.one (.int .i64 i24))] h25) → J23 [.dv (.one (.int .i64 16))] h12) → J10 [.dv (.one (.int .i64 i11))] h12) → J10 [.dv (.one (.int .i64 0))] h8
theorem E_sha_Digest_take : ∀ c0 a0 a1p a1l a1c Q h, G_sha_Digest_take c0 a0 a1p a1l a1c Q h = Dbody PP [(218, W [.int .u32, .int .i64] [.int .u32] c0)] [(26, [(16, .sc (.int .i64))]), (58, [(8, .sc (.int .i64))]), (250, [(87, .sc (.int .i64))]), (254, [(178, .sc (.int .i64))]), (6758, [(27, .sc (.int .i64))])] Tryz.f186 [.addr a0, .one (.slice a1p a1l a1c)] (decR [] Q) h := by intros; kernel_rfl
def F_sha_Digest_take := G_sha_Digest_take F_sha_turn
theorem R_sha_Digest_take : RunOk PP 186 (W [.addr, .slc] [] F_sha_Digest_take) := runOk_of (TblOk.cons R_sha_turn (TblOk.nil)) Tryz.func186 (by kernel_rfl) (by kernel_rfl) (E_sha_Digest_take _)
attribute [irreducible] F_sha_Digest_take
def G_sha_Digest_Write (c0 : Addr → OA → Nat → Nat → (H → Prop) → H → Prop) (a0 : Addr) (a1p : OA) (a1l : Nat) (a1c : Nat) (Q : H → Prop) (h : H) : Prop := ∃ i7, hc h (a0.add 72) = some (.int .u64 i7) ∧ (64 : Int) ≠ 0 ∧ ∃ i8, hc h (a0.add 72) = some (.int .u64 i8) ∧ hcan h (a0.add 72) 1 ∧ ∀ h9, h9 = hwr h (a0.add 72) [.int .u64 (IntKind.u64.wrap (i8 + IntKind.u64.wrap (↑a1l : Int)))] → if ltI 0 (IntKind.i64.wrap (i7.tmod 64)) = true then 0 ≤ IntKind.i64.wrap (i7.tmod 64) ∧ IntKind.i64.wrap (i7.tmod 64) ≤ (↑64 : Int) ∧ ∃ (l11 : List Value), hsv h9 a1p 1 (a1l.min (64 - (IntKind.i64.wrap (i7.tmod 64)).toNat)) l11 ∧ (l11 = [] ∨ ∃ (p12 : Addr), subAddr (some (a0.add 8)) (IntKind.i64.wrap (i7.tmod 64)).toNat 64 1 = some p12 ∧ hcan h9 p12 (a1l.min (64 - (IntKind.i64.wrap (i7.tmod 64)).toNat) * 1)) ∧ ∀ (h13 : H), h13 = hwrO h9 (subAddr (some (a0.add 8)) (IntKind.i64.wrap (i7.tmod 64)).toNat 64 1) l11 → 0 ≤ (↑(a1l.min (64 - (IntKind.i64.wrap (i7.tmod 64)).toNat)) : Int) ∧ (↑(a1l.min (64 - (IntKind.i64.wrap (i7.tmod 64)).toNat)) : Int) ≤ (↑a1l : Int) ∧ if ltI (IntKind.i64.wrap (IntKind.i64.wrap (i7.tmod 64) + (↑(a1l.min (64 - (IntKind.i64.wrap (i7.tmod 64)).toNat)) : Int))) 64 = true then Q h13 else c0 a0 (subAddr (some (a0.add 8)) 0 64 1) 64 64 (fun h15 => ∀ (J16 : JT), (∀ (o17 : OA) (n18 n19 : Nat) (h20 : H), (if leI 64 n18 = true then (0 : Int) ≤ 64 ∧ 64 ≤ (↑n19 : Int) ∧ c0 a0 (subAddr o17 0 n19 1) 64 (n19 - 0) (fun h21 => (0 : Int) ≤ 64 ∧ 64 ≤ (↑n18 : Int) ∧ J16 [.dv (.one (.slice (subAddr o17 64 n19 1) (n18 - 64) (n19 - 64)))] h21) h20 else ∃ (l22 : List Value), hsv h20 o17 1 (n18.min 64) l22 ∧ (l22 = [] ∨ ∃ (p23 : Addr), subAddr (some (a0.add 8)) 0 64 1 = some p23 ∧ hcan h20 p23 (n18.min 64 * 1)) ∧ ∀ (h24 : H), h24 = hwrO h20 (subAddr (some (a0.add 8)) 0 64 1) l22 → Q h24) → J16 [.dv (.one (.slice o17 n18 n19))] h20) → J16 [.dv (.one (.slice (subAddr a1p (↑(a1l.min (64 - (IntKind.i64.wrap (i7.tmod 64)).toNat)) : Int).toNat a1c 1) (a1l - (↑(a1l.min (64 - (IntKind.i64.wrap (i7.tmod 64)).toNat)) : Int).toNat) (a1c - (↑(a1l.min (64 - (IntKind.i64.wrap (i7.tmod 64)).toNat)) : Int).toNat)))] h15) h13 else ∀ (J28 : JT), (∀ (o29 : OA) (n30 n31 : Nat) (h32 : H), (if leI 64 n30 = true then (0 : Int) ≤ 64 ∧ 64 ≤ (↑n31 : Int) ∧ c0 a0 (subAddr o29 0 n31 1) 64 (n31 - 0) (fun h33 => (0 : Int) ≤ 64 ∧ 64 ≤ (↑n30 : Int) ∧ J28 [.dv (.one (.slice (subAddr o29 64 n31 1) (n30 - 64) (n31 - 64)))] h33) h32 else ∃ (l34 : List Value), hsv h32 o29 1 (n30.min 64) l34 ∧ (l34 = [] ∨ ∃ (p35 : Addr), subAddr (some (a0.add 8)) 0 64 1 = some p35 ∧ hcan h32 p35 (n30.min 64 * 1)) ∧ ∀ (h36 : H), h36 = hwrO h32 (subAddr (some (a0.add 8)) 0 64 1) l34 → Q h36) → J28 [.dv (.one (.slice o29 n30 n31))] h32) → J28 [.dv (.one (.slice a1p a1l a1c))] h9
theorem E_sha_Digest_Write : ∀ c0 a0 a1p a1l a1c Q h, G_sha_Digest_Write c0 a0 a1p a1l a1c Q h = Dbody PP [(186, W [.addr, .slc] [] c0)] [(60, [(1, .sc (.slc))])] Tryz.f122 [.addr a0, .one (.slice a1p a1l a1c)] (decR [] Q) h := by intros; kernel_rfl
def F_sha_Digest_Write := G_sha_Digest_Write F_sha_Digest_take
theorem R_sha_Digest_Write : RunOk PP 122 (W [.addr, .slc] [] F_sha_Digest_Write) := runOk_of (TblOk.cons R_sha_Digest_take (TblOk.nil)) Tryz.func122 (by kernel_rfl) (by kernel_rfl) (E_sha_Digest_Write _)
attribute [irreducible] F_sha_Digest_Write
def G_sha_Digest_Copy (a0 : Addr) (Q : OA → H → Prop) (h : H) : Prop := ∃ (l3 : List Int), l3.length = 8 ∧ hrow h a0 .u32 l3 ∧ ∃ (l4 : List Int), l4.length = 64 ∧ hrow h (a0.add 8) .u8 l4 ∧ ∃ i5, hc h (a0.add 72) = some (.int .u64 i5) ∧ ∃ (l6 : List Int), l6.length = 64 ∧ hrow h (a0.add 73) .u32 l6 ∧ ∀ n7 h8, hnew h n7 (ints .u32 (zeros 8) ++ (ints .u8 (zeros 64) ++ .int .u64 0 :: ints .u32 (zeros 64))) h8 → hcan h8 ⟨n7, 0, none⟩ 137 ∧ ∀ h10, h10 = hwr h8 ⟨n7, 0, none⟩ (ints .u32 l3 ++ (ints .u8 l4 ++ .int .u64 i5 :: (ints .u32 l6 ++ []))) → Q (some (Addr.mk n7 0 none)) h10
theorem E_sha_Digest_Copy : ∀ a0 Q h, G_sha_Digest_Copy a0 Q h = Dbody PP [] [] Tryz.f190 [.addr a0] (decR [.ptr] Q) h := by intros; kernel_rfl
def F_sha_Digest_Copy := G_sha_Digest_Copy
theorem R_sha_Digest_Copy : RunOk PP 190 (W [.addr] [.ptr] F_sha_Digest_Copy) := runOk_of (TblOk.nil) Tryz.func190 (by kernel_rfl) (by kernel_rfl) (E_sha_Digest_Copy)
attribute [irreducible] F_sha_Digest_Copy
def G_sha_Digest_Sum (c0 : Addr → OA → Nat → Nat → (H → Prop) → H → Prop) (c1 : Addr → (OA → H → Prop) → H → Prop) (a0 : Addr) (Q : List Int → H → Prop) (h : H) : Prop := ∀ n5 h6, hnew h n5 (ints .u8 (zeros 32)) h6 → c1 a0 (fun o8 h9 => ∀ n10 h11, hnew h9 n10 (ints .u8 (zeros 73)) h11 → (0 : Int) ≤ 0 ∧ (0 : Int) < (↑73 : Int) ∧ hcan h11 ⟨n10, 0, none⟩ 1 ∧ ∀ h13, h13 = hwr h11 ⟨n10, 0, none⟩ [.int .u8 128] → ∃ i15, hc h13 (a0.add 72) = some (.int .u64 i15) ∧ (64 : Int) ≠ 0 ∧ (64 : Int) ≠ 0 ∧ ∀ (J16 : JT), (∀ (i17 : Int) (h18 : H), (if ltI i17 8 = true then ∃ i19, hc h18 (a0.add 72) = some (.int .u64 i19) ∧ 0 ≤ IntKind.i64.wrap (56 - IntKind.i64.wrap (8 * i17)) ∧ 0 ≤ IntKind.i64.wrap (IntKind.i64.wrap (1 + (IntKind.i64.wrap (119 - IntKind.i64.wrap (i15.tmod 64))).tmod 64) + i17) ∧ IntKind.i64.wrap (IntKind.i64.wrap (1 + (IntKind.i64.wrap (119 - IntKind.i64.wrap (i15.tmod 64))).tmod 64) + i17) < (↑73 : Int) ∧ hcan h18 ((Addr.mk n10 0 none).add ((IntKind.i64.wrap (IntKind.i64.wrap (1 + (IntKind.i64.wrap (119 - IntKind.i64.wrap (i15.tmod 64))).tmod 64) + i17)).toNat * 1)) 1 ∧ ∀ h20, h20 = hwr h18 ((Addr.mk n10 0 none).add ((IntKind.i64.wrap (IntKind.i64.wrap (1 + (IntKind.i64.wrap (119 - IntKind.i64.wrap (i15.tmod 64))).tmod 64) + i17)).toNat * 1)) [.int .u8 (IntKind.u8.wrap ((IntKind.u64.wrap (8 * i19)).fdiv (2 ^ min (IntKind.i64.wrap (56 - IntKind.i64.wrap (8 * i17))).toNat 64)))] → J16 [.dv (.one (.int .i64 (IntKind.i64.wrap (i17 + 1))))] h20 else 0 ≤ IntKind.i64.wrap (IntKind.i64.wrap (1 + (IntKind.i64.wrap (119 - IntKind.i64.wrap (i15.tmod 64))).tmod 64) + 8) ∧ IntKind.i64.wrap (IntKind.i64.wrap (1 + (IntKind.i64.wrap (119 - IntKind.i64.wrap (i15.tmod 64))).tmod 64) + 8) ≤ (↑73 : Int) ∧ ∃ p22, o8 = some p22 ∧ c0 p22 (subAddr (some (Addr.mk n10 0 none)) 0 73 1) ((IntKind.i64.wrap (IntKind.i64.wrap (1 + (IntKind.i64.wrap (119 - IntKind.i64.wrap (i15.tmod 64))).tmod 64) + 8)).toNat - 0) 73 (fun h23 => ∀ n24 h25, hnew h23 n24 (ints .u8 (zeros 32)) h25 → ∃ p27, o8 = some p27 ∧ ∃ (l28 : List Int), l28.length = 8 ∧ hrow h25 p27 .u32 l28 ∧ ∀ (J29 : JT), (∀ (i30 : Int) (h31 : H), (if ltI i30 8 = true then 0 ≤ i30 ∧ i30 < (↑8 : Int) ∧ ∀ (J32 : JT), (∀ (i33 : Int) (h34 : H), (if ltI i33 4 = true then 0 ≤ IntKind.i64.wrap (24 - IntKind.i64.wrap (8 * i33)) ∧ 0 ≤ IntKind.i64.wrap (IntKind.i64.wrap (4 * i30) + i33) ∧ IntKind.i64.wrap (IntKind.i64.wrap (4 * i30) + i33) < (↑32 : Int) ∧ hcan h34 ((Addr.mk n24 0 none).add ((IntKind.i64.wrap (IntKind.i64.wrap (4 * i30) + i33)).toNat * 1)) 1 ∧ ∀ h35, h35 = hwr h34 ((Addr.mk n24 0 none).add ((IntKind.i64.wrap (IntKind.i64.wrap (4 * i30) + i33)).toNat * 1)) [.int .u8 (IntKind.u8.wrap ((l28.getD i30.toNat 0).fdiv (2 ^ min (IntKind.i64.wrap (24 - IntKind.i64.wrap (8 * i33))).toNat 32)))] → J32 [.dv (.one (.int .i64 (IntKind.i64.wrap (i33 + 1))))] h35 else J29 [.dv (.one (.int .i64 (IntKind.i64.wrap (i30 + 1))))] h34) → J32 [.dv (.one (.int .i64 i33))] h34) → J32 [.dv (.one (.int .i64 0))] h31 else ∃ (l39 : List Int), l39.length = 32 ∧ hrow h31 ⟨n24, 0, none⟩ .u8 l39 ∧ hcan h31 ⟨n5, 0, none⟩ 32 ∧ ∀ h40, h40 = hwr h31 ⟨n5, 0, none⟩ (ints .u8 l39 ++ []) → ∃ (l42 : List Int), l42.length = 32 ∧ hrow h40 ⟨n5, 0, none⟩ .u8 l42 ∧ Q l42 h40) → J29 [.dv (.one (.int .i64 i30))] h31) → J29 [.dv (.one (.int .i64 0))] h25) h18) → J16 [.dv (.one (.int .i64 i17))] h18) → J16 [.dv (.one (.int .i64 0))] h13) h6
theorem E_sha_Digest_Sum : ∀ c0 c1 a0 Q h, G_sha_Digest_Sum c0 c1 a0 Q h = Dbody PP [(122, W [.addr, .slc] [] c0), (190, W [.addr] [.ptr] c1)] [(1018, [(25, .sc (.int .i64))]), (8186, [(52, .sc (.int .i64))]), (2095718, [(56, .sc (.int .i64))])] Tryz.f126 [.addr a0] (decR [.ag [.row .u8 32]] Q) h := by intros; kernel_rfl
def F_sha_Digest_Sum := G_sha_Digest_Sum F_sha_Digest_Write F_sha_Digest_Copy
theorem R_sha_Digest_Sum : RunOk PP 126 (W [.addr] [.ag [.row .u8 32]] F_sha_Digest_Sum) := runOk_of (TblOk.cons R_sha_Digest_Write (TblOk.cons R_sha_Digest_Copy (TblOk.nil))) Tryz.func126 (by kernel_rfl) (by kernel_rfl) (E_sha_Digest_Sum _ _)
attribute [irreducible] F_sha_Digest_Sum
def G_sha_start (Q : List Int → H → Prop) (h : H) : Prop := ∀ n2 h3, hnew h n2 (ints .u32 (zeros 8)) h3 → hcan h3 ⟨n2, 0, none⟩ 8 ∧ ∀ h5, h5 = hwr h3 ⟨n2, 0, none⟩ (ints .u32 [1779033703, 3144134277, 1013904242, 2773480762, 1359893119, 2600822924, 528734635, 1541459225]) → ∃ (l7 : List Int), l7.length = 8 ∧ hrow h5 ⟨n2, 0, none⟩ .u32 l7 ∧ Q l7 h5
theorem E_sha_start : ∀ Q h, G_sha_start Q h = Dbody PP [] [] Tryz.f191 [] (decR [.ag [.row .u32 8]] Q) h := by intros; kernel_rfl
def F_sha_start := G_sha_start
theorem R_sha_start : RunOk PP 191 (W [] [.ag [.row .u32 8]] F_sha_start) := runOk_of (TblOk.nil) Tryz.func191 (by kernel_rfl) (by kernel_rfl) (E_sha_start)
attribute [irreducible] F_sha_start
def G_sha_rounds (Q : List Int → H → Prop) (h : H) : Prop := ∀ n2 h3, hnew h n2 (ints .u32 (zeros 64)) h3 → hcan h3 ⟨n2, 0, none⟩ 64 ∧ ∀ h5, h5 = hwr h3 ⟨n2, 0, none⟩ (ints .u32 [1116352408, 1899447441, 3049323471, 3921009573, 961987163, 1508970993, 2453635748, 2870763221, 3624381080, 310598401, 607225278, 1426881987, 1925078388, 2162078206, 2614888103, 3248222580, 3835390401, 4022224774, 264347078, 604807628, 770255983, 1249150122, 1555081692, 1996064986, 2554220882, 2821834349, 2952996808, 3210313671, 3336571891, 3584528711, 113926993, 338241895, 666307205, 773529912, 1294757372, 1396182291, 1695183700, 1986661051, 2177026350, 2456956037, 2730485921, 2820302411, 3259730800, 3345764771, 3516065817, 3600352804, 4094571909, 275423344, 430227734, 506948616, 659060556, 883997877, 958139571, 1322822218, 1537002063, 1747873779, 1955562222, 2024104815, 2227730452, 2361852424, 2428436474, 2756734187, 3204031479, 3329325298]) → ∃ (l7 : List Int), l7.length = 64 ∧ hrow h5 ⟨n2, 0, none⟩ .u32 l7 ∧ Q l7 h5
theorem E_sha_rounds : ∀ Q h, G_sha_rounds Q h = Dbody PP [] [] Tryz.f192 [] (decR [.ag [.row .u32 64]] Q) h := by intros; kernel_rfl
def F_sha_rounds := G_sha_rounds
theorem R_sha_rounds : RunOk PP 192 (W [] [.ag [.row .u32 64]] F_sha_rounds) := runOk_of (TblOk.nil) Tryz.func192 (by kernel_rfl) (by kernel_rfl) (E_sha_rounds)
attribute [irreducible] F_sha_rounds
def G_sha_New (c0 : (List Int → H → Prop) → H → Prop) (c1 : (List Int → H → Prop) → H → Prop) (Q : OA → H → Prop) (h : H) : Prop := c0 (fun l4 h5 => c1 (fun l6 h7 => ∀ n8 h9, hnew h7 n8 (ints .u32 l4 ++ (ints .u8 (zeros 64) ++ .int .u64 0 :: (ints .u32 l6 ++ []))) h9 → Q (some (Addr.mk n8 0 none)) h9) h5) h
theorem E_sha_New : ∀ c0 c1 Q h, G_sha_New c0 c1 Q h = Dbody PP [(191, W [] [.ag [.row .u32 8]] c0), (192, W [] [.ag [.row .u32 64]] c1)] [] Tryz.f127 [] (decR [.ptr] Q) h := by intros; kernel_rfl
def F_sha_New := G_sha_New F_sha_start F_sha_rounds
theorem R_sha_New : RunOk PP 127 (W [] [.ptr] F_sha_New) := runOk_of (TblOk.cons R_sha_start (TblOk.cons R_sha_rounds (TblOk.nil))) Tryz.func127 (by kernel_rfl) (by kernel_rfl) (E_sha_New _ _)
attribute [irreducible] F_sha_New
def G_sha_Of (c0 : Addr → OA → Nat → Nat → (H → Prop) → H → Prop) (c1 : Addr → (List Int → H → Prop) → H → Prop) (c2 : (OA → H → Prop) → H → Prop) (a0p : OA) (a0l : Nat) (a0c : Nat) (Q : List Int → H → Prop) (h : H) : Prop := ∀ n8 h9, hnew h n8 (ints .u8 (zeros 32)) h9 → c2 (fun o11 h12 => ∃ p13, o11 = some p13 ∧ c0 p13 a0p a0l a0c (fun h14 => ∃ p15, o11 = some p15 ∧ c1 p15 (fun l16 h17 => hcan h17 ⟨n8, 0, none⟩ 32 ∧ ∀ h18, h18 = hwr h17 ⟨n8, 0, none⟩ (ints .u8 l16 ++ []) → ∃ (l20 : List Int), l20.length = 32 ∧ hrow h18 ⟨n8, 0, none⟩ .u8 l20 ∧ Q l20 h18) h14) h12) h9
theorem E_sha_Of : ∀ c0 c1 c2 a0p a0l a0c Q h, G_sha_Of c0 c1 c2 a0p a0l a0c Q h = Dbody PP [(122, W [.addr, .slc] [] c0), (126, W [.addr] [.ag [.row .u8 32]] c1), (127, W [] [.ptr] c2)] [] Tryz.f54 [.one (.slice a0p a0l a0c)] (decR [.ag [.row .u8 32]] Q) h := by intros; kernel_rfl
def F_sha_Of := G_sha_Of F_sha_Digest_Write F_sha_Digest_Sum F_sha_New
theorem R_sha_Of : RunOk PP 54 (W [.slc] [.ag [.row .u8 32]] F_sha_Of) := runOk_of (TblOk.cons R_sha_Digest_Write (TblOk.cons R_sha_Digest_Sum (TblOk.cons R_sha_New (TblOk.nil)))) Tryz.func54 (by kernel_rfl) (by kernel_rfl) (E_sha_Of _ _ _)
attribute [irreducible] F_sha_Of
def G_mac_New (c0 : OA → Nat → Nat → (List Int → H → Prop) → H → Prop) (c1 : Addr → OA → Nat → Nat → (H → Prop) → H → Prop) (c2 : (OA → H → Prop) → H → Prop) (a0p : OA) (a0l : Nat) (a0c : Nat) (Q : OA → H → Prop) (h : H) : Prop := ∀ n8 h9, hnew h n8 (ints .u8 (zeros 64)) h9 → ∀ (J11 : JT), (∀ (o12 : OA) (n13 n14 : Nat) (h15 : H), (∃ (l16 : List Value), hsv h15 o12 1 (n13.min 64) l16 ∧ (l16 = [] ∨ ∃ (p17 : Addr), subAddr (some (Addr.mk n8 0 none)) 0 64 1 = some p17 ∧ hcan h15 p17 (n13.min 64 * 1)) ∧ ∀ (h18 : H), h18 = hwrO h15 (subAddr (some (Addr.mk n8 0 none)) 0 64 1) l16 → c2 (fun o20 h21 => ∀ n22 h23, hnew h21 n22 (.pointer o20 :: ints .u8 (zeros 64)) h23 → ∀ n25 h26, hnew h23 n25 (ints .u8 (zeros 64)) h26 → ∃ (l28 : List Int), l28.length = 64 ∧ hrow h26 ⟨n8, 0, none⟩ .u8 l28 ∧ ∀ (J29 : JT), (∀ (i30 : Int) (h31 : H), (if ltI i30 64 = true then 0 ≤ i30 ∧ i30 < (↑64 : Int) ∧ 0 ≤ i30 ∧ i30 < (↑64 : Int) ∧ hcan h31 ((Addr.mk n25 0 none).add (i30.toNat * 1)) 1 ∧ ∀ h32, h32 = hwr h31 ((Addr.mk n25 0 none).add (i30.toNat * 1)) [.int .u8 (bits .xor .u8 (l28.getD i30.toNat 0) 54)] → 0 ≤ i30 ∧ i30 < (↑64 : Int) ∧ hcan h32 (((Addr.mk n22 0 none).add 1).add (i30.toNat * 1)) 1 ∧ ∀ h34, h34 = hwr h32 (((Addr.mk n22 0 none).add 1).add (i30.toNat * 1)) [.int .u8 (bits .xor .u8 (l28.getD i30.toNat 0) 92)] → J29 [.dv (.one (.int .i64 (IntKind.i64.wrap (i30 + 1))))] h34 else ∃ o36, hc h31 ⟨n22, 0, none⟩ = some (.pointer o36) ∧ ∃ p37, o36 = some p37 ∧ c1 p37 (some (Addr.mk n25 0 none)) 64 64 (fun h38 => Q (some (Addr.mk n22 0 none)) h38) h31) → J29 [.dv (.one (.int .i64 i30))] h31) → J29 [.dv (.one (.int .i64 0))] h26) h18) → J11 [.dv (.one (.slice o12 n13 n14))] h15) → if ltI 64 a0l = true then c0 a0p a0l a0c (fun l43 h44 => ∀ n45 h46, hnew h44 n45 (ints .u8 (zeros 32)) h46 → hcan h46 ⟨n45, 0, none⟩ 32 ∧ ∀ h48, h48 = hwr h46 ⟨n45, 0, none⟩ (ints .u8 l43 ++ []) → J11 [.dv (.one (.slice (subAddr (some (Addr.mk n45 0 none)) 0 32 1) 32 32))] h48) h9 else J11 [.dv (.one (.slice a0p a0l a0c))] h9
theorem E_mac_New : ∀ c0 c1 c2 a0p a0l a0c Q h, G_mac_New c0 c1 c2 a0p a0l a0c Q h = Dbody PP [(54, W [.slc] [.ag [.row .u8 32]] c0), (122, W [.addr, .slc] [] c1), (127, W [] [.ptr] c2)] [(7, [(0, .sc (.slc))]), (1018, [(22, .sc (.int .i64))])] Tryz.f168 [.one (.slice a0p a0l a0c)] (decR [.ptr] Q) h := by intros; kernel_rfl
def F_mac_New := G_mac_New F_sha_Of F_sha_Digest_Write F_sha_New
theorem R_mac_New : RunOk PP 168 (W [.slc] [.ptr] F_mac_New) := runOk_of (TblOk.cons R_sha_Of (TblOk.cons R_sha_Digest_Write (TblOk.cons R_sha_New (TblOk.nil)))) Tryz.func168 (by kernel_rfl) (by kernel_rfl) (E_mac_New _ _ _)
attribute [irreducible] F_mac_New
def G_mac_Mac_Sum (c0 : Addr → OA → Nat → Nat → (H → Prop) → H → Prop) (c1 : Addr → (List Int → H → Prop) → H → Prop) (c2 : (OA → H → Prop) → H → Prop) (a0 : Addr) (Q : List Int → H → Prop) (h : H) : Prop := ∀ n6 h7, hnew h n6 (ints .u8 (zeros 32)) h7 → ∃ o9, hc h7 a0 = some (.pointer o9) ∧ ∃ p10, o9 = some p10 ∧ c1 p10 (fun l11 h12 => ∀ n13 h14, hnew h12 n13 (ints .u8 (zeros 32)) h14 → hcan h14 ⟨n13, 0, none⟩ 32 ∧ ∀ h16, h16 = hwr h14 ⟨n13, 0, none⟩ (ints .u8 l11 ++ []) → c2 (fun o18 h19 => ∃ p20, o18 = some p20 ∧ c0 p20 (subAddr (some (a0.add 1)) 0 64 1) 64 64 (fun h21 => ∃ p22, o18 = some p22 ∧ c0 p22 (subAddr (some (Addr.mk n13 0 none)) 0 32 1) 32 32 (fun h23 => ∃ p24, o18 = some p24 ∧ c1 p24 (fun l25 h26 => hcan h26 ⟨n6, 0, none⟩ 32 ∧ ∀ h27, h27 = hwr h26 ⟨n6, 0, none⟩ (ints .u8 l25 ++ []) → ∃ (l29 : List Int), l29.length = 32 ∧ hrow h27 ⟨n6, 0, none⟩ .u8 l29 ∧ Q l29 h27) h23) h21) h19) h16) h7
theorem E_mac_Mac_Sum : ∀ c0 c1 c2 a0 Q h, G_mac_Mac_Sum c0 c1 c2 a0 Q h = Dbody PP [(122, W [.addr, .slc] [] c0), (126, W [.addr] [.ag [.row .u8 32]] c1), (127, W [] [.ptr] c2)] [] Tryz.f169 [.addr a0] (decR [.ag [.row .u8 32]] Q) h := by intros; kernel_rfl
def F_mac_Mac_Sum := G_mac_Mac_Sum F_sha_Digest_Write F_sha_Digest_Sum F_sha_New
theorem R_mac_Mac_Sum : RunOk PP 169 (W [.addr] [.ag [.row .u8 32]] F_mac_Mac_Sum) := runOk_of (TblOk.cons R_sha_Digest_Write (TblOk.cons R_sha_Digest_Sum (TblOk.cons R_sha_New (TblOk.nil)))) Tryz.func169 (by kernel_rfl) (by kernel_rfl) (E_mac_Mac_Sum _ _ _)
attribute [irreducible] F_mac_Mac_Sum
def G_mac_Of (c0 : Addr → OA → Nat → Nat → (H → Prop) → H → Prop) (c1 : OA → Nat → Nat → (OA → H → Prop) → H → Prop) (c2 : Addr → (List Int → H → Prop) → H → Prop) (a0p : OA) (a0l : Nat) (a0c : Nat) (a1p : OA) (a1l : Nat) (a1c : Nat) (Q : List Int → H → Prop) (h : H) : Prop := ∀ n11 h12, hnew h n11 (ints .u8 (zeros 32)) h12 → c1 a0p a0l a0c (fun o14 h15 => ∃ p16, o14 = some p16 ∧ ∃ o17, hc h15 p16 = some (.pointer o17) ∧ ∃ p18, o17 = some p18 ∧ c0 p18 a1p a1l a1c (fun h19 => ∃ p20, o14 = some p20 ∧ c2 p20 (fun l21 h22 => hcan h22 ⟨n11, 0, none⟩ 32 ∧ ∀ h23, h23 = hwr h22 ⟨n11, 0, none⟩ (ints .u8 l21 ++ []) → ∃ (l25 : List Int), l25.length = 32 ∧ hrow h23 ⟨n11, 0, none⟩ .u8 l25 ∧ Q l25 h23) h19) h15) h12
theorem E_mac_Of : ∀ c0 c1 c2 a0p a0l a0c a1p a1l a1c Q h, G_mac_Of c0 c1 c2 a0p a0l a0c a1p a1l a1c Q h = Dbody PP [(122, W [.addr, .slc] [] c0), (168, W [.slc] [.ptr] c1), (169, W [.addr] [.ag [.row .u8 32]] c2)] [] Tryz.f103 [.one (.slice a0p a0l a0c), .one (.slice a1p a1l a1c)] (decR [.ag [.row .u8 32]] Q) h := by intros; kernel_rfl
def F_mac_Of := G_mac_Of F_sha_Digest_Write F_mac_New F_mac_Mac_Sum
theorem R_mac_Of : RunOk PP 103 (W [.slc, .slc] [.ag [.row .u8 32]] F_mac_Of) := runOk_of (TblOk.cons R_sha_Digest_Write (TblOk.cons R_mac_New (TblOk.cons R_mac_Mac_Sum (TblOk.nil)))) Tryz.func103 (by kernel_rfl) (by kernel_rfl) (E_mac_Of _ _ _)
attribute [irreducible] F_mac_Of
def G_keys_Ring_Has (a0 : Addr) (a1 : Int) (Q : Bool → H → Prop) (h : H) : Prop := ∃ (o4 : Option Nat), hc h a0 = some (.map o4) ∧ ∃ (l5 : List (Value × DV)), ∃ (x6 : DV), ∃ (b7 : Bool), hmapO h o4 l5 ∧ mlook (.int .i64 a1) (DV.one (.slice none 0 0)) l5 = some (x6, b7) ∧ ∃ (o8 : OA), ∃ (n9 : Nat), ∃ (n10 : Nat), x6 = DV.one (.slice o8 n9 n10) ∧ Q b7 h
theorem E_keys_Ring_Has : ∀ a0 a1 Q h, G_keys_Ring_Has a0 a1 Q h = Dbody PP [] [] Tryz.f72 [.addr a0, .one (.int .i64 a1)] (decR [.bool] Q) h := by intros; kernel_rfl
def F_keys_Ring_Has := G_keys_Ring_Has
theorem R_keys_Ring_Has : RunOk PP 72 (W [.addr, .int .i64] [.bool] F_keys_Ring_Has) := runOk_of (TblOk.nil) Tryz.func72 (by kernel_rfl) (by kernel_rfl) (E_keys_Ring_Has)
attribute [irreducible] F_keys_Ring_Has
def G_keys_New (c0 : OA → Nat → Nat → (OA → Nat → Nat → H → Prop) → H → Prop) (c1 : Addr → Int → (Bool → H → Prop) → H → Prop) (a0p : OA) (a0l : Nat) (a0c : Nat) (Q : OA → Int → Int → H → Prop) (h : H) : Prop := if ltI 64 a0l = true then Q none 3 64 h else ∀ (n7 : Nat) (h8 : H), hmnew h n7 h8 → ∀ n10 h11, hnew h8 n10 [.map (some n7)] h11 → ∀ (J13 : JT), (∀ (i14 : Int) (h15 : H), (if ltI i14 a0l = true then ∃ p16, a0p = some p16 ∧ 0 ≤ i14 ∧ i14 < a0l ∧ ∃ i17, hc h15 (p16.add (i14.toNat * 2)) = some (.int .i64 i17) ∧ ∃ o18 n19 n20, hc h15 ((p16.add (i14.toNat * 2)).add 1) = some (.slice o18 n19 n20) ∧ ∀ n21 h22, hnew h15 n21 [.int .i64 0, .slice none 0 0] h22 → hcan h22 ⟨n21, 0, none⟩ 2 ∧ ∀ h24, h24 = hwr h22 ⟨n21, 0, none⟩ [.int .i64 i17, .slice o18 n19 n20] → ∀ (J26 : JT), (∀ (b27 : Bool) (h28 : H), (if b27 = true then Q none 2 i14 h28 else ∃ o29 n30 n31, hc h28 ⟨n21, 1, none⟩ = some (.slice o29 n30 n31) ∧ if ltI (↑n30 : Int) 1 = true then Q none 4 i14 h28 else ∃ o32 n33 n34, hc h28 ⟨n21, 1, none⟩ = some (.slice o32 n33 n34) ∧ if ltI 256 n33 = true then Q none 4 i14 h28 else ∃ i35, hc h28 ⟨n21, 0, none⟩ = some (.int .i64 i35) ∧ c1 (Addr.mk n10 0 none) i35 (fun b36 h37 => if b36 = true then Q none 18 i14 h37 else ∃ (o38 : Option Nat), hc h37 ⟨n10, 0, none⟩ = some (.map o38) ∧ ∃ i39, hc h37 ⟨n21, 0, none⟩ = some (.int .i64 i39) ∧ ∃ o40 n41 n42, hc h37 ⟨n21, 1, none⟩ = some (.slice o40 n41 n42) ∧ c0 o40 n41 n42 (fun o43 n44 n45 h46 => hcs h46 ⟨n21, 0, none⟩ [.int .i64 i39] ∧ hcs h46 ⟨n10, 0, none⟩ [.map o38] ∧ ∃ (n47 : Nat), ∃ (l48 : List (Value × DV)), ∃ (l49 : List (Value × DV)), o38 = some n47 ∧ hmap h46 n47 l48 ∧ mins (.int .i64 i39) (DV.one (.slice o43 n44 n45)) l48 = some l49 ∧ ∀ (h50 : H), hmset h46 n47 l49 h50 → J13 [.dv (.one (.int .i64 (IntKind.i64.wrap (i14 + 1))))] h50) h37) h28) → J26 [.dv (.one (.bool b27))] h28) → ∃ i54, hc h24 ⟨n21, 0, none⟩ = some (.int .i64 i54) ∧ if ltI i54 0 = true then J26 [.dv (.one (.bool true))] h24 else ∃ i55, hc h24 ⟨n21, 0, none⟩ = some (.int .i64 i55) ∧ J26 [.dv (.one (.bool (leI 64 i55)))] h24 else Q (some (Addr.mk n10 0 none)) 0 0 h15) → J13 [.dv (.one (.int .i64 i14))] h15) → J13 [.dv (.one (.int .i64 0))] h11
theorem E_keys_New : ∀ c0 c1 a0p a0l a0c Q h, G_keys_New c0 c1 a0p a0l a0c Q h = Dbody PP [(65, W [.slc] [.slc] c0), (72, W [.addr, .int .i64] [.bool] c1)] [(122, [(16, .sc (.int .i64))]), (31332, [(21, .sc (.bool))])] Tryz.f55 [.one (.slice a0p a0l a0c)] (decR [.ptr, .int .i64, .int .i64] Q) h := by intros; kernel_rfl
def F_keys_New := G_keys_New F_slices_Clone_byte_byte F_keys_Ring_Has
theorem R_keys_New : RunOk PP 55 (W [.slc] [.ptr, .int .i64, .int .i64] F_keys_New) := runOk_of (TblOk.cons R_slices_Clone_byte_byte (TblOk.cons R_keys_Ring_Has (TblOk.nil))) Tryz.func55 (by kernel_rfl) (by kernel_rfl) (E_keys_New _ _)
attribute [irreducible] F_keys_New
def G_keys_Ring_Sign (c0 : OA → Nat → Nat → OA → Nat → Nat → (List Int → H → Prop) → H → Prop) (a0 : Addr) (a1 : Int) (a2p : OA) (a2l : Nat) (a2c : Nat) (Q : List Int → Int → H → Prop) (h : H) : Prop := ∀ n8 h9, hnew h n8 (ints .u8 (zeros 32)) h9 → ∃ (o11 : Option Nat), hc h9 a0 = some (.map o11) ∧ ∃ (l12 : List (Value × DV)), ∃ (x13 : DV), ∃ (b14 : Bool), hmapO h9 o11 l12 ∧ mlook (.int .i64 a1) (DV.one (.slice none 0 0)) l12 = some (x13, b14) ∧ ∃ (o15 : OA), ∃ (n16 : Nat), ∃ (n17 : Nat), x13 = DV.one (.slice o15 n16 n17) ∧ if (!b14) = true then hcan h9 ⟨n8, 0, none⟩ 32 ∧ ∀ h18, h18 = hwr h9 ⟨n8, 0, none⟩ (ints .u8 (zeros 32)) → ∃ (l20 : List Int), l20.length = 32 ∧ hrow h18 ⟨n8, 0, none⟩ .u8 l20 ∧ Q l20 13 h18 else c0 o15 n16 n17 a2p a2l a2c (fun l21 h22 => hcan h22 ⟨n8, 0, none⟩ 32 ∧ ∀ h23, h23 = hwr h22 ⟨n8, 0, none⟩ (ints .u8 l21 ++ []) → ∃ (l25 : List Int), l25.length = 32 ∧ hrow h23 ⟨n8, 0, none⟩ .u8 l25 ∧ Q l25 0 h23) h9
theorem E_keys_Ring_Sign : ∀ c0 a0 a1 a2p a2l a2c Q h, G_keys_Ring_Sign c0 a0 a1 a2p a2l a2c Q h = Dbody PP [(103, W [.slc, .slc] [.ag [.row .u8 32]] c0)] [] Tryz.f128 [.addr a0, .one (.int .i64 a1), .one (.slice a2p a2l a2c)] (decR [.ag [.row .u8 32], .int .i64] Q) h := by intros; kernel_rfl
def F_keys_Ring_Sign := G_keys_Ring_Sign F_mac_Of
theorem R_keys_Ring_Sign : RunOk PP 128 (W [.addr, .int .i64, .slc] [.ag [.row .u8 32], .int .i64] F_keys_Ring_Sign) := runOk_of (TblOk.cons R_mac_Of (TblOk.nil)) Tryz.func128 (by kernel_rfl) (by kernel_rfl) (E_keys_Ring_Sign _)
attribute [irreducible] F_keys_Ring_Sign
def G_slices_Clone_int_int (a0p : OA) (a0l : Nat) (a0c : Nat) (Q : OA → Nat → Nat → H → Prop) (h : H) : Prop := if a0p.isNone = true then Q none 0 0 h else ∀ n5 h6, hnew h n5 [] h6 → ∃ (l8 : List Value), hsv h6 a0p 1 a0l l8 ∧ pApp h6 1 [.int .i64 0] 8 (some (Addr.mk n5 0 none)) 0 0 a0l l8 fun o9 n10 n11 h12 => Q o9 n10 n11 h12
theorem E_slices_Clone_int_int : ∀ a0p a0l a0c Q h, G_slices_Clone_int_int a0p a0l a0c Q h = Dbody PP [] [] Tryz.f156 [.one (.slice a0p a0l a0c)] (decR [.slc] Q) h := by intros; kernel_rfl
def F_slices_Clone_int_int := G_slices_Clone_int_int
theorem R_slices_Clone_int_int : RunOk PP 156 (W [.slc] [.slc] F_slices_Clone_int_int) := runOk_of (TblOk.nil) Tryz.func156 (by kernel_rfl) (by kernel_rfl) (E_slices_Clone_int_int)
attribute [irreducible] F_slices_Clone_int_int
def G_slices_Clone_bool_bool (a0p : OA) (a0l : Nat) (a0c : Nat) (Q : OA → Nat → Nat → H → Prop) (h : H) : Prop := if a0p.isNone = true then Q none 0 0 h else ∀ n5 h6, hnew h n5 [] h6 → ∃ (l8 : List Value), hsv h6 a0p 1 a0l l8 ∧ pApp h6 1 [.bool false] 1 (some (Addr.mk n5 0 none)) 0 0 a0l l8 fun o9 n10 n11 h12 => Q o9 n10 n11 h12
theorem E_slices_Clone_bool_bool : ∀ a0p a0l a0c Q h, G_slices_Clone_bool_bool a0p a0l a0c Q h = Dbody PP [] [] Tryz.f157 [.one (.slice a0p a0l a0c)] (decR [.slc] Q) h := by intros; kernel_rfl
def F_slices_Clone_bool_bool := G_slices_Clone_bool_bool
theorem R_slices_Clone_bool_bool : RunOk PP 157 (W [.slc] [.slc] F_slices_Clone_bool_bool) := runOk_of (TblOk.nil) Tryz.func157 (by kernel_rfl) (by kernel_rfl) (E_slices_Clone_bool_bool)
attribute [irreducible] F_slices_Clone_bool_bool
def G_slices_Clone_api_Cell_api_Cell (a0p : OA) (a0l : Nat) (a0c : Nat) (Q : OA → Nat → Nat → H → Prop) (h : H) : Prop := if a0p.isNone = true then Q none 0 0 h else ∀ n5 h6, hnew h n5 [] h6 → ∃ (l8 : List Value), hsv h6 a0p 32 a0l l8 ∧ pApp h6 32 (ints .u8 (zeros 32)) 32 (some (Addr.mk n5 0 none)) 0 0 a0l l8 fun o9 n10 n11 h12 => Q o9 n10 n11 h12
theorem E_slices_Clone_api_Cell_api_Cell : ∀ a0p a0l a0c Q h, G_slices_Clone_api_Cell_api_Cell a0p a0l a0c Q h = Dbody PP [] [] Tryz.f158 [.one (.slice a0p a0l a0c)] (decR [.slc] Q) h := by intros; kernel_rfl
def F_slices_Clone_api_Cell_api_Cell := G_slices_Clone_api_Cell_api_Cell
theorem R_slices_Clone_api_Cell_api_Cell : RunOk PP 158 (W [.slc] [.slc] F_slices_Clone_api_Cell_api_Cell) := runOk_of (TblOk.nil) Tryz.func158 (by kernel_rfl) (by kernel_rfl) (E_slices_Clone_api_Cell_api_Cell)
attribute [irreducible] F_slices_Clone_api_Cell_api_Cell
def G_chip_copied (c0 : OA → Nat → Nat → (OA → Nat → Nat → H → Prop) → H → Prop) (c1 : OA → Nat → Nat → (OA → Nat → Nat → H → Prop) → H → Prop) (c2 : OA → Nat → Nat → (OA → Nat → Nat → H → Prop) → H → Prop) (a0_0p : OA) (a0_0l : Nat) (a0_0c : Nat) (a0_1p : OA) (a0_1l : Nat) (a0_1c : Nat) (a0_2p : OA) (a0_2l : Nat) (a0_2c : Nat) (Q : OA → Nat → Nat → OA → Nat → Nat → OA → Nat → Nat → H → Prop) (h : H) : Prop := ∀ n14 h15, hnew h n14 [.slice a0_0p a0_0l a0_0c, .slice a0_1p a0_1l a0_1c, .slice a0_2p a0_2l a0_2c] h15 → ∀ n17 h18, hnew h15 n17 [.slice none 0 0, .slice none 0 0, .slice none 0 0] h18 → ∀ (J20 : JT), (∀ (p21 : Addr) (h22 : H), (∃ o23 n24 n25, hc h22 ⟨n14, 0, none⟩ = some (.slice o23 n24 n25) ∧ ∀ (J26 : JT), (∀ (i27 : Int) (h28 : H), (if ltI i27 n24 = true then ∃ p29, o23 = some p29 ∧ 0 ≤ i27 ∧ i27 < n24 ∧ ∃ o30 n31 n32, hc h28 (p29.add (i27.toNat * 1)) = some (.slice o30 n31 n32) ∧ ∃ o33 n34 n35, hc h28 p21 = some (.slice o33 n34 n35) ∧ c2 o30 n31 n32 (fun o36 n37 n38 h39 => hcs h39 p21 [.slice o33 n34 n35] ∧ ∀ n40 h41, hnew h39 n40 [.slice o36 n37 n38] h41 → hcs h41 p21 [.slice o33 n34 n35] ∧ ∃ (l43 : List Value), hsv h41 (some (Addr.mk n40 0 none)) 1 1 l43 ∧ pApp h41 1 [.slice none 0 0] 24 o33 n34 n35 1 l43 fun o44 n45 n46 h47 => hcan h47 p21 1 ∧ ∀ h48, h48 = hwr h47 p21 [.slice o44 n45 n46] → J26 [.dv (.one (.int .i64 (IntKind.i64.wrap (i27 + 1))))] h48) h28 else ∃ o50 n51 n52, hc h28 p21 = some (.slice o50 n51 n52) ∧ ∃ o53 n54 n55, hc h28 (p21.add 1) = some (.slice o53 n54 n55) ∧ ∃ o56 n57 n58, hc h28 (p21.add 2) = some (.slice o56 n57 n58) ∧ hcan h28 ⟨n17, 0, none⟩ 3 ∧ ∀ h59, h59 = hwr h28 ⟨n17, 0, none⟩ [.slice o50 n51 n52, .slice o53 n54 n55, .slice o56 n57 n58] → ∃ o61 n62 n63, hc h59 ⟨n17, 0, none⟩ = some (.slice o61 n62 n63) ∧ ∃ o64 n65 n66, hc h59 ⟨n17, 1, none⟩ = some (.slice o64 n65 n66) ∧ ∃ o67 n68 n69, hc h59 ⟨n17, 2, none⟩ = some (.slice o67 n68 n69) ∧ Q o61 n62 n63 o64 n65 n66 o67 n68 n69 h59) → J26 [.dv (.one (.int .i64 i27))] h28) → J26 [.dv (.one (.int .i64 0))] h22) → J20 [SV.dv (DV.addr p21)] h22) → ∃ o74 n75 n76, hc h18 ⟨n14, 1, none⟩ = some (.slice o74 n75 n76) ∧ ∃ o77 n78 n79, hc h18 ⟨n14, 2, none⟩ = some (.slice o77 n78 n79) ∧ c0 o74 n75 n76 (fun o80 n81 n82 h83 => hcs h83 ⟨n14, 2, none⟩ [.slice o77 n78 n79] ∧ c1 o77 n78 n79 (fun o84 n85 n86 h87 => ∀ n88 h89, hnew h87 n88 [.slice none 0 0, .slice none 0 0, .slice none 0 0] h89 → hcan h89 ⟨n88, 0, none⟩ 3 ∧ ∀ h91, h91 = hwr h89 ⟨n88, 0, none⟩ [.slice none 0 0, .slice o80 n81 n82, .slice o84 n85 n86] → J20 [SV.dv (DV.addr (Addr.mk n88 0 none))] h91) h83 ∧ ∀ n93 h94, hnew h83 n93 [.slice none 0 0, .slice none 0 0, .slice none 0 0] h94 → hcs h94 ⟨n14, 2, none⟩ [.slice o77 n78 n79] ∧ c1 o77 n78 n79 (fun o96 n97 n98 h99 => hcan h99 ⟨n93, 0, none⟩ 3 ∧ ∀ h100, h100 = hwr h99 ⟨n93, 0, none⟩ [.slice none 0 0, .slice o80 n81 n82, .slice o96 n97 n98] → J20 [SV.dv (DV.addr (Addr.mk n93 0 none))] h100) h94) h18 ∧ ∀ n102 h103, hnew h18 n102 [.slice none 0 0, .slice none 0 0, .slice none 0 0] h103 → hcs h103 ⟨n14, 2, none⟩ [.slice o77 n78 n79] ∧ hcs h103 ⟨n14, 1, none⟩ [.slice o74 n75 n76] ∧ c0 o74 n75 n76 (fun o105 n106 n107 h108 => hcs h108 ⟨n14, 2, none⟩ [.slice o77 n78 n79] ∧ c1 o77 n78 n79 (fun o109 n110 n111 h112 => hcan h112 ⟨n102, 0, none⟩ 3 ∧ ∀ h113, h113 = hwr h112 ⟨n102, 0, none⟩ [.slice none 0 0, .slice o105 n106 n107, .slice o109 n110 n111] → J20 [SV.dv (DV.addr (Addr.mk n102 0 none))] h113) h108) h103
theorem E_chip_copied : ∀ c0 c1 c2 a0_0p a0_0l a0_0c a0_1p a0_1l a0_1c a0_2p a0_2l a0_2c Q h, G_chip_copied c0 c1 c2 a0_0p a0_0l a0_0c a0_1p a0_1l a0_1c a0_2p a0_2l a0_2c Q h = Dbody PP [(156, W [.slc] [.slc] c0), (157, W [.slc] [.slc] c1), (158, W [.slc] [.slc] c2)] [(3, [(3, .addr)]), (58, [(16, .sc (.int .i64))])] Tryz.f82 [.agg [.c (.slice a0_0p a0_0l a0_0c), .c (.slice a0_1p a0_1l a0_1c), .c (.slice a0_2p a0_2l a0_2c)]] (decR [.ag [.slc, .slc, .slc]] Q) h := by intros; kernel_rfl
def F_chip_copied := G_chip_copied F_slices_Clone_int_int F_slices_Clone_bool_bool F_slices_Clone_api_Cell_api_Cell
theorem R_chip_copied : RunOk PP 82 (W [.ag [.slc, .slc, .slc]] [.ag [.slc, .slc, .slc]] F_chip_copied) := runOk_of (TblOk.cons R_slices_Clone_int_int (TblOk.cons R_slices_Clone_bool_bool (TblOk.cons R_slices_Clone_api_Cell_api_Cell (TblOk.nil)))) Tryz.func82 (by kernel_rfl) (by kernel_rfl) (E_chip_copied _ _ _)
attribute [irreducible] F_chip_copied
def G_chip_within (a0 : Int) (a1 : Int) (a2 : Int) (Q : Bool → H → Prop) (h : H) : Prop := if leI a1 a0 = true then Q (leI a0 a2) h else Q false h
theorem E_chip_within : ∀ a0 a1 a2 Q h, G_chip_within a0 a1 a2 Q h = Dbody PP [] [] Tryz.f194 [.one (.int .i64 a0), .one (.int .i64 a1), .one (.int .i64 a2)] (decR [.bool] Q) h := by intros; kernel_rfl
def F_chip_within := G_chip_within
theorem R_chip_within : RunOk PP 194 (W [.int .i64, .int .i64, .int .i64] [.bool] F_chip_within) := runOk_of (TblOk.nil) Tryz.func194 (by kernel_rfl) (by kernel_rfl) (E_chip_within)
attribute [irreducible] F_chip_within
def G_chip_May (c0 : Int → Int → Int → (Bool → H → Prop) → H → Prop) (a0_0 : Int) (a0_1 : Int) (a0_2 : Int) (a0_3 : Int) (a0_4 : Int) (a0_5 : Int) (a0_6 : Int) (Q : Int → H → Prop) (h : H) : Prop := ∀ n10 h11, hnew h n10 [.int .i64 a0_0, .int .i64 a0_1, .int .i64 a0_2, .int .i64 a0_3, .int .i64 a0_4, .int .i64 a0_5, .int .i64 a0_6] h11 → ∀ (J13 : JT), (∀ (b14 : Bool) (h15 : H), (if (!b14) = true then Q 1 h15 else Q 0 h15) → J13 [.dv (.one (.bool b14))] h15) → ∃ i18, hc h11 ⟨n10, 1, none⟩ = some (.int .i64 i18) ∧ c0 i18 1 8 (fun b19 h20 => if b19 = true then ∃ i21, hc h20 ⟨n10, 0, none⟩ = some (.int .i64 i21) ∧ ∃ i22, hc h20 ⟨n10, 1, none⟩ = some (.int .i64 i22) ∧ c0 i21 (IntKind.i64.wrap (i22 + 3)) 256 (fun b23 h24 => if b23 = true then ∃ i25, hc h24 ⟨n10, 2, none⟩ = some (.int .i64 i25) ∧ c0 i25 1 64 (fun b26 h27 => if b26 = true then ∃ i28, hc h27 ⟨n10, 3, none⟩ = some (.int .i64 i28) ∧ c0 i28 1 65536 (fun b29 h30 => if b29 = true then ∃ i31, hc h30 ⟨n10, 4, none⟩ = some (.int .i64 i31) ∧ c0 i31 1 64 (fun b32 h33 => if b32 = true then ∃ i34, hc h33 ⟨n10, 5, none⟩ = some (.int .i64 i34) ∧ c0 i34 0 65536 (fun b35 h36 => if b35 = true then ∃ i37, hc h36 ⟨n10, 6, none⟩ = some (.int .i64 i37) ∧ c0 i37 0 64 (fun b38 h39 => J13 [.dv (.one (.bool b38))] h39) h36 else J13 [.dv (.one (.bool false))] h36) h33 else J13 [.dv (.one (.bool false))] h33) h30 else J13 [.dv (.one (.bool false))] h30) h27 else J13 [.dv (.one (.bool false))] h27) h24 else J13 [.dv (.one (.bool false))] h24) h20 else J13 [.dv (.one (.bool false))] h20) h11
theorem E_chip_May : ∀ c0 a0_0 a0_1 a0_2 a0_3 a0_4 a0_5 a0_6 Q h, G_chip_May c0 a0_0 a0_1 a0_2 a0_3 a0_4 a0_5 a0_6 Q h = Dbody PP [(194, W [.int .i64, .int .i64, .int .i64] [.bool] c0)] [(3, [(3, .sc (.bool))])] Tryz.f133 [.agg [.c (.int .i64 a0_0), .c (.int .i64 a0_1), .c (.int .i64 a0_2), .c (.int .i64 a0_3), .c (.int .i64 a0_4), .c (.int .i64 a0_5), .c (.int .i64 a0_6)]] (decR [.int .i64] Q) h := by intros; kernel_rfl
def F_chip_May := G_chip_May F_chip_within
theorem R_chip_May : RunOk PP 133 (W [.ag [.int .i64, .int .i64, .int .i64, .int .i64, .int .i64, .int .i64, .int .i64]] [.int .i64] F_chip_May) := runOk_of (TblOk.cons R_chip_within (TblOk.nil)) Tryz.func133 (by kernel_rfl) (by kernel_rfl) (E_chip_May _)
attribute [irreducible] F_chip_May
def G_chip_pages (a0_0 : Int) (a0_1 : Int) (a0_2 : Int) (a0_3 : Int) (a0_4 : Int) (a0_5 : Int) (a0_6 : Int) (Q : Int → H → Prop) (h : H) : Prop := ∀ n9 h10, hnew h n9 [.int .i64 a0_0, .int .i64 a0_1, .int .i64 a0_2, .int .i64 a0_3, .int .i64 a0_4, .int .i64 a0_5, .int .i64 a0_6] h10 → ∃ i12, hc h10 ⟨n9, 6, none⟩ = some (.int .i64 i12) ∧ Q (IntKind.i64.wrap (2 + IntKind.i64.wrap (2 * i12))) h10
theorem E_chip_pages : ∀ a0_0 a0_1 a0_2 a0_3 a0_4 a0_5 a0_6 Q h, G_chip_pages a0_0 a0_1 a0_2 a0_3 a0_4 a0_5 a0_6 Q h = Dbody PP [] [] Tryz.f134 [.agg [.c (.int .i64 a0_0), .c (.int .i64 a0_1), .c (.int .i64 a0_2), .c (.int .i64 a0_3), .c (.int .i64 a0_4), .c (.int .i64 a0_5), .c (.int .i64 a0_6)]] (decR [.int .i64] Q) h := by intros; kernel_rfl
def F_chip_pages := G_chip_pages
theorem R_chip_pages : RunOk PP 134 (W [.ag [.int .i64, .int .i64, .int .i64, .int .i64, .int .i64, .int .i64, .int .i64]] [.int .i64] F_chip_pages) := runOk_of (TblOk.nil) Tryz.func134 (by kernel_rfl) (by kernel_rfl) (E_chip_pages)
attribute [irreducible] F_chip_pages
def G_chip_fuses (a0_0 : Int) (a0_1 : Int) (a0_2 : Int) (a0_3 : Int) (a0_4 : Int) (a0_5 : Int) (a0_6 : Int) (Q : Int → H → Prop) (h : H) : Prop := ∀ n9 h10, hnew h n9 [.int .i64 a0_0, .int .i64 a0_1, .int .i64 a0_2, .int .i64 a0_3, .int .i64 a0_4, .int .i64 a0_5, .int .i64 a0_6] h10 → ∃ i12, hc h10 ⟨n9, 1, none⟩ = some (.int .i64 i12) ∧ ∃ i13, hc h10 ⟨n9, 2, none⟩ = some (.int .i64 i13) ∧ ∃ i14, hc h10 ⟨n9, 4, none⟩ = some (.int .i64 i14) ∧ Q (IntKind.i64.wrap (IntKind.i64.wrap (i12 * i13) + i14)) h10
theorem E_chip_fuses : ∀ a0_0 a0_1 a0_2 a0_3 a0_4 a0_5 a0_6 Q h, G_chip_fuses a0_0 a0_1 a0_2 a0_3 a0_4 a0_5 a0_6 Q h = Dbody PP [] [] Tryz.f135 [.agg [.c (.int .i64 a0_0), .c (.int .i64 a0_1), .c (.int .i64 a0_2), .c (.int .i64 a0_3), .c (.int .i64 a0_4), .c (.int .i64 a0_5), .c (.int .i64 a0_6)]] (decR [.int .i64] Q) h := by intros; kernel_rfl
def F_chip_fuses := G_chip_fuses
theorem R_chip_fuses : RunOk PP 135 (W [.ag [.int .i64, .int .i64, .int .i64, .int .i64, .int .i64, .int .i64, .int .i64]] [.int .i64] F_chip_fuses) := runOk_of (TblOk.nil) Tryz.func135 (by kernel_rfl) (by kernel_rfl) (E_chip_fuses)
attribute [irreducible] F_chip_fuses
def G_slices_IndexFunc_api_Cell_api_Cell (a0p : OA) (a0l : Nat) (a0c : Nat) (a1 : Value) (Q : Int → H → Prop) (h : H) : Prop := ∀ (J6 : JT), (∀ (i7 : Int) (h8 : H), (if ltI i7 a0l = true then ∃ p9, a0p = some p9 ∧ 0 ≤ i7 ∧ i7 < a0l ∧ ∃ o10 n11 n12, hc h8 (p9.add (i7.toNat * 1)) = some (.slice o10 n11 n12) ∧ callFn PP a1 [DV.one (.slice o10 n11 n12)] (fun l13 h14 => ∃ (x15 : DV), ∃ (l16 : List DV), l13 = x15 :: l16 ∧ ∃ (b17 : Bool), x15 = DV.one (.bool b17) ∧ l16 = [] ∧ if b17 = true then Q i7 h14 else J6 [.dv (.one (.int .i64 (IntKind.i64.wrap (i7 + 1))))] h14) h8 else Q (-1) h8) → J6 [.dv (.one (.int .i64 i7))] h8) → J6 [.dv (.one (.int .i64 0))] h
theorem E_slices_IndexFunc_api_Cell_api_Cell : ∀ a0p a0l a0c a1 Q h, G_slices_IndexFunc_api_Cell_api_Cell a0p a0l a0c a1 Q h = Dbody PP [] [(26, [(8, .sc (.int .i64))])] Tryz.f195 [.one (.slice a0p a0l a0c), .fnv a1] (decR [.int .i64] Q) h := by intros; kernel_rfl
def F_slices_IndexFunc_api_Cell_api_Cell := G_slices_IndexFunc_api_Cell_api_Cell
theorem R_slices_IndexFunc_api_Cell_api_Cell : RunOk PP 195 (W [.slc, .fn] [.int .i64] F_slices_IndexFunc_api_Cell_api_Cell) := runOk_of (TblOk.nil) Tryz.func195 (by kernel_rfl) (by kernel_rfl) (E_slices_IndexFunc_api_Cell_api_Cell)
attribute [irreducible] F_slices_IndexFunc_api_Cell_api_Cell
def G_slices_ContainsFunc_api_Cell_api_Cell (c0 : OA → Nat → Nat → Value → (Int → H → Prop) → H → Prop) (a0p : OA) (a0l : Nat) (a0c : Nat) (a1 : Value) (Q : Bool → H → Prop) (h : H) : Prop := c0 a0p a0l a0c a1 (fun i7 h8 => Q (leI 0 i7) h8) h
theorem E_slices_ContainsFunc_api_Cell_api_Cell : ∀ c0 a0p a0l a0c a1 Q h, G_slices_ContainsFunc_api_Cell_api_Cell c0 a0p a0l a0c a1 Q h = Dbody PP [(195, W [.slc, .fn] [.int .i64] c0)] [] Tryz.f136 [.one (.slice a0p a0l a0c), .fnv a1] (decR [.bool] Q) h := by intros; kernel_rfl
def F_slices_ContainsFunc_api_Cell_api_Cell := G_slices_ContainsFunc_api_Cell_api_Cell F_slices_IndexFunc_api_Cell_api_Cell
theorem R_slices_ContainsFunc_api_Cell_api_Cell : RunOk PP 136 (W [.slc, .fn] [.bool] F_slices_ContainsFunc_api_Cell_api_Cell) := runOk_of (TblOk.cons R_slices_IndexFunc_api_Cell_api_Cell (TblOk.nil)) Tryz.func136 (by kernel_rfl) (by kernel_rfl) (E_slices_ContainsFunc_api_Cell_api_Cell _)
attribute [irreducible] F_slices_ContainsFunc_api_Cell_api_Cell
def G_slices_IndexFunc_int_int (a0p : OA) (a0l : Nat) (a0c : Nat) (a1 : Value) (Q : Int → H → Prop) (h : H) : Prop := ∀ (J6 : JT), (∀ (i7 : Int) (h8 : H), (if ltI i7 a0l = true then ∃ p9, a0p = some p9 ∧ 0 ≤ i7 ∧ i7 < a0l ∧ ∃ i10, hc h8 (p9.add (i7.toNat * 1)) = some (.int .i64 i10) ∧ callFn PP a1 [DV.one (.int .i64 i10)] (fun l11 h12 => ∃ (x13 : DV), ∃ (l14 : List DV), l11 = x13 :: l14 ∧ ∃ (b15 : Bool), x13 = DV.one (.bool b15) ∧ l14 = [] ∧ if b15 = true then Q i7 h12 else J6 [.dv (.one (.int .i64 (IntKind.i64.wrap (i7 + 1))))] h12) h8 else Q (-1) h8) → J6 [.dv (.one (.int .i64 i7))] h8) → J6 [.dv (.one (.int .i64 0))] h
theorem E_slices_IndexFunc_int_int : ∀ a0p a0l a0c a1 Q h, G_slices_IndexFunc_int_int a0p a0l a0c a1 Q h = Dbody PP [] [(26, [(8, .sc (.int .i64))])] Tryz.f196 [.one (.slice a0p a0l a0c), .fnv a1] (decR [.int .i64] Q) h := by intros; kernel_rfl
def F_slices_IndexFunc_int_int := G_slices_IndexFunc_int_int
theorem R_slices_IndexFunc_int_int : RunOk PP 196 (W [.slc, .fn] [.int .i64] F_slices_IndexFunc_int_int) := runOk_of (TblOk.nil) Tryz.func196 (by kernel_rfl) (by kernel_rfl) (E_slices_IndexFunc_int_int)
attribute [irreducible] F_slices_IndexFunc_int_int
def G_slices_ContainsFunc_int_int (c0 : OA → Nat → Nat → Value → (Int → H → Prop) → H → Prop) (a0p : OA) (a0l : Nat) (a0c : Nat) (a1 : Value) (Q : Bool → H → Prop) (h : H) : Prop := c0 a0p a0l a0c a1 (fun i7 h8 => Q (leI 0 i7) h8) h
theorem E_slices_ContainsFunc_int_int : ∀ c0 a0p a0l a0c a1 Q h, G_slices_ContainsFunc_int_int c0 a0p a0l a0c a1 Q h = Dbody PP [(196, W [.slc, .fn] [.int .i64] c0)] [] Tryz.f138 [.one (.slice a0p a0l a0c), .fnv a1] (decR [.bool] Q) h := by intros; kernel_rfl
def F_slices_ContainsFunc_int_int := G_slices_ContainsFunc_int_int F_slices_IndexFunc_int_int
theorem R_slices_ContainsFunc_int_int : RunOk PP 138 (W [.slc, .fn] [.bool] F_slices_ContainsFunc_int_int) := runOk_of (TblOk.cons R_slices_IndexFunc_int_int (TblOk.nil)) Tryz.func138 (by kernel_rfl) (by kernel_rfl) (E_slices_ContainsFunc_int_int _)
attribute [irreducible] F_slices_ContainsFunc_int_int
def G_chip_Lay (c0 : OA → Nat → Nat → OA → Nat → Nat → OA → Nat → Nat → (OA → Nat → Nat → OA → Nat → Nat → OA → Nat → Nat → H → Prop) → H → Prop) (c1 : Int → Int → Int → Int → Int → Int → Int → (Int → H → Prop) → H → Prop) (c2 : Int → Int → Int → Int → Int → Int → Int → (Int → H → Prop) → H → Prop) (c3 : Int → Int → Int → Int → Int → Int → Int → (Int → H → Prop) → H → Prop) (c4 : OA → Nat → Nat → Value → (Bool → H → Prop) → H → Prop) (c5 : OA → Nat → Nat → Value → (Bool → H → Prop) → H → Prop) (a0_0 : Int) (a0_1 : Int) (a0_2 : Int) (a0_3 : Int) (a0_4 : Int) (a0_5 : Int) (a0_6 : Int) (a1_0p : OA) (a1_0l : Nat) (a1_0c : Nat) (a1_1p : OA) (a1_1l : Nat) (a1_1c : Nat) (a1_2p : OA) (a1_2l : Nat) (a1_2c : Nat) (Q : OA → Int → H → Prop) (h : H) : Prop := ∀ n24 h25, hnew h n24 [.int .i64 a0_0, .int .i64 a0_1, .int .i64 a0_2, .int .i64 a0_3, .int .i64 a0_4, .int .i64 a0_5, .int .i64 a0_6] h25 → ∀ n27 h28, hnew h25 n27 [.slice a1_0p a1_0l a1_0c, .slice a1_1p a1_1l a1_1c, .slice a1_2p a1_2l a1_2c] h28 → ∃ i30, hc h28 ⟨n24, 0, none⟩ = some (.int .i64 i30) ∧ ∃ i31, hc h28 ⟨n24, 1, none⟩ = some (.int .i64 i31) ∧ ∃ i32, hc h28 ⟨n24, 2, none⟩ = some (.int .i64 i32) ∧ ∃ i33, hc h28 ⟨n24, 3, none⟩ = some (.int .i64 i33) ∧ ∃ i34, hc h28 ⟨n24, 4, none⟩ = some (.int .i64 i34) ∧ ∃ i35, hc h28 ⟨n24, 5, none⟩ = some (.int .i64 i35) ∧ ∃ i36, hc h28 ⟨n24, 6, none⟩ = some (.int .i64 i36) ∧ c1 i30 i31 i32 i33 i34 i35 i36 (fun i37 h38 => if (i37 != 0) = true then Q none i37 h38 else ∀ (J39 : JT), (∀ (b40 : Bool) (h41 : H), (if b40 = true then Q none 5 h41 else ∃ i42, hc h41 ⟨n24, 0, none⟩ = some (.int .i64 i42) ∧ ∃ i43, hc h41 ⟨n24, 1, none⟩ = some (.int .i64 i43) ∧ ∃ i44, hc h41 ⟨n24, 2, none⟩ = some (.int .i64 i44) ∧ ∃ i45, hc h41 ⟨n24, 3, none⟩ = some (.int .i64 i45) ∧ ∃ i46, hc h41 ⟨n24, 4, none⟩ = some (.int .i64 i46) ∧ ∃ i47, hc h41 ⟨n24, 5, none⟩ = some (.int .i64 i47) ∧ ∃ i48, hc h41 ⟨n24, 6, none⟩ = some (.int .i64 i48) ∧ ∃ o49 n50 n51, hc h41 ⟨n27, 0, none⟩ = some (.slice o49 n50 n51) ∧ ∃ o52 n53 n54, hc h41 ⟨n27, 1, none⟩ = some (.slice o52 n53 n54) ∧ ∃ o55 n56 n57, hc h41 ⟨n27, 2, none⟩ = some (.slice o55 n56 n57) ∧ c0 o49 n50 n51 o52 n53 n54 o55 n56 n57 (fun o58 n59 n60 o61 n62 n63 o64 n65 n66 h67 => hcs h67 ⟨n24, 0, none⟩ [.int .i64 i42, .int .i64 i43, .int .i64 i44, .int .i64 i45, .int .i64 i46, .int .i64 i47, .int .i64 i48] ∧ ∀ n68 h69, hnew h67 n68 [.int .i64 i42, .int .i64 i43, .int .i64 i44, .int .i64 i45, .int .i64 i46, .int .i64 i47, .int .i64 i48, .slice o58 n59 n60, .slice o61 n62 n63, .slice o64 n65 n66, .int .i64 0, .bool false, .int .i64 (-1), .slice none 0 0] h69 → Q (some (Addr.mk n68 0 none)) 0 h69) h41) → J39 [.dv (.one (.bool b40))] h41) → ∃ o73 n74 n75, hc h38 ⟨n27, 0, none⟩ = some (.slice o73 n74 n75) ∧ ∃ i76, hc h38 ⟨n24, 0, none⟩ = some (.int .i64 i76) ∧ ∃ i77, hc h38 ⟨n24, 1, none⟩ = some (.int .i64 i77) ∧ ∃ i78, hc h38 ⟨n24, 2, none⟩ = some (.int .i64 i78) ∧ ∃ i79, hc h38 ⟨n24, 3, none⟩ = some (.int .i64 i79) ∧ ∃ i80, hc h38 ⟨n24, 4, none⟩ = some (.int .i64 i80) ∧ ∃ i81, hc h38 ⟨n24, 5, none⟩ = some (.int .i64 i81) ∧ ∃ i82, hc h38 ⟨n24, 6, none⟩ = some (.int .i64 i82) ∧ c2 i76 i77 i78 i79 i80 i81 i82 (fun i83 h84 => hcs h84 ⟨n27, 0, none⟩ [.slice o73 n74 n75] ∧ if ((↑n74 : Int) != i83) = true then J39 [.dv (.one (.bool true))] h84 else ∃ o85 n86 n87, hc h84 ⟨n27, 1, none⟩ = some (.slice o85 n86 n87) ∧ ∃ i88, hc h84 ⟨n24, 0, none⟩ = some (.int .i64 i88) ∧ ∃ i89, hc h84 ⟨n24, 1, none⟩ = some (.int .i64 i89) ∧ ∃ i90, hc h84 ⟨n24, 2, none⟩ = some (.int .i64 i90) ∧ ∃ i91, hc h84 ⟨n24, 3, none⟩ = some (.int .i64 i91) ∧ ∃ i92, hc h84 ⟨n24, 4, none⟩ = some (.int .i64 i92) ∧ ∃ i93, hc h84 ⟨n24, 5, none⟩ = some (.int .i64 i93) ∧ ∃ i94, hc h84 ⟨n24, 6, none⟩ = some (.int .i64 i94) ∧ c2 i88 i89 i90 i91 i92 i93 i94 (fun i95 h96 => hcs h96 ⟨n27, 1, none⟩ [.slice o85 n86 n87] ∧ if ((↑n86 : Int) != i95) = true then J39 [.dv (.one (.bool true))] h96 else ∃ o97 n98 n99, hc h96 ⟨n27, 2, none⟩ = some (.slice o97 n98 n99) ∧ ∃ i100, hc h96 ⟨n24, 0, none⟩ = some (.int .i64 i100) ∧ ∃ i101, hc h96 ⟨n24, 1, none⟩ = some (.int .i64 i101) ∧ ∃ i102, hc h96 ⟨n24, 2, none⟩ = some (.int .i64 i102) ∧ ∃ i103, hc h96 ⟨n24, 3, none⟩ = some (.int .i64 i103) ∧ ∃ i104, hc h96 ⟨n24, 4, none⟩ = some (.int .i64 i104) ∧ ∃ i105, hc h96 ⟨n24, 5, none⟩ = some (.int .i64 i105) ∧ ∃ i106, hc h96 ⟨n24, 6, none⟩ = some (.int .i64 i106) ∧ c3 i100 i101 i102 i103 i104 i105 i106 (fun i107 h108 => hcs h108 ⟨n27, 2, none⟩ [.slice o97 n98 n99] ∧ if ((↑n98 : Int) != i107) = true then J39 [.dv (.one (.bool true))] h108 else ∃ o109 n110 n111, hc h108 ⟨n27, 0, none⟩ = some (.slice o109 n110 n111) ∧ c4 o109 n110 n111 (.func (Fn.func id_chip_Lay_1) (Array.mk []) (Array.mk [.pointer (some (Addr.mk n24 0 none))])) (fun b112 h113 => if b112 = true then J39 [.dv (.one (.bool true))] h113 else ∃ o114 n115 n116, hc h113 ⟨n27, 1, none⟩ = some (.slice o114 n115 n116) ∧ c5 o114 n115 n116 (.func (Fn.func id_chip_Lay_2) (Array.mk []) (Array.mk [])) (fun b117 h118 => J39 [.dv (.one (.bool b117))] h118) h113) h108) h96) h84) h38) h28
theorem E_chip_Lay : ∀ c0 c1 c2 c3 c4 c5 a0_0 a0_1 a0_2 a0_3 a0_4 a0_5 a0_6 a1_0p a1_0l a1_0c a1_1p a1_1l a1_1c a1_2p a1_2l a1_2c Q h, G_chip_Lay c0 c1 c2 c3 c4 c5 a0_0 a0_1 a0_2 a0_3 a0_4 a0_5 a0_6 a1_0p a1_0l a1_0c a1_1p a1_1l a1_1c a1_2p a1_2l a1_2c Q h = Dbody PP [(82, W [.ag [.slc, .slc, .slc]] [.ag [.slc, .slc, .slc]] c0), (133, W [.ag [.int .i64, .int .i64, .int .i64, .int .i64, .int .i64, .int .i64, .int .i64]] [.int .i64] c1), (134, W [.ag [.int .i64, .int .i64, .int .i64, .int .i64, .int .i64, .int .i64, .int .i64]] [.int .i64] c2), (135, W [.ag [.int .i64, .int .i64, .int .i64, .int .i64, .int .i64, .int .i64, .int .i64]] [.int .i64] c3), (136, W [.slc, .fn] [.bool] c4), (138, W [.slc, .fn] [.bool] c5)] [(7, [(7, .sc (.bool))])] Tryz.f60 [.agg [.c (.int .i64 a0_0), .c (.int .i64 a0_1), .c (.int .i64 a0_2), .c (.int .i64 a0_3), .c (.int .i64 a0_4), .c (.int .i64 a0_5), .c (.int .i64 a0_6)], .agg [.c (.slice a1_0p a1_0l a1_0c), .c (.slice a1_1p a1_1l a1_1c), .c (.slice a1_2p a1_2l a1_2c)]] (decR [.ptr, .int .i64] Q) h := by intros; kernel_rfl
def F_chip_Lay := G_chip_Lay F_chip_copied F_chip_May F_chip_pages F_chip_fuses F_slices_ContainsFunc_api_Cell_api_Cell F_slices_ContainsFunc_int_int
theorem R_chip_Lay : RunOk PP 60 (W [.ag [.int .i64, .int .i64, .int .i64, .int .i64, .int .i64, .int .i64, .int .i64], .ag [.slc, .slc, .slc]] [.ptr, .int .i64] F_chip_Lay) := runOk_of (TblOk.cons R_chip_copied (TblOk.cons R_chip_May (TblOk.cons R_chip_pages (TblOk.cons R_chip_fuses (TblOk.cons R_slices_ContainsFunc_api_Cell_api_Cell (TblOk.cons R_slices_ContainsFunc_int_int (TblOk.nil))))))) Tryz.func60 (by kernel_rfl) (by kernel_rfl) (E_chip_Lay _ _ _ _ _ _)
attribute [irreducible] F_chip_Lay
end Go.Proofs.YtaglicdidpgkpaaGreatDoor
end
