/- RomGate: what is proved and its parts, laid together by a program of ours: Fa0 Eac Eat Ean Eis Eir F -/
import Derived.LaidEql
import Derived.Lib.IfaceEq
import Derived.RowKitTokens
import Derived.Stop.Asserts
import Derived.Test.YteedolonhdbieaaGreatDoorProg
import Derived.WalkKit
import Derived.Test.YteedolonhdbieaaGreatDoorK2
set_option autoImplicit false
set_option linter.all false
/- The denotations of some functions of the program, printed by a program of ours (wip/tools/vcgen.py), and that they are the model's. -/
section
set_option linter.unusedVariables false
set_option maxRecDepth 100000
namespace Go.Proofs.YteedolonhdbieaaGreatDoor
open Go Go.Vc
abbrev id_main_main : Nat := 0
abbrev id_gosem_cut : Nat := 1
abbrev id_gosem_cut_init : Nat := 2
abbrev id_portcullislaw26_StreamPieces : Nat := 3
abbrev id_portcullislaw17_RomGate : Nat := 4
abbrev id_portcullislaw26_StreamDoes : Nat := 5
abbrev id_portcullislaw15_LoaderWhole : Nat := 6
abbrev id_portcullislaw15_LoaderDoes : Nat := 7
abbrev id_portcullislaw17_RomDoes : Nat := 8
abbrev id_portcullislaw26_fixed : Nat := 9
abbrev id_portcullislaw26_begun : Nat := 10
abbrev id_store_Store_Revoke : Nat := 11
abbrev id_gate_Check : Nat := 12
abbrev id_image_Parse : Nat := 13
abbrev id_portcullislaw26_cut : Nat := 14
abbrev id_stream_Gate_Write : Nat := 15
abbrev id_portcullisref11_Parse : Nat := 16
abbrev id_stream_Gate_Sum : Nat := 17
abbrev id_stream_Gate_Digest : Nat := 18
abbrev id_sha_Of : Nat := 19
abbrev id_portcullislaw17_awake : Nat := 20
abbrev id_portcullisref12_New : Nat := 21
abbrev id_chip_New : Nat := 22
abbrev id_portcullisref04_May : Nat := 23
abbrev id_rom_Mount : Nat := 24
abbrev id_store_Store_BumpTo : Nat := 25
abbrev id_chip_Chip_Acts : Nat := 26
abbrev id_rom_Rom_Boot : Nat := 27
abbrev id_portcullislaw17_gate : Nat := 28
abbrev id_portcullisref11_Same : Nat := 29
abbrev id_portcullisref11_Tagged : Nat := 30
abbrev id_portcullislaw26_many : Nat := 31
abbrev id_portcullislaw26_world_step : Nat := 32
abbrev id_portcullisref04_SameState : Nat := 33
abbrev id_chip_Chip_State : Nat := 34
abbrev id_portcullislaw26_pair_sum : Nat := 35
abbrev id_portcullisref26_Gate_Digest : Nat := 36
abbrev id_portcullislaw15_awake : Nat := 37
abbrev id_portcullislaw15_begun : Nat := 38
abbrev id_chip_Chip_Cut : Nat := 39
abbrev id_loader_Loader_Start : Nat := 40
abbrev id_loader_Loader_Stage : Nat := 41
abbrev id_chip_Chip_Out : Nat := 42
abbrev id_chip_Chip_Restore : Nat := 43
abbrev id_portcullislaw15_world_mounted : Nat := 44
abbrev id_portcullislaw15_seen_other : Nat := 45
abbrev id_portcullislaw15_seen_has : Nat := 46
abbrev id_portcullislaw15_world_step : Nat := 47
abbrev id_portcullislaw15_world_alike : Nat := 48
abbrev id_portcullisref04_Lay : Nat := 49
abbrev id_portcullisref04_New : Nat := 50
abbrev id_chip_Lay : Nat := 51
abbrev id_portcullisref04_CopyState : Nat := 52
abbrev id_portcullislaw17_world_mounted : Nat := 53
abbrev id_portcullislaw17_world_step : Nat := 54
abbrev id_portcullislaw17_world_events : Nat := 55
abbrev id_portcullislaw26_small : Nat := 56
abbrev id_portcullislaw26_secrets : Nat := 57
abbrev id_portcullisref11_Make : Nat := 58
abbrev id_keys_New : Nat := 59
abbrev id_store_Mount : Nat := 60
abbrev id_stream_New : Nat := 61
abbrev id_store_Store_asked : Nat := 62
abbrev id_chip_Chip_Config : Nat := 63
abbrev id_fuse_Revoke : Nat := 64
abbrev id_gate_Check_1 : Nat := 65
abbrev id_store_Store_Active : Nat := 66
abbrev id_gate_Check_2 : Nat := 67
abbrev id_errors_As : Nat := 68
abbrev id_gate_Check_3 : Nat := 69
abbrev id_store_Store_Read : Nat := 70
abbrev id_gate_Check_4 : Nat := 71
abbrev id_store_Store_Revoked : Nat := 72
abbrev id_keys_Ring_Has : Nat := 73
abbrev id_gate_Check_5 : Nat := 74
abbrev id_keys_Ring_Check : Nat := 75
abbrev id_image_Body : Nat := 76
abbrev id_gate_Check_6 : Nat := 77
abbrev id_store_Store_Last : Nat := 78
abbrev id_image_may : Nat := 79
abbrev id_image_number : Nat := 80
abbrev id_sha_Digest_Write : Nat := 81
abbrev id_stream_Gate_tells : Nat := 82
abbrev id_portcullisref11_must : Nat := 83
abbrev id_portcullisref11_number : Nat := 84
abbrev id_sha_Digest_Sum : Nat := 85
abbrev id_sha_New : Nat := 86
abbrev id_rom_Rom_Confirm : Nat := 87
abbrev id_rom_Rom_Events : Nat := 88
abbrev id_portcullisref12_Ring_Has : Nat := 89
abbrev id_chip_May : Nat := 90
abbrev id_chip_pages : Nat := 91
abbrev id_chip_fuses : Nat := 92
abbrev id_slices_Repeat_api_Cell_api_Cell : Nat := 93
abbrev id_chip_blank : Nat := 94
abbrev id_portcullisref04_within : Nat := 95
abbrev id_loader_New : Nat := 96
abbrev id_chain_New : Nat := 97
abbrev id_bytes_Clone : Nat := 98
abbrev id_store_Store_BumpTo_1 : Nat := 99
abbrev id_log_Log_Lay : Nat := 100
abbrev id_fuse_Raise : Nat := 101
abbrev id_rom_Rom_begun : Nat := 102
abbrev id_rom_Rom_tried : Nat := 103
abbrev id_portcullisref12_Ring_Check : Nat := 104
abbrev id_portcullisref11_Body : Nat := 105
abbrev id_portcullisref10_Last : Nat := 106
abbrev id_portcullisref11_Cover : Nat := 107
abbrev id_portcullislaw26_pair_write : Nat := 108
abbrev id_stream_Gate_Reset : Nat := 109
abbrev id_portcullisref10_BumpTo : Nat := 110
abbrev id_portcullisref10_Revoke : Nat := 111
abbrev id_portcullisref04_Chip_Cut : Nat := 112
abbrev id_portcullisref04_Chip_Restore : Nat := 113
abbrev id_chip_copied : Nat := 114
abbrev id_portcullisref26_Gate_Sum : Nat := 115
abbrev id_portcullisref02_Of : Nat := 116
abbrev id_portcullislaw15_secrets : Nat := 117
abbrev id_slices_Clone_byte_byte : Nat := 118
abbrev id_loader_areas : Nat := 119
abbrev id_loader_Loader_holds : Nat := 120
abbrev id_area_Size : Nat := 121
abbrev id_area_Worn : Nat := 122
abbrev id_loader_Loader_lays : Nat := 123
abbrev id_area_Write : Nat := 124
abbrev id_store_Store_Activate : Nat := 125
abbrev id_portcullislaw15_below : Nat := 126
abbrev id_portcullislaw15_world_start : Nat := 127
abbrev id_portcullislaw15_world_stage : Nat := 128
abbrev id_portcullisref04_Fits : Nat := 129
abbrev id_portcullisref04_fresh : Nat := 130
abbrev id_slices_ContainsFunc_api_Cell_api_Cell : Nat := 131
abbrev id_chip_Lay_1 : Nat := 132
abbrev id_slices_ContainsFunc_int_int : Nat := 133
abbrev id_chip_Lay_2 : Nat := 134
abbrev id_portcullisref17_Mount : Nat := 135
abbrev id_portcullislaw17_world_counts : Nat := 136
abbrev id_portcullislaw17_wide : Nat := 137
abbrev id_portcullislaw17_world_images : Nat := 138
abbrev id_portcullislaw17_kept : Nat := 139
abbrev id_portcullisref11_May : Nat := 140
abbrev id_portcullisref03_Of : Nat := 141
abbrev id_log_Mount : Nat := 142
abbrev id_fuse_Revoked : Nat := 143
abbrev id_chip_Chip_Blow : Nat := 144
abbrev id_fuse_of : Nat := 145
abbrev id_log_Log_Number : Nat := 146
abbrev id_internal_reflectlite_ValueOf : Nat := 147
abbrev id_internal_reflectlite_Value_Type : Nat := 148
abbrev id_internal_reflectlite_Value_IsNil : Nat := 149
abbrev id_errors_as : Nat := 150
abbrev id_fuse_Count : Nat := 151
abbrev id_keys_Ring_Sign : Nat := 152
abbrev id_mac_Equal : Nat := 153
abbrev id_sha_Digest_take : Nat := 154
abbrev id_errors_Is : Nat := 155
abbrev id_stream_Gate_slot : Nat := 156
abbrev id_stream_Gate_key : Nat := 157
abbrev id_sha_Digest_Copy : Nat := 158
abbrev id_sha_start : Nat := 159
abbrev id_sha_rounds : Nat := 160
abbrev id_chain_Log_Events : Nat := 161
abbrev id_portcullisref12_Ring_find : Nat := 162
abbrev id_chip_within : Nat := 163
abbrev id_math_bits_Mul : Nat := 164
abbrev id_log_Log_look : Nat := 165
abbrev id_log_Log_slot : Nat := 166
abbrev id_log_found_info : Nat := 167
abbrev id_cell_Value : Nat := 168
abbrev id_chip_Chip_Program : Nat := 169
abbrev id_log_Log_worn : Nat := 170
abbrev id_log_Log_turn : Nat := 171
abbrev id_fuse_asked : Nat := 172
abbrev id_fuse_row : Nat := 173
abbrev id_chain_Log_Add : Nat := 174
abbrev id_portcullisref12_Ring_Sign : Nat := 175
abbrev id_portcullisref11_four : Nat := 176
abbrev id_portcullislaw26_lent : Nat := 177
abbrev id_portcullisref26_Gate_Write : Nat := 178
abbrev id_portcullisref10_Read : Nat := 179
abbrev id_portcullisref09_Lay : Nat := 180
abbrev id_portcullisref07_Raise : Nat := 181
abbrev id_portcullisref07_Revoke : Nat := 182
abbrev id_slices_Clone_int_int : Nat := 183
abbrev id_slices_Clone_bool_bool : Nat := 184
abbrev id_slices_Clone_api_Cell_api_Cell : Nat := 185
abbrev id_portcullisref13_Check : Nat := 186
abbrev id_portcullisref02_padded : Nat := 187
abbrev id_portcullisref02_begins : Nat := 188
abbrev id_portcullisref02_rounds : Nat := 189
abbrev id_portcullisref02_piece : Nat := 190
abbrev id_loader_areas_1 : Nat := 191
abbrev id_area_Read : Nat := 192
abbrev id_area_asked : Nat := 193
abbrev id_area_pages : Nat := 194
abbrev id_chip_Chip_Erases : Nat := 195
abbrev id_area_used : Nat := 196
abbrev id_log_Log_Free : Nat := 197
abbrev id_log_Log_Worn : Nat := 198
abbrev id_chip_Chip_Erase : Nat := 199
abbrev id_area_place : Nat := 200
abbrev id_area_filled : Nat := 201
abbrev id_portcullisref15_Start : Nat := 202
abbrev id_portcullisref15_Stage : Nat := 203
abbrev id_portcullisref04_Blank : Nat := 204
abbrev id_slices_IndexFunc_api_Cell_api_Cell : Nat := 205
abbrev id_slices_IndexFunc_int_int : Nat := 206
abbrev id_store_Store_Bump : Nat := 207
abbrev id_portcullisref10_Bump : Nat := 208
abbrev id_portcullisref10_Revoked : Nat := 209
abbrev id_portcullisref17_Rom_Boot : Nat := 210
abbrev id_portcullislaw17_image : Nat := 211
abbrev id_portcullisref17_Rom_Confirm : Nat := 212
abbrev id_rom_Rom_Stage : Nat := 213
abbrev id_portcullisref17_Rom_Stage : Nat := 214
abbrev id_rom_Rom_Start : Nat := 215
abbrev id_portcullisref17_Rom_Start : Nat := 216
abbrev id_rom_Rom_Quote : Nat := 217
abbrev id_portcullisref17_Rom_Quote : Nat := 218
abbrev id_portcullisref03_block : Nat := 219
abbrev id_portcullisref03_over : Nat := 220
abbrev id_chip_Chip_Blown : Nat := 221
abbrev id_chip_Chip_asked : Nat := 222
abbrev id_chip_Chip_begins : Nat := 223
abbrev id_internal_reflectlite_TypeOf : Nat := 224
abbrev id_internal_reflectlite_Value_Elem : Nat := 225
abbrev id_internal_reflectlite_Value_Set : Nat := 226
abbrev id_mac_Of : Nat := 227
abbrev id_sha_turn : Nat := 228
abbrev id_errors_is : Nat := 229
abbrev id_slices_Clip_api_Event_api_Event : Nat := 230
abbrev id_slices_Clone_api_Event_api_Event : Nat := 231
abbrev id_math_bits_Mul32 : Nat := 232
abbrev id_math_bits_Mul64 : Nat := 233
abbrev id_page_Look : Nat := 234
abbrev id_cell_laid : Nat := 235
abbrev id_chip_Chip_asksCell : Nat := 236
abbrev id_log_found_target : Nat := 237
abbrev id_log_Log_turn_1 : Nat := 238
abbrev id_cell_Head : Nat := 239
abbrev id_portcullisref26_Gate_tells : Nat := 240
abbrev id_portcullisref10_Slot : Nat := 241
abbrev id_portcullisref09_Number : Nat := 242
abbrev id_portcullisref07_Count : Nat := 243
abbrev id_portcullisref09_Log_Lay : Nat := 244
abbrev id_portcullisref04_Chip_Blow : Nat := 245
abbrev id_portcullisref07_Revoked : Nat := 246
abbrev id_portcullisref02_words : Nat := 247
abbrev id_portcullisref02_turned : Nat := 248
abbrev id_area_bytes : Nat := 249
abbrev id_chip_Chip_Read : Nat := 250
abbrev id_area_blank : Nat := 251
abbrev id_portcullisref15_First : Nat := 252
abbrev id_portcullisref15_holds : Nat := 253
abbrev id_portcullisref14_Size : Nat := 254
abbrev id_portcullisref15_Target : Nat := 255
abbrev id_portcullisref14_Worn : Nat := 256
abbrev id_portcullisref10_Active : Nat := 257
abbrev id_portcullisref09_Free : Nat := 258
abbrev id_portcullisref09_Worn : Nat := 259
abbrev id_portcullisref14_Write : Nat := 260
abbrev id_portcullisref10_Activate : Nat := 261
abbrev id_portcullisref17_Rom_begun : Nat := 262
abbrev id_portcullisref17_Rom_handed : Nat := 263
abbrev id_chain_Log_Quote : Nat := 264
abbrev id_portcullisref16_Quote : Nat := 265
abbrev id_chip_Chip_begins_1 : Nat := 266
abbrev id_chip_Chip_begins_2 : Nat := 267
abbrev id_mac_New : Nat := 268
abbrev id_mac_Mac_Sum : Nat := 269
abbrev id_math_bits_RotateLeft32 : Nat := 270
abbrev id_page_Info_lay : Nat := 271
abbrev id_cell_Read : Nat := 272
abbrev id_cell_put : Nat := 273
abbrev id_crc_Of : Nat := 274
abbrev id_rail_Put : Nat := 275
abbrev id_portcullisref09_Log_Number : Nat := 276
abbrev id_portcullisref07_may : Nat := 277
abbrev id_portcullisref09_Log_Free : Nat := 278
abbrev id_portcullisref06_Value : Nat := 279
abbrev id_portcullisref04_Chip_Program : Nat := 280
abbrev id_portcullisref09_Log_Present : Nat := 281
abbrev id_portcullisref09_Log_info : Nat := 282
abbrev id_portcullisref09_Log_Worn : Nat := 283
abbrev id_portcullisref09_Log_turn : Nat := 284
abbrev id_portcullisref04_Chip_fuse : Nat := 285
abbrev id_portcullisref04_Chip_act : Nat := 286
abbrev id_portcullisref04_Chip_bits : Nat := 287
abbrev id_portcullisref14_Read : Nat := 288
abbrev id_portcullisref14_may : Nat := 289
abbrev id_portcullisref14_blank : Nat := 290
abbrev id_portcullisref04_Chip_Erase : Nat := 291
abbrev id_portcullisref14_lay : Nat := 292
abbrev id_chain_quote : Nat := 293
abbrev id_portcullisref16_message : Nat := 294
abbrev id_cell_got : Nat := 295
abbrev id_cell_Blank : Nat := 296
abbrev id_crc_New : Nat := 297
abbrev id_crc_Sum_Write : Nat := 298
abbrev id_crc_Sum_Sum : Nat := 299
abbrev id_rail_halves : Nat := 300
abbrev id_portcullisref06_cell : Nat := 301
abbrev id_portcullisref04_Chip_at : Nat := 302
abbrev id_portcullisref08_Of : Nat := 303
abbrev id_portcullisref09_Log_target : Nat := 304
abbrev id_portcullisref06_Head : Nat := 305
abbrev id_portcullisref14_Bytes : Nat := 306
abbrev id_chain_register : Nat := 307
abbrev id_chain_number : Nat := 308
abbrev id_portcullisref16_number : Nat := 309
abbrev id_portcullisref16_Register : Nat := 310
abbrev id_crc_eight : Nat := 311
abbrev id_portcullisref01_Of : Nat := 312
abbrev id_portcullisref06_Read : Nat := 313
abbrev id_chain_registers : Nat := 314
abbrev id_portcullisref16_Measure : Nat := 315
abbrev id_portcullisref16_Extend : Nat := 316
abbrev id_portcullisref01_eight : Nat := 317
abbrev id_portcullisref06_Blank : Nat := 318
abbrev id_chain_registers_1 : Nat := 319
abbrev id_chain_Extend : Nat := 320
abbrev id_chain_Measure : Nat := 321
abbrev id_portcullisref16_event : Nat := 322
abbrev id_portcullisref16_both : Nat := 323
abbrev id_portcullisref01_step : Nat := 324
abbrev id_runtime_boundsError_Error : Nat := 325
abbrev id_runtime_boundsError_RuntimeError : Nat := 326
abbrev id_runtime_errorString_Error : Nat := 327
abbrev id_runtime_errorString_RuntimeError : Nat := 328
abbrev id_runtime_plainError_Error : Nat := 329
abbrev id_runtime_plainError_RuntimeError : Nat := 330
abbrev id_runtime_errorAddressString_Error : Nat := 331
abbrev id_runtime_errorAddressString_RuntimeError : Nat := 332
abbrev id_runtime_TypeAssertionError_Error : Nat := 333
abbrev id_runtime_TypeAssertionError_RuntimeError : Nat := 334
abbrev id_runtime_PanicNilError_Error : Nat := 335
abbrev id_runtime_PanicNilError_RuntimeError : Nat := 336
abbrev id_internal_abi_Type_Align : Nat := 337
abbrev id_internal_abi_Type_Elem : Nat := 338
abbrev id_internal_abi_Type_Kind : Nat := 339
abbrev id_internal_runtime_maps_unhashableTypeError_Error : Nat := 340
abbrev id_internal_runtime_maps_unhashableTypeError_RuntimeError : Nat := 341
abbrev id_api_Errno_Error : Nat := 342
abbrev id_portcullisref18_Play_Do : Nat := 343
abbrev id_image_Wrong_Error : Nat := 344
abbrev id_image_Wrong_Unwrap : Nat := 345
abbrev id_internal_reflectlite_flag_mustBeAssignable : Nat := 346
abbrev id_internal_reflectlite_Value_Kind : Nat := 347
abbrev id_internal_abi_Kind_String : Nat := 348
abbrev id_internal_abi_Type_Size : Nat := 349
abbrev id_internal_reflectlite_rtype_AssignableTo : Nat := 350
abbrev id_internal_reflectlite_rtype_Comparable : Nat := 351
abbrev id_internal_reflectlite_rtype_Elem : Nat := 352
abbrev id_internal_reflectlite_rtype_Implements : Nat := 353
abbrev id_internal_reflectlite_rtype_Name : Nat := 354
abbrev id_internal_reflectlite_rtype_PkgPath : Nat := 355
abbrev id_internal_reflectlite_rtype_String : Nat := 356
abbrev id_internal_reflectlite_rtype_common : Nat := 357
abbrev id_internal_reflectlite_rtype_uncommon : Nat := 358
abbrev id_internal_reflectlite_ValueError_Error : Nat := 359
abbrev id_internal_abi_UncommonType_ExportedMethods : Nat := 360
abbrev id_var_s_door_errors_errorType_is_laid_by_its_own_call_of_reflectlite_TypeOf_on_a_nil_pointer_and_Elem_of_it_handle_1_ : Nat := 361
abbrev id_var_s_door_gosem_cut_vars_holds_initialisers_alone_see_the_manifest_s_row_cutvarsword_look_11_test_files_too_ : Nat := 362
abbrev id_var_s_door_the_look_of_gosem_cut_vars_went_over_the_folder_that_the_caller_named_as_the_repository_s_root_look_11_ : Nat := 363
abbrev id_gosem_cut_vars : Nat := 364
noncomputable abbrev PP : Program := Tryz.prog
end Go.Proofs.YteedolonhdbieaaGreatDoor
end

/- errors.As by contract, at a nil error and at the error that it looks for: Go's own text, walked. Turned from the guide's worked example (ToyasAs) to this seat's numbers. -/
section
set_option linter.unusedVariables false
namespace Go.Proofs.YteedolonhdbieaaGreatDoor
open Go Go.RowKit Go.Extern.Stop Go.Stop Go.Extern

theorem as_nil (t : Value) (w : World) :
    Calls Tryz.prog 68 #[.nilIface, t] w fun e w' => e = .returned (.bool false) ∧ w' = w := by
  go_enter Tryz.func68, Tryz.ntmps68
  go_wp2
  go_ret
  exact ⟨rfl, rfl⟩

theorem AsmethodKind (h : Value) (w : World) : (Go.method (524) 307 (.agg #[h]) "Kind").run Tryz.prog w = .ok (339, h) w := by kernel_rfl
theorem rlm (z : Sem Value) (f : TypeId → Addr → Nat → Nat → Sem Value) (v : Value) :
    ReflectliteValue.method z f #[v] = (do match ← ReflectliteValue.parts v with | none => z | some (t, a, fl) => f t a fl (fl % 32)) := rfl
theorem AsmethodElem (h : Value) (w : World) : (Go.method (524) 307 (.agg #[h]) "Elem").run Tryz.prog w = .ok (352, .agg #[h]) w := by kernel_rfl
theorem AsmethodImplements (h : Value) (w : World) : (Go.method (524) 307 (.agg #[h]) "Implements").run Tryz.prog w = .ok (353, .agg #[h]) w := by kernel_rfl
theorem AsmethodAssignableTo (h : Value) (w : World) : (Go.method (524) 307 (.agg #[h]) "AssignableTo").run Tryz.prog w = .ok (350, .agg #[h]) w := by kernel_rfl
theorem AstypeOf25 (v : Value) (w : World) : (ReflectliteType.typeOf #[.iface 162 v]).run Tryz.prog w = .ok (.iface 307 (.agg #[.pointer (some ⟨1, 162, none⟩)])) w := by kernel_rfl
theorem rls (v x : Value) : ReflectliteValue.set #[v, x] = (do
    let (some (dst, a, fl), some (src, b, _)) := (← ReflectliteValue.parts v, ← ReflectliteValue.parts x)
      | unsupported (.noEntry "extern/(internal/reflectlite.Value).Set.zeroValue")
    if fl / ReflectliteValue.flagAddr % 2 == 0 then unsupported (.noEntry "extern/(internal/reflectlite.Value).Set.unaddressable")
    let val ← loadVar src b
    if ← Rtype.directlyAssignable dst src then storeVar dst a val
    else if ← Rtype.implements dst src then
      if (← Rtype.kind src) == 20 then
        match val with
        | .nilIface => unsupported (.noEntry "extern/reflectlite: a nil value of one interface type handed on as a value of another")
        | _ => storeVar dst a val
      else storeVar dst a (.iface src val)
    else panicString ("reflectlite.Set: value of type " ++ (← Rtype.spelt src) ++ " is not assignable to type " ++ (← Rtype.spelt dst))
    pure (.tuple #[])) := rfl
open Go.Vc
/-- The error type, as the program's start lays it. -/
def errTypeV : Value := .iface 307 (.agg #[.pointer (some ⟨1, 51, none⟩)])
theorem hnew_push (h : H) (c : List Value) (t : TypeId) : hnew h h.size c (h.push (.cells c.toArray t)) := ⟨rfl, t, 0, 0, fun i _ => by omega, rfl⟩
end Go.Proofs.YteedolonhdbieaaGreatDoor
end

/- errors.As by contract, at an image's error and a number that is looked for. Own work. -/
section
set_option maxRecDepth 100000
set_option linter.unusedVariables false
namespace Go.Proofs.YteedolonhdbieaaGreatDoor
open Go Go.RowKit Go.Extern.Stop Go.Stop Go.Extern
theorem EvalueOf (t : Addr) (w : World) : (ReflectliteValue.unpack (.iface 153 (.pointer (some t)))).run Tryz.prog w
    = .ok (.agg #[.pointer (some ⟨1, 153, none⟩), .pointer (some ⟨w.heap.size, 0, none⟩), .int .u64 150]) (w.alloc (.cells #[.pointer (some t)] 153)) := by kernel_rfl
theorem Etype (a : Addr) (w : World) : (ReflectliteValue.methodAny (ReflectliteValue.valueError "reflectlite.Value.Type" 0) (fun t _ _ _ => ReflectliteType.toType t) #[.agg #[.pointer (some ⟨1, 153, none⟩), .pointer (some a), .int .u64 150]]).run Tryz.prog w
    = .ok (.iface 307 (.agg #[.pointer (some ⟨1, 153, none⟩)])) w := by kernel_rfl
theorem EkindP (w : World) : ((ReflectliteType.abiMethod fun t => (fun a : Nat => Value.int IntKind.u8 (a : Int)) <$> Rtype.kind t) #[.pointer (some ⟨1, 153, none⟩)]).run Tryz.prog w = .ok (.int .u8 22) w := by kernel_rfl
theorem Ekind (w : World) : ((ReflectliteType.abiMethod fun t => (fun a : Nat => Value.int IntKind.u8 (a : Int)) <$> Rtype.kind t) #[.pointer (some ⟨1, 31, none⟩)]).run Tryz.prog w = .ok (.int .u8 2) w := by kernel_rfl
theorem Eparts (a : Addr) (w : World) : (ReflectliteValue.parts (.agg #[.pointer (some ⟨1, 153, none⟩), .pointer (some a), .int .u64 150])).run Tryz.prog w = .ok (some (153, a, 150)) w := by kernel_rfl
theorem EisNil (a p : Addr) (W : World) (ha : W.cell? a = some (.pointer (some p))) :
    (ReflectliteValue.method (ReflectliteValue.valueError "reflectlite.Value.IsNil" 0) ReflectliteValue.isNil #[.agg #[.pointer (some ⟨1, 153, none⟩), .pointer (some a), .int .u64 150]]).run Tryz.prog W = .ok (.bool false) W := by
  rw [rlm]
  simp only [Sem.run_bind, Eparts, Result.andThen]
  simp [ReflectliteValue.isNil, loadVar, isAgg, underlying, Tryz.underlying153, ha, Result.andThen]
theorem Eelem (w : World) : (ReflectliteType.method ReflectliteType.elem #[.agg #[.pointer (some ⟨1, 153, none⟩)]]).run Tryz.prog w = .ok (.iface 307 (.agg #[.pointer (some ⟨1, 31, none⟩)])) w := by kernel_rfl
theorem Eimplements (w : World) : (ReflectliteType.relation "Implements" ReflectliteType.implements_ #[.agg #[.pointer (some ⟨1, 31, none⟩)], .iface 307 (.agg #[.pointer (some ⟨1, 51, none⟩)])]).run Tryz.prog w = .ok (.bool true) w := by kernel_rfl
theorem EassignW (w : World) : (ReflectliteType.relation "AssignableTo" ReflectliteType.assignableTo #[.agg #[.pointer (some ⟨1, 162, none⟩)], .iface 307 (.agg #[.pointer (some ⟨1, 31, none⟩)])]).run Tryz.prog w = .ok (.bool false) w := by kernel_rfl
theorem EtypeOf (v : Value) (w : World) : (ReflectliteType.typeOf #[.iface 31 v]).run Tryz.prog w = .ok (.iface 307 (.agg #[.pointer (some ⟨1, 31, none⟩)])) w := by kernel_rfl
theorem Eassign (w : World) : (ReflectliteType.relation "AssignableTo" ReflectliteType.assignableTo #[.agg #[.pointer (some ⟨1, 31, none⟩)], .iface 307 (.agg #[.pointer (some ⟨1, 31, none⟩)])]).run Tryz.prog w = .ok (.bool true) w := by kernel_rfl
theorem EvalueOfI (n : Int) (w : World) : (ReflectliteValue.unpack (.iface 31 (.int .i64 n))).run Tryz.prog w
    = .ok (.agg #[.pointer (some ⟨1, 31, none⟩), .pointer (some ⟨w.heap.size, 0, none⟩), .int .u64 130]) (w.alloc (.cells #[.int .i64 n] 31)) := by kernel_rfl
theorem EelemOf (w : World) : (Rtype.elem? 153).run Tryz.prog w = .ok (some 31) w := by kernel_rfl
theorem Emk (p : Addr) (w : World) : (ReflectliteValue.mk 31 p ReflectliteValue.flagAddr).run Tryz.prog w = .ok (.agg #[.pointer (some ⟨1, 31, none⟩), .pointer (some p), .int .u64 386]) w := by kernel_rfl
theorem EelemV (a p : Addr) (W : World) (ha : W.cell? a = some (.pointer (some p))) :
    (ReflectliteValue.method (ReflectliteValue.valueError "reflectlite.Value.Elem" 0) ReflectliteValue.elem #[.agg #[.pointer (some ⟨1, 153, none⟩), .pointer (some a), .int .u64 150]]).run Tryz.prog W
      = .ok (.agg #[.pointer (some ⟨1, 31, none⟩), .pointer (some p), .int .u64 386]) W := by
  rw [rlm]
  simp only [Sem.run_bind, Eparts, Result.andThen]
  simp [ReflectliteValue.elem, loadVar, isAgg, underlying, Tryz.underlying153, ha, Result.andThen, EelemOf, Emk]
theorem EpartsA (a : Addr) (w : World) : (ReflectliteValue.parts (.agg #[.pointer (some ⟨1, 31, none⟩), .pointer (some a), .int .u64 386])).run Tryz.prog w = .ok (some (31, a, 386)) w := by kernel_rfl
theorem EpartsI (a : Addr) (w : World) : (ReflectliteValue.parts (.agg #[.pointer (some ⟨1, 31, none⟩), .pointer (some a), .int .u64 130])).run Tryz.prog w = .ok (some (31, a, 130)) w := by kernel_rfl
theorem Edirect (w : World) : (Rtype.directlyAssignable 31 31).run Tryz.prog w = .ok true w := by kernel_rfl
theorem Eset (ta b : Addr) (n : Int) (old : Value) (W : World) (hb : W.cell? b = some (.int .i64 n)) (ht : W.cell? ta = some old) (hf : W.frozen? ta = false) :
    (ReflectliteValue.set #[.agg #[.pointer (some ⟨1, 31, none⟩), .pointer (some ta), .int .u64 386], .agg #[.pointer (some ⟨1, 31, none⟩), .pointer (some b), .int .u64 130]]).run Tryz.prog W
      = .ok (.tuple #[]) (W.setCell ta (.int .i64 n)) := by
  rw [rls]
  simp only [Sem.run_bind, EpartsA, EpartsI, Result.andThen]
  simp [ReflectliteValue.flagAddr, loadVar, isAgg, underlying, Tryz.underlying31, hb, Result.andThen, Edirect, storeVar, Value.cells, storeCells, Addr.add]
  rw [run_store Tryz.prog W ta _ _ (by rfl)]
  simp [ht, hf]
theorem EnoAs (v : Value) (xT : TypeId) (w : World) : (Instr.typeAssert (.iface 162 v) xT 312 true).run Tryz.prog w = .ok (.tuple #[.nilIface, .bool false]) w := run_typeAssert_lacksB Tryz.underlying312 (by kernel_rfl) (by kernel_rfl) v xT w
theorem EhasUn (v : Value) (xT : TypeId) (w : World) : (Instr.typeAssert (.iface 162 v) xT 315 true).run Tryz.prog w = .ok (.tuple #[.iface 162 v, .bool true]) w := run_typeAssert_hasB Tryz.underlying315 (by kernel_rfl) v xT w
theorem EmethodUn (v : Value) (w : World) : (Go.method (524) 162 v "Unwrap").run Tryz.prog w = .ok (345, v) w := by kernel_rfl
set_option maxHeartbeats 4000000 in
theorem as_far (e t : Addr) (n : Int) (old : Value) (w : World) (hg : w.cell? ⟨0, 0, none⟩ = some (.iface 307 (.agg #[.pointer (some ⟨1, 51, none⟩)]))) (ht0 : w.cell? t = some old) (hf0 : w.frozen? t = false) (he : w.cell? e = some (.int .i64 n)) :
    Calls Tryz.prog 68 #[.iface 162 (.pointer (some e)), .iface 153 (.pointer (some t))] w fun ev w' => ev = .returned (.bool true) ∧ w' = ((((w.alloc (.cells #[.pointer (some t)] 153)).alloc (.cells #[.pointer (some ⟨1, 153, none⟩), .pointer (some ⟨w.heap.size, 0, none⟩), .int .u64 150] 229)).alloc (.cells #[.pointer (some ⟨1, 153, none⟩), .pointer (some ⟨w.heap.size, 0, none⟩), .int .u64 150] 229)).alloc (.cells #[.int .i64 n] 31)).setCell t (.int .i64 n) := by
  have h6 := @run_callFunc_extern Tryz.prog 147 _ (fun args => ReflectliteValue.unpack (args.getD 0 (.tuple #[]))) Tryz.func147 (by kernel_rfl) (by kernel_rfl) (by kernel_rfl) (by kernel_rfl)
  have h7 := @run_callFunc_extern Tryz.prog 148 _ (ReflectliteValue.methodAny (ReflectliteValue.valueError "reflectlite.Value.Type" 0) (fun t _ _ _ => ReflectliteType.toType t)) Tryz.func148 (by kernel_rfl) (by kernel_rfl) (by kernel_rfl) (by kernel_rfl)
  have h8 := @run_callFunc_extern Tryz.prog 149 _ (ReflectliteValue.method (ReflectliteValue.valueError "reflectlite.Value.IsNil" 0) ReflectliteValue.isNil) Tryz.func149 (by kernel_rfl) (by kernel_rfl) (by kernel_rfl) (by kernel_rfl)
  have h27 := @run_callFunc_extern Tryz.prog 339 _ (ReflectliteType.abiMethod fun t => do pure (.int .u8 (← Rtype.kind t))) Tryz.func339 (by kernel_rfl) (by kernel_rfl) (by kernel_rfl) (by kernel_rfl)
  have h37 := @run_callFunc_extern Tryz.prog 352 _ (ReflectliteType.method ReflectliteType.elem) Tryz.func352 (by kernel_rfl) (by kernel_rfl) (by kernel_rfl) (by kernel_rfl)
  have h38 := @run_callFunc_extern Tryz.prog 353 _ (ReflectliteType.relation "Implements" ReflectliteType.implements_) Tryz.func353 (by kernel_rfl) (by kernel_rfl) (by kernel_rfl) (by kernel_rfl)
  have h10 := @run_callFunc_extern Tryz.prog 224 _ ReflectliteType.typeOf Tryz.func224 (by kernel_rfl) (by kernel_rfl) (by kernel_rfl) (by kernel_rfl)
  have h35 := @run_callFunc_extern Tryz.prog 350 _ (ReflectliteType.relation "AssignableTo" ReflectliteType.assignableTo) Tryz.func350 (by kernel_rfl) (by kernel_rfl) (by kernel_rfl) (by kernel_rfl)
  have h11 := @run_callFunc_extern Tryz.prog 225 _ (ReflectliteValue.method (ReflectliteValue.valueError "reflectlite.Value.Elem" 0) ReflectliteValue.elem) Tryz.func225 (by kernel_rfl) (by kernel_rfl) (by kernel_rfl) (by kernel_rfl)
  have h12 := @run_callFunc_extern Tryz.prog 226 _ ReflectliteValue.set Tryz.func226 (by kernel_rfl) (by kernel_rfl) (by kernel_rfl) (by kernel_rfl)
  have tO := AstypeOf25
  have mA := AsmethodAssignableTo
  have a25 := EassignW
  have f6 := EvalueOf
  have f7 := Etype
  have mK := AsmethodKind
  have mE := AsmethodElem
  have mI := AsmethodImplements
  have k27 := EkindP
  have k25 := Ekind
  have e27 := Eelem
  have i25 := Eimplements
  have aE := Eassign
  have tE := EtypeOf
  have vE := EvalueOfI
  have nA := EnoAs
  have hU := EhasUn
  have mU := EmethodUn
  have n8 := EisNil ⟨w.heap.size, 0, none⟩ t ((w.alloc (.cells #[.pointer (some t)] 153)).alloc (.cells #[.pointer (some ⟨1, 153, none⟩), .pointer (some ⟨w.heap.size, 0, none⟩), .int .u64 150] 229)) (by simp)
  have hlt : 0 < w.heap.size := by
    rcases Nat.eq_zero_or_pos w.heap.size with h0 | h
    · simp [World.cell?, h0] at hg
    · exact h
  have hg2 : ((w.alloc (.cells #[.pointer (some t)] 153)).alloc (.cells #[.pointer (some ⟨1, 153, none⟩), .pointer (some ⟨w.heap.size, 0, none⟩), .int .u64 150] 229)).cell? ⟨0, 0, none⟩ = some (.iface 307 (.agg #[.pointer (some ⟨1, 51, none⟩)])) := by
    rw [World.cell?_alloc_lt _ _ ⟨0, 0, none⟩ (by simp), World.cell?_alloc_lt _ _ ⟨0, 0, none⟩ hlt]; exact hg
  have htl : t.block < w.heap.size := by
    rcases Nat.lt_or_ge t.block w.heap.size with h | h
    · exact h
    · simp [World.cell?, Array.getElem?_eq_none h] at ht0
  have hel : e.block < w.heap.size := by
    rcases Nat.lt_or_ge e.block w.heap.size with h | h
    · exact h
    · simp [World.cell?, Array.getElem?_eq_none h] at he
  have he3 : (((w.alloc (.cells #[.pointer (some t)] 153)).alloc (.cells #[.pointer (some ⟨1, 153, none⟩), .pointer (some ⟨w.heap.size, 0, none⟩), .int .u64 150] 229)).alloc (.cells #[.pointer (some ⟨1, 153, none⟩), .pointer (some ⟨w.heap.size, 0, none⟩), .int .u64 150] 229)).cell? e = some (.int .i64 n) := by
    rw [World.cell?_alloc_lt _ _ e (by simp; omega), World.cell?_alloc_lt _ _ e (by simp; omega), World.cell?_alloc_lt _ _ e hel]; exact he
  have el := EelemV ⟨w.heap.size, 0, none⟩ t (((w.alloc (.cells #[.pointer (some t)] 153)).alloc (.cells #[.pointer (some ⟨1, 153, none⟩), .pointer (some ⟨w.heap.size, 0, none⟩), .int .u64 150] 229)).alloc (.cells #[.pointer (some ⟨1, 153, none⟩), .pointer (some ⟨w.heap.size, 0, none⟩), .int .u64 150] 229)) (by rw [World.cell?_alloc_lt _ _ ⟨w.heap.size, 0, none⟩ (by simp; omega)]; simp)
  have st := Eset t ⟨w.heap.size + 1 + 1 + 1, 0, none⟩ n old ((((w.alloc (.cells #[.pointer (some t)] 153)).alloc (.cells #[.pointer (some ⟨1, 153, none⟩), .pointer (some ⟨w.heap.size, 0, none⟩), .int .u64 150] 229)).alloc (.cells #[.pointer (some ⟨1, 153, none⟩), .pointer (some ⟨w.heap.size, 0, none⟩), .int .u64 150] 229)).alloc (.cells #[.int .i64 n] 31))
    (by rw [World.cell?_alloc_at _ _ _ _ (by simp)]; rfl)
    (by rw [World.cell?_alloc_lt _ _ t (by simp; omega), World.cell?_alloc_lt _ _ t (by simp; omega), World.cell?_alloc_lt _ _ t (by simp; omega), World.cell?_alloc_lt _ _ t htl]; exact ht0)
    (by rw [World.frozen?_alloc_old _ _ t (by simp; omega), World.frozen?_alloc_old _ _ t (by simp; omega), World.frozen?_alloc_old _ _ t (by simp; omega), World.frozen?_alloc_old _ _ t (Nat.ne_of_lt htl)]; exact hf0)
  go_enter Tryz.func68, Tryz.ntmps68
  go_wp2
  refine wp_loop_rounds 2 ?_
  rw [rounds_succ]
  go_wp2
  rw [rounds_succ]
  go_wp2
  go_ret
  exact ⟨rfl, rfl⟩
end Go.Proofs.YteedolonhdbieaaGreatDoor
end

/- errors.As as a denotation, where the program asks for numbers alone: at a nil error, and at the number that it looks for. Own work, after the guide's worked example (ToyasAs). -/
section
set_option linter.unusedVariables false
namespace Go.Proofs.YteedolonhdbieaaGreatDoor
open Go Go.RowKit Go.Extern.Stop Go.Stop Go.Extern Go.Vc
def F_errors_As (e t : Value) (Q : Bool → H → Prop) (h : H) : Prop :=
  ((e = .nilIface ∧ Q false h) ∨
  ∃ (x : Addr) (b o : Nat) (n : Int), e = .iface 162 (.pointer (some x)) ∧ t = .iface 153 (.pointer (some ⟨b, o, none⟩)) ∧ hc h ⟨0, 0, none⟩ = some errTypeV ∧ (∃ old, hc h ⟨b, o, none⟩ = some old) ∧ hf h ⟨b, o, none⟩ = false ∧ hc h x = some (.int .i64 n) ∧
    ∀ b1 h1, hnew h b1 [.pointer (some ⟨b, o, none⟩)] h1 → ∀ b2 h2, hnew h1 b2 [.pointer (some ⟨1, 153, none⟩), .pointer (some ⟨b1, 0, none⟩), .int .u64 150] h2 → ∀ b3 h3, hnew h2 b3 [.pointer (some ⟨1, 153, none⟩), .pointer (some ⟨b1, 0, none⟩), .int .u64 150] h3 →
      ∀ b4 h4, hnew h3 b4 [.int .i64 n] h4 → ∀ h5, h5 = hwr h4 ⟨b, o, none⟩ [.int .i64 n] → Q true h5) ∨
  False
theorem R_errors_As : RunOk PP 68 (W [.fn, .fn] [.bool] F_errors_As) := by
  intro args Q h hok hr
  have hcal : callable PP 68 = true := by kernel_rfl
  have two : ∃ e t : Value, args.map DV.flat = [e, t] ∧ F_errors_As e t (enR [.bool] Q) h := by
    unfold W at hr
    match args, hr with
    | [.one e, .one t], hr => exact ⟨e, t, rfl, hr⟩
    | [.one e, .fnv t], hr => exact ⟨e, t, rfl, hr⟩
    | [.fnv e, .one t], hr => exact ⟨e, t, rfl, hr⟩
    | [.fnv e, .fnv t], hr => exact ⟨e, t, rfl, hr⟩
    | [], hr => exact absurd hr id
    | [.one e], hr => exact absurd hr id
    | [.fnv e], hr => exact absurd hr id
  obtain ⟨e, t, ha, hF⟩ := two
  rw [ha]
  refine ⟨hcal, fun w hw => ?_⟩
  subst hw
  rcases hF with (⟨rfl, hq⟩ | ⟨x, b, o, n, rfl, rfl, hg, ⟨old, ht⟩, hf0, he, hq⟩) | hF
  · refine (as_nil t w).mono fun e' w' he => ?_
    obtain ⟨rfl, rfl⟩ := he
    exact ⟨[.one (.bool false)], by intro y hy; simp at hy; subst hy; rfl, rfl, ⟨rfl, rfl, rfl⟩, hq⟩
  · refine (as_far x ⟨b, o, none⟩ n old w hg ht hf0 he).mono fun e' w' he => ?_
    obtain ⟨rfl, rfl⟩ := he
    refine ⟨[.one (.bool true)], by intro y hy; simp at hy; subst hy; rfl, rfl, ⟨rfl, rfl, rfl⟩, ?_⟩
    exact hq _ _ (hnew_push w.heap _ 153) _ _ (hnew_push _ _ 229) _ _ (hnew_push _ _ 229) _ _ (hnew_push _ _ 31) _ rfl
  · exact hF.elim
attribute [irreducible] F_errors_As
end Go.Proofs.YteedolonhdbieaaGreatDoor
end

/- errors.Is by contract: an image's error, and a number that is looked for. Own work, after the guide's worked example (SentryIs). -/
section
set_option maxRecDepth 100000
set_option linter.unusedVariables false
namespace Go.Proofs.YteedolonhdbieaaGreatDoor
open Go Go.RowKit Go.Extern.Stop Go.Stop Go.Extern
end Go.Proofs.YteedolonhdbieaaGreatDoor
end

/- errors.Is as a denotation: an image's error and a number that is looked for. Own work, after the guide's worked example (SentryIs). -/
section
set_option linter.unusedVariables false
namespace Go.Proofs.YteedolonhdbieaaGreatDoor
open Go Go.RowKit Go.Extern.Stop Go.Stop Go.Extern Go.Vc
end Go.Proofs.YteedolonhdbieaaGreatDoor
end

/- Denotations of functions of the program, printed by a program of ours, and that they are the model's. -/
section
set_option linter.unusedVariables false
set_option maxRecDepth 100000
namespace Go.Proofs.YteedolonhdbieaaGreatDoor
open Go Go.Vc
abbrev JT : Type := List SV → H → Prop
abbrev OA : Type := Option Addr
def G_portcullisref12_Ring_find (a0 : Addr) (a1 : Int) (Q : Int → H → Prop) (h : H) : Prop := ∀ (J4 : JT), (∀ (i5 : Int) (h6 : H), (∃ o7 n8 n9, hc h6 a0 = some (.slice o7 n8 n9) ∧ if ltI i5 n8 = true then ∃ o10 n11 n12, hc h6 a0 = some (.slice o10 n11 n12) ∧ ∃ p13, o10 = some p13 ∧ 0 ≤ i5 ∧ i5 < n11 ∧ ∃ i14, hc h6 (p13.add (i5.toNat * 2)) = some (.int .i64 i14) ∧ if (i14 == a1) = true then Q i5 h6 else J4 [.dv (.one (.int .i64 (IntKind.i64.wrap (i5 + 1))))] h6 else Q (-1) h6) → J4 [.dv (.one (.int .i64 i5))] h6) → J4 [.dv (.one (.int .i64 0))] h
theorem E_portcullisref12_Ring_find : ∀ a0 a1 Q h, G_portcullisref12_Ring_find a0 a1 Q h = Dbody PP [] [(26, [(5, .sc (.int .i64))])] Tryz.f162 [.addr a0, .one (.int .i64 a1)] (decR [.int .i64] Q) h := by intros; kernel_rfl
def F_portcullisref12_Ring_find := G_portcullisref12_Ring_find
theorem R_portcullisref12_Ring_find : RunOk PP 162 (W [.addr, .int .i64] [.int .i64] F_portcullisref12_Ring_find) := runOk_of (TblOk.nil) Tryz.func162 (by kernel_rfl) (by kernel_rfl) (E_portcullisref12_Ring_find)
attribute [irreducible] F_portcullisref12_Ring_find
def G_portcullisref12_Ring_Has (c0 : Addr → Int → (Int → H → Prop) → H → Prop) (a0 : Addr) (a1 : Int) (Q : Bool → H → Prop) (h : H) : Prop := c0 a0 a1 (fun i5 h6 => Q (leI 0 i5) h6) h
theorem E_portcullisref12_Ring_Has : ∀ c0 a0 a1 Q h, G_portcullisref12_Ring_Has c0 a0 a1 Q h = Dbody PP [(162, W [.addr, .int .i64] [.int .i64] c0)] [] Tryz.f89 [.addr a0, .one (.int .i64 a1)] (decR [.bool] Q) h := by intros; kernel_rfl
def F_portcullisref12_Ring_Has := G_portcullisref12_Ring_Has F_portcullisref12_Ring_find
theorem R_portcullisref12_Ring_Has : RunOk PP 89 (W [.addr, .int .i64] [.bool] F_portcullisref12_Ring_Has) := runOk_of (TblOk.cons R_portcullisref12_Ring_find (TblOk.nil)) Tryz.func89 (by kernel_rfl) (by kernel_rfl) (E_portcullisref12_Ring_Has _)
attribute [irreducible] F_portcullisref12_Ring_Has
def G_portcullisref12_New (c0 : Addr → Int → (Bool → H → Prop) → H → Prop) (a0p : OA) (a0l : Nat) (a0c : Nat) (Q : OA → Int → Int → H → Prop) (h : H) : Prop := if ltI 64 a0l = true then Q none 3 64 h else ∀ n6 h7, hnew h n6 [.slice none 0 0] h7 → ∀ (J9 : JT), (∀ (i10 : Int) (h11 : H), (if ltI i10 a0l = true then ∀ (J12 : JT), (∀ (h13 : H), (∀ (J14 : JT), (∀ (h15 : H), (∃ p16, a0p = some p16 ∧ 0 ≤ i10 ∧ i10 < a0l ∧ ∃ i17, hc h15 (p16.add (i10.toNat * 2)) = some (.int .i64 i17) ∧ c0 (Addr.mk n6 0 none) i17 (fun b18 h19 => if b18 = true then Q none 18 i10 h19 else ∀ n20 h21, hnew h19 n20 [] h21 → ∃ o23 n24 n25, hc h21 ⟨n6, 0, none⟩ = some (.slice o23 n24 n25) ∧ ∃ p26, a0p = some p26 ∧ 0 ≤ i10 ∧ i10 < a0l ∧ ∃ i27, hc h21 (p26.add (i10.toNat * 2)) = some (.int .i64 i27) ∧ ∃ p28, a0p = some p28 ∧ 0 ≤ i10 ∧ i10 < a0l ∧ ∃ o29 n30 n31, hc h21 ((p28.add (i10.toNat * 2)).add 1) = some (.slice o29 n30 n31) ∧ ∃ (l32 : List Value), hsv h21 o29 1 n30 l32 ∧ pApp h21 1 [.int .u8 0] 1 (some (Addr.mk n20 0 none)) 0 0 n30 l32 fun o33 n34 n35 h36 => hcs h36 (p26.add (i10.toNat * 2)) [.int .i64 i27] ∧ hcs h36 ⟨n6, 0, none⟩ [.slice o23 n24 n25] ∧ ∀ n37 h38, hnew h36 n37 [.int .i64 i27, .slice o33 n34 n35] h38 → hcs h38 ⟨n6, 0, none⟩ [.slice o23 n24 n25] ∧ ∃ (l40 : List Value), hsv h38 (some (Addr.mk n37 0 none)) 2 1 l40 ∧ pApp h38 2 [.int .i64 0, .slice none 0 0] 32 o23 n24 n25 1 l40 fun o41 n42 n43 h44 => hcan h44 ⟨n6, 0, none⟩ 1 ∧ ∀ h45, h45 = hwr h44 ⟨n6, 0, none⟩ [.slice o41 n42 n43] → J9 [.dv (.one (.int .i64 (IntKind.i64.wrap (i10 + 1))))] h45) h15) → J14 [] h15) → ∃ p49, a0p = some p49 ∧ 0 ≤ i10 ∧ i10 < a0l ∧ ∃ o50 n51 n52, hc h13 ((p49.add (i10.toNat * 2)).add 1) = some (.slice o50 n51 n52) ∧ if ltI (↑n51 : Int) 1 = true then Q none 4 i10 h13 else ∃ p53, a0p = some p53 ∧ 0 ≤ i10 ∧ i10 < a0l ∧ ∃ o54 n55 n56, hc h13 ((p53.add (i10.toNat * 2)).add 1) = some (.slice o54 n55 n56) ∧ if ltI 256 n55 = true then Q none 4 i10 h13 else J14 [] h13) → J12 [] h13) → ∃ p59, a0p = some p59 ∧ 0 ≤ i10 ∧ i10 < a0l ∧ ∃ i60, hc h11 (p59.add (i10.toNat * 2)) = some (.int .i64 i60) ∧ if ltI i60 0 = true then Q none 2 i10 h11 else ∃ p61, a0p = some p61 ∧ 0 ≤ i10 ∧ i10 < a0l ∧ ∃ i62, hc h11 (p61.add (i10.toNat * 2)) = some (.int .i64 i62) ∧ if ltI 63 i62 = true then Q none 2 i10 h11 else J12 [] h11 else Q (some (Addr.mk n6 0 none)) 0 0 h11) → J9 [.dv (.one (.int .i64 i10))] h11) → J9 [.dv (.one (.int .i64 0))] h7
theorem E_portcullisref12_New : ∀ c0 a0p a0l a0c Q h, G_portcullisref12_New c0 a0p a0l a0c Q h = Dbody PP [(89, W [.addr, .int .i64] [.bool] c0)] [(122, [(6, .sc (.int .i64))]), (1956, []), (3913, [])] Tryz.f21 [.one (.slice a0p a0l a0c)] (decR [.ptr, .int .i64, .int .i64] Q) h := by intros; kernel_rfl
def F_portcullisref12_New := G_portcullisref12_New F_portcullisref12_Ring_Has
theorem R_portcullisref12_New : RunOk PP 21 (W [.slc] [.ptr, .int .i64, .int .i64] F_portcullisref12_New) := runOk_of (TblOk.cons R_portcullisref12_Ring_Has (TblOk.nil)) Tryz.func21 (by kernel_rfl) (by kernel_rfl) (E_portcullisref12_New _)
attribute [irreducible] F_portcullisref12_New
def G_chip_within (a0 : Int) (a1 : Int) (a2 : Int) (Q : Bool → H → Prop) (h : H) : Prop := if leI a1 a0 = true then Q (leI a0 a2) h else Q false h
theorem E_chip_within : ∀ a0 a1 a2 Q h, G_chip_within a0 a1 a2 Q h = Dbody PP [] [] Tryz.f163 [.one (.int .i64 a0), .one (.int .i64 a1), .one (.int .i64 a2)] (decR [.bool] Q) h := by intros; kernel_rfl
def F_chip_within := G_chip_within
theorem R_chip_within : RunOk PP 163 (W [.int .i64, .int .i64, .int .i64] [.bool] F_chip_within) := runOk_of (TblOk.nil) Tryz.func163 (by kernel_rfl) (by kernel_rfl) (E_chip_within)
attribute [irreducible] F_chip_within
def G_chip_May (c0 : Int → Int → Int → (Bool → H → Prop) → H → Prop) (a0_0 : Int) (a0_1 : Int) (a0_2 : Int) (a0_3 : Int) (a0_4 : Int) (a0_5 : Int) (a0_6 : Int) (Q : Int → H → Prop) (h : H) : Prop := ∀ n10 h11, hnew h n10 [.int .i64 a0_0, .int .i64 a0_1, .int .i64 a0_2, .int .i64 a0_3, .int .i64 a0_4, .int .i64 a0_5, .int .i64 a0_6] h11 → ∀ (J13 : JT), (∀ (b14 : Bool) (h15 : H), (if (!b14) = true then Q 1 h15 else Q 0 h15) → J13 [.dv (.one (.bool b14))] h15) → ∃ i18, hc h11 ⟨n10, 1, none⟩ = some (.int .i64 i18) ∧ c0 i18 1 8 (fun b19 h20 => if b19 = true then ∃ i21, hc h20 ⟨n10, 0, none⟩ = some (.int .i64 i21) ∧ ∃ i22, hc h20 ⟨n10, 1, none⟩ = some (.int .i64 i22) ∧ c0 i21 (IntKind.i64.wrap (i22 + 3)) 256 (fun b23 h24 => if b23 = true then ∃ i25, hc h24 ⟨n10, 2, none⟩ = some (.int .i64 i25) ∧ c0 i25 1 64 (fun b26 h27 => if b26 = true then ∃ i28, hc h27 ⟨n10, 3, none⟩ = some (.int .i64 i28) ∧ c0 i28 1 65536 (fun b29 h30 => if b29 = true then ∃ i31, hc h30 ⟨n10, 4, none⟩ = some (.int .i64 i31) ∧ c0 i31 1 64 (fun b32 h33 => if b32 = true then ∃ i34, hc h33 ⟨n10, 5, none⟩ = some (.int .i64 i34) ∧ c0 i34 0 65536 (fun b35 h36 => if b35 = true then ∃ i37, hc h36 ⟨n10, 6, none⟩ = some (.int .i64 i37) ∧ c0 i37 0 64 (fun b38 h39 => J13 [.dv (.one (.bool b38))] h39) h36 else J13 [.dv (.one (.bool false))] h36) h33 else J13 [.dv (.one (.bool false))] h33) h30 else J13 [.dv (.one (.bool false))] h30) h27 else J13 [.dv (.one (.bool false))] h27) h24 else J13 [.dv (.one (.bool false))] h24) h20 else J13 [.dv (.one (.bool false))] h20) h11
theorem E_chip_May : ∀ c0 a0_0 a0_1 a0_2 a0_3 a0_4 a0_5 a0_6 Q h, G_chip_May c0 a0_0 a0_1 a0_2 a0_3 a0_4 a0_5 a0_6 Q h = Dbody PP [(163, W [.int .i64, .int .i64, .int .i64] [.bool] c0)] [(3, [(3, .sc (.bool))])] Tryz.f90 [.agg [.c (.int .i64 a0_0), .c (.int .i64 a0_1), .c (.int .i64 a0_2), .c (.int .i64 a0_3), .c (.int .i64 a0_4), .c (.int .i64 a0_5), .c (.int .i64 a0_6)]] (decR [.int .i64] Q) h := by intros; kernel_rfl
def F_chip_May := G_chip_May F_chip_within
theorem R_chip_May : RunOk PP 90 (W [.ag [.int .i64, .int .i64, .int .i64, .int .i64, .int .i64, .int .i64, .int .i64]] [.int .i64] F_chip_May) := runOk_of (TblOk.cons R_chip_within (TblOk.nil)) Tryz.func90 (by kernel_rfl) (by kernel_rfl) (E_chip_May _)
attribute [irreducible] F_chip_May
def G_chip_pages (a0_0 : Int) (a0_1 : Int) (a0_2 : Int) (a0_3 : Int) (a0_4 : Int) (a0_5 : Int) (a0_6 : Int) (Q : Int → H → Prop) (h : H) : Prop := ∀ n9 h10, hnew h n9 [.int .i64 a0_0, .int .i64 a0_1, .int .i64 a0_2, .int .i64 a0_3, .int .i64 a0_4, .int .i64 a0_5, .int .i64 a0_6] h10 → ∃ i12, hc h10 ⟨n9, 6, none⟩ = some (.int .i64 i12) ∧ Q (IntKind.i64.wrap (2 + IntKind.i64.wrap (2 * i12))) h10
theorem E_chip_pages : ∀ a0_0 a0_1 a0_2 a0_3 a0_4 a0_5 a0_6 Q h, G_chip_pages a0_0 a0_1 a0_2 a0_3 a0_4 a0_5 a0_6 Q h = Dbody PP [] [] Tryz.f91 [.agg [.c (.int .i64 a0_0), .c (.int .i64 a0_1), .c (.int .i64 a0_2), .c (.int .i64 a0_3), .c (.int .i64 a0_4), .c (.int .i64 a0_5), .c (.int .i64 a0_6)]] (decR [.int .i64] Q) h := by intros; kernel_rfl
def F_chip_pages := G_chip_pages
theorem R_chip_pages : RunOk PP 91 (W [.ag [.int .i64, .int .i64, .int .i64, .int .i64, .int .i64, .int .i64, .int .i64]] [.int .i64] F_chip_pages) := runOk_of (TblOk.nil) Tryz.func91 (by kernel_rfl) (by kernel_rfl) (E_chip_pages)
attribute [irreducible] F_chip_pages
def G_chip_fuses (a0_0 : Int) (a0_1 : Int) (a0_2 : Int) (a0_3 : Int) (a0_4 : Int) (a0_5 : Int) (a0_6 : Int) (Q : Int → H → Prop) (h : H) : Prop := ∀ n9 h10, hnew h n9 [.int .i64 a0_0, .int .i64 a0_1, .int .i64 a0_2, .int .i64 a0_3, .int .i64 a0_4, .int .i64 a0_5, .int .i64 a0_6] h10 → ∃ i12, hc h10 ⟨n9, 1, none⟩ = some (.int .i64 i12) ∧ ∃ i13, hc h10 ⟨n9, 2, none⟩ = some (.int .i64 i13) ∧ ∃ i14, hc h10 ⟨n9, 4, none⟩ = some (.int .i64 i14) ∧ Q (IntKind.i64.wrap (IntKind.i64.wrap (i12 * i13) + i14)) h10
theorem E_chip_fuses : ∀ a0_0 a0_1 a0_2 a0_3 a0_4 a0_5 a0_6 Q h, G_chip_fuses a0_0 a0_1 a0_2 a0_3 a0_4 a0_5 a0_6 Q h = Dbody PP [] [] Tryz.f92 [.agg [.c (.int .i64 a0_0), .c (.int .i64 a0_1), .c (.int .i64 a0_2), .c (.int .i64 a0_3), .c (.int .i64 a0_4), .c (.int .i64 a0_5), .c (.int .i64 a0_6)]] (decR [.int .i64] Q) h := by intros; kernel_rfl
def F_chip_fuses := G_chip_fuses
theorem R_chip_fuses : RunOk PP 92 (W [.ag [.int .i64, .int .i64, .int .i64, .int .i64, .int .i64, .int .i64, .int .i64]] [.int .i64] F_chip_fuses) := runOk_of (TblOk.nil) Tryz.func92 (by kernel_rfl) (by kernel_rfl) (E_chip_fuses)
attribute [irreducible] F_chip_fuses
def G_math_bits_Mul32 (a0 : Int) (a1 : Int) (Q : Int → Int → H → Prop) (h : H) : Prop := (0 : Int) ≤ 32 ∧ Q (IntKind.u32.wrap ((IntKind.u64.wrap (IntKind.u64.wrap a0 * IntKind.u64.wrap a1)).fdiv (2 ^ 32))) (IntKind.u32.wrap (IntKind.u64.wrap (IntKind.u64.wrap a0 * IntKind.u64.wrap a1))) h
theorem E_math_bits_Mul32 : ∀ a0 a1 Q h, G_math_bits_Mul32 a0 a1 Q h = Dbody PP [] [] Tryz.f232 [.one (.int .u32 a0), .one (.int .u32 a1)] (decR [.int .u32, .int .u32] Q) h := by intros; kernel_rfl
def F_math_bits_Mul32 := G_math_bits_Mul32
theorem R_math_bits_Mul32 : RunOk PP 232 (W [.int .u32, .int .u32] [.int .u32, .int .u32] F_math_bits_Mul32) := runOk_of (TblOk.nil) Tryz.func232 (by kernel_rfl) (by kernel_rfl) (E_math_bits_Mul32)
attribute [irreducible] F_math_bits_Mul32
def G_math_bits_Mul64 (a0 : Int) (a1 : Int) (Q : Int → Int → H → Prop) (h : H) : Prop := ∀ (i4 : Int), i4 = 4294967295 → (0 : Int) ≤ 32 ∧ ∀ (i6 : Int), i6 = 4294967295 → (0 : Int) ≤ 32 ∧ (0 : Int) ≤ 32 ∧ ∀ (i8 : Int), i8 = 4294967295 → (0 : Int) ≤ 32 ∧ (0 : Int) ≤ 32 ∧ Q (IntKind.u64.wrap (IntKind.u64.wrap (IntKind.u64.wrap (a0.fdiv (2 ^ 32) * a1.fdiv (2 ^ 32)) + (IntKind.u64.wrap (IntKind.u64.wrap (a0.fdiv (2 ^ 32) * bits .and .u64 a1 i6) + (IntKind.u64.wrap (bits .and .u64 a0 i4 * bits .and .u64 a1 i6)).fdiv (2 ^ 32))).fdiv (2 ^ 32)) + (IntKind.u64.wrap (bits .and .u64 (IntKind.u64.wrap (IntKind.u64.wrap (a0.fdiv (2 ^ 32) * bits .and .u64 a1 i6) + (IntKind.u64.wrap (bits .and .u64 a0 i4 * bits .and .u64 a1 i6)).fdiv (2 ^ 32))) i8 + IntKind.u64.wrap (bits .and .u64 a0 i4 * a1.fdiv (2 ^ 32)))).fdiv (2 ^ 32))) (IntKind.u64.wrap (a0 * a1)) h
theorem E_math_bits_Mul64 : ∀ a0 a1 Q h, G_math_bits_Mul64 a0 a1 Q h = Dbody PP [] [] Tryz.f233 [.one (.int .u64 a0), .one (.int .u64 a1)] (decR [.int .u64, .int .u64] Q) h := by intros; kernel_rfl
def F_math_bits_Mul64 := G_math_bits_Mul64
theorem R_math_bits_Mul64 : RunOk PP 233 (W [.int .u64, .int .u64] [.int .u64, .int .u64] F_math_bits_Mul64) := runOk_of (TblOk.nil) Tryz.func233 (by kernel_rfl) (by kernel_rfl) (E_math_bits_Mul64)
attribute [irreducible] F_math_bits_Mul64
def G_math_bits_Mul (c0 : Int → Int → (Int → Int → H → Prop) → H → Prop) (c1 : Int → Int → (Int → Int → H → Prop) → H → Prop) (a0 : Int) (a1 : Int) (Q : Int → Int → H → Prop) (h : H) : Prop := c1 a0 a1 (fun i6 i7 h8 => Q i6 i7 h8) h
theorem E_math_bits_Mul : ∀ c0 c1 a0 a1 Q h, G_math_bits_Mul c0 c1 a0 a1 Q h = Dbody PP [(232, W [.int .u32, .int .u32] [.int .u32, .int .u32] c0), (233, W [.int .u64, .int .u64] [.int .u64, .int .u64] c1)] [] Tryz.f164 [.one (.int .u64 a0), .one (.int .u64 a1)] (decR [.int .u64, .int .u64] Q) h := by intros; kernel_rfl
def F_math_bits_Mul := G_math_bits_Mul F_math_bits_Mul32 F_math_bits_Mul64
theorem R_math_bits_Mul : RunOk PP 164 (W [.int .u64, .int .u64] [.int .u64, .int .u64] F_math_bits_Mul) := runOk_of (TblOk.cons R_math_bits_Mul32 (TblOk.cons R_math_bits_Mul64 (TblOk.nil))) Tryz.func164 (by kernel_rfl) (by kernel_rfl) (E_math_bits_Mul _ _)
attribute [irreducible] F_math_bits_Mul
def G_slices_Repeat_api_Cell_api_Cell (c0 : Int → Int → (Int → Int → H → Prop) → H → Prop) (a0p : OA) (a0l : Nat) (a0c : Nat) (a1 : Int) (Q : OA → Nat → Nat → H → Prop) (h : H) : Prop := ∀ (J7 : JT), (∀ (h8 : H), c0 (IntKind.u64.wrap (↑a0l : Int)) (IntKind.u64.wrap a1) (fun i9 i10 h11 => ∀ (J12 : JT), (∀ (h13 : H), (0 ≤ IntKind.i64.wrap i10 ∧ IntKind.i64.wrap i10 ≤ IntKind.i64.wrap i10 ∧ (↑32 : Int) * IntKind.i64.wrap i10 ≤ 2 ^ 48 ∧ IntKind.i64.wrap i10 ≤ 2 ^ 48 ∧ ∀ n14 h15, hnew h13 n14 (List.replicate (IntKind.i64.wrap i10).toNat (ints .u8 (zeros 32))).flatten h15 → ∃ (l17 : List Value), hsv h15 a0p 32 (a0l.min (IntKind.i64.wrap i10).toNat) l17 ∧ (l17 = [] ∨ ∃ p18, some (Addr.mk n14 0 none) = some p18 ∧ hcan h15 p18 (a0l.min (IntKind.i64.wrap i10).toNat * 32)) ∧ ∀ (h19 : H), h19 = hwrO h15 (some (Addr.mk n14 0 none)) l17 → ∀ (J21 : JT), (∀ (i22 : Int) (h23 : H), (if ltI i22 (↑(IntKind.i64.wrap i10).toNat : Int) = true then 0 ≤ i22 ∧ i22 ≤ (↑(IntKind.i64.wrap i10).toNat : Int) ∧ 0 ≤ i22 ∧ i22 ≤ (↑(IntKind.i64.wrap i10).toNat : Int) ∧ ∃ (l24 : List Value), hsv h23 (subAddr (some (Addr.mk n14 0 none)) 0 (IntKind.i64.wrap i10).toNat 32) 32 ((i22.toNat - 0).min ((IntKind.i64.wrap i10).toNat - i22.toNat)) l24 ∧ (l24 = [] ∨ ∃ (p25 : Addr), subAddr (some (Addr.mk n14 0 none)) i22.toNat (IntKind.i64.wrap i10).toNat 32 = some p25 ∧ hcan h23 p25 ((i22.toNat - 0).min ((IntKind.i64.wrap i10).toNat - i22.toNat) * 32)) ∧ ∀ (h26 : H), h26 = hwrO h23 (subAddr (some (Addr.mk n14 0 none)) i22.toNat (IntKind.i64.wrap i10).toNat 32) l24 → J21 [.dv (.one (.int .i64 (IntKind.i64.wrap (i22 + (↑((i22.toNat - 0).min ((IntKind.i64.wrap i10).toNat - i22.toNat)) : Int)))))] h26 else Q (some (Addr.mk n14 0 none)) (IntKind.i64.wrap i10).toNat (IntKind.i64.wrap i10).toNat h23) → J21 [.dv (.one (.int .i64 i22))] h23) → J21 [.dv (.one (.int .i64 (↑(a0l.min (IntKind.i64.wrap i10).toNat) : Int)))] h19) → J12 [] h13) → if ltI 0 i9 = true then False else ∀ (i32 : Int), i32 = 9223372036854775807 → if ltI i32 i10 = true then False else J12 [] h11) h8 → J7 [] h8) → if ltI a1 0 = true then False else J7 [] h
theorem E_slices_Repeat_api_Cell_api_Cell : ∀ c0 a0p a0l a0c a1 Q h, G_slices_Repeat_api_Cell_api_Cell c0 a0p a0l a0c a1 Q h = Dbody PP [(164, W [.int .u64, .int .u64] [.int .u64, .int .u64] c0)] [(3, []), (15, []), (508, [(8, .sc (.int .i64))])] Tryz.f93 [.one (.slice a0p a0l a0c), .one (.int .i64 a1)] (decR [.slc] Q) h := by intros; kernel_rfl
def F_slices_Repeat_api_Cell_api_Cell := G_slices_Repeat_api_Cell_api_Cell F_math_bits_Mul
theorem R_slices_Repeat_api_Cell_api_Cell : RunOk PP 93 (W [.slc, .int .i64] [.slc] F_slices_Repeat_api_Cell_api_Cell) := runOk_of (TblOk.cons R_math_bits_Mul (TblOk.nil)) Tryz.func93 (by kernel_rfl) (by kernel_rfl) (E_slices_Repeat_api_Cell_api_Cell _)
attribute [irreducible] F_slices_Repeat_api_Cell_api_Cell
def G_chip_blank (Q : List Int → H → Prop) (h : H) : Prop := ∀ n2 h3, hnew h n2 (ints .u8 (zeros 32)) h3 → ∀ n5 h6, hnew h3 n5 (ints .u8 (zeros 32)) h6 → ∀ (J8 : JT), (∀ (i9 : Int) (h10 : H), (if ltI i9 32 = true then 0 ≤ i9 ∧ i9 < (↑32 : Int) ∧ hcan h10 ((Addr.mk n5 0 none).add (i9.toNat * 1)) 1 ∧ ∀ h11, h11 = hwr h10 ((Addr.mk n5 0 none).add (i9.toNat * 1)) [.int .u8 255] → J8 [.dv (.one (.int .i64 (IntKind.i64.wrap (i9 + 1))))] h11 else ∃ (l13 : List Int), l13.length = 32 ∧ hrow h10 ⟨n5, 0, none⟩ .u8 l13 ∧ hcan h10 ⟨n2, 0, none⟩ 32 ∧ ∀ h14, h14 = hwr h10 ⟨n2, 0, none⟩ (ints .u8 l13 ++ []) → ∃ (l16 : List Int), l16.length = 32 ∧ hrow h14 ⟨n2, 0, none⟩ .u8 l16 ∧ Q l16 h14) → J8 [.dv (.one (.int .i64 i9))] h10) → J8 [.dv (.one (.int .i64 0))] h6
theorem E_chip_blank : ∀ Q h, G_chip_blank Q h = Dbody PP [] [(58, [(3, .sc (.int .i64))])] Tryz.f94 [] (decR [.ag [.row .u8 32]] Q) h := by intros; kernel_rfl
def F_chip_blank := G_chip_blank
theorem R_chip_blank : RunOk PP 94 (W [] [.ag [.row .u8 32]] F_chip_blank) := runOk_of (TblOk.nil) Tryz.func94 (by kernel_rfl) (by kernel_rfl) (E_chip_blank)
attribute [irreducible] F_chip_blank
def G_chip_New (c0 : Int → Int → Int → Int → Int → Int → Int → (Int → H → Prop) → H → Prop) (c1 : Int → Int → Int → Int → Int → Int → Int → (Int → H → Prop) → H → Prop) (c2 : Int → Int → Int → Int → Int → Int → Int → (Int → H → Prop) → H → Prop) (c3 : OA → Nat → Nat → Int → (OA → Nat → Nat → H → Prop) → H → Prop) (c4 : (List Int → H → Prop) → H → Prop) (a0_0 : Int) (a0_1 : Int) (a0_2 : Int) (a0_3 : Int) (a0_4 : Int) (a0_5 : Int) (a0_6 : Int) (Q : OA → Int → H → Prop) (h : H) : Prop := ∀ n14 h15, hnew h n14 [.int .i64 a0_0, .int .i64 a0_1, .int .i64 a0_2, .int .i64 a0_3, .int .i64 a0_4, .int .i64 a0_5, .int .i64 a0_6] h15 → ∃ i17, hc h15 ⟨n14, 0, none⟩ = some (.int .i64 i17) ∧ ∃ i18, hc h15 ⟨n14, 1, none⟩ = some (.int .i64 i18) ∧ ∃ i19, hc h15 ⟨n14, 2, none⟩ = some (.int .i64 i19) ∧ ∃ i20, hc h15 ⟨n14, 3, none⟩ = some (.int .i64 i20) ∧ ∃ i21, hc h15 ⟨n14, 4, none⟩ = some (.int .i64 i21) ∧ ∃ i22, hc h15 ⟨n14, 5, none⟩ = some (.int .i64 i22) ∧ ∃ i23, hc h15 ⟨n14, 6, none⟩ = some (.int .i64 i23) ∧ c0 i17 i18 i19 i20 i21 i22 i23 (fun i24 h25 => if (i24 != 0) = true then Q none i24 h25 else ∀ (J26 : JT), (∀ (p27 : Addr) (h28 : H), (∃ i29, hc h28 ⟨n14, 0, none⟩ = some (.int .i64 i29) ∧ ∃ i30, hc h28 ⟨n14, 1, none⟩ = some (.int .i64 i30) ∧ ∃ i31, hc h28 ⟨n14, 2, none⟩ = some (.int .i64 i31) ∧ ∃ i32, hc h28 ⟨n14, 3, none⟩ = some (.int .i64 i32) ∧ ∃ i33, hc h28 ⟨n14, 4, none⟩ = some (.int .i64 i33) ∧ ∃ i34, hc h28 ⟨n14, 5, none⟩ = some (.int .i64 i34) ∧ ∃ i35, hc h28 ⟨n14, 6, none⟩ = some (.int .i64 i35) ∧ c1 i29 i30 i31 i32 i33 i34 i35 (fun i36 h37 => ∀ (J38 : JT), (∀ (i39 : Int) (h40 : H), (if ltI i39 i36 = true then ∃ o41 n42 n43, hc h40 p27 = some (.slice o41 n42 n43) ∧ ∃ i44, hc h40 ⟨n14, 0, none⟩ = some (.int .i64 i44) ∧ c4 (fun l45 h46 => hcs h46 ⟨n14, 0, none⟩ [.int .i64 i44] ∧ hcs h46 p27 [.slice o41 n42 n43] ∧ ∀ n47 h48, hnew h46 n47 (ints .u8 l45 ++ []) h48 → hcs h48 ⟨n14, 0, none⟩ [.int .i64 i44] ∧ hcs h48 p27 [.slice o41 n42 n43] ∧ c3 (some (Addr.mk n47 0 none)) 1 1 i44 (fun o50 n51 n52 h53 => hcs h53 p27 [.slice o41 n42 n43] ∧ ∀ n54 h55, hnew h53 n54 [.slice o50 n51 n52] h55 → hcs h55 p27 [.slice o41 n42 n43] ∧ ∃ (l57 : List Value), hsv h55 (some (Addr.mk n54 0 none)) 1 1 l57 ∧ pApp h55 1 [.slice none 0 0] 24 o41 n42 n43 1 l57 fun o58 n59 n60 h61 => hcan h61 p27 1 ∧ ∀ h62, h62 = hwr h61 p27 [.slice o58 n59 n60] → J38 [.dv (.one (.int .i64 (IntKind.i64.wrap (i39 + 1))))] h62) h48) h40 else ∃ i64, hc h40 ⟨n14, 0, none⟩ = some (.int .i64 i64) ∧ ∃ i65, hc h40 ⟨n14, 1, none⟩ = some (.int .i64 i65) ∧ ∃ i66, hc h40 ⟨n14, 2, none⟩ = some (.int .i64 i66) ∧ ∃ i67, hc h40 ⟨n14, 3, none⟩ = some (.int .i64 i67) ∧ ∃ i68, hc h40 ⟨n14, 4, none⟩ = some (.int .i64 i68) ∧ ∃ i69, hc h40 ⟨n14, 5, none⟩ = some (.int .i64 i69) ∧ ∃ i70, hc h40 ⟨n14, 6, none⟩ = some (.int .i64 i70) ∧ ∃ o71 n72 n73, hc h40 p27 = some (.slice o71 n72 n73) ∧ ∃ o74 n75 n76, hc h40 (p27.add 1) = some (.slice o74 n75 n76) ∧ ∃ o77 n78 n79, hc h40 (p27.add 2) = some (.slice o77 n78 n79) ∧ ∀ n80 h81, hnew h40 n80 [.int .i64 i64, .int .i64 i65, .int .i64 i66, .int .i64 i67, .int .i64 i68, .int .i64 i69, .int .i64 i70, .slice o71 n72 n73, .slice o74 n75 n76, .slice o77 n78 n79, .int .i64 0, .bool false, .int .i64 (-1), .slice none 0 0] h81 → Q (some (Addr.mk n80 0 none)) 0 h81) → J38 [.dv (.one (.int .i64 i39))] h40) → J38 [.dv (.one (.int .i64 0))] h37) h28) → J26 [SV.dv (DV.addr p27)] h28) → ∃ i87, hc h25 ⟨n14, 0, none⟩ = some (.int .i64 i87) ∧ ∃ i88, hc h25 ⟨n14, 1, none⟩ = some (.int .i64 i88) ∧ ∃ i89, hc h25 ⟨n14, 2, none⟩ = some (.int .i64 i89) ∧ ∃ i90, hc h25 ⟨n14, 3, none⟩ = some (.int .i64 i90) ∧ ∃ i91, hc h25 ⟨n14, 4, none⟩ = some (.int .i64 i91) ∧ ∃ i92, hc h25 ⟨n14, 5, none⟩ = some (.int .i64 i92) ∧ ∃ i93, hc h25 ⟨n14, 6, none⟩ = some (.int .i64 i93) ∧ ∃ i94, hc h25 ⟨n14, 0, none⟩ = some (.int .i64 i94) ∧ ∃ i95, hc h25 ⟨n14, 1, none⟩ = some (.int .i64 i95) ∧ ∃ i96, hc h25 ⟨n14, 2, none⟩ = some (.int .i64 i96) ∧ ∃ i97, hc h25 ⟨n14, 3, none⟩ = some (.int .i64 i97) ∧ ∃ i98, hc h25 ⟨n14, 4, none⟩ = some (.int .i64 i98) ∧ ∃ i99, hc h25 ⟨n14, 5, none⟩ = some (.int .i64 i99) ∧ ∃ i100, hc h25 ⟨n14, 6, none⟩ = some (.int .i64 i100) ∧ c1 i87 i88 i89 i90 i91 i92 i93 (fun i101 h102 => hcs h102 ⟨n14, 0, none⟩ [.int .i64 i94, .int .i64 i95, .int .i64 i96, .int .i64 i97, .int .i64 i98, .int .i64 i99, .int .i64 i100] ∧ (0 ≤ i101 ∧ i101 ≤ i101 ∧ (↑8 : Int) * i101 ≤ 2 ^ 48 ∧ i101 ≤ 2 ^ 48 ∧ ∀ n103 h104, hnew h102 n103 (List.replicate i101.toNat [.int .i64 0]).flatten h104 → hcs h104 ⟨n14, 0, none⟩ [.int .i64 i94, .int .i64 i95, .int .i64 i96, .int .i64 i97, .int .i64 i98, .int .i64 i99, .int .i64 i100] ∧ c2 i94 i95 i96 i97 i98 i99 i100 (fun i106 h107 => (0 ≤ i106 ∧ i106 ≤ i106 ∧ (↑1 : Int) * i106 ≤ 2 ^ 48 ∧ i106 ≤ 2 ^ 48 ∧ ∀ n108 h109, hnew h107 n108 (List.replicate i106.toNat [.bool false]).flatten h109 → ∀ n111 h112, hnew h109 n111 [.slice none 0 0, .slice none 0 0, .slice none 0 0] h112 → hcan h112 ⟨n111, 0, none⟩ 3 ∧ ∀ h114, h114 = hwr h112 ⟨n111, 0, none⟩ [.slice none 0 0, .slice (some (Addr.mk n103 0 none)) i101.toNat i101.toNat, .slice (some (Addr.mk n108 0 none)) i106.toNat i106.toNat] → J26 [SV.dv (DV.addr (Addr.mk n111 0 none))] h114) ∧ ∀ n116 h117, hnew h107 n116 [.slice none 0 0, .slice none 0 0, .slice none 0 0] h117 → 0 ≤ i106 ∧ i106 ≤ i106 ∧ (↑1 : Int) * i106 ≤ 2 ^ 48 ∧ i106 ≤ 2 ^ 48 ∧ ∀ n119 h120, hnew h117 n119 (List.replicate i106.toNat [.bool false]).flatten h120 → hcan h120 ⟨n116, 0, none⟩ 3 ∧ ∀ h122, h122 = hwr h120 ⟨n116, 0, none⟩ [.slice none 0 0, .slice (some (Addr.mk n103 0 none)) i101.toNat i101.toNat, .slice (some (Addr.mk n119 0 none)) i106.toNat i106.toNat] → J26 [SV.dv (DV.addr (Addr.mk n116 0 none))] h122) h104 ∧ ∀ n124 h125, hnew h104 n124 [.slice none 0 0, .slice none 0 0, .slice none 0 0] h125 → hcs h125 ⟨n14, 0, none⟩ [.int .i64 i94, .int .i64 i95, .int .i64 i96, .int .i64 i97, .int .i64 i98, .int .i64 i99, .int .i64 i100] ∧ c2 i94 i95 i96 i97 i98 i99 i100 (fun i127 h128 => 0 ≤ i127 ∧ i127 ≤ i127 ∧ (↑1 : Int) * i127 ≤ 2 ^ 48 ∧ i127 ≤ 2 ^ 48 ∧ ∀ n129 h130, hnew h128 n129 (List.replicate i127.toNat [.bool false]).flatten h130 → hcan h130 ⟨n124, 0, none⟩ 3 ∧ ∀ h132, h132 = hwr h130 ⟨n124, 0, none⟩ [.slice none 0 0, .slice (some (Addr.mk n103 0 none)) i101.toNat i101.toNat, .slice (some (Addr.mk n129 0 none)) i127.toNat i127.toNat] → J26 [SV.dv (DV.addr (Addr.mk n124 0 none))] h132) h125) ∧ c2 i94 i95 i96 i97 i98 i99 i100 (fun i134 h135 => (0 ≤ i101 ∧ i101 ≤ i101 ∧ (↑8 : Int) * i101 ≤ 2 ^ 48 ∧ i101 ≤ 2 ^ 48 ∧ ∀ n136 h137, hnew h135 n136 (List.replicate i101.toNat [.int .i64 0]).flatten h137 → (0 ≤ i134 ∧ i134 ≤ i134 ∧ (↑1 : Int) * i134 ≤ 2 ^ 48 ∧ i134 ≤ 2 ^ 48 ∧ ∀ n139 h140, hnew h137 n139 (List.replicate i134.toNat [.bool false]).flatten h140 → ∀ n142 h143, hnew h140 n142 [.slice none 0 0, .slice none 0 0, .slice none 0 0] h143 → hcan h143 ⟨n142, 0, none⟩ 3 ∧ ∀ h145, h145 = hwr h143 ⟨n142, 0, none⟩ [.slice none 0 0, .slice (some (Addr.mk n136 0 none)) i101.toNat i101.toNat, .slice (some (Addr.mk n139 0 none)) i134.toNat i134.toNat] → J26 [SV.dv (DV.addr (Addr.mk n142 0 none))] h145) ∧ ∀ n147 h148, hnew h137 n147 [.slice none 0 0, .slice none 0 0, .slice none 0 0] h148 → 0 ≤ i134 ∧ i134 ≤ i134 ∧ (↑1 : Int) * i134 ≤ 2 ^ 48 ∧ i134 ≤ 2 ^ 48 ∧ ∀ n150 h151, hnew h148 n150 (List.replicate i134.toNat [.bool false]).flatten h151 → hcan h151 ⟨n147, 0, none⟩ 3 ∧ ∀ h153, h153 = hwr h151 ⟨n147, 0, none⟩ [.slice none 0 0, .slice (some (Addr.mk n136 0 none)) i101.toNat i101.toNat, .slice (some (Addr.mk n150 0 none)) i134.toNat i134.toNat] → J26 [SV.dv (DV.addr (Addr.mk n147 0 none))] h153) ∧ (0 ≤ i134 ∧ i134 ≤ i134 ∧ (↑1 : Int) * i134 ≤ 2 ^ 48 ∧ i134 ≤ 2 ^ 48 ∧ ∀ n155 h156, hnew h135 n155 (List.replicate i134.toNat [.bool false]).flatten h156 → (0 ≤ i101 ∧ i101 ≤ i101 ∧ (↑8 : Int) * i101 ≤ 2 ^ 48 ∧ i101 ≤ 2 ^ 48 ∧ ∀ n158 h159, hnew h156 n158 (List.replicate i101.toNat [.int .i64 0]).flatten h159 → ∀ n161 h162, hnew h159 n161 [.slice none 0 0, .slice none 0 0, .slice none 0 0] h162 → hcan h162 ⟨n161, 0, none⟩ 3 ∧ ∀ h164, h164 = hwr h162 ⟨n161, 0, none⟩ [.slice none 0 0, .slice (some (Addr.mk n158 0 none)) i101.toNat i101.toNat, .slice (some (Addr.mk n155 0 none)) i134.toNat i134.toNat] → J26 [SV.dv (DV.addr (Addr.mk n161 0 none))] h164) ∧ ∀ n166 h167, hnew h156 n166 [.slice none 0 0, .slice none 0 0, .slice none 0 0] h167 → 0 ≤ i101 ∧ i101 ≤ i101 ∧ (↑8 : Int) * i101 ≤ 2 ^ 48 ∧ i101 ≤ 2 ^ 48 ∧ ∀ n169 h170, hnew h167 n169 (List.replicate i101.toNat [.int .i64 0]).flatten h170 → hcan h170 ⟨n166, 0, none⟩ 3 ∧ ∀ h172, h172 = hwr h170 ⟨n166, 0, none⟩ [.slice none 0 0, .slice (some (Addr.mk n169 0 none)) i101.toNat i101.toNat, .slice (some (Addr.mk n155 0 none)) i134.toNat i134.toNat] → J26 [SV.dv (DV.addr (Addr.mk n166 0 none))] h172) ∧ ∀ n174 h175, hnew h135 n174 [.slice none 0 0, .slice none 0 0, .slice none 0 0] h175 → (0 ≤ i101 ∧ i101 ≤ i101 ∧ (↑8 : Int) * i101 ≤ 2 ^ 48 ∧ i101 ≤ 2 ^ 48 ∧ ∀ n177 h178, hnew h175 n177 (List.replicate i101.toNat [.int .i64 0]).flatten h178 → 0 ≤ i134 ∧ i134 ≤ i134 ∧ (↑1 : Int) * i134 ≤ 2 ^ 48 ∧ i134 ≤ 2 ^ 48 ∧ ∀ n180 h181, hnew h178 n180 (List.replicate i134.toNat [.bool false]).flatten h181 → hcan h181 ⟨n174, 0, none⟩ 3 ∧ ∀ h183, h183 = hwr h181 ⟨n174, 0, none⟩ [.slice none 0 0, .slice (some (Addr.mk n177 0 none)) i101.toNat i101.toNat, .slice (some (Addr.mk n180 0 none)) i134.toNat i134.toNat] → J26 [SV.dv (DV.addr (Addr.mk n174 0 none))] h183) ∧ 0 ≤ i134 ∧ i134 ≤ i134 ∧ (↑1 : Int) * i134 ≤ 2 ^ 48 ∧ i134 ≤ 2 ^ 48 ∧ ∀ n185 h186, hnew h175 n185 (List.replicate i134.toNat [.bool false]).flatten h186 → 0 ≤ i101 ∧ i101 ≤ i101 ∧ (↑8 : Int) * i101 ≤ 2 ^ 48 ∧ i101 ≤ 2 ^ 48 ∧ ∀ n188 h189, hnew h186 n188 (List.replicate i101.toNat [.int .i64 0]).flatten h189 → hcan h189 ⟨n174, 0, none⟩ 3 ∧ ∀ h191, h191 = hwr h189 ⟨n174, 0, none⟩ [.slice none 0 0, .slice (some (Addr.mk n188 0 none)) i101.toNat i101.toNat, .slice (some (Addr.mk n185 0 none)) i134.toNat i134.toNat] → J26 [SV.dv (DV.addr (Addr.mk n174 0 none))] h191) h102 ∧ ∀ n193 h194, hnew h102 n193 [.slice none 0 0, .slice none 0 0, .slice none 0 0] h194 → hcs h194 ⟨n14, 0, none⟩ [.int .i64 i94, .int .i64 i95, .int .i64 i96, .int .i64 i97, .int .i64 i98, .int .i64 i99, .int .i64 i100] ∧ (0 ≤ i101 ∧ i101 ≤ i101 ∧ (↑8 : Int) * i101 ≤ 2 ^ 48 ∧ i101 ≤ 2 ^ 48 ∧ ∀ n196 h197, hnew h194 n196 (List.replicate i101.toNat [.int .i64 0]).flatten h197 → hcs h197 ⟨n14, 0, none⟩ [.int .i64 i94, .int .i64 i95, .int .i64 i96, .int .i64 i97, .int .i64 i98, .int .i64 i99, .int .i64 i100] ∧ c2 i94 i95 i96 i97 i98 i99 i100 (fun i199 h200 => 0 ≤ i199 ∧ i199 ≤ i199 ∧ (↑1 : Int) * i199 ≤ 2 ^ 48 ∧ i199 ≤ 2 ^ 48 ∧ ∀ n201 h202, hnew h200 n201 (List.replicate i199.toNat [.bool false]).flatten h202 → hcan h202 ⟨n193, 0, none⟩ 3 ∧ ∀ h204, h204 = hwr h202 ⟨n193, 0, none⟩ [.slice none 0 0, .slice (some (Addr.mk n196 0 none)) i101.toNat i101.toNat, .slice (some (Addr.mk n201 0 none)) i199.toNat i199.toNat] → J26 [SV.dv (DV.addr (Addr.mk n193 0 none))] h204) h197) ∧ c2 i94 i95 i96 i97 i98 i99 i100 (fun i206 h207 => (0 ≤ i101 ∧ i101 ≤ i101 ∧ (↑8 : Int) * i101 ≤ 2 ^ 48 ∧ i101 ≤ 2 ^ 48 ∧ ∀ n208 h209, hnew h207 n208 (List.replicate i101.toNat [.int .i64 0]).flatten h209 → 0 ≤ i206 ∧ i206 ≤ i206 ∧ (↑1 : Int) * i206 ≤ 2 ^ 48 ∧ i206 ≤ 2 ^ 48 ∧ ∀ n211 h212, hnew h209 n211 (List.replicate i206.toNat [.bool false]).flatten h212 → hcan h212 ⟨n193, 0, none⟩ 3 ∧ ∀ h214, h214 = hwr h212 ⟨n193, 0, none⟩ [.slice none 0 0, .slice (some (Addr.mk n208 0 none)) i101.toNat i101.toNat, .slice (some (Addr.mk n211 0 none)) i206.toNat i206.toNat] → J26 [SV.dv (DV.addr (Addr.mk n193 0 none))] h214) ∧ 0 ≤ i206 ∧ i206 ≤ i206 ∧ (↑1 : Int) * i206 ≤ 2 ^ 48 ∧ i206 ≤ 2 ^ 48 ∧ ∀ n216 h217, hnew h207 n216 (List.replicate i206.toNat [.bool false]).flatten h217 → 0 ≤ i101 ∧ i101 ≤ i101 ∧ (↑8 : Int) * i101 ≤ 2 ^ 48 ∧ i101 ≤ 2 ^ 48 ∧ ∀ n219 h220, hnew h217 n219 (List.replicate i101.toNat [.int .i64 0]).flatten h220 → hcan h220 ⟨n193, 0, none⟩ 3 ∧ ∀ h222, h222 = hwr h220 ⟨n193, 0, none⟩ [.slice none 0 0, .slice (some (Addr.mk n219 0 none)) i101.toNat i101.toNat, .slice (some (Addr.mk n216 0 none)) i206.toNat i206.toNat] → J26 [SV.dv (DV.addr (Addr.mk n193 0 none))] h222) h194) h25 ∧ ∀ n224 h225, hnew h25 n224 [.slice none 0 0, .slice none 0 0, .slice none 0 0] h225 → hcs h225 ⟨n14, 0, none⟩ [.int .i64 i94, .int .i64 i95, .int .i64 i96, .int .i64 i97, .int .i64 i98, .int .i64 i99, .int .i64 i100] ∧ hcs h225 ⟨n14, 0, none⟩ [.int .i64 i87, .int .i64 i88, .int .i64 i89, .int .i64 i90, .int .i64 i91, .int .i64 i92, .int .i64 i93] ∧ c1 i87 i88 i89 i90 i91 i92 i93 (fun i227 h228 => hcs h228 ⟨n14, 0, none⟩ [.int .i64 i94, .int .i64 i95, .int .i64 i96, .int .i64 i97, .int .i64 i98, .int .i64 i99, .int .i64 i100] ∧ (0 ≤ i227 ∧ i227 ≤ i227 ∧ (↑8 : Int) * i227 ≤ 2 ^ 48 ∧ i227 ≤ 2 ^ 48 ∧ ∀ n229 h230, hnew h228 n229 (List.replicate i227.toNat [.int .i64 0]).flatten h230 → hcs h230 ⟨n14, 0, none⟩ [.int .i64 i94, .int .i64 i95, .int .i64 i96, .int .i64 i97, .int .i64 i98, .int .i64 i99, .int .i64 i100] ∧ c2 i94 i95 i96 i97 i98 i99 i100 (fun i232 h233 => 0 ≤ i232 ∧ i232 ≤ i232 ∧ (↑1 : Int) * i232 ≤ 2 ^ 48 ∧ i232 ≤ 2 ^ 48 ∧ ∀ n234 h235, hnew h233 n234 (List.replicate i232.toNat [.bool false]).flatten h235 → hcan h235 ⟨n224, 0, none⟩ 3 ∧ ∀ h237, h237 = hwr h235 ⟨n224, 0, none⟩ [.slice none 0 0, .slice (some (Addr.mk n229 0 none)) i227.toNat i227.toNat, .slice (some (Addr.mk n234 0 none)) i232.toNat i232.toNat] → J26 [SV.dv (DV.addr (Addr.mk n224 0 none))] h237) h230) ∧ c2 i94 i95 i96 i97 i98 i99 i100 (fun i239 h240 => (0 ≤ i227 ∧ i227 ≤ i227 ∧ (↑8 : Int) * i227 ≤ 2 ^ 48 ∧ i227 ≤ 2 ^ 48 ∧ ∀ n241 h242, hnew h240 n241 (List.replicate i227.toNat [.int .i64 0]).flatten h242 → 0 ≤ i239 ∧ i239 ≤ i239 ∧ (↑1 : Int) * i239 ≤ 2 ^ 48 ∧ i239 ≤ 2 ^ 48 ∧ ∀ n244 h245, hnew h242 n244 (List.replicate i239.toNat [.bool false]).flatten h245 → hcan h245 ⟨n224, 0, none⟩ 3 ∧ ∀ h247, h247 = hwr h245 ⟨n224, 0, none⟩ [.slice none 0 0, .slice (some (Addr.mk n241 0 none)) i227.toNat i227.toNat, .slice (some (Addr.mk n244 0 none)) i239.toNat i239.toNat] → J26 [SV.dv (DV.addr (Addr.mk n224 0 none))] h247) ∧ 0 ≤ i239 ∧ i239 ≤ i239 ∧ (↑1 : Int) * i239 ≤ 2 ^ 48 ∧ i239 ≤ 2 ^ 48 ∧ ∀ n249 h250, hnew h240 n249 (List.replicate i239.toNat [.bool false]).flatten h250 → 0 ≤ i227 ∧ i227 ≤ i227 ∧ (↑8 : Int) * i227 ≤ 2 ^ 48 ∧ i227 ≤ 2 ^ 48 ∧ ∀ n252 h253, hnew h250 n252 (List.replicate i227.toNat [.int .i64 0]).flatten h253 → hcan h253 ⟨n224, 0, none⟩ 3 ∧ ∀ h255, h255 = hwr h253 ⟨n224, 0, none⟩ [.slice none 0 0, .slice (some (Addr.mk n252 0 none)) i227.toNat i227.toNat, .slice (some (Addr.mk n249 0 none)) i239.toNat i239.toNat] → J26 [SV.dv (DV.addr (Addr.mk n224 0 none))] h255) h228) h225) h15
theorem E_chip_New : ∀ c0 c1 c2 c3 c4 a0_0 a0_1 a0_2 a0_3 a0_4 a0_5 a0_6 Q h, G_chip_New c0 c1 c2 c3 c4 a0_0 a0_1 a0_2 a0_3 a0_4 a0_5 a0_6 Q h = Dbody PP [(90, W [.ag [.int .i64, .int .i64, .int .i64, .int .i64, .int .i64, .int .i64, .int .i64]] [.int .i64] c0), (91, W [.ag [.int .i64, .int .i64, .int .i64, .int .i64, .int .i64, .int .i64, .int .i64]] [.int .i64] c1), (92, W [.ag [.int .i64, .int .i64, .int .i64, .int .i64, .int .i64, .int .i64, .int .i64]] [.int .i64] c2), (93, W [.slc, .int .i64] [.slc] c3), (94, W [] [.ag [.row .u8 32]] c4)] [(7, [(5, .addr)]), (122, [(20, .sc (.int .i64))])] Tryz.f22 [.agg [.c (.int .i64 a0_0), .c (.int .i64 a0_1), .c (.int .i64 a0_2), .c (.int .i64 a0_3), .c (.int .i64 a0_4), .c (.int .i64 a0_5), .c (.int .i64 a0_6)]] (decR [.ptr, .int .i64] Q) h := by intros; kernel_rfl
def F_chip_New := G_chip_New F_chip_May F_chip_pages F_chip_fuses F_slices_Repeat_api_Cell_api_Cell F_chip_blank
theorem R_chip_New : RunOk PP 22 (W [.ag [.int .i64, .int .i64, .int .i64, .int .i64, .int .i64, .int .i64, .int .i64]] [.ptr, .int .i64] F_chip_New) := runOk_of (TblOk.cons R_chip_May (TblOk.cons R_chip_pages (TblOk.cons R_chip_fuses (TblOk.cons R_slices_Repeat_api_Cell_api_Cell (TblOk.cons R_chip_blank (TblOk.nil)))))) Tryz.func22 (by kernel_rfl) (by kernel_rfl) (E_chip_New _ _ _ _ _)
attribute [irreducible] F_chip_New
def G_portcullisref04_within (a0 : Int) (a1 : Int) (a2 : Int) (Q : Bool → H → Prop) (h : H) : Prop := if leI a1 a0 = true then Q (leI a0 a2) h else Q false h
theorem E_portcullisref04_within : ∀ a0 a1 a2 Q h, G_portcullisref04_within a0 a1 a2 Q h = Dbody PP [] [] Tryz.f95 [.one (.int .i64 a0), .one (.int .i64 a1), .one (.int .i64 a2)] (decR [.bool] Q) h := by intros; kernel_rfl
def F_portcullisref04_within := G_portcullisref04_within
theorem R_portcullisref04_within : RunOk PP 95 (W [.int .i64, .int .i64, .int .i64] [.bool] F_portcullisref04_within) := runOk_of (TblOk.nil) Tryz.func95 (by kernel_rfl) (by kernel_rfl) (E_portcullisref04_within)
attribute [irreducible] F_portcullisref04_within
def G_portcullisref04_May (c0 : Int → Int → Int → (Bool → H → Prop) → H → Prop) (a0_0 : Int) (a0_1 : Int) (a0_2 : Int) (a0_3 : Int) (a0_4 : Int) (a0_5 : Int) (a0_6 : Int) (Q : Int → H → Prop) (h : H) : Prop := ∀ n10 h11, hnew h n10 [.int .i64 a0_0, .int .i64 a0_1, .int .i64 a0_2, .int .i64 a0_3, .int .i64 a0_4, .int .i64 a0_5, .int .i64 a0_6] h11 → ∀ (J13 : JT), (∀ (b14 : Bool) (h15 : H), (∃ i16, hc h15 ⟨n10, 4, none⟩ = some (.int .i64 i16) ∧ c0 i16 1 64 (fun b17 h18 => if b17 = true then ∃ i19, hc h18 ⟨n10, 5, none⟩ = some (.int .i64 i19) ∧ c0 i19 0 65536 (fun b20 h21 => if b20 = true then ∃ i22, hc h21 ⟨n10, 6, none⟩ = some (.int .i64 i22) ∧ c0 i22 0 64 (fun b23 h24 => if (!b14) = true then Q 1 h24 else if (!b23) = true then Q 1 h24 else Q 0 h24) h21 else if (!b14) = true then Q 1 h21 else Q 1 h21) h18 else if (!b14) = true then Q 1 h18 else Q 1 h18) h15) → J13 [.dv (.one (.bool b14))] h15) → ∃ i27, hc h11 ⟨n10, 1, none⟩ = some (.int .i64 i27) ∧ c0 i27 1 8 (fun b28 h29 => if b28 = true then ∃ i30, hc h29 ⟨n10, 0, none⟩ = some (.int .i64 i30) ∧ ∃ i31, hc h29 ⟨n10, 1, none⟩ = some (.int .i64 i31) ∧ c0 i30 (IntKind.i64.wrap (i31 + 3)) 256 (fun b32 h33 => if b32 = true then ∃ i34, hc h33 ⟨n10, 2, none⟩ = some (.int .i64 i34) ∧ c0 i34 1 64 (fun b35 h36 => if b35 = true then ∃ i37, hc h36 ⟨n10, 3, none⟩ = some (.int .i64 i37) ∧ c0 i37 1 65536 (fun b38 h39 => J13 [.dv (.one (.bool b38))] h39) h36 else J13 [.dv (.one (.bool false))] h36) h33 else J13 [.dv (.one (.bool false))] h33) h29 else J13 [.dv (.one (.bool false))] h29) h11
theorem E_portcullisref04_May : ∀ c0 a0_0 a0_1 a0_2 a0_3 a0_4 a0_5 a0_6 Q h, G_portcullisref04_May c0 a0_0 a0_1 a0_2 a0_3 a0_4 a0_5 a0_6 Q h = Dbody PP [(95, W [.int .i64, .int .i64, .int .i64] [.bool] c0)] [(3, [(3, .sc (.bool))])] Tryz.f23 [.agg [.c (.int .i64 a0_0), .c (.int .i64 a0_1), .c (.int .i64 a0_2), .c (.int .i64 a0_3), .c (.int .i64 a0_4), .c (.int .i64 a0_5), .c (.int .i64 a0_6)]] (decR [.int .i64] Q) h := by intros; kernel_rfl
def F_portcullisref04_May := G_portcullisref04_May F_portcullisref04_within
theorem R_portcullisref04_May : RunOk PP 23 (W [.ag [.int .i64, .int .i64, .int .i64, .int .i64, .int .i64, .int .i64, .int .i64]] [.int .i64] F_portcullisref04_May) := runOk_of (TblOk.cons R_portcullisref04_within (TblOk.nil)) Tryz.func23 (by kernel_rfl) (by kernel_rfl) (E_portcullisref04_May _)
attribute [irreducible] F_portcullisref04_May
def G_keys_Ring_Has (a0 : Addr) (a1 : Int) (Q : Bool → H → Prop) (h : H) : Prop := ∃ (o4 : Option Nat), hc h a0 = some (.map o4) ∧ ∃ (l5 : List (Value × DV)), ∃ (x6 : DV), ∃ (b7 : Bool), hmapO h o4 l5 ∧ mlook (.int .i64 a1) (DV.one (.slice none 0 0)) l5 = some (x6, b7) ∧ ∃ (o8 : OA), ∃ (n9 : Nat), ∃ (n10 : Nat), x6 = DV.one (.slice o8 n9 n10) ∧ Q b7 h
theorem E_keys_Ring_Has : ∀ a0 a1 Q h, G_keys_Ring_Has a0 a1 Q h = Dbody PP [] [] Tryz.f73 [.addr a0, .one (.int .i64 a1)] (decR [.bool] Q) h := by intros; kernel_rfl
def F_keys_Ring_Has := G_keys_Ring_Has
theorem R_keys_Ring_Has : RunOk PP 73 (W [.addr, .int .i64] [.bool] F_keys_Ring_Has) := runOk_of (TblOk.nil) Tryz.func73 (by kernel_rfl) (by kernel_rfl) (E_keys_Ring_Has)
attribute [irreducible] F_keys_Ring_Has
def G_slices_Clone_byte_byte (a0p : OA) (a0l : Nat) (a0c : Nat) (Q : OA → Nat → Nat → H → Prop) (h : H) : Prop := if a0p.isNone = true then Q none 0 0 h else ∀ n5 h6, hnew h n5 [] h6 → ∃ (l8 : List Value), hsv h6 a0p 1 a0l l8 ∧ pApp h6 1 [.int .u8 0] 1 (some (Addr.mk n5 0 none)) 0 0 a0l l8 fun o9 n10 n11 h12 => Q o9 n10 n11 h12
theorem E_slices_Clone_byte_byte : ∀ a0p a0l a0c Q h, G_slices_Clone_byte_byte a0p a0l a0c Q h = Dbody PP [] [] Tryz.f118 [.one (.slice a0p a0l a0c)] (decR [.slc] Q) h := by intros; kernel_rfl
def F_slices_Clone_byte_byte := G_slices_Clone_byte_byte
theorem R_slices_Clone_byte_byte : RunOk PP 118 (W [.slc] [.slc] F_slices_Clone_byte_byte) := runOk_of (TblOk.nil) Tryz.func118 (by kernel_rfl) (by kernel_rfl) (E_slices_Clone_byte_byte)
attribute [irreducible] F_slices_Clone_byte_byte
def G_keys_New (c0 : Addr → Int → (Bool → H → Prop) → H → Prop) (c1 : OA → Nat → Nat → (OA → Nat → Nat → H → Prop) → H → Prop) (a0p : OA) (a0l : Nat) (a0c : Nat) (Q : OA → Int → Int → H → Prop) (h : H) : Prop := if ltI 64 a0l = true then Q none 3 64 h else ∀ (n7 : Nat) (h8 : H), hmnew h n7 h8 → ∀ n10 h11, hnew h8 n10 [.map (some n7)] h11 → ∀ (J13 : JT), (∀ (i14 : Int) (h15 : H), (if ltI i14 a0l = true then ∃ p16, a0p = some p16 ∧ 0 ≤ i14 ∧ i14 < a0l ∧ ∃ i17, hc h15 (p16.add (i14.toNat * 2)) = some (.int .i64 i17) ∧ ∃ o18 n19 n20, hc h15 ((p16.add (i14.toNat * 2)).add 1) = some (.slice o18 n19 n20) ∧ ∀ n21 h22, hnew h15 n21 [.int .i64 0, .slice none 0 0] h22 → hcan h22 ⟨n21, 0, none⟩ 2 ∧ ∀ h24, h24 = hwr h22 ⟨n21, 0, none⟩ [.int .i64 i17, .slice o18 n19 n20] → ∀ (J26 : JT), (∀ (b27 : Bool) (h28 : H), (if b27 = true then Q none 2 i14 h28 else ∃ o29 n30 n31, hc h28 ⟨n21, 1, none⟩ = some (.slice o29 n30 n31) ∧ if ltI (↑n30 : Int) 1 = true then Q none 4 i14 h28 else ∃ o32 n33 n34, hc h28 ⟨n21, 1, none⟩ = some (.slice o32 n33 n34) ∧ if ltI 256 n33 = true then Q none 4 i14 h28 else ∃ i35, hc h28 ⟨n21, 0, none⟩ = some (.int .i64 i35) ∧ c0 (Addr.mk n10 0 none) i35 (fun b36 h37 => if b36 = true then Q none 18 i14 h37 else ∃ (o38 : Option Nat), hc h37 ⟨n10, 0, none⟩ = some (.map o38) ∧ ∃ i39, hc h37 ⟨n21, 0, none⟩ = some (.int .i64 i39) ∧ ∃ o40 n41 n42, hc h37 ⟨n21, 1, none⟩ = some (.slice o40 n41 n42) ∧ c1 o40 n41 n42 (fun o43 n44 n45 h46 => hcs h46 ⟨n21, 0, none⟩ [.int .i64 i39] ∧ hcs h46 ⟨n10, 0, none⟩ [.map o38] ∧ ∃ (n47 : Nat), ∃ (l48 : List (Value × DV)), ∃ (l49 : List (Value × DV)), o38 = some n47 ∧ hmap h46 n47 l48 ∧ mins (.int .i64 i39) (DV.one (.slice o43 n44 n45)) l48 = some l49 ∧ ∀ (h50 : H), hmset h46 n47 l49 h50 → J13 [.dv (.one (.int .i64 (IntKind.i64.wrap (i14 + 1))))] h50) h37) h28) → J26 [.dv (.one (.bool b27))] h28) → ∃ i54, hc h24 ⟨n21, 0, none⟩ = some (.int .i64 i54) ∧ if ltI i54 0 = true then J26 [.dv (.one (.bool true))] h24 else ∃ i55, hc h24 ⟨n21, 0, none⟩ = some (.int .i64 i55) ∧ J26 [.dv (.one (.bool (leI 64 i55)))] h24 else Q (some (Addr.mk n10 0 none)) 0 0 h15) → J13 [.dv (.one (.int .i64 i14))] h15) → J13 [.dv (.one (.int .i64 0))] h11
theorem E_keys_New : ∀ c0 c1 a0p a0l a0c Q h, G_keys_New c0 c1 a0p a0l a0c Q h = Dbody PP [(73, W [.addr, .int .i64] [.bool] c0), (118, W [.slc] [.slc] c1)] [(122, [(16, .sc (.int .i64))]), (31332, [(21, .sc (.bool))])] Tryz.f59 [.one (.slice a0p a0l a0c)] (decR [.ptr, .int .i64, .int .i64] Q) h := by intros; kernel_rfl
def F_keys_New := G_keys_New F_keys_Ring_Has F_slices_Clone_byte_byte
theorem R_keys_New : RunOk PP 59 (W [.slc] [.ptr, .int .i64, .int .i64] F_keys_New) := runOk_of (TblOk.cons R_keys_Ring_Has (TblOk.cons R_slices_Clone_byte_byte (TblOk.nil))) Tryz.func59 (by kernel_rfl) (by kernel_rfl) (E_keys_New _ _)
attribute [irreducible] F_keys_New
def G_chip_Chip_Out (a0 : Addr) (Q : Bool → H → Prop) (h : H) : Prop := ∃ b3, hc h (a0.add 11) = some (.bool b3) ∧ Q b3 h
theorem E_chip_Chip_Out : ∀ a0 Q h, G_chip_Chip_Out a0 Q h = Dbody PP [] [] Tryz.f42 [.addr a0] (decR [.bool] Q) h := by intros; kernel_rfl
def F_chip_Chip_Out := G_chip_Chip_Out
theorem R_chip_Chip_Out : RunOk PP 42 (W [.addr] [.bool] F_chip_Chip_Out) := runOk_of (TblOk.nil) Tryz.func42 (by kernel_rfl) (by kernel_rfl) (E_chip_Chip_Out)
attribute [irreducible] F_chip_Chip_Out
def G_log_Mount (c0 : Addr → (Bool → H → Prop) → H → Prop) (a0 : Addr) (Q : OA → Int → H → Prop) (h : H) : Prop := c0 a0 (fun b4 h5 => if b4 = true then Q none 8 h5 else ∀ n6 h7, hnew h5 n6 [.pointer (some a0)] h7 → Q (some (Addr.mk n6 0 none)) 0 h7) h
theorem E_log_Mount : ∀ c0 a0 Q h, G_log_Mount c0 a0 Q h = Dbody PP [(42, W [.addr] [.bool] c0)] [] Tryz.f142 [.addr a0] (decR [.ptr, .int .i64] Q) h := by intros; kernel_rfl
def F_log_Mount := G_log_Mount F_chip_Chip_Out
theorem R_log_Mount : RunOk PP 142 (W [.addr] [.ptr, .int .i64] F_log_Mount) := runOk_of (TblOk.cons R_chip_Chip_Out (TblOk.nil)) Tryz.func142 (by kernel_rfl) (by kernel_rfl) (E_log_Mount _)
attribute [irreducible] F_log_Mount
def G_store_Mount (c0 : Addr → (OA → Int → H → Prop) → H → Prop) (a0 : Addr) (Q : OA → Int → H → Prop) (h : H) : Prop := c0 a0 (fun o4 i5 h6 => if (i5 != 0) = true then Q none i5 h6 else ∀ n7 h8, hnew h6 n7 [.pointer (some a0), .pointer o4] h8 → Q (some (Addr.mk n7 0 none)) 0 h8) h
theorem E_store_Mount : ∀ c0 a0 Q h, G_store_Mount c0 a0 Q h = Dbody PP [(142, W [.addr] [.ptr, .int .i64] c0)] [] Tryz.f60 [.addr a0] (decR [.ptr, .int .i64] Q) h := by intros; kernel_rfl
def F_store_Mount := G_store_Mount F_log_Mount
theorem R_store_Mount : RunOk PP 60 (W [.addr] [.ptr, .int .i64] F_store_Mount) := runOk_of (TblOk.cons R_log_Mount (TblOk.nil)) Tryz.func60 (by kernel_rfl) (by kernel_rfl) (E_store_Mount _)
attribute [irreducible] F_store_Mount
def G_sha_start (Q : List Int → H → Prop) (h : H) : Prop := ∀ n2 h3, hnew h n2 (ints .u32 (zeros 8)) h3 → hcan h3 ⟨n2, 0, none⟩ 8 ∧ ∀ h5, h5 = hwr h3 ⟨n2, 0, none⟩ (ints .u32 [1779033703, 3144134277, 1013904242, 2773480762, 1359893119, 2600822924, 528734635, 1541459225]) → ∃ (l7 : List Int), l7.length = 8 ∧ hrow h5 ⟨n2, 0, none⟩ .u32 l7 ∧ Q l7 h5
theorem E_sha_start : ∀ Q h, G_sha_start Q h = Dbody PP [] [] Tryz.f159 [] (decR [.ag [.row .u32 8]] Q) h := by intros; kernel_rfl
def F_sha_start := G_sha_start
theorem R_sha_start : RunOk PP 159 (W [] [.ag [.row .u32 8]] F_sha_start) := runOk_of (TblOk.nil) Tryz.func159 (by kernel_rfl) (by kernel_rfl) (E_sha_start)
attribute [irreducible] F_sha_start
def G_sha_rounds (Q : List Int → H → Prop) (h : H) : Prop := ∀ n2 h3, hnew h n2 (ints .u32 (zeros 64)) h3 → hcan h3 ⟨n2, 0, none⟩ 64 ∧ ∀ h5, h5 = hwr h3 ⟨n2, 0, none⟩ (ints .u32 [1116352408, 1899447441, 3049323471, 3921009573, 961987163, 1508970993, 2453635748, 2870763221, 3624381080, 310598401, 607225278, 1426881987, 1925078388, 2162078206, 2614888103, 3248222580, 3835390401, 4022224774, 264347078, 604807628, 770255983, 1249150122, 1555081692, 1996064986, 2554220882, 2821834349, 2952996808, 3210313671, 3336571891, 3584528711, 113926993, 338241895, 666307205, 773529912, 1294757372, 1396182291, 1695183700, 1986661051, 2177026350, 2456956037, 2730485921, 2820302411, 3259730800, 3345764771, 3516065817, 3600352804, 4094571909, 275423344, 430227734, 506948616, 659060556, 883997877, 958139571, 1322822218, 1537002063, 1747873779, 1955562222, 2024104815, 2227730452, 2361852424, 2428436474, 2756734187, 3204031479, 3329325298]) → ∃ (l7 : List Int), l7.length = 64 ∧ hrow h5 ⟨n2, 0, none⟩ .u32 l7 ∧ Q l7 h5
theorem E_sha_rounds : ∀ Q h, G_sha_rounds Q h = Dbody PP [] [] Tryz.f160 [] (decR [.ag [.row .u32 64]] Q) h := by intros; kernel_rfl
def F_sha_rounds := G_sha_rounds
theorem R_sha_rounds : RunOk PP 160 (W [] [.ag [.row .u32 64]] F_sha_rounds) := runOk_of (TblOk.nil) Tryz.func160 (by kernel_rfl) (by kernel_rfl) (E_sha_rounds)
attribute [irreducible] F_sha_rounds
def G_sha_New (c0 : (List Int → H → Prop) → H → Prop) (c1 : (List Int → H → Prop) → H → Prop) (Q : OA → H → Prop) (h : H) : Prop := c0 (fun l4 h5 => c1 (fun l6 h7 => ∀ n8 h9, hnew h7 n8 (ints .u32 l4 ++ (ints .u8 (zeros 64) ++ .int .u64 0 :: (ints .u32 l6 ++ []))) h9 → Q (some (Addr.mk n8 0 none)) h9) h5) h
theorem E_sha_New : ∀ c0 c1 Q h, G_sha_New c0 c1 Q h = Dbody PP [(159, W [] [.ag [.row .u32 8]] c0), (160, W [] [.ag [.row .u32 64]] c1)] [] Tryz.f86 [] (decR [.ptr] Q) h := by intros; kernel_rfl
def F_sha_New := G_sha_New F_sha_start F_sha_rounds
theorem R_sha_New : RunOk PP 86 (W [] [.ptr] F_sha_New) := runOk_of (TblOk.cons R_sha_start (TblOk.cons R_sha_rounds (TblOk.nil))) Tryz.func86 (by kernel_rfl) (by kernel_rfl) (E_sha_New _ _)
attribute [irreducible] F_sha_New
def G_chip_Chip_Config (a0 : Addr) (Q : Int → Int → Int → Int → Int → Int → Int → H → Prop) (h : H) : Prop := ∀ n3 h4, hnew h n3 [.int .i64 0, .int .i64 0, .int .i64 0, .int .i64 0, .int .i64 0, .int .i64 0, .int .i64 0] h4 → ∃ i6, hc h4 a0 = some (.int .i64 i6) ∧ ∃ i7, hc h4 (a0.add 1) = some (.int .i64 i7) ∧ ∃ i8, hc h4 (a0.add 2) = some (.int .i64 i8) ∧ ∃ i9, hc h4 (a0.add 3) = some (.int .i64 i9) ∧ ∃ i10, hc h4 (a0.add 4) = some (.int .i64 i10) ∧ ∃ i11, hc h4 (a0.add 5) = some (.int .i64 i11) ∧ ∃ i12, hc h4 (a0.add 6) = some (.int .i64 i12) ∧ hcan h4 ⟨n3, 0, none⟩ 7 ∧ ∀ h13, h13 = hwr h4 ⟨n3, 0, none⟩ [.int .i64 i6, .int .i64 i7, .int .i64 i8, .int .i64 i9, .int .i64 i10, .int .i64 i11, .int .i64 i12] → ∃ i15, hc h13 ⟨n3, 0, none⟩ = some (.int .i64 i15) ∧ ∃ i16, hc h13 ⟨n3, 1, none⟩ = some (.int .i64 i16) ∧ ∃ i17, hc h13 ⟨n3, 2, none⟩ = some (.int .i64 i17) ∧ ∃ i18, hc h13 ⟨n3, 3, none⟩ = some (.int .i64 i18) ∧ ∃ i19, hc h13 ⟨n3, 4, none⟩ = some (.int .i64 i19) ∧ ∃ i20, hc h13 ⟨n3, 5, none⟩ = some (.int .i64 i20) ∧ ∃ i21, hc h13 ⟨n3, 6, none⟩ = some (.int .i64 i21) ∧ Q i15 i16 i17 i18 i19 i20 i21 h13
theorem E_chip_Chip_Config : ∀ a0 Q h, G_chip_Chip_Config a0 Q h = Dbody PP [] [] Tryz.f63 [.addr a0] (decR [.ag [.int .i64, .int .i64, .int .i64, .int .i64, .int .i64, .int .i64, .int .i64]] Q) h := by intros; kernel_rfl
def F_chip_Chip_Config := G_chip_Chip_Config
theorem R_chip_Chip_Config : RunOk PP 63 (W [.addr] [.ag [.int .i64, .int .i64, .int .i64, .int .i64, .int .i64, .int .i64, .int .i64]] F_chip_Chip_Config) := runOk_of (TblOk.nil) Tryz.func63 (by kernel_rfl) (by kernel_rfl) (E_chip_Chip_Config)
attribute [irreducible] F_chip_Chip_Config
def G_chip_Chip_asked (a0 : Addr) (a1 : Int) (a2 : Int) (Q : Int → H → Prop) (h : H) : Prop := ∃ b5, hc h (a0.add 11) = some (.bool b5) ∧ if b5 = true then Q 8 h else if ltI a1 0 = true then Q 2 h else if leI a2 a1 = true then Q 2 h else Q 0 h
theorem E_chip_Chip_asked : ∀ a0 a1 a2 Q h, G_chip_Chip_asked a0 a1 a2 Q h = Dbody PP [] [] Tryz.f222 [.addr a0, .one (.int .i64 a1), .one (.int .i64 a2)] (decR [.int .i64] Q) h := by intros; kernel_rfl
def F_chip_Chip_asked := G_chip_Chip_asked
theorem R_chip_Chip_asked : RunOk PP 222 (W [.addr, .int .i64, .int .i64] [.int .i64] F_chip_Chip_asked) := runOk_of (TblOk.nil) Tryz.func222 (by kernel_rfl) (by kernel_rfl) (E_chip_Chip_asked)
attribute [irreducible] F_chip_Chip_asked
def G_chip_Chip_Erases (c0 : Addr → Int → Int → (Int → H → Prop) → H → Prop) (a0 : Addr) (a1 : Int) (Q : Int → Int → H → Prop) (h : H) : Prop := ∃ o5 n6 n7, hc h (a0.add 7) = some (.slice o5 n6 n7) ∧ c0 a0 a1 (↑n6 : Int) (fun i8 h9 => if (i8 != 0) = true then Q 0 i8 h9 else ∃ o10 n11 n12, hc h9 (a0.add 8) = some (.slice o10 n11 n12) ∧ ∃ p13, o10 = some p13 ∧ 0 ≤ a1 ∧ a1 < (↑n11 : Int) ∧ ∃ i14, hc h9 (p13.add (a1.toNat * 1)) = some (.int .i64 i14) ∧ Q i14 0 h9) h
theorem E_chip_Chip_Erases : ∀ c0 a0 a1 Q h, G_chip_Chip_Erases c0 a0 a1 Q h = Dbody PP [(222, W [.addr, .int .i64, .int .i64] [.int .i64] c0)] [] Tryz.f195 [.addr a0, .one (.int .i64 a1)] (decR [.int .i64, .int .i64] Q) h := by intros; kernel_rfl
def F_chip_Chip_Erases := G_chip_Chip_Erases F_chip_Chip_asked
theorem R_chip_Chip_Erases : RunOk PP 195 (W [.addr, .int .i64] [.int .i64, .int .i64] F_chip_Chip_Erases) := runOk_of (TblOk.cons R_chip_Chip_asked (TblOk.nil)) Tryz.func195 (by kernel_rfl) (by kernel_rfl) (E_chip_Chip_Erases _)
attribute [irreducible] F_chip_Chip_Erases
def G_chip_Chip_asksCell (c0 : Addr → Int → Int → (Int → H → Prop) → H → Prop) (a0 : Addr) (a1 : Int) (a2 : Int) (Q : Int → H → Prop) (h : H) : Prop := ∃ o6 n7 n8, hc h (a0.add 7) = some (.slice o6 n7 n8) ∧ c0 a0 a1 (↑n7 : Int) (fun i9 h10 => if (i9 != 0) = true then Q i9 h10 else ∃ i11, hc h10 a0 = some (.int .i64 i11) ∧ c0 a0 a2 i11 (fun i12 h13 => Q i12 h13) h10) h
theorem E_chip_Chip_asksCell : ∀ c0 a0 a1 a2 Q h, G_chip_Chip_asksCell c0 a0 a1 a2 Q h = Dbody PP [(222, W [.addr, .int .i64, .int .i64] [.int .i64] c0)] [] Tryz.f236 [.addr a0, .one (.int .i64 a1), .one (.int .i64 a2)] (decR [.int .i64] Q) h := by intros; kernel_rfl
def F_chip_Chip_asksCell := G_chip_Chip_asksCell F_chip_Chip_asked
theorem R_chip_Chip_asksCell : RunOk PP 236 (W [.addr, .int .i64, .int .i64] [.int .i64] F_chip_Chip_asksCell) := runOk_of (TblOk.cons R_chip_Chip_asked (TblOk.nil)) Tryz.func236 (by kernel_rfl) (by kernel_rfl) (E_chip_Chip_asksCell _)
attribute [irreducible] F_chip_Chip_asksCell
def G_chip_Chip_Read (c0 : Addr → Int → Int → (Int → H → Prop) → H → Prop) (a0 : Addr) (a1 : Int) (a2 : Int) (Q : List Int → Int → H → Prop) (h : H) : Prop := ∀ n6 h7, hnew h n6 (ints .u8 (zeros 32)) h7 → c0 a0 a1 a2 (fun i9 h10 => if (i9 != 0) = true then hcan h10 ⟨n6, 0, none⟩ 32 ∧ ∀ h11, h11 = hwr h10 ⟨n6, 0, none⟩ (ints .u8 (zeros 32)) → ∃ (l13 : List Int), l13.length = 32 ∧ hrow h11 ⟨n6, 0, none⟩ .u8 l13 ∧ Q l13 i9 h11 else ∃ o14 n15 n16, hc h10 (a0.add 7) = some (.slice o14 n15 n16) ∧ ∃ p17, o14 = some p17 ∧ 0 ≤ a1 ∧ a1 < (↑n15 : Int) ∧ ∃ o18 n19 n20, hc h10 (p17.add (a1.toNat * 1)) = some (.slice o18 n19 n20) ∧ ∃ p21, o18 = some p21 ∧ 0 ≤ a2 ∧ a2 < (↑n19 : Int) ∧ ∃ (l22 : List Int), l22.length = 32 ∧ hrow h10 (p21.add (a2.toNat * 32)) .u8 l22 ∧ hcan h10 ⟨n6, 0, none⟩ 32 ∧ ∀ h23, h23 = hwr h10 ⟨n6, 0, none⟩ (ints .u8 l22 ++ []) → ∃ (l25 : List Int), l25.length = 32 ∧ hrow h23 ⟨n6, 0, none⟩ .u8 l25 ∧ Q l25 0 h23) h7
theorem E_chip_Chip_Read : ∀ c0 a0 a1 a2 Q h, G_chip_Chip_Read c0 a0 a1 a2 Q h = Dbody PP [(236, W [.addr, .int .i64, .int .i64] [.int .i64] c0)] [] Tryz.f250 [.addr a0, .one (.int .i64 a1), .one (.int .i64 a2)] (decR [.ag [.row .u8 32], .int .i64] Q) h := by intros; kernel_rfl
def F_chip_Chip_Read := G_chip_Chip_Read F_chip_Chip_asksCell
theorem R_chip_Chip_Read : RunOk PP 250 (W [.addr, .int .i64, .int .i64] [.ag [.row .u8 32], .int .i64] F_chip_Chip_Read) := runOk_of (TblOk.cons R_chip_Chip_asksCell (TblOk.nil)) Tryz.func250 (by kernel_rfl) (by kernel_rfl) (E_chip_Chip_Read _)
attribute [irreducible] F_chip_Chip_Read
def G_page_Info_lay (a0 : Addr) (a1 : Int) (a2_0 : Int) (a2_1 : Int) (a2_2 : Int) (Q : H → Prop) (h : H) : Prop := ∀ n7 h8, hnew h n7 [.int .i64 a2_0, .int .i64 a2_1, .int .i64 a2_2] h8 → ∀ (J10 : JT), (∀ (h11 : H), (∃ i12, hc h11 ⟨n7, 0, none⟩ = some (.int .i64 i12) ∧ if (i12 == 3) = true then ∃ i13, hc h11 (a0.add 12) = some (.int .i64 i13) ∧ hcan h11 (a0.add 12) 1 ∧ ∀ h14, h14 = hwr h11 (a0.add 12) [.int .i64 (IntKind.i64.wrap (i13 + 1))] → Q h14 else ∀ (J16 : JT), (∀ (b17 : Bool) (h18 : H), (if b17 = true then ∃ i19, hc h18 ⟨n7, 2, none⟩ = some (.int .i64 i19) ∧ hcan h18 a0 1 ∧ ∀ h20, h20 = hwr h18 a0 [.int .i64 i19] → Q h20 else ∃ i22, hc h18 ⟨n7, 0, none⟩ = some (.int .i64 i22) ∧ if (i22 == 2) = true then if ltI 0 a1 = true then ∃ i23, hc h18 ⟨n7, 1, none⟩ = some (.int .i64 i23) ∧ ∃ i24, hc h18 ⟨n7, 1, none⟩ = some (.int .i64 i24) ∧ 0 ≤ i24 ∧ i24 < (↑9 : Int) ∧ ∃ i25, hc h18 ((a0.add 1).add (i24.toNat * 1)) = some (.int .i64 i25) ∧ ∃ i26, hc h18 ⟨n7, 2, none⟩ = some (.int .i64 i26) ∧ 0 ≤ i23 ∧ i23 < (↑9 : Int) ∧ hcan h18 ((a0.add 1).add (i23.toNat * 1)) 1 ∧ ∀ h27, h27 = hwr h18 ((a0.add 1).add (i23.toNat * 1)) [.int .i64 (if i26 > i25 then i26 else i25)] → Q h27 else Q h18 else Q h18) → J16 [.dv (.one (.bool b17))] h18) → ∃ i31, hc h11 ⟨n7, 0, none⟩ = some (.int .i64 i31) ∧ if (i31 == 1) = true then J16 [.dv (.one (.bool (a1 == 0)))] h11 else J16 [.dv (.one (.bool false))] h11) → J10 [] h11) → ∃ i34, hc h8 ⟨n7, 0, none⟩ = some (.int .i64 i34) ∧ if (i34 != 0) = true then hcan h8 (a0.add 10) 1 ∧ ∀ h35, h35 = hwr h8 (a0.add 10) [.int .i64 (IntKind.i64.wrap (a1 + 1))] → J10 [] h35 else J10 [] h8
theorem E_page_Info_lay : ∀ a0 a1 a2_0 a2_1 a2_2 Q h, G_page_Info_lay a0 a1 a2_0 a2_1 a2_2 Q h = Dbody PP [] [(3, []), (59, [(25, .sc (.bool))])] Tryz.f271 [.addr a0, .one (.int .i64 a1), .agg [.c (.int .i64 a2_0), .c (.int .i64 a2_1), .c (.int .i64 a2_2)]] (decR [] Q) h := by intros; kernel_rfl
def F_page_Info_lay := G_page_Info_lay
theorem R_page_Info_lay : RunOk PP 271 (W [.addr, .int .i64, .ag [.int .i64, .int .i64, .int .i64]] [] F_page_Info_lay) := runOk_of (TblOk.nil) Tryz.func271 (by kernel_rfl) (by kernel_rfl) (E_page_Info_lay)
attribute [irreducible] F_page_Info_lay
def G_cell_put (a0p : OA) (a0l : Nat) (a0c : Nat) (a1 : Int) (Q : H → Prop) (h : H) : Prop := ∀ (J6 : JT), (∀ (i7 : Int) (h8 : H), (if ltI i7 a0l = true then 0 ≤ IntKind.i64.wrap (8 * i7) ∧ ∃ p9, a0p = some p9 ∧ 0 ≤ i7 ∧ i7 < a0l ∧ hcan h8 (p9.add (i7.toNat * 1)) 1 ∧ ∀ h10, h10 = hwr h8 (p9.add (i7.toNat * 1)) [.int .u8 (IntKind.u8.wrap (a1.fdiv (2 ^ min (IntKind.i64.wrap (8 * i7)).toNat 64)))] → J6 [.dv (.one (.int .i64 (IntKind.i64.wrap (i7 + 1))))] h10 else Q h8) → J6 [.dv (.one (.int .i64 i7))] h8) → J6 [.dv (.one (.int .i64 0))] h
theorem E_cell_put : ∀ a0p a0l a0c a1 Q h, G_cell_put a0p a0l a0c a1 Q h = Dbody PP [] [(6, [(7, .sc (.int .i64))])] Tryz.f273 [.one (.slice a0p a0l a0c), .one (.int .u64 a1)] (decR [] Q) h := by intros; kernel_rfl
def F_cell_put := G_cell_put
theorem R_cell_put : RunOk PP 273 (W [.slc, .int .u64] [] F_cell_put) := runOk_of (TblOk.nil) Tryz.func273 (by kernel_rfl) (by kernel_rfl) (E_cell_put)
attribute [irreducible] F_cell_put
def G_crc_New (Q : OA → H → Prop) (h : H) : Prop := ∀ n2 h3, hnew h n2 [.int .u32 0] h3 → Q (some (Addr.mk n2 0 none)) h3
theorem E_crc_New : ∀ Q h, G_crc_New Q h = Dbody PP [] [] Tryz.f297 [] (decR [.ptr] Q) h := by intros; kernel_rfl
def F_crc_New := G_crc_New
theorem R_crc_New : RunOk PP 297 (W [] [.ptr] F_crc_New) := runOk_of (TblOk.nil) Tryz.func297 (by kernel_rfl) (by kernel_rfl) (E_crc_New)
attribute [irreducible] F_crc_New
def G_crc_eight (a0 : Int) (Q : Int → H → Prop) (h : H) : Prop := ∀ (J3 : JT), (∀ (i4 i5 : Int) (h6 : H), (if ltI i5 8 = true then (0 : Int) ≤ 1 ∧ if (bits .and .u32 i4 1 == 1) = true then ∀ (i7 : Int), i7 = 3988292384 → J3 [.dv (.one (.int .u32 (bits .xor .u32 (i4.fdiv (2 ^ 1)) i7))), .dv (.one (.int .i64 (IntKind.i64.wrap (i5 + 1))))] h6 else J3 [.dv (.one (.int .u32 (i4.fdiv (2 ^ 1)))), .dv (.one (.int .i64 (IntKind.i64.wrap (i5 + 1))))] h6 else Q i4 h6) → J3 [.dv (.one (.int .u32 i4)), .dv (.one (.int .i64 i5))] h6) → J3 [.dv (.one (.int .u32 (IntKind.u32.wrap a0))), .dv (.one (.int .i64 0))] h
theorem E_crc_eight : ∀ a0 Q h, G_crc_eight a0 Q h = Dbody PP [] [(58, [(3, .sc (.int .u32)), (7, .sc (.int .i64))])] Tryz.f311 [.one (.int .u8 a0)] (decR [.int .u32] Q) h := by intros; kernel_rfl
def F_crc_eight := G_crc_eight
theorem R_crc_eight : RunOk PP 311 (W [.int .u8] [.int .u32] F_crc_eight) := runOk_of (TblOk.nil) Tryz.func311 (by kernel_rfl) (by kernel_rfl) (E_crc_eight)
attribute [irreducible] F_crc_eight
def G_crc_Sum_Write (c0 : Int → (Int → H → Prop) → H → Prop) (a0 : Addr) (a1p : OA) (a1l : Nat) (a1c : Nat) (Q : H → Prop) (h : H) : Prop := ∃ i7, hc h a0 = some (.int .u32 i7) ∧ ∀ (J8 : JT), (∀ (i9 i10 : Int) (h11 : H), (if ltI i10 a1l = true then ∃ p12, a1p = some p12 ∧ 0 ≤ i10 ∧ i10 < a1l ∧ ∃ i13, hc h11 (p12.add (i10.toNat * 1)) = some (.int .u8 i13) ∧ c0 (bits .xor .u8 (IntKind.u8.wrap i9) i13) (fun i14 h15 => (0 : Int) ≤ 8 ∧ J8 [.dv (.one (.int .u32 (bits .xor .u32 i14 (i9.fdiv (2 ^ 8))))), .dv (.one (.int .i64 (IntKind.i64.wrap (i10 + 1))))] h15) h11 else hcan h11 a0 1 ∧ ∀ h16, h16 = hwr h11 a0 [.int .u32 (bits .xor .u32 (if IntKind.u32.signed = true then -1 else IntKind.u32.max) i9)] → Q h16) → J8 [.dv (.one (.int .u32 i9)), .dv (.one (.int .i64 i10))] h11) → J8 [.dv (.one (.int .u32 (bits .xor .u32 (if IntKind.u32.signed = true then -1 else IntKind.u32.max) i7))), .dv (.one (.int .i64 0))] h
theorem E_crc_Sum_Write : ∀ c0 a0 a1p a1l a1c Q h, G_crc_Sum_Write c0 a0 a1p a1l a1c Q h = Dbody PP [(311, W [.int .u8] [.int .u32] c0)] [(26, [(4, .sc (.int .u32)), (14, .sc (.int .i64))])] Tryz.f298 [.addr a0, .one (.slice a1p a1l a1c)] (decR [] Q) h := by intros; kernel_rfl
def F_crc_Sum_Write := G_crc_Sum_Write F_crc_eight
theorem R_crc_Sum_Write : RunOk PP 298 (W [.addr, .slc] [] F_crc_Sum_Write) := runOk_of (TblOk.cons R_crc_eight (TblOk.nil)) Tryz.func298 (by kernel_rfl) (by kernel_rfl) (E_crc_Sum_Write _)
attribute [irreducible] F_crc_Sum_Write
def G_crc_Sum_Sum (a0 : Addr) (Q : Int → H → Prop) (h : H) : Prop := ∃ i3, hc h a0 = some (.int .u32 i3) ∧ Q i3 h
theorem E_crc_Sum_Sum : ∀ a0 Q h, G_crc_Sum_Sum a0 Q h = Dbody PP [] [] Tryz.f299 [.addr a0] (decR [.int .u32] Q) h := by intros; kernel_rfl
def F_crc_Sum_Sum := G_crc_Sum_Sum
theorem R_crc_Sum_Sum : RunOk PP 299 (W [.addr] [.int .u32] F_crc_Sum_Sum) := runOk_of (TblOk.nil) Tryz.func299 (by kernel_rfl) (by kernel_rfl) (E_crc_Sum_Sum)
attribute [irreducible] F_crc_Sum_Sum
def G_crc_Of (c0 : (OA → H → Prop) → H → Prop) (c1 : Addr → OA → Nat → Nat → (H → Prop) → H → Prop) (c2 : Addr → (Int → H → Prop) → H → Prop) (a0p : OA) (a0l : Nat) (a0c : Nat) (Q : Int → H → Prop) (h : H) : Prop := c0 (fun o8 h9 => ∃ p10, o8 = some p10 ∧ c1 p10 a0p a0l a0c (fun h11 => ∃ p12, o8 = some p12 ∧ c2 p12 (fun i13 h14 => Q i13 h14) h11) h9) h
theorem E_crc_Of : ∀ c0 c1 c2 a0p a0l a0c Q h, G_crc_Of c0 c1 c2 a0p a0l a0c Q h = Dbody PP [(297, W [] [.ptr] c0), (298, W [.addr, .slc] [] c1), (299, W [.addr] [.int .u32] c2)] [] Tryz.f274 [.one (.slice a0p a0l a0c)] (decR [.int .u32] Q) h := by intros; kernel_rfl
def F_crc_Of := G_crc_Of F_crc_New F_crc_Sum_Write F_crc_Sum_Sum
theorem R_crc_Of : RunOk PP 274 (W [.slc] [.int .u32] F_crc_Of) := runOk_of (TblOk.cons R_crc_New (TblOk.cons R_crc_Sum_Write (TblOk.cons R_crc_Sum_Sum (TblOk.nil)))) Tryz.func274 (by kernel_rfl) (by kernel_rfl) (E_crc_Of _ _ _)
attribute [irreducible] F_crc_Of
end Go.Proofs.YteedolonhdbieaaGreatDoor
end
