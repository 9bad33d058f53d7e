/- TokenKeeps: what is proved and its parts, laid together by a program of ours: Fa0 Eas F -/
import Derived.LaidEql
import Derived.RowKitTokens
import Derived.Test.YtijcpgahmbkijaaGreatDoorProg
import Derived.WalkKit
import Derived.Test.YtijcpgahmbkijaaGreatDoorK2
set_option autoImplicit false
set_option linter.all false
/- The denotations of some functions of the program, printed by a program of ours (wip/tools/vcgen.py), and that they are the model's. -/
section
set_option linter.unusedVariables false
set_option maxRecDepth 100000
namespace Go.Proofs.YtijcpgahmbkijaaGreatDoor
open Go Go.Vc
abbrev id_main_main : Nat := 0
abbrev id_gosem_cut : Nat := 1
abbrev id_gosem_cut_init : Nat := 2
abbrev id_portcullislaw24_TokenMakes : Nat := 3
abbrev id_portcullislaw24_TokenOnly : Nat := 4
abbrev id_portcullislaw24_TokenKeeps : Nat := 5
abbrev id_portcullislaw24_awake : Nat := 6
abbrev id_portcullisref24_Few : Nat := 7
abbrev id_keys_New : Nat := 8
abbrev id_portcullisref12_New : Nat := 9
abbrev id_token_Issue : Nat := 10
abbrev id_portcullisref24_Issue : Nat := 11
abbrev id_portcullisref24_Same : Nat := 12
abbrev id_portcullislaw24_back : Nat := 13
abbrev id_portcullislaw24_of : Nat := 14
abbrev id_token_Token_Narrow : Nat := 15
abbrev id_portcullislaw24_caveat : Nat := 16
abbrev id_portcullisref24_Token_Narrow : Nat := 17
abbrev id_portcullislaw24_issued : Nat := 18
abbrev id_portcullisref24_Right : Nat := 19
abbrev id_portcullisref24_Clash : Nat := 20
abbrev id_portcullisref24_Pairs : Nat := 21
abbrev id_token_Put : Nat := 22
abbrev id_token_Get : Nat := 23
abbrev id_portcullisref24_Get : Nat := 24
abbrev id_portcullislaw24_told : Nat := 25
abbrev id_keys_Ring_Has : Nat := 26
abbrev id_slices_Clone_byte_byte : Nat := 27
abbrev id_portcullisref12_Ring_Has : Nat := 28
abbrev id_keys_Ring_Sign : Nat := 29
abbrev id_token_message : Nat := 30
abbrev id_portcullisref12_Ring_Sign : Nat := 31
abbrev id_portcullisref24_first : Nat := 32
abbrev id_token_Caveat_may : Nat := 33
abbrev id_slices_Clone_token_Caveat_token_Caveat : Nat := 34
abbrev id_token_next : Nat := 35
abbrev id_portcullisref24_Caveat_May : Nat := 36
abbrev id_portcullisref03_Of : Nat := 37
abbrev id_portcullisref24_Caveat_Bytes : Nat := 38
abbrev id_token_Token_may : Nat := 39
abbrev id_token_Caveat_bytes : Nat := 40
abbrev id_token_stands : Nat := 41
abbrev id_token_number : Nat := 42
abbrev id_portcullisref24_head : Nat := 43
abbrev id_portcullisref24_number : Nat := 44
abbrev id_errors_As : Nat := 45
abbrev id_portcullisref12_Ring_find : Nat := 46
abbrev id_mac_Of : Nat := 47
abbrev id_token_of : Nat := 48
abbrev id_token_told : Nat := 49
abbrev id_portcullisref24_Caveat_only : Nat := 50
abbrev id_portcullisref24_within : Nat := 51
abbrev id_portcullisref03_block : Nat := 52
abbrev id_portcullisref03_over : Nat := 53
abbrev id_portcullisref02_Of : Nat := 54
abbrev id_portcullisref24_eight : Nat := 55
abbrev id_slices_ContainsFunc_token_Caveat_token_Caveat : Nat := 56
abbrev id_token_Token_may_1 : Nat := 57
abbrev id_token_eight : Nat := 58
abbrev id_internal_reflectlite_ValueOf : Nat := 59
abbrev id_internal_reflectlite_Value_Type : Nat := 60
abbrev id_internal_reflectlite_Value_IsNil : Nat := 61
abbrev id_errors_as : Nat := 62
abbrev id_mac_New : Nat := 63
abbrev id_sha_Digest_Write : Nat := 64
abbrev id_mac_Mac_Sum : Nat := 65
abbrev id_portcullisref02_padded : Nat := 66
abbrev id_portcullisref02_begins : Nat := 67
abbrev id_portcullisref02_rounds : Nat := 68
abbrev id_portcullisref02_piece : Nat := 69
abbrev id_slices_IndexFunc_token_Caveat_token_Caveat : Nat := 70
abbrev id_internal_reflectlite_TypeOf : Nat := 71
abbrev id_internal_reflectlite_Value_Elem : Nat := 72
abbrev id_internal_reflectlite_Value_Set : Nat := 73
abbrev id_sha_Of : Nat := 74
abbrev id_sha_New : Nat := 75
abbrev id_sha_Digest_take : Nat := 76
abbrev id_sha_Digest_Sum : Nat := 77
abbrev id_portcullisref02_words : Nat := 78
abbrev id_portcullisref02_turned : Nat := 79
abbrev id_sha_start : Nat := 80
abbrev id_sha_rounds : Nat := 81
abbrev id_sha_turn : Nat := 82
abbrev id_sha_Digest_Copy : Nat := 83
abbrev id_math_bits_RotateLeft32 : Nat := 84
abbrev id_runtime_boundsError_Error : Nat := 85
abbrev id_runtime_boundsError_RuntimeError : Nat := 86
abbrev id_runtime_errorString_Error : Nat := 87
abbrev id_runtime_errorString_RuntimeError : Nat := 88
abbrev id_runtime_plainError_Error : Nat := 89
abbrev id_runtime_plainError_RuntimeError : Nat := 90
abbrev id_runtime_errorAddressString_Error : Nat := 91
abbrev id_runtime_errorAddressString_RuntimeError : Nat := 92
abbrev id_runtime_TypeAssertionError_Error : Nat := 93
abbrev id_runtime_TypeAssertionError_RuntimeError : Nat := 94
abbrev id_runtime_PanicNilError_Error : Nat := 95
abbrev id_runtime_PanicNilError_RuntimeError : Nat := 96
abbrev id_internal_abi_Type_Align : Nat := 97
abbrev id_internal_abi_Type_Elem : Nat := 98
abbrev id_internal_abi_Type_Kind : Nat := 99
abbrev id_internal_runtime_maps_unhashableTypeError_Error : Nat := 100
abbrev id_internal_runtime_maps_unhashableTypeError_RuntimeError : Nat := 101
abbrev id_portcullisref24_Token_May : Nat := 102
abbrev id_api_Errno_Error : Nat := 103
abbrev id_image_Wrong_Error : Nat := 104
abbrev id_image_Wrong_Unwrap : Nat := 105
abbrev id_internal_reflectlite_flag_mustBeAssignable : Nat := 106
abbrev id_internal_reflectlite_Value_Kind : Nat := 107
abbrev id_internal_abi_Kind_String : Nat := 108
abbrev id_token_onSlot_may : Nat := 109
abbrev id_token_onSlot_met : Nat := 110
abbrev id_token_slot : Nat := 111
abbrev id_token_versions_may : Nat := 112
abbrev id_token_versions_met : Nat := 113
abbrev id_token_ofKinds_may : Nat := 114
abbrev id_token_ofKinds_met : Nat := 115
abbrev id_token_atLeast_may : Nat := 116
abbrev id_token_atLeast_met : Nat := 117
abbrev id_token_value : Nat := 118
abbrev id_token_atMost_may : Nat := 119
abbrev id_token_atMost_met : Nat := 120
abbrev id_internal_abi_Type_Size : Nat := 121
abbrev id_internal_reflectlite_rtype_AssignableTo : Nat := 122
abbrev id_internal_reflectlite_rtype_Comparable : Nat := 123
abbrev id_internal_reflectlite_rtype_Elem : Nat := 124
abbrev id_internal_reflectlite_rtype_Implements : Nat := 125
abbrev id_internal_reflectlite_rtype_Name : Nat := 126
abbrev id_internal_reflectlite_rtype_PkgPath : Nat := 127
abbrev id_internal_reflectlite_rtype_String : Nat := 128
abbrev id_internal_reflectlite_rtype_common : Nat := 129
abbrev id_internal_reflectlite_rtype_uncommon : Nat := 130
abbrev id_internal_reflectlite_ValueError_Error : Nat := 131
abbrev id_store_Store_Last : Nat := 132
abbrev id_internal_abi_UncommonType_ExportedMethods : Nat := 133
abbrev id_chip_Chip_Restore : Nat := 134
abbrev id_log_Log_Free : Nat := 135
abbrev id_var_s_door_errors_errorType_is_laid_by_its_own_call_of_reflectlite_TypeOf_on_a_nil_pointer_and_Elem_of_it_handle_1_ : Nat := 136
abbrev id_var_s_door_gosem_cut_vars_holds_initialisers_alone_see_the_manifest_s_row_cutvarsword_look_11_test_files_too_ : Nat := 137
abbrev id_var_s_door_the_look_of_gosem_cut_vars_went_over_the_folder_that_the_caller_named_as_the_repository_s_root_look_11_ : Nat := 138
abbrev id_gosem_cut_vars : Nat := 139
noncomputable abbrev PP : Program := Tryz.prog
end Go.Proofs.YtijcpgahmbkijaaGreatDoor
end

/- errors.As by contract, at a nil error and at the error that it looks for: Go's own text, walked; then as a denotation. Turned from the guide's worked example (ToyasAs) to this seat's numbers. -/
section
set_option linter.unusedVariables false
namespace Go.Proofs.YtijcpgahmbkijaaGreatDoor
open Go Go.RowKit Go.Extern.Stop Go.Stop Go.Extern

theorem as_nil (t : Value) (w : World) :
    Calls Tryz.prog 45 #[.nilIface, t] w fun e w' => e = .returned (.bool false) ∧ w' = w := by
  go_enter Tryz.func45, Tryz.ntmps45
  go_wp2
  go_ret
  exact ⟨rfl, rfl⟩

theorem AsvalueOf27 (t : Addr) (w : World) : (ReflectliteValue.unpack (.iface 99 (.pointer (some t)))).run Tryz.prog w
    = .ok (.agg #[.pointer (some ⟨1, 99, none⟩), .pointer (some ⟨w.heap.size, 0, none⟩), .int .u64 150]) (w.alloc (.cells #[.pointer (some t)] 99)) := by kernel_rfl
theorem Astype27 (a : Addr) (w : World) : (ReflectliteValue.methodAny (ReflectliteValue.valueError "reflectlite.Value.Type" 0) (fun t _ _ _ => ReflectliteType.toType t) #[.agg #[.pointer (some ⟨1, 99, none⟩), .pointer (some a), .int .u64 150]]).run Tryz.prog w
    = .ok (.iface 151 (.agg #[.pointer (some ⟨1, 99, none⟩)])) w := by kernel_rfl
theorem AsmethodKind (h : Value) (w : World) : (Go.method (323) 151 (.agg #[h]) "Kind").run Tryz.prog w = .ok (99, h) w := by kernel_rfl
theorem Askind27 (w : World) : ((ReflectliteType.abiMethod fun t => (fun a : Nat => Value.int IntKind.u8 (a : Int)) <$> Rtype.kind t) #[.pointer (some ⟨1, 99, none⟩)]).run Tryz.prog w = .ok (.int .u8 22) w := by kernel_rfl
theorem Askind25 (w : World) : ((ReflectliteType.abiMethod fun t => (fun a : Nat => Value.int IntKind.u8 (a : Int)) <$> Rtype.kind t) #[.pointer (some ⟨1, 94, none⟩)]).run Tryz.prog w = .ok (.int .u8 22) w := by kernel_rfl

theorem rlm (z : Sem Value) (f : TypeId → Addr → Nat → Nat → Sem Value) (v : Value) :
    ReflectliteValue.method z f #[v] = (do match ← ReflectliteValue.parts v with | none => z | some (t, a, fl) => f t a fl (fl % 32)) := rfl
theorem Asparts27 (a : Addr) (w : World) : (ReflectliteValue.parts (.agg #[.pointer (some ⟨1, 99, none⟩), .pointer (some a), .int .u64 150])).run Tryz.prog w = .ok (some (99, a, 150)) w := by kernel_rfl
theorem AsisNil27 (a p : Addr) (W : World) (ha : W.cell? a = some (.pointer (some p))) :
    (ReflectliteValue.method (ReflectliteValue.valueError "reflectlite.Value.IsNil" 0) ReflectliteValue.isNil #[.agg #[.pointer (some ⟨1, 99, none⟩), .pointer (some a), .int .u64 150]]).run Tryz.prog W = .ok (.bool false) W := by
  rw [rlm]
  simp only [Sem.run_bind, Asparts27, Result.andThen]
  simp [ReflectliteValue.isNil, loadVar, isAgg, underlying, Tryz.underlying99, ha, Result.andThen]

theorem AsmethodElem (h : Value) (w : World) : (Go.method (323) 151 (.agg #[h]) "Elem").run Tryz.prog w = .ok (124, .agg #[h]) w := by kernel_rfl
theorem AsmethodImplements (h : Value) (w : World) : (Go.method (323) 151 (.agg #[h]) "Implements").run Tryz.prog w = .ok (125, .agg #[h]) w := by kernel_rfl
theorem AsmethodAssignableTo (h : Value) (w : World) : (Go.method (323) 151 (.agg #[h]) "AssignableTo").run Tryz.prog w = .ok (122, .agg #[h]) w := by kernel_rfl
theorem Aselem27 (w : World) : (ReflectliteType.method ReflectliteType.elem #[.agg #[.pointer (some ⟨1, 99, none⟩)]]).run Tryz.prog w = .ok (.iface 151 (.agg #[.pointer (some ⟨1, 94, none⟩)])) w := by kernel_rfl
theorem Asimplements25 (w : World) : (ReflectliteType.relation "Implements" ReflectliteType.implements_ #[.agg #[.pointer (some ⟨1, 94, none⟩)], .iface 151 (.agg #[.pointer (some ⟨1, 69, none⟩)])]).run Tryz.prog w = .ok (.bool true) w := by kernel_rfl
theorem AstypeOf25 (v : Value) (w : World) : (ReflectliteType.typeOf #[.iface 94 v]).run Tryz.prog w = .ok (.iface 151 (.agg #[.pointer (some ⟨1, 94, none⟩)])) w := by kernel_rfl
theorem Asassignable25 (w : World) : (ReflectliteType.relation "AssignableTo" ReflectliteType.assignableTo #[.agg #[.pointer (some ⟨1, 94, none⟩)], .iface 151 (.agg #[.pointer (some ⟨1, 94, none⟩)])]).run Tryz.prog w = .ok (.bool true) w := by kernel_rfl
theorem AsvalueOf25 (e : Addr) (w : World) : (ReflectliteValue.unpack (.iface 94 (.pointer (some e)))).run Tryz.prog w
    = .ok (.agg #[.pointer (some ⟨1, 94, none⟩), .pointer (some ⟨w.heap.size, 0, none⟩), .int .u64 150]) (w.alloc (.cells #[.pointer (some e)] 94)) := by kernel_rfl

theorem AselemOf27 (w : World) : (Rtype.elem? 99).run Tryz.prog w = .ok (some 94) w := by kernel_rfl
theorem Asmk25 (p : Addr) (w : World) : (ReflectliteValue.mk 94 p ReflectliteValue.flagAddr).run Tryz.prog w = .ok (.agg #[.pointer (some ⟨1, 94, none⟩), .pointer (some p), .int .u64 406]) w := by kernel_rfl
theorem AselemV27 (a p : Addr) (W : World) (ha : W.cell? a = some (.pointer (some p))) :
    (ReflectliteValue.method (ReflectliteValue.valueError "reflectlite.Value.Elem" 0) ReflectliteValue.elem #[.agg #[.pointer (some ⟨1, 99, none⟩), .pointer (some a), .int .u64 150]]).run Tryz.prog W
      = .ok (.agg #[.pointer (some ⟨1, 94, none⟩), .pointer (some p), .int .u64 406]) W := by
  rw [rlm]
  simp only [Sem.run_bind, Asparts27, Result.andThen]
  simp [ReflectliteValue.elem, loadVar, isAgg, underlying, Tryz.underlying99, ha, Result.andThen, AselemOf27, Asmk25]
theorem rls (v x : Value) : ReflectliteValue.set #[v, x] = (do
    let (some (dst, a, fl), some (src, b, _)) := (← ReflectliteValue.parts v, ← ReflectliteValue.parts x)
      | unsupported (.noEntry "extern/(internal/reflectlite.Value).Set.zeroValue")
    if fl / ReflectliteValue.flagAddr % 2 == 0 then unsupported (.noEntry "extern/(internal/reflectlite.Value).Set.unaddressable")
    let val ← loadVar src b
    if ← Rtype.directlyAssignable dst src then storeVar dst a val
    else if ← Rtype.implements dst src then
      if (← Rtype.kind src) == 20 then
        match val with
        | .nilIface => unsupported (.noEntry "extern/reflectlite: a nil value of one interface type handed on as a value of another")
        | _ => storeVar dst a val
      else storeVar dst a (.iface src val)
    else panicString ("reflectlite.Set: value of type " ++ (← Rtype.spelt src) ++ " is not assignable to type " ++ (← Rtype.spelt dst))
    pure (.tuple #[])) := rfl
theorem Asparts25a (a : Addr) (w : World) : (ReflectliteValue.parts (.agg #[.pointer (some ⟨1, 94, none⟩), .pointer (some a), .int .u64 406])).run Tryz.prog w = .ok (some (94, a, 406)) w := by kernel_rfl
theorem Asparts25 (a : Addr) (w : World) : (ReflectliteValue.parts (.agg #[.pointer (some ⟨1, 94, none⟩), .pointer (some a), .int .u64 150])).run Tryz.prog w = .ok (some (94, a, 150)) w := by kernel_rfl
theorem Asdirect25 (w : World) : (Rtype.directlyAssignable 94 94).run Tryz.prog w = .ok true w := by kernel_rfl
theorem Asset25 (ta b e : Addr) (old : Value) (W : World) (hb : W.cell? b = some (.pointer (some e))) (ht : W.cell? ta = some old) (hf : W.frozen? ta = false) :
    (ReflectliteValue.set #[.agg #[.pointer (some ⟨1, 94, none⟩), .pointer (some ta), .int .u64 406], .agg #[.pointer (some ⟨1, 94, none⟩), .pointer (some b), .int .u64 150]]).run Tryz.prog W
      = .ok (.tuple #[]) (W.setCell ta (.pointer (some e))) := by
  rw [rls]
  simp only [Sem.run_bind, Asparts25a, Asparts25, Result.andThen]
  simp [ReflectliteValue.flagAddr, loadVar, isAgg, underlying, Tryz.underlying94, hb, Result.andThen, Asdirect25, storeVar, Value.cells, storeCells, Addr.add]
  rw [run_store Tryz.prog W ta _ _ (by rfl)]
  simp [ht, hf]

set_option maxHeartbeats 4000000 in
theorem as_hit (e t : Addr) (old : Value) (w : World) (hg : w.cell? ⟨0, 0, none⟩ = some (.iface 151 (.agg #[.pointer (some ⟨1, 69, none⟩)]))) (ht0 : w.cell? t = some old) (hf0 : w.frozen? t = false) :
    Calls Tryz.prog 45 #[.iface 94 (.pointer (some e)), .iface 99 (.pointer (some t))] w fun ev w' => ev = .returned (.bool true) ∧ w' = ((((w.alloc (.cells #[.pointer (some t)] 99)).alloc (.cells #[.pointer (some ⟨1, 99, none⟩), .pointer (some ⟨w.heap.size, 0, none⟩), .int .u64 150] 116)).alloc (.cells #[.pointer (some ⟨1, 99, none⟩), .pointer (some ⟨w.heap.size, 0, none⟩), .int .u64 150] 116)).alloc (.cells #[.pointer (some e)] 94)).setCell t (.pointer (some e)) := by
  have h6 := @run_callFunc_extern Tryz.prog 59 _ (fun args => ReflectliteValue.unpack (args.getD 0 (.tuple #[]))) Tryz.func59 (by kernel_rfl) (by kernel_rfl) (by kernel_rfl) (by kernel_rfl)
  have h7 := @run_callFunc_extern Tryz.prog 60 _ (ReflectliteValue.methodAny (ReflectliteValue.valueError "reflectlite.Value.Type" 0) (fun t _ _ _ => ReflectliteType.toType t)) Tryz.func60 (by kernel_rfl) (by kernel_rfl) (by kernel_rfl) (by kernel_rfl)
  have h8 := @run_callFunc_extern Tryz.prog 61 _ (ReflectliteValue.method (ReflectliteValue.valueError "reflectlite.Value.IsNil" 0) ReflectliteValue.isNil) Tryz.func61 (by kernel_rfl) (by kernel_rfl) (by kernel_rfl) (by kernel_rfl)
  have h27 := @run_callFunc_extern Tryz.prog 99 _ (ReflectliteType.abiMethod fun t => do pure (.int .u8 (← Rtype.kind t))) Tryz.func99 (by kernel_rfl) (by kernel_rfl) (by kernel_rfl) (by kernel_rfl)
  have h37 := @run_callFunc_extern Tryz.prog 124 _ (ReflectliteType.method ReflectliteType.elem) Tryz.func124 (by kernel_rfl) (by kernel_rfl) (by kernel_rfl) (by kernel_rfl)
  have h38 := @run_callFunc_extern Tryz.prog 125 _ (ReflectliteType.relation "Implements" ReflectliteType.implements_) Tryz.func125 (by kernel_rfl) (by kernel_rfl) (by kernel_rfl) (by kernel_rfl)
  have h10 := @run_callFunc_extern Tryz.prog 71 _ ReflectliteType.typeOf Tryz.func71 (by kernel_rfl) (by kernel_rfl) (by kernel_rfl) (by kernel_rfl)
  have h35 := @run_callFunc_extern Tryz.prog 122 _ (ReflectliteType.relation "AssignableTo" ReflectliteType.assignableTo) Tryz.func122 (by kernel_rfl) (by kernel_rfl) (by kernel_rfl) (by kernel_rfl)
  have h11 := @run_callFunc_extern Tryz.prog 72 _ (ReflectliteValue.method (ReflectliteValue.valueError "reflectlite.Value.Elem" 0) ReflectliteValue.elem) Tryz.func72 (by kernel_rfl) (by kernel_rfl) (by kernel_rfl) (by kernel_rfl)
  have h12 := @run_callFunc_extern Tryz.prog 73 _ ReflectliteValue.set Tryz.func73 (by kernel_rfl) (by kernel_rfl) (by kernel_rfl) (by kernel_rfl)
  have tO := AstypeOf25
  have mA := AsmethodAssignableTo
  have a25 := Asassignable25
  have v25 := AsvalueOf25
  have f6 := AsvalueOf27
  have f7 := Astype27
  have mK := AsmethodKind
  have mE := AsmethodElem
  have mI := AsmethodImplements
  have k27 := Askind27
  have k25 := Askind25
  have e27 := Aselem27
  have i25 := Asimplements25
  have n8 := AsisNil27 ⟨w.heap.size, 0, none⟩ t ((w.alloc (.cells #[.pointer (some t)] 99)).alloc (.cells #[.pointer (some ⟨1, 99, none⟩), .pointer (some ⟨w.heap.size, 0, none⟩), .int .u64 150] 116)) (by simp)
  have hlt : 0 < w.heap.size := by
    rcases Nat.eq_zero_or_pos w.heap.size with h0 | h
    · simp [World.cell?, h0] at hg
    · exact h
  have hg2 : ((w.alloc (.cells #[.pointer (some t)] 99)).alloc (.cells #[.pointer (some ⟨1, 99, none⟩), .pointer (some ⟨w.heap.size, 0, none⟩), .int .u64 150] 116)).cell? ⟨0, 0, none⟩ = some (.iface 151 (.agg #[.pointer (some ⟨1, 69, none⟩)])) := by
    rw [World.cell?_alloc_lt _ _ ⟨0, 0, none⟩ (by simp), World.cell?_alloc_lt _ _ ⟨0, 0, none⟩ hlt]; exact hg
  have htl : t.block < w.heap.size := by
    rcases Nat.lt_or_ge t.block w.heap.size with h | h
    · exact h
    · simp [World.cell?, Array.getElem?_eq_none h] at ht0
  have el := AselemV27 ⟨w.heap.size, 0, none⟩ t (((w.alloc (.cells #[.pointer (some t)] 99)).alloc (.cells #[.pointer (some ⟨1, 99, none⟩), .pointer (some ⟨w.heap.size, 0, none⟩), .int .u64 150] 116)).alloc (.cells #[.pointer (some ⟨1, 99, none⟩), .pointer (some ⟨w.heap.size, 0, none⟩), .int .u64 150] 116)) (by rw [World.cell?_alloc_lt _ _ ⟨w.heap.size, 0, none⟩ (by simp; omega)]; simp)
  have st := Asset25 t ⟨w.heap.size + 1 + 1 + 1, 0, none⟩ e old ((((w.alloc (.cells #[.pointer (some t)] 99)).alloc (.cells #[.pointer (some ⟨1, 99, none⟩), .pointer (some ⟨w.heap.size, 0, none⟩), .int .u64 150] 116)).alloc (.cells #[.pointer (some ⟨1, 99, none⟩), .pointer (some ⟨w.heap.size, 0, none⟩), .int .u64 150] 116)).alloc (.cells #[.pointer (some e)] 94))
    (by rw [World.cell?_alloc_at _ _ _ _ (by simp)]; rfl)
    (by rw [World.cell?_alloc_lt _ _ t (by simp; omega), World.cell?_alloc_lt _ _ t (by simp; omega), World.cell?_alloc_lt _ _ t (by simp; omega), World.cell?_alloc_lt _ _ t htl]; exact ht0)
    (by rw [World.frozen?_alloc_old _ _ t (by simp; omega), World.frozen?_alloc_old _ _ t (by simp; omega), World.frozen?_alloc_old _ _ t (by simp; omega), World.frozen?_alloc_old _ _ t (Nat.ne_of_lt htl)]; exact hf0)
  go_enter Tryz.func45, Tryz.ntmps45
  go_wp2
  refine wp_loop_rounds 1 ?_
  rw [rounds_succ]
  go_wp2
  go_ret
  exact ⟨rfl, rfl⟩

open Go.Vc
/-- The error type, as the program's start lays it. -/
def errTypeV : Value := .iface 151 (.agg #[.pointer (some ⟨1, 69, none⟩)])
def F_errors_As (e t : Value) (Q : Bool → H → Prop) (h : H) : Prop :=
  (e = .nilIface ∧ Q false h) ∨
  ∃ (x : Addr) (b o : Nat) (old : Value), e = .iface 94 (.pointer (some x)) ∧ t = .iface 99 (.pointer (some ⟨b, o, none⟩)) ∧ hc h ⟨0, 0, none⟩ = some errTypeV ∧ hc h ⟨b, o, none⟩ = some old ∧ hf h ⟨b, o, none⟩ = false ∧
    ∀ b1 h1, hnew h b1 [.pointer (some ⟨b, o, none⟩)] h1 → ∀ b2 h2, hnew h1 b2 [.pointer (some ⟨1, 99, none⟩), .pointer (some ⟨b1, 0, none⟩), .int .u64 150] h2 → ∀ b3 h3, hnew h2 b3 [.pointer (some ⟨1, 99, none⟩), .pointer (some ⟨b1, 0, none⟩), .int .u64 150] h3 →
      ∀ b4 h4, hnew h3 b4 [.pointer (some x)] h4 → ∀ h5, h5 = hwr h4 ⟨b, o, none⟩ [.pointer (some x)] → Q true h5
theorem hnew_push (h : H) (c : List Value) (t : TypeId) : hnew h h.size c (h.push (.cells c.toArray t)) := ⟨rfl, t, 0, 0, fun i _ => by omega, rfl⟩
theorem R_errors_As : RunOk PP 45 (W [.fn, .fn] [.bool] F_errors_As) := by
  intro args Q h hok hr
  have hcal : callable PP 45 = true := by kernel_rfl
  have two : ∃ e t : Value, args.map DV.flat = [e, t] ∧ F_errors_As e t (enR [.bool] Q) h := by
    unfold W at hr
    match args, hr with
    | [.one e, .one t], hr => exact ⟨e, t, rfl, hr⟩
    | [.one e, .fnv t], hr => exact ⟨e, t, rfl, hr⟩
    | [.fnv e, .one t], hr => exact ⟨e, t, rfl, hr⟩
    | [.fnv e, .fnv t], hr => exact ⟨e, t, rfl, hr⟩
    | [], hr => exact absurd hr id
    | [.one e], hr => exact absurd hr id
    | [.fnv e], hr => exact absurd hr id
  obtain ⟨e, t, ha, hF⟩ := two
  rw [ha]
  refine ⟨hcal, fun w hw => ?_⟩
  subst hw
  rcases hF with ⟨rfl, hq⟩ | ⟨x, b, o, old, rfl, rfl, hg, ht, hf0, hq⟩
  · refine (as_nil t w).mono fun e' w' he => ?_
    obtain ⟨rfl, rfl⟩ := he
    exact ⟨[.one (.bool false)], by intro y hy; simp at hy; subst hy; rfl, rfl, ⟨rfl, rfl, rfl⟩, hq⟩
  · refine (as_hit x ⟨b, o, none⟩ old w hg ht hf0).mono fun e' w' he => ?_
    obtain ⟨rfl, rfl⟩ := he
    refine ⟨[.one (.bool true)], by intro y hy; simp at hy; subst hy; rfl, rfl, ⟨rfl, rfl, rfl⟩, ?_⟩
    exact hq _ _ (hnew_push w.heap _ 99) _ _ (hnew_push _ _ 116) _ _ (hnew_push _ _ 116) _ _ (hnew_push _ _ 94) _ rfl
attribute [irreducible] F_errors_As
end Go.Proofs.YtijcpgahmbkijaaGreatDoor
end

/- Denotations of functions of the program, printed by a program of ours, and that they are the model's. -/
section
set_option linter.unusedVariables false
set_option maxRecDepth 100000
namespace Go.Proofs.YtijcpgahmbkijaaGreatDoor
open Go Go.Vc
def G_keys_Ring_Has (a0 : Addr) (a1 : Int) (Q : Bool → H → Prop) (h : H) : Prop := ∃ (o4 : Option Nat), hc h a0 = some (Value.map o4) ∧ ∃ (l5 : List (Value × DV)), ∃ (x6 : DV), ∃ (b7 : Bool), hmapO h o4 l5 ∧ mlook (Value.int IntKind.i64 a1) (DV.one (Value.slice none 0 0)) l5 = some (x6, b7) ∧ ∃ (o8 : Option Addr), ∃ (n9 : Nat), ∃ (n10 : Nat), x6 = DV.one (Value.slice o8 n9 n10) ∧ Q b7 h
theorem E_keys_Ring_Has  : ∀ (a0 : Addr) (a1 : Int) (Q : Bool → H → Prop) (h : H), G_keys_Ring_Has a0 a1 Q h = Dbody PP [] [] Tryz.f26 [.addr a0, .one (.int .i64 a1)] (decR [.bool] Q) h := by intros; kernel_rfl
def F_keys_Ring_Has := G_keys_Ring_Has
theorem R_keys_Ring_Has : RunOk PP 26 (W [.addr, .int .i64] [.bool] F_keys_Ring_Has) := runOk_of (T := []) (ann := []) (TblOk.nil) Tryz.func26 (by kernel_rfl) (by kernel_rfl) (E_keys_Ring_Has)
attribute [irreducible] F_keys_Ring_Has
def G_slices_Clone_byte_byte (a0p : Option Addr) (a0l : Nat) (a0c : Nat) (Q : Option Addr → Nat → Nat → H → Prop) (h : H) : Prop := if a0p.isNone = true then Q none 0 0 h else ∀ (n5 : Nat) (h6 : H), hnew h n5 [] h6 → ∃ (l8 : List Value), hsv h6 a0p 1 a0l l8 ∧ pApp h6 1 [Value.int IntKind.u8 0] 1 (some (Addr.mk n5 0 none)) 0 0 a0l l8 fun (o9 : Option Addr) (n10 n11 : Nat) (h12 : H) => Q o9 n10 n11 h12
theorem E_slices_Clone_byte_byte  : ∀ (a0p : Option Addr) (a0l : Nat) (a0c : Nat) (Q : (Option Addr) → Nat → Nat → H → Prop) (h : H), G_slices_Clone_byte_byte a0p a0l a0c Q h = Dbody PP [] [] Tryz.f27 [.one (.slice a0p a0l a0c)] (decR [.slc] Q) h := by intros; kernel_rfl
def F_slices_Clone_byte_byte := G_slices_Clone_byte_byte
theorem R_slices_Clone_byte_byte : RunOk PP 27 (W [.slc] [.slc] F_slices_Clone_byte_byte) := runOk_of (T := []) (ann := []) (TblOk.nil) Tryz.func27 (by kernel_rfl) (by kernel_rfl) (E_slices_Clone_byte_byte)
attribute [irreducible] F_slices_Clone_byte_byte
def G_keys_New (c_keys_Ring_Has : Addr → Int → (Bool → H → Prop) → H → Prop) (c_slices_Clone_byte_byte : Option Addr → Nat → Nat → (Option Addr → Nat → Nat → H → Prop) → H → Prop) (a0p : Option Addr) (a0l : Nat) (a0c : Nat) (Q : Option Addr → Int → Int → H → Prop) (h : H) : Prop := if ltI 64 (↑a0l : Int) = true then Q none 3 64 h else ∀ (n7 : Nat) (h8 : H), hmnew h n7 h8 → ∀ (n10 : Nat) (h11 : H), hnew h8 n10 [Value.map (some n7)] h11 → ∀ (J13 : List SV → H → Prop), (∀ (i14 : Int) (h15 : H), (if ltI i14 (↑a0l : Int) = true then ∃ (p16 : Addr), a0p = some p16 ∧ 0 ≤ i14 ∧ i14 < (↑a0l : Int) ∧ ∃ (i17 : Int), hc h15 (p16.add (i14.toNat * 2)) = some (Value.int IntKind.i64 i17) ∧ ∃ (o18 : Option Addr), ∃ (n19 : Nat), ∃ (n20 : Nat), hc h15 ((p16.add (i14.toNat * 2)).add 1) = some (Value.slice o18 n19 n20) ∧ ∀ (n21 : Nat) (h22 : H), hnew h15 n21 [Value.int IntKind.i64 0, Value.slice none 0 0] h22 → hcan h22 (Addr.mk n21 0 none) 2 ∧ ∀ (h24 : H), h24 = hwr h22 (Addr.mk n21 0 none) [Value.int IntKind.i64 i17, Value.slice o18 n19 n20] → ∀ (J26 : List SV → H → Prop), (∀ (b27 : Bool) (h28 : H), (if b27 = true then Q none 2 i14 h28 else ∃ (o29 : Option Addr), ∃ (n30 : Nat), ∃ (n31 : Nat), hc h28 ((Addr.mk n21 0 none).add 1) = some (Value.slice o29 n30 n31) ∧ if ltI (↑n30 : Int) 1 = true then Q none 4 i14 h28 else ∃ (o32 : Option Addr), ∃ (n33 : Nat), ∃ (n34 : Nat), hc h28 ((Addr.mk n21 0 none).add 1) = some (Value.slice o32 n33 n34) ∧ if ltI 256 (↑n33 : Int) = true then Q none 4 i14 h28 else ∃ (i35 : Int), hc h28 (Addr.mk n21 0 none) = some (Value.int IntKind.i64 i35) ∧ c_keys_Ring_Has (Addr.mk n10 0 none) i35 (fun (b36 : Bool) (h37 : H) => if b36 = true then Q none 18 i14 h37 else ∃ (o38 : Option Nat), hc h37 (Addr.mk n10 0 none) = some (Value.map o38) ∧ ∃ (i39 : Int), hc h37 (Addr.mk n21 0 none) = some (Value.int IntKind.i64 i39) ∧ ∃ (o40 : Option Addr), ∃ (n41 : Nat), ∃ (n42 : Nat), hc h37 ((Addr.mk n21 0 none).add 1) = some (Value.slice o40 n41 n42) ∧ c_slices_Clone_byte_byte o40 n41 n42 (fun (o43 : Option Addr) (n44 n45 : Nat) (h46 : H) => hcs h46 (Addr.mk n21 0 none) [Value.int IntKind.i64 i39] ∧ hcs h46 (Addr.mk n10 0 none) [Value.map o38] ∧ ∃ (n47 : Nat), ∃ (l48 : List (Value × DV)), ∃ (l49 : List (Value × DV)), o38 = some n47 ∧ hmap h46 n47 l48 ∧ mins (Value.int IntKind.i64 i39) (DV.one (Value.slice o43 n44 n45)) l48 = some l49 ∧ ∀ (h50 : H), hmset h46 n47 l49 h50 → J13 [SV.dv (DV.one (Value.int IntKind.i64 (IntKind.i64.wrap (i14 + 1))))] h50) h37) h28) → J26 [SV.dv (DV.one (Value.bool b27))] h28) → ∃ (i54 : Int), hc h24 (Addr.mk n21 0 none) = some (Value.int IntKind.i64 i54) ∧ if ltI i54 0 = true then J26 [SV.dv (DV.one (Value.bool true))] h24 else ∃ (i55 : Int), hc h24 (Addr.mk n21 0 none) = some (Value.int IntKind.i64 i55) ∧ J26 [SV.dv (DV.one (Value.bool (leI 64 i55)))] h24 else Q (some (Addr.mk n10 0 none)) 0 0 h15) → J13 [SV.dv (DV.one (Value.int IntKind.i64 i14))] h15) → J13 [SV.dv (DV.one (Value.int IntKind.i64 0))] h11
theorem E_keys_New (c_keys_Ring_Has : Addr → Int → (Bool → H → Prop) → H → Prop) (c_slices_Clone_byte_byte : (Option Addr) → Nat → Nat → ((Option Addr) → Nat → Nat → H → Prop) → H → Prop) : ∀ (a0p : Option Addr) (a0l : Nat) (a0c : Nat) (Q : (Option Addr) → Int → Int → H → Prop) (h : H), G_keys_New c_keys_Ring_Has c_slices_Clone_byte_byte a0p a0l a0c Q h = Dbody PP [(26, W [.addr, .int .i64] [.bool] c_keys_Ring_Has), (27, W [.slc] [.slc] c_slices_Clone_byte_byte)] [(122, [(16, .sc (.int .i64))]), (31332, [(21, .sc (.bool))])] Tryz.f8 [.one (.slice a0p a0l a0c)] (decR [.ptr, .int .i64, .int .i64] Q) h := by intros; kernel_rfl
def F_keys_New := G_keys_New F_keys_Ring_Has F_slices_Clone_byte_byte
theorem R_keys_New : RunOk PP 8 (W [.slc] [.ptr, .int .i64, .int .i64] F_keys_New) := runOk_of (T := [(26, W [.addr, .int .i64] [.bool] F_keys_Ring_Has), (27, W [.slc] [.slc] F_slices_Clone_byte_byte)]) (ann := [(122, [(16, .sc (.int .i64))]), (31332, [(21, .sc (.bool))])]) (TblOk.cons R_keys_Ring_Has (TblOk.cons R_slices_Clone_byte_byte (TblOk.nil))) Tryz.func8 (by kernel_rfl) (by kernel_rfl) (E_keys_New F_keys_Ring_Has F_slices_Clone_byte_byte)
attribute [irreducible] F_keys_New
def G_math_bits_RotateLeft32 (a0 : Int) (a1 : Int) (Q : Int → H → Prop) (h : H) : Prop := 0 ≤ bits BinOp.and IntKind.u64 (IntKind.u64.wrap a1) 31 ∧ 0 ≤ IntKind.u64.wrap (32 - bits BinOp.and IntKind.u64 (IntKind.u64.wrap a1) 31) ∧ Q (bits BinOp.or IntKind.u32 (IntKind.u32.wrap (a0 * 2 ^ min (bits BinOp.and IntKind.u64 (IntKind.u64.wrap a1) 31).toNat 32)) (a0.fdiv (2 ^ min (IntKind.u64.wrap (32 - bits BinOp.and IntKind.u64 (IntKind.u64.wrap a1) 31)).toNat 32))) h
theorem E_math_bits_RotateLeft32  : ∀ (a0 : Int) (a1 : Int) (Q : Int → H → Prop) (h : H), G_math_bits_RotateLeft32 a0 a1 Q h = Dbody PP [] [] Tryz.f84 [.one (.int .u32 a0), .one (.int .i64 a1)] (decR [.int .u32] Q) h := by intros; kernel_rfl
def F_math_bits_RotateLeft32 := G_math_bits_RotateLeft32
theorem R_math_bits_RotateLeft32 : RunOk PP 84 (W [.int .u32, .int .i64] [.int .u32] F_math_bits_RotateLeft32) := runOk_of (T := []) (ann := []) (TblOk.nil) Tryz.func84 (by kernel_rfl) (by kernel_rfl) (E_math_bits_RotateLeft32)
attribute [irreducible] F_math_bits_RotateLeft32
def G_sha_turn (c_math_bits_RotateLeft32 : Int → Int → (Int → H → Prop) → H → Prop) (a0 : Int) (a1 : Int) (Q : Int → H → Prop) (h : H) : Prop := c_math_bits_RotateLeft32 a0 (IntKind.i64.wrap (0 - a1)) (fun (i5 : Int) (h6 : H) => Q i5 h6) h
theorem E_sha_turn (c_math_bits_RotateLeft32 : Int → Int → (Int → H → Prop) → H → Prop) : ∀ (a0 : Int) (a1 : Int) (Q : Int → H → Prop) (h : H), G_sha_turn c_math_bits_RotateLeft32 a0 a1 Q h = Dbody PP [(84, W [.int .u32, .int .i64] [.int .u32] c_math_bits_RotateLeft32)] [] Tryz.f82 [.one (.int .u32 a0), .one (.int .i64 a1)] (decR [.int .u32] Q) h := by intros; kernel_rfl
def F_sha_turn := G_sha_turn F_math_bits_RotateLeft32
theorem R_sha_turn : RunOk PP 82 (W [.int .u32, .int .i64] [.int .u32] F_sha_turn) := runOk_of (T := [(84, W [.int .u32, .int .i64] [.int .u32] F_math_bits_RotateLeft32)]) (ann := []) (TblOk.cons R_math_bits_RotateLeft32 (TblOk.nil)) Tryz.func82 (by kernel_rfl) (by kernel_rfl) (E_sha_turn F_math_bits_RotateLeft32)
attribute [irreducible] F_sha_turn
def G_sha_Digest_take (c_sha_turn : Int → Int → (Int → H → Prop) → H → Prop) (a0 : Addr) (a1p : Option Addr) (a1l : Nat) (a1c : Nat) (Q : H → Prop) (h : H) : Prop := ∀ (n7 : Nat) (h8 : H), hnew h n7 (ints IntKind.u32 (zeros 64)) h8 → ∀ (J10 : List SV → H → Prop), (∀ (i11 : Int) (h12 : H), (if ltI i11 16 = true then 0 ≤ IntKind.i64.wrap (4 * i11) ∧ IntKind.i64.wrap (4 * i11) ≤ IntKind.i64.wrap (IntKind.i64.wrap (4 * i11) + 4) ∧ IntKind.i64.wrap (IntKind.i64.wrap (4 * i11) + 4) ≤ (↑a1c : Int) ∧ ∀ (J13 : List SV → H → Prop), (∀ (i14 : Int) (h15 : H), (if ltI i14 (↑((IntKind.i64.wrap (IntKind.i64.wrap (4 * i11) + 4)).toNat - (IntKind.i64.wrap (4 * i11)).toNat) : Int) = true then ∃ (p16 : Addr), subAddr a1p (IntKind.i64.wrap (4 * i11)).toNat a1c 1 = some p16 ∧ 0 ≤ i14 ∧ i14 < (↑((IntKind.i64.wrap (IntKind.i64.wrap (4 * i11) + 4)).toNat - (IntKind.i64.wrap (4 * i11)).toNat) : Int) ∧ ∃ (i17 : Int), hc h15 (p16.add (i14.toNat * 1)) = some (Value.int IntKind.u8 i17) ∧ 0 ≤ i11 ∧ i11 < (↑64 : Int) ∧ ∃ (i18 : Int), hc h15 ((Addr.mk n7 0 none).add (i11.toNat * 1)) = some (Value.int IntKind.u32 i18) ∧ (0 : Int) ≤ 8 ∧ 0 ≤ i11 ∧ i11 < (↑64 : Int) ∧ hcan h15 ((Addr.mk n7 0 none).add (i11.toNat * 1)) 1 ∧ ∀ (h19 : H), h19 = hwr h15 ((Addr.mk n7 0 none).add (i11.toNat * 1)) [Value.int IntKind.u32 (bits BinOp.or IntKind.u32 (IntKind.u32.wrap (i18 * 2 ^ 8)) (IntKind.u32.wrap i17))] → J13 [SV.dv (DV.one (Value.int IntKind.i64 (IntKind.i64.wrap (i14 + 1))))] h19 else J10 [SV.dv (DV.one (Value.int IntKind.i64 (IntKind.i64.wrap (i11 + 1))))] h15) → J13 [SV.dv (DV.one (Value.int IntKind.i64 i14))] h15) → J13 [SV.dv (DV.one (Value.int IntKind.i64 0))] h12 else ∀ (J23 : List SV → H → Prop), (∀ (i24 : Int) (h25 : H), (if ltI i24 64 = true then 0 ≤ IntKind.i64.wrap (i24 - 15) ∧ IntKind.i64.wrap (i24 - 15) < (↑64 : Int) ∧ ∃ (i26 : Int), hc h25 ((Addr.mk n7 0 none).add ((IntKind.i64.wrap (i24 - 15)).toNat * 1)) = some (Value.int IntKind.u32 i26) ∧ 0 ≤ IntKind.i64.wrap (i24 - 2) ∧ IntKind.i64.wrap (i24 - 2) < (↑64 : Int) ∧ ∃ (i27 : Int), hc h25 ((Addr.mk n7 0 none).add ((IntKind.i64.wrap (i24 - 2)).toNat * 1)) = some (Value.int IntKind.u32 i27) ∧ 0 ≤ IntKind.i64.wrap (i24 - 16) ∧ IntKind.i64.wrap (i24 - 16) < (↑64 : Int) ∧ ∃ (i28 : Int), hc h25 ((Addr.mk n7 0 none).add ((IntKind.i64.wrap (i24 - 16)).toNat * 1)) = some (Value.int IntKind.u32 i28) ∧ (0 : Int) ≤ 3 ∧ 0 ≤ IntKind.i64.wrap (i24 - 7) ∧ IntKind.i64.wrap (i24 - 7) < (↑64 : Int) ∧ ∃ (i29 : Int), hc h25 ((Addr.mk n7 0 none).add ((IntKind.i64.wrap (i24 - 7)).toNat * 1)) = some (Value.int IntKind.u32 i29) ∧ (0 : Int) ≤ 10 ∧ c_sha_turn i26 7 (fun (i30 : Int) (h31 : H) => hcs h31 ((Addr.mk n7 0 none).add ((IntKind.i64.wrap (i24 - 7)).toNat * 1)) [Value.int IntKind.u32 i29] ∧ hcs h31 ((Addr.mk n7 0 none).add ((IntKind.i64.wrap (i24 - 16)).toNat * 1)) [Value.int IntKind.u32 i28] ∧ c_sha_turn i26 18 (fun (i32 : Int) (h33 : H) => hcs h33 ((Addr.mk n7 0 none).add ((IntKind.i64.wrap (i24 - 7)).toNat * 1)) [Value.int IntKind.u32 i29] ∧ hcs h33 ((Addr.mk n7 0 none).add ((IntKind.i64.wrap (i24 - 16)).toNat * 1)) [Value.int IntKind.u32 i28] ∧ c_sha_turn i27 17 (fun (i34 : Int) (h35 : H) => hcs h35 ((Addr.mk n7 0 none).add ((IntKind.i64.wrap (i24 - 7)).toNat * 1)) [Value.int IntKind.u32 i29] ∧ hcs h35 ((Addr.mk n7 0 none).add ((IntKind.i64.wrap (i24 - 16)).toNat * 1)) [Value.int IntKind.u32 i28] ∧ c_sha_turn i27 19 (fun (i36 : Int) (h37 : H) => hcs h37 ((Addr.mk n7 0 none).add ((IntKind.i64.wrap (i24 - 7)).toNat * 1)) [Value.int IntKind.u32 i29] ∧ hcs h37 ((Addr.mk n7 0 none).add ((IntKind.i64.wrap (i24 - 16)).toNat * 1)) [Value.int IntKind.u32 i28] ∧ 0 ≤ i24 ∧ i24 < (↑64 : Int) ∧ hcan h37 ((Addr.mk n7 0 none).add (i24.toNat * 1)) 1 ∧ ∀ (h38 : H), h38 = hwr h37 ((Addr.mk n7 0 none).add (i24.toNat * 1)) [Value.int IntKind.u32 (IntKind.u32.wrap (IntKind.u32.wrap (IntKind.u32.wrap (i28 + bits BinOp.xor IntKind.u32 (bits BinOp.xor IntKind.u32 i30 i32) (i26.fdiv (2 ^ 3))) + i29) + bits BinOp.xor IntKind.u32 (bits BinOp.xor IntKind.u32 i34 i36) (i27.fdiv (2 ^ 10))))] → J23 [SV.dv (DV.one (Value.int IntKind.i64 (IntKind.i64.wrap (i24 + 1))))] h38) h35) h33) h31) h25 else ∃ (l40 : List Int), l40.length = 8 ∧ hrow h25 a0 IntKind.u32 l40 ∧ ∀ (n41 : Nat) (h42 : H), hnew h25 n41 (ints IntKind.u32 (zeros 8)) h42 → hcan h42 (Addr.mk n41 0 none) 8 ∧ ∀ (h44 : H), h44 = hwr h42 (Addr.mk n41 0 none) (ints IntKind.u32 l40 ++ []) → ∀ (J46 : List SV → H → Prop), (∀ (i47 : Int) (h48 : H), (if ltI i47 64 = true then (0 : Int) ≤ 7 ∧ (7 : Int) < (↑8 : Int) ∧ ∃ (i49 : Int), hc h48 ((Addr.mk n41 0 none).add 7) = some (Value.int IntKind.u32 i49) ∧ (0 : Int) ≤ 4 ∧ (4 : Int) < (↑8 : Int) ∧ ∃ (i50 : Int), hc h48 ((Addr.mk n41 0 none).add 4) = some (Value.int IntKind.u32 i50) ∧ (0 : Int) ≤ 4 ∧ (4 : Int) < (↑8 : Int) ∧ ∃ (i51 : Int), hc h48 ((Addr.mk n41 0 none).add 4) = some (Value.int IntKind.u32 i51) ∧ (0 : Int) ≤ 4 ∧ (4 : Int) < (↑8 : Int) ∧ ∃ (i52 : Int), hc h48 ((Addr.mk n41 0 none).add 4) = some (Value.int IntKind.u32 i52) ∧ (0 : Int) ≤ 4 ∧ (4 : Int) < (↑8 : Int) ∧ ∃ (i53 : Int), hc h48 ((Addr.mk n41 0 none).add 4) = some (Value.int IntKind.u32 i53) ∧ (0 : Int) ≤ 5 ∧ (5 : Int) < (↑8 : Int) ∧ ∃ (i54 : Int), hc h48 ((Addr.mk n41 0 none).add 5) = some (Value.int IntKind.u32 i54) ∧ (0 : Int) ≤ 4 ∧ (4 : Int) < (↑8 : Int) ∧ ∃ (i55 : Int), hc h48 ((Addr.mk n41 0 none).add 4) = some (Value.int IntKind.u32 i55) ∧ (0 : Int) ≤ 6 ∧ (6 : Int) < (↑8 : Int) ∧ ∃ (i56 : Int), hc h48 ((Addr.mk n41 0 none).add 6) = some (Value.int IntKind.u32 i56) ∧ 0 ≤ i47 ∧ i47 < (↑64 : Int) ∧ ∃ (i57 : Int), hc h48 ((a0.add 73).add (i47.toNat * 1)) = some (Value.int IntKind.u32 i57) ∧ 0 ≤ i47 ∧ i47 < (↑64 : Int) ∧ ∃ (i58 : Int), hc h48 ((Addr.mk n7 0 none).add (i47.toNat * 1)) = some (Value.int IntKind.u32 i58) ∧ c_sha_turn i50 6 (fun (i59 : Int) (h60 : H) => hcs h60 ((Addr.mk n7 0 none).add (i47.toNat * 1)) [Value.int IntKind.u32 i58] ∧ hcs h60 ((a0.add 73).add (i47.toNat * 1)) [Value.int IntKind.u32 i57] ∧ hcs h60 ((Addr.mk n41 0 none).add 6) [Value.int IntKind.u32 i56] ∧ hcs h60 ((Addr.mk n41 0 none).add 4) [Value.int IntKind.u32 i55] ∧ hcs h60 ((Addr.mk n41 0 none).add 5) [Value.int IntKind.u32 i54] ∧ hcs h60 ((Addr.mk n41 0 none).add 4) [Value.int IntKind.u32 i53] ∧ hcs h60 ((Addr.mk n41 0 none).add 4) [Value.int IntKind.u32 i52] ∧ hcs h60 ((Addr.mk n41 0 none).add 4) [Value.int IntKind.u32 i51] ∧ hcs h60 ((Addr.mk n41 0 none).add 7) [Value.int IntKind.u32 i49] ∧ c_sha_turn i51 11 (fun (i61 : Int) (h62 : H) => hcs h62 ((Addr.mk n7 0 none).add (i47.toNat * 1)) [Value.int IntKind.u32 i58] ∧ hcs h62 ((a0.add 73).add (i47.toNat * 1)) [Value.int IntKind.u32 i57] ∧ hcs h62 ((Addr.mk n41 0 none).add 6) [Value.int IntKind.u32 i56] ∧ hcs h62 ((Addr.mk n41 0 none).add 4) [Value.int IntKind.u32 i55] ∧ hcs h62 ((Addr.mk n41 0 none).add 5) [Value.int IntKind.u32 i54] ∧ hcs h62 ((Addr.mk n41 0 none).add 4) [Value.int IntKind.u32 i53] ∧ hcs h62 ((Addr.mk n41 0 none).add 4) [Value.int IntKind.u32 i52] ∧ hcs h62 ((Addr.mk n41 0 none).add 7) [Value.int IntKind.u32 i49] ∧ c_sha_turn i52 25 (fun (i63 : Int) (h64 : H) => hcs h64 ((Addr.mk n7 0 none).add (i47.toNat * 1)) [Value.int IntKind.u32 i58] ∧ hcs h64 ((a0.add 73).add (i47.toNat * 1)) [Value.int IntKind.u32 i57] ∧ hcs h64 ((Addr.mk n41 0 none).add 6) [Value.int IntKind.u32 i56] ∧ hcs h64 ((Addr.mk n41 0 none).add 4) [Value.int IntKind.u32 i55] ∧ hcs h64 ((Addr.mk n41 0 none).add 5) [Value.int IntKind.u32 i54] ∧ hcs h64 ((Addr.mk n41 0 none).add 4) [Value.int IntKind.u32 i53] ∧ hcs h64 ((Addr.mk n41 0 none).add 7) [Value.int IntKind.u32 i49] ∧ (0 : Int) ≤ 0 ∧ (0 : Int) < (↑8 : Int) ∧ ∃ (i65 : Int), hc h64 (Addr.mk n41 0 none) = some (Value.int IntKind.u32 i65) ∧ (0 : Int) ≤ 0 ∧ (0 : Int) < (↑8 : Int) ∧ ∃ (i66 : Int), hc h64 (Addr.mk n41 0 none) = some (Value.int IntKind.u32 i66) ∧ (0 : Int) ≤ 0 ∧ (0 : Int) < (↑8 : Int) ∧ ∃ (i67 : Int), hc h64 (Addr.mk n41 0 none) = some (Value.int IntKind.u32 i67) ∧ (0 : Int) ≤ 0 ∧ (0 : Int) < (↑8 : Int) ∧ ∃ (i68 : Int), hc h64 (Addr.mk n41 0 none) = some (Value.int IntKind.u32 i68) ∧ (0 : Int) ≤ 1 ∧ (1 : Int) < (↑8 : Int) ∧ ∃ (i69 : Int), hc h64 ((Addr.mk n41 0 none).add 1) = some (Value.int IntKind.u32 i69) ∧ (0 : Int) ≤ 0 ∧ (0 : Int) < (↑8 : Int) ∧ ∃ (i70 : Int), hc h64 (Addr.mk n41 0 none) = some (Value.int IntKind.u32 i70) ∧ (0 : Int) ≤ 2 ∧ (2 : Int) < (↑8 : Int) ∧ ∃ (i71 : Int), hc h64 ((Addr.mk n41 0 none).add 2) = some (Value.int IntKind.u32 i71) ∧ (0 : Int) ≤ 1 ∧ (1 : Int) < (↑8 : Int) ∧ ∃ (i72 : Int), hc h64 ((Addr.mk n41 0 none).add 1) = some (Value.int IntKind.u32 i72) ∧ (0 : Int) ≤ 2 ∧ (2 : Int) < (↑8 : Int) ∧ ∃ (i73 : Int), hc h64 ((Addr.mk n41 0 none).add 2) = some (Value.int IntKind.u32 i73) ∧ c_sha_turn i65 2 (fun (i74 : Int) (h75 : H) => hcs h75 ((Addr.mk n41 0 none).add 2) [Value.int IntKind.u32 i73] ∧ hcs h75 ((Addr.mk n41 0 none).add 1) [Value.int IntKind.u32 i72] ∧ hcs h75 ((Addr.mk n41 0 none).add 2) [Value.int IntKind.u32 i71] ∧ hcs h75 (Addr.mk n41 0 none) [Value.int IntKind.u32 i70] ∧ hcs h75 ((Addr.mk n41 0 none).add 1) [Value.int IntKind.u32 i69] ∧ hcs h75 (Addr.mk n41 0 none) [Value.int IntKind.u32 i68] ∧ hcs h75 (Addr.mk n41 0 none) [Value.int IntKind.u32 i67] ∧ hcs h75 (Addr.mk n41 0 none) [Value.int IntKind.u32 i66] ∧ c_sha_turn i66 13 (fun (i76 : Int) (h77 : H) => hcs h77 ((Addr.mk n41 0 none).add 2) [Value.int IntKind.u32 i73] ∧ hcs h77 ((Addr.mk n41 0 none).add 1) [Value.int IntKind.u32 i72] ∧ hcs h77 ((Addr.mk n41 0 none).add 2) [Value.int IntKind.u32 i71] ∧ hcs h77 (Addr.mk n41 0 none) [Value.int IntKind.u32 i70] ∧ hcs h77 ((Addr.mk n41 0 none).add 1) [Value.int IntKind.u32 i69] ∧ hcs h77 (Addr.mk n41 0 none) [Value.int IntKind.u32 i68] ∧ hcs h77 (Addr.mk n41 0 none) [Value.int IntKind.u32 i67] ∧ c_sha_turn i67 22 (fun (i78 : Int) (h79 : H) => hcs h79 ((Addr.mk n41 0 none).add 2) [Value.int IntKind.u32 i73] ∧ hcs h79 ((Addr.mk n41 0 none).add 1) [Value.int IntKind.u32 i72] ∧ hcs h79 ((Addr.mk n41 0 none).add 2) [Value.int IntKind.u32 i71] ∧ hcs h79 (Addr.mk n41 0 none) [Value.int IntKind.u32 i70] ∧ hcs h79 ((Addr.mk n41 0 none).add 1) [Value.int IntKind.u32 i69] ∧ hcs h79 (Addr.mk n41 0 none) [Value.int IntKind.u32 i68] ∧ (0 : Int) ≤ 0 ∧ (0 : Int) < (↑8 : Int) ∧ ∃ (i80 : Int), hc h79 (Addr.mk n41 0 none) = some (Value.int IntKind.u32 i80) ∧ (0 : Int) ≤ 1 ∧ (1 : Int) < (↑8 : Int) ∧ ∃ (i81 : Int), hc h79 ((Addr.mk n41 0 none).add 1) = some (Value.int IntKind.u32 i81) ∧ (0 : Int) ≤ 2 ∧ (2 : Int) < (↑8 : Int) ∧ ∃ (i82 : Int), hc h79 ((Addr.mk n41 0 none).add 2) = some (Value.int IntKind.u32 i82) ∧ (0 : Int) ≤ 3 ∧ (3 : Int) < (↑8 : Int) ∧ ∃ (i83 : Int), hc h79 ((Addr.mk n41 0 none).add 3) = some (Value.int IntKind.u32 i83) ∧ (0 : Int) ≤ 4 ∧ (4 : Int) < (↑8 : Int) ∧ ∃ (i84 : Int), hc h79 ((Addr.mk n41 0 none).add 4) = some (Value.int IntKind.u32 i84) ∧ (0 : Int) ≤ 5 ∧ (5 : Int) < (↑8 : Int) ∧ ∃ (i85 : Int), hc h79 ((Addr.mk n41 0 none).add 5) = some (Value.int IntKind.u32 i85) ∧ (0 : Int) ≤ 6 ∧ (6 : Int) < (↑8 : Int) ∧ ∃ (i86 : Int), hc h79 ((Addr.mk n41 0 none).add 6) = some (Value.int IntKind.u32 i86) ∧ hcan h79 (Addr.mk n41 0 none) 8 ∧ ∀ (h87 : H), h87 = hwr h79 (Addr.mk n41 0 none) (ints IntKind.u32 [IntKind.u32.wrap (IntKind.u32.wrap (IntKind.u32.wrap (IntKind.u32.wrap (IntKind.u32.wrap (i49 + bits BinOp.xor IntKind.u32 (bits BinOp.xor IntKind.u32 i59 i61) i63) + bits BinOp.xor IntKind.u32 (bits BinOp.and IntKind.u32 i53 i54) (bits BinOp.and IntKind.u32 (bits BinOp.xor IntKind.u32 (if IntKind.u32.signed = true then -1 else IntKind.u32.max) i55) i56)) + i57) + i58) + IntKind.u32.wrap (bits BinOp.xor IntKind.u32 (bits BinOp.xor IntKind.u32 i74 i76) i78 + bits BinOp.xor IntKind.u32 (bits BinOp.xor IntKind.u32 (bits BinOp.and IntKind.u32 i68 i69) (bits BinOp.and IntKind.u32 i70 i71)) (bits BinOp.and IntKind.u32 i72 i73))), i80, i81, i82, IntKind.u32.wrap (i83 + IntKind.u32.wrap (IntKind.u32.wrap (IntKind.u32.wrap (IntKind.u32.wrap (i49 + bits BinOp.xor IntKind.u32 (bits BinOp.xor IntKind.u32 i59 i61) i63) + bits BinOp.xor IntKind.u32 (bits BinOp.and IntKind.u32 i53 i54) (bits BinOp.and IntKind.u32 (bits BinOp.xor IntKind.u32 (if IntKind.u32.signed = true then -1 else IntKind.u32.max) i55) i56)) + i57) + i58)), i84, i85, i86] ++ []) → J46 [SV.dv (DV.one (Value.int IntKind.i64 (IntKind.i64.wrap (i47 + 1))))] h87) h77) h75) h64) h62) h60) h48 else ∀ (J89 : List SV → H → Prop), (∀ (i90 : Int) (h91 : H), (if ltI i90 8 = true then 0 ≤ i90 ∧ i90 < (↑8 : Int) ∧ ∃ (i92 : Int), hc h91 (a0.add (i90.toNat * 1)) = some (Value.int IntKind.u32 i92) ∧ 0 ≤ i90 ∧ i90 < (↑8 : Int) ∧ ∃ (i93 : Int), hc h91 ((Addr.mk n41 0 none).add (i90.toNat * 1)) = some (Value.int IntKind.u32 i93) ∧ 0 ≤ i90 ∧ i90 < (↑8 : Int) ∧ hcan h91 (a0.add (i90.toNat * 1)) 1 ∧ ∀ (h94 : H), h94 = hwr h91 (a0.add (i90.toNat * 1)) [Value.int IntKind.u32 (IntKind.u32.wrap (i92 + i93))] → J89 [SV.dv (DV.one (Value.int IntKind.i64 (IntKind.i64.wrap (i90 + 1))))] h94 else Q h91) → J89 [SV.dv (DV.one (Value.int IntKind.i64 i90))] h91) → J89 [SV.dv (DV.one (Value.int IntKind.i64 0))] h48) → J46 [SV.dv (DV.one (Value.int IntKind.i64 i47))] h48) → J46 [SV.dv (DV.one (Value.int IntKind.i64 0))] h44) → J23 [SV.dv (DV.one (Value.int IntKind.i64 i24))] h25) → J23 [SV.dv (DV.one (Value.int IntKind.i64 16))] h12) → J10 [SV.dv (DV.one (Value.int IntKind.i64 i11))] h12) → J10 [SV.dv (DV.one (Value.int IntKind.i64 0))] h8
theorem E_sha_Digest_take (c_sha_turn : Int → Int → (Int → H → Prop) → H → Prop) : ∀ (a0 : Addr) (a1p : Option Addr) (a1l : Nat) (a1c : Nat) (Q : H → Prop) (h : H), G_sha_Digest_take c_sha_turn a0 a1p a1l a1c Q h = Dbody PP [(82, W [.int .u32, .int .i64] [.int .u32] c_sha_turn)] [(26, [(16, .sc (.int .i64))]), (58, [(8, .sc (.int .i64))]), (250, [(87, .sc (.int .i64))]), (254, [(178, .sc (.int .i64))]), (6758, [(27, .sc (.int .i64))])] Tryz.f76 [.addr a0, .one (.slice a1p a1l a1c)] (decR [] Q) h := by intros; kernel_rfl
def F_sha_Digest_take := G_sha_Digest_take F_sha_turn
theorem R_sha_Digest_take : RunOk PP 76 (W [.addr, .slc] [] F_sha_Digest_take) := runOk_of (T := [(82, W [.int .u32, .int .i64] [.int .u32] F_sha_turn)]) (ann := [(26, [(16, .sc (.int .i64))]), (58, [(8, .sc (.int .i64))]), (250, [(87, .sc (.int .i64))]), (254, [(178, .sc (.int .i64))]), (6758, [(27, .sc (.int .i64))])]) (TblOk.cons R_sha_turn (TblOk.nil)) Tryz.func76 (by kernel_rfl) (by kernel_rfl) (E_sha_Digest_take F_sha_turn)
attribute [irreducible] F_sha_Digest_take
def G_sha_Digest_Write (c_sha_Digest_take : Addr → Option Addr → Nat → Nat → (H → Prop) → H → Prop) (a0 : Addr) (a1p : Option Addr) (a1l : Nat) (a1c : Nat) (Q : H → Prop) (h : H) : Prop := ∃ (i7 : Int), hc h (a0.add 72) = some (Value.int IntKind.u64 i7) ∧ (64 : Int) ≠ 0 ∧ ∃ (i8 : Int), hc h (a0.add 72) = some (Value.int IntKind.u64 i8) ∧ hcan h (a0.add 72) 1 ∧ ∀ (h9 : H), h9 = hwr h (a0.add 72) [Value.int IntKind.u64 (IntKind.u64.wrap (i8 + IntKind.u64.wrap (↑a1l : Int)))] → if ltI 0 (IntKind.i64.wrap (i7.tmod 64)) = true then 0 ≤ IntKind.i64.wrap (i7.tmod 64) ∧ IntKind.i64.wrap (i7.tmod 64) ≤ (↑64 : Int) ∧ ∃ (l11 : List Value), hsv h9 a1p 1 (a1l.min (64 - (IntKind.i64.wrap (i7.tmod 64)).toNat)) l11 ∧ (l11 = [] ∨ ∃ (p12 : Addr), subAddr (some (a0.add 8)) (IntKind.i64.wrap (i7.tmod 64)).toNat 64 1 = some p12 ∧ hcan h9 p12 (a1l.min (64 - (IntKind.i64.wrap (i7.tmod 64)).toNat) * 1)) ∧ ∀ (h13 : H), h13 = hwrO h9 (subAddr (some (a0.add 8)) (IntKind.i64.wrap (i7.tmod 64)).toNat 64 1) l11 → 0 ≤ (↑(a1l.min (64 - (IntKind.i64.wrap (i7.tmod 64)).toNat)) : Int) ∧ (↑(a1l.min (64 - (IntKind.i64.wrap (i7.tmod 64)).toNat)) : Int) ≤ (↑a1l : Int) ∧ if ltI (IntKind.i64.wrap (IntKind.i64.wrap (i7.tmod 64) + (↑(a1l.min (64 - (IntKind.i64.wrap (i7.tmod 64)).toNat)) : Int))) 64 = true then Q h13 else c_sha_Digest_take a0 (subAddr (some (a0.add 8)) 0 64 1) 64 64 (fun (h15 : H) => ∀ (J16 : List SV → H → Prop), (∀ (o17 : Option Addr) (n18 n19 : Nat) (h20 : H), (if leI 64 (↑n18 : Int) = true then (0 : Int) ≤ 64 ∧ 64 ≤ (↑n19 : Int) ∧ c_sha_Digest_take a0 (subAddr o17 0 n19 1) 64 (n19 - 0) (fun (h21 : H) => (0 : Int) ≤ 64 ∧ 64 ≤ (↑n18 : Int) ∧ J16 [SV.dv (DV.one (Value.slice (subAddr o17 64 n19 1) (n18 - 64) (n19 - 64)))] h21) h20 else ∃ (l22 : List Value), hsv h20 o17 1 (n18.min 64) l22 ∧ (l22 = [] ∨ ∃ (p23 : Addr), subAddr (some (a0.add 8)) 0 64 1 = some p23 ∧ hcan h20 p23 (n18.min 64 * 1)) ∧ ∀ (h24 : H), h24 = hwrO h20 (subAddr (some (a0.add 8)) 0 64 1) l22 → Q h24) → J16 [SV.dv (DV.one (Value.slice o17 n18 n19))] h20) → J16 [SV.dv (DV.one (Value.slice (subAddr a1p (↑(a1l.min (64 - (IntKind.i64.wrap (i7.tmod 64)).toNat)) : Int).toNat a1c 1) (a1l - (↑(a1l.min (64 - (IntKind.i64.wrap (i7.tmod 64)).toNat)) : Int).toNat) (a1c - (↑(a1l.min (64 - (IntKind.i64.wrap (i7.tmod 64)).toNat)) : Int).toNat)))] h15) h13 else ∀ (J28 : List SV → H → Prop), (∀ (o29 : Option Addr) (n30 n31 : Nat) (h32 : H), (if leI 64 (↑n30 : Int) = true then (0 : Int) ≤ 64 ∧ 64 ≤ (↑n31 : Int) ∧ c_sha_Digest_take a0 (subAddr o29 0 n31 1) 64 (n31 - 0) (fun (h33 : H) => (0 : Int) ≤ 64 ∧ 64 ≤ (↑n30 : Int) ∧ J28 [SV.dv (DV.one (Value.slice (subAddr o29 64 n31 1) (n30 - 64) (n31 - 64)))] h33) h32 else ∃ (l34 : List Value), hsv h32 o29 1 (n30.min 64) l34 ∧ (l34 = [] ∨ ∃ (p35 : Addr), subAddr (some (a0.add 8)) 0 64 1 = some p35 ∧ hcan h32 p35 (n30.min 64 * 1)) ∧ ∀ (h36 : H), h36 = hwrO h32 (subAddr (some (a0.add 8)) 0 64 1) l34 → Q h36) → J28 [SV.dv (DV.one (Value.slice o29 n30 n31))] h32) → J28 [SV.dv (DV.one (Value.slice a1p a1l a1c))] h9
theorem E_sha_Digest_Write (c_sha_Digest_take : Addr → (Option Addr) → Nat → Nat → (H → Prop) → H → Prop) : ∀ (a0 : Addr) (a1p : Option Addr) (a1l : Nat) (a1c : Nat) (Q : H → Prop) (h : H), G_sha_Digest_Write c_sha_Digest_take a0 a1p a1l a1c Q h = Dbody PP [(76, W [.addr, .slc] [] c_sha_Digest_take)] [(60, [(1, .sc (.slc))])] Tryz.f64 [.addr a0, .one (.slice a1p a1l a1c)] (decR [] Q) h := by intros; kernel_rfl
def F_sha_Digest_Write := G_sha_Digest_Write F_sha_Digest_take
theorem R_sha_Digest_Write : RunOk PP 64 (W [.addr, .slc] [] F_sha_Digest_Write) := runOk_of (T := [(76, W [.addr, .slc] [] F_sha_Digest_take)]) (ann := [(60, [(1, .sc (.slc))])]) (TblOk.cons R_sha_Digest_take (TblOk.nil)) Tryz.func64 (by kernel_rfl) (by kernel_rfl) (E_sha_Digest_Write F_sha_Digest_take)
attribute [irreducible] F_sha_Digest_Write
def G_sha_start (Q : List Int → H → Prop) (h : H) : Prop := ∀ (n2 : Nat) (h3 : H), hnew h n2 (ints IntKind.u32 (zeros 8)) h3 → hcan h3 (Addr.mk n2 0 none) 8 ∧ ∀ (h5 : H), h5 = hwr h3 (Addr.mk n2 0 none) (ints IntKind.u32 [1779033703, 3144134277, 1013904242, 2773480762, 1359893119, 2600822924, 528734635, 1541459225]) → ∃ (l7 : List Int), l7.length = 8 ∧ hrow h5 (Addr.mk n2 0 none) IntKind.u32 l7 ∧ Q l7 h5
theorem E_sha_start  : ∀ (Q : (List Int) → H → Prop) (h : H), G_sha_start Q h = Dbody PP [] [] Tryz.f80 [] (decR [.ag [.row .u32 8]] Q) h := by intros; kernel_rfl
def F_sha_start := G_sha_start
theorem R_sha_start : RunOk PP 80 (W [] [.ag [.row .u32 8]] F_sha_start) := runOk_of (T := []) (ann := []) (TblOk.nil) Tryz.func80 (by kernel_rfl) (by kernel_rfl) (E_sha_start)
attribute [irreducible] F_sha_start
def G_sha_rounds (Q : List Int → H → Prop) (h : H) : Prop := ∀ (n2 : Nat) (h3 : H), hnew h n2 (ints IntKind.u32 (zeros 64)) h3 → hcan h3 (Addr.mk n2 0 none) 64 ∧ ∀ (h5 : H), h5 = hwr h3 (Addr.mk n2 0 none) (ints IntKind.u32 [1116352408, 1899447441, 3049323471, 3921009573, 961987163, 1508970993, 2453635748, 2870763221, 3624381080, 310598401, 607225278, 1426881987, 1925078388, 2162078206, 2614888103, 3248222580, 3835390401, 4022224774, 264347078, 604807628, 770255983, 1249150122, 1555081692, 1996064986, 2554220882, 2821834349, 2952996808, 3210313671, 3336571891, 3584528711, 113926993, 338241895, 666307205, 773529912, 1294757372, 1396182291, 1695183700, 1986661051, 2177026350, 2456956037, 2730485921, 2820302411, 3259730800, 3345764771, 3516065817, 3600352804, 4094571909, 275423344, 430227734, 506948616, 659060556, 883997877, 958139571, 1322822218, 1537002063, 1747873779, 1955562222, 2024104815, 2227730452, 2361852424, 2428436474, 2756734187, 3204031479, 3329325298]) → ∃ (l7 : List Int), l7.length = 64 ∧ hrow h5 (Addr.mk n2 0 none) IntKind.u32 l7 ∧ Q l7 h5
theorem E_sha_rounds  : ∀ (Q : (List Int) → H → Prop) (h : H), G_sha_rounds Q h = Dbody PP [] [] Tryz.f81 [] (decR [.ag [.row .u32 64]] Q) h := by intros; kernel_rfl
def F_sha_rounds := G_sha_rounds
theorem R_sha_rounds : RunOk PP 81 (W [] [.ag [.row .u32 64]] F_sha_rounds) := runOk_of (T := []) (ann := []) (TblOk.nil) Tryz.func81 (by kernel_rfl) (by kernel_rfl) (E_sha_rounds)
attribute [irreducible] F_sha_rounds
def G_sha_New (c_sha_start : (List Int → H → Prop) → H → Prop) (c_sha_rounds : (List Int → H → Prop) → H → Prop) (Q : Option Addr → H → Prop) (h : H) : Prop := c_sha_start (fun (l4 : List Int) (h5 : H) => c_sha_rounds (fun (l6 : List Int) (h7 : H) => ∀ (n8 : Nat) (h9 : H), hnew h7 n8 (ints IntKind.u32 l4 ++ (ints IntKind.u8 (zeros 64) ++ Value.int IntKind.u64 0 :: (ints IntKind.u32 l6 ++ []))) h9 → Q (some (Addr.mk n8 0 none)) h9) h5) h
theorem E_sha_New (c_sha_start : ((List Int) → H → Prop) → H → Prop) (c_sha_rounds : ((List Int) → H → Prop) → H → Prop) : ∀ (Q : (Option Addr) → H → Prop) (h : H), G_sha_New c_sha_start c_sha_rounds Q h = Dbody PP [(80, W [] [.ag [.row .u32 8]] c_sha_start), (81, W [] [.ag [.row .u32 64]] c_sha_rounds)] [] Tryz.f75 [] (decR [.ptr] Q) h := by intros; kernel_rfl
def F_sha_New := G_sha_New F_sha_start F_sha_rounds
theorem R_sha_New : RunOk PP 75 (W [] [.ptr] F_sha_New) := runOk_of (T := [(80, W [] [.ag [.row .u32 8]] F_sha_start), (81, W [] [.ag [.row .u32 64]] F_sha_rounds)]) (ann := []) (TblOk.cons R_sha_start (TblOk.cons R_sha_rounds (TblOk.nil))) Tryz.func75 (by kernel_rfl) (by kernel_rfl) (E_sha_New F_sha_start F_sha_rounds)
attribute [irreducible] F_sha_New
def G_sha_Digest_Copy (a0 : Addr) (Q : Option Addr → H → Prop) (h : H) : Prop := ∃ (l3 : List Int), l3.length = 8 ∧ hrow h a0 IntKind.u32 l3 ∧ ∃ (l4 : List Int), l4.length = 64 ∧ hrow h (a0.add 8) IntKind.u8 l4 ∧ ∃ (i5 : Int), hc h (a0.add 72) = some (Value.int IntKind.u64 i5) ∧ ∃ (l6 : List Int), l6.length = 64 ∧ hrow h (a0.add 73) IntKind.u32 l6 ∧ ∀ (n7 : Nat) (h8 : H), hnew h n7 (ints IntKind.u32 (zeros 8) ++ (ints IntKind.u8 (zeros 64) ++ Value.int IntKind.u64 0 :: ints IntKind.u32 (zeros 64))) h8 → hcan h8 (Addr.mk n7 0 none) 137 ∧ ∀ (h10 : H), h10 = hwr h8 (Addr.mk n7 0 none) (ints IntKind.u32 l3 ++ (ints IntKind.u8 l4 ++ Value.int IntKind.u64 i5 :: (ints IntKind.u32 l6 ++ []))) → Q (some (Addr.mk n7 0 none)) h10
theorem E_sha_Digest_Copy  : ∀ (a0 : Addr) (Q : (Option Addr) → H → Prop) (h : H), G_sha_Digest_Copy a0 Q h = Dbody PP [] [] Tryz.f83 [.addr a0] (decR [.ptr] Q) h := by intros; kernel_rfl
def F_sha_Digest_Copy := G_sha_Digest_Copy
theorem R_sha_Digest_Copy : RunOk PP 83 (W [.addr] [.ptr] F_sha_Digest_Copy) := runOk_of (T := []) (ann := []) (TblOk.nil) Tryz.func83 (by kernel_rfl) (by kernel_rfl) (E_sha_Digest_Copy)
attribute [irreducible] F_sha_Digest_Copy
def G_sha_Digest_Sum (c_sha_Digest_Write : Addr → Option Addr → Nat → Nat → (H → Prop) → H → Prop) (c_sha_Digest_Copy : Addr → (Option Addr → H → Prop) → H → Prop) (a0 : Addr) (Q : List Int → H → Prop) (h : H) : Prop := ∀ (n5 : Nat) (h6 : H), hnew h n5 (ints IntKind.u8 (zeros 32)) h6 → c_sha_Digest_Copy a0 (fun (o8 : Option Addr) (h9 : H) => ∀ (n10 : Nat) (h11 : H), hnew h9 n10 (ints IntKind.u8 (zeros 73)) h11 → (0 : Int) ≤ 0 ∧ (0 : Int) < (↑73 : Int) ∧ hcan h11 (Addr.mk n10 0 none) 1 ∧ ∀ (h13 : H), h13 = hwr h11 (Addr.mk n10 0 none) [Value.int IntKind.u8 128] → ∃ (i15 : Int), hc h13 (a0.add 72) = some (Value.int IntKind.u64 i15) ∧ (64 : Int) ≠ 0 ∧ (64 : Int) ≠ 0 ∧ ∀ (J16 : List SV → H → Prop), (∀ (i17 : Int) (h18 : H), (if ltI i17 8 = true then ∃ (i19 : Int), hc h18 (a0.add 72) = some (Value.int IntKind.u64 i19) ∧ 0 ≤ IntKind.i64.wrap (56 - IntKind.i64.wrap (8 * i17)) ∧ 0 ≤ IntKind.i64.wrap (IntKind.i64.wrap (1 + (IntKind.i64.wrap (119 - IntKind.i64.wrap (i15.tmod 64))).tmod 64) + i17) ∧ IntKind.i64.wrap (IntKind.i64.wrap (1 + (IntKind.i64.wrap (119 - IntKind.i64.wrap (i15.tmod 64))).tmod 64) + i17) < (↑73 : Int) ∧ hcan h18 ((Addr.mk n10 0 none).add ((IntKind.i64.wrap (IntKind.i64.wrap (1 + (IntKind.i64.wrap (119 - IntKind.i64.wrap (i15.tmod 64))).tmod 64) + i17)).toNat * 1)) 1 ∧ ∀ (h20 : H), h20 = hwr h18 ((Addr.mk n10 0 none).add ((IntKind.i64.wrap (IntKind.i64.wrap (1 + (IntKind.i64.wrap (119 - IntKind.i64.wrap (i15.tmod 64))).tmod 64) + i17)).toNat * 1)) [Value.int IntKind.u8 (IntKind.u8.wrap ((IntKind.u64.wrap (8 * i19)).fdiv (2 ^ min (IntKind.i64.wrap (56 - IntKind.i64.wrap (8 * i17))).toNat 64)))] → J16 [SV.dv (DV.one (Value.int IntKind.i64 (IntKind.i64.wrap (i17 + 1))))] h20 else 0 ≤ IntKind.i64.wrap (IntKind.i64.wrap (1 + (IntKind.i64.wrap (119 - IntKind.i64.wrap (i15.tmod 64))).tmod 64) + 8) ∧ IntKind.i64.wrap (IntKind.i64.wrap (1 + (IntKind.i64.wrap (119 - IntKind.i64.wrap (i15.tmod 64))).tmod 64) + 8) ≤ (↑73 : Int) ∧ ∃ (p22 : Addr), o8 = some p22 ∧ c_sha_Digest_Write p22 (subAddr (some (Addr.mk n10 0 none)) 0 73 1) ((IntKind.i64.wrap (IntKind.i64.wrap (1 + (IntKind.i64.wrap (119 - IntKind.i64.wrap (i15.tmod 64))).tmod 64) + 8)).toNat - 0) 73 (fun (h23 : H) => ∀ (n24 : Nat) (h25 : H), hnew h23 n24 (ints IntKind.u8 (zeros 32)) h25 → ∃ (p27 : Addr), o8 = some p27 ∧ ∃ (l28 : List Int), l28.length = 8 ∧ hrow h25 p27 IntKind.u32 l28 ∧ ∀ (J29 : List SV → H → Prop), (∀ (i30 : Int) (h31 : H), (if ltI i30 8 = true then 0 ≤ i30 ∧ i30 < (↑8 : Int) ∧ ∀ (J32 : List SV → H → Prop), (∀ (i33 : Int) (h34 : H), (if ltI i33 4 = true then 0 ≤ IntKind.i64.wrap (24 - IntKind.i64.wrap (8 * i33)) ∧ 0 ≤ IntKind.i64.wrap (IntKind.i64.wrap (4 * i30) + i33) ∧ IntKind.i64.wrap (IntKind.i64.wrap (4 * i30) + i33) < (↑32 : Int) ∧ hcan h34 ((Addr.mk n24 0 none).add ((IntKind.i64.wrap (IntKind.i64.wrap (4 * i30) + i33)).toNat * 1)) 1 ∧ ∀ (h35 : H), h35 = hwr h34 ((Addr.mk n24 0 none).add ((IntKind.i64.wrap (IntKind.i64.wrap (4 * i30) + i33)).toNat * 1)) [Value.int IntKind.u8 (IntKind.u8.wrap ((l28.getD i30.toNat 0).fdiv (2 ^ min (IntKind.i64.wrap (24 - IntKind.i64.wrap (8 * i33))).toNat 32)))] → J32 [SV.dv (DV.one (Value.int IntKind.i64 (IntKind.i64.wrap (i33 + 1))))] h35 else J29 [SV.dv (DV.one (Value.int IntKind.i64 (IntKind.i64.wrap (i30 + 1))))] h34) → J32 [SV.dv (DV.one (Value.int IntKind.i64 i33))] h34) → J32 [SV.dv (DV.one (Value.int IntKind.i64 0))] h31 else ∃ (l39 : List Int), l39.length = 32 ∧ hrow h31 (Addr.mk n24 0 none) IntKind.u8 l39 ∧ hcan h31 (Addr.mk n5 0 none) 32 ∧ ∀ (h40 : H), h40 = hwr h31 (Addr.mk n5 0 none) (ints IntKind.u8 l39 ++ []) → ∃ (l42 : List Int), l42.length = 32 ∧ hrow h40 (Addr.mk n5 0 none) IntKind.u8 l42 ∧ Q l42 h40) → J29 [SV.dv (DV.one (Value.int IntKind.i64 i30))] h31) → J29 [SV.dv (DV.one (Value.int IntKind.i64 0))] h25) h18) → J16 [SV.dv (DV.one (Value.int IntKind.i64 i17))] h18) → J16 [SV.dv (DV.one (Value.int IntKind.i64 0))] h13) h6
theorem E_sha_Digest_Sum (c_sha_Digest_Write : Addr → (Option Addr) → Nat → Nat → (H → Prop) → H → Prop) (c_sha_Digest_Copy : Addr → ((Option Addr) → H → Prop) → H → Prop) : ∀ (a0 : Addr) (Q : (List Int) → H → Prop) (h : H), G_sha_Digest_Sum c_sha_Digest_Write c_sha_Digest_Copy a0 Q h = Dbody PP [(64, W [.addr, .slc] [] c_sha_Digest_Write), (83, W [.addr] [.ptr] c_sha_Digest_Copy)] [(1018, [(25, .sc (.int .i64))]), (8186, [(52, .sc (.int .i64))]), (2095718, [(56, .sc (.int .i64))])] Tryz.f77 [.addr a0] (decR [.ag [.row .u8 32]] Q) h := by intros; kernel_rfl
def F_sha_Digest_Sum := G_sha_Digest_Sum F_sha_Digest_Write F_sha_Digest_Copy
theorem R_sha_Digest_Sum : RunOk PP 77 (W [.addr] [.ag [.row .u8 32]] F_sha_Digest_Sum) := runOk_of (T := [(64, W [.addr, .slc] [] F_sha_Digest_Write), (83, W [.addr] [.ptr] F_sha_Digest_Copy)]) (ann := [(1018, [(25, .sc (.int .i64))]), (8186, [(52, .sc (.int .i64))]), (2095718, [(56, .sc (.int .i64))])]) (TblOk.cons R_sha_Digest_Write (TblOk.cons R_sha_Digest_Copy (TblOk.nil))) Tryz.func77 (by kernel_rfl) (by kernel_rfl) (E_sha_Digest_Sum F_sha_Digest_Write F_sha_Digest_Copy)
attribute [irreducible] F_sha_Digest_Sum
def G_sha_Of (c_sha_Digest_Write : Addr → Option Addr → Nat → Nat → (H → Prop) → H → Prop) (c_sha_New : (Option Addr → H → Prop) → H → Prop) (c_sha_Digest_Sum : Addr → (List Int → H → Prop) → H → Prop) (a0p : Option Addr) (a0l : Nat) (a0c : Nat) (Q : List Int → H → Prop) (h : H) : Prop := ∀ (n8 : Nat) (h9 : H), hnew h n8 (ints IntKind.u8 (zeros 32)) h9 → c_sha_New (fun (o11 : Option Addr) (h12 : H) => ∃ (p13 : Addr), o11 = some p13 ∧ c_sha_Digest_Write p13 a0p a0l a0c (fun (h14 : H) => ∃ (p15 : Addr), o11 = some p15 ∧ c_sha_Digest_Sum p15 (fun (l16 : List Int) (h17 : H) => hcan h17 (Addr.mk n8 0 none) 32 ∧ ∀ (h18 : H), h18 = hwr h17 (Addr.mk n8 0 none) (ints IntKind.u8 l16 ++ []) → ∃ (l20 : List Int), l20.length = 32 ∧ hrow h18 (Addr.mk n8 0 none) IntKind.u8 l20 ∧ Q l20 h18) h14) h12) h9
theorem E_sha_Of (c_sha_Digest_Write : Addr → (Option Addr) → Nat → Nat → (H → Prop) → H → Prop) (c_sha_New : ((Option Addr) → H → Prop) → H → Prop) (c_sha_Digest_Sum : Addr → ((List Int) → H → Prop) → H → Prop) : ∀ (a0p : Option Addr) (a0l : Nat) (a0c : Nat) (Q : (List Int) → H → Prop) (h : H), G_sha_Of c_sha_Digest_Write c_sha_New c_sha_Digest_Sum a0p a0l a0c Q h = Dbody PP [(64, W [.addr, .slc] [] c_sha_Digest_Write), (75, W [] [.ptr] c_sha_New), (77, W [.addr] [.ag [.row .u8 32]] c_sha_Digest_Sum)] [] Tryz.f74 [.one (.slice a0p a0l a0c)] (decR [.ag [.row .u8 32]] Q) h := by intros; kernel_rfl
def F_sha_Of := G_sha_Of F_sha_Digest_Write F_sha_New F_sha_Digest_Sum
theorem R_sha_Of : RunOk PP 74 (W [.slc] [.ag [.row .u8 32]] F_sha_Of) := runOk_of (T := [(64, W [.addr, .slc] [] F_sha_Digest_Write), (75, W [] [.ptr] F_sha_New), (77, W [.addr] [.ag [.row .u8 32]] F_sha_Digest_Sum)]) (ann := []) (TblOk.cons R_sha_Digest_Write (TblOk.cons R_sha_New (TblOk.cons R_sha_Digest_Sum (TblOk.nil)))) Tryz.func74 (by kernel_rfl) (by kernel_rfl) (E_sha_Of F_sha_Digest_Write F_sha_New F_sha_Digest_Sum)
attribute [irreducible] F_sha_Of
def G_mac_New (c_sha_Digest_Write : Addr → Option Addr → Nat → Nat → (H → Prop) → H → Prop) (c_sha_Of : Option Addr → Nat → Nat → (List Int → H → Prop) → H → Prop) (c_sha_New : (Option Addr → H → Prop) → H → Prop) (a0p : Option Addr) (a0l : Nat) (a0c : Nat) (Q : Option Addr → H → Prop) (h : H) : Prop := ∀ (n8 : Nat) (h9 : H), hnew h n8 (ints IntKind.u8 (zeros 64)) h9 → ∀ (J11 : List SV → H → Prop), (∀ (o12 : Option Addr) (n13 n14 : Nat) (h15 : H), (∃ (l16 : List Value), hsv h15 o12 1 (n13.min 64) l16 ∧ (l16 = [] ∨ ∃ (p17 : Addr), subAddr (some (Addr.mk n8 0 none)) 0 64 1 = some p17 ∧ hcan h15 p17 (n13.min 64 * 1)) ∧ ∀ (h18 : H), h18 = hwrO h15 (subAddr (some (Addr.mk n8 0 none)) 0 64 1) l16 → c_sha_New (fun (o20 : Option Addr) (h21 : H) => ∀ (n22 : Nat) (h23 : H), hnew h21 n22 (Value.pointer o20 :: ints IntKind.u8 (zeros 64)) h23 → ∀ (n25 : Nat) (h26 : H), hnew h23 n25 (ints IntKind.u8 (zeros 64)) h26 → ∃ (l28 : List Int), l28.length = 64 ∧ hrow h26 (Addr.mk n8 0 none) IntKind.u8 l28 ∧ ∀ (J29 : List SV → H → Prop), (∀ (i30 : Int) (h31 : H), (if ltI i30 64 = true then 0 ≤ i30 ∧ i30 < (↑64 : Int) ∧ 0 ≤ i30 ∧ i30 < (↑64 : Int) ∧ hcan h31 ((Addr.mk n25 0 none).add (i30.toNat * 1)) 1 ∧ ∀ (h32 : H), h32 = hwr h31 ((Addr.mk n25 0 none).add (i30.toNat * 1)) [Value.int IntKind.u8 (bits BinOp.xor IntKind.u8 (l28.getD i30.toNat 0) 54)] → 0 ≤ i30 ∧ i30 < (↑64 : Int) ∧ hcan h32 (((Addr.mk n22 0 none).add 1).add (i30.toNat * 1)) 1 ∧ ∀ (h34 : H), h34 = hwr h32 (((Addr.mk n22 0 none).add 1).add (i30.toNat * 1)) [Value.int IntKind.u8 (bits BinOp.xor IntKind.u8 (l28.getD i30.toNat 0) 92)] → J29 [SV.dv (DV.one (Value.int IntKind.i64 (IntKind.i64.wrap (i30 + 1))))] h34 else ∃ (o36 : Option Addr), hc h31 (Addr.mk n22 0 none) = some (Value.pointer o36) ∧ ∃ (p37 : Addr), o36 = some p37 ∧ c_sha_Digest_Write p37 (some (Addr.mk n25 0 none)) 64 64 (fun (h38 : H) => Q (some (Addr.mk n22 0 none)) h38) h31) → J29 [SV.dv (DV.one (Value.int IntKind.i64 i30))] h31) → J29 [SV.dv (DV.one (Value.int IntKind.i64 0))] h26) h18) → J11 [SV.dv (DV.one (Value.slice o12 n13 n14))] h15) → if ltI 64 (↑a0l : Int) = true then c_sha_Of a0p a0l a0c (fun (l43 : List Int) (h44 : H) => ∀ (n45 : Nat) (h46 : H), hnew h44 n45 (ints IntKind.u8 (zeros 32)) h46 → hcan h46 (Addr.mk n45 0 none) 32 ∧ ∀ (h48 : H), h48 = hwr h46 (Addr.mk n45 0 none) (ints IntKind.u8 l43 ++ []) → J11 [SV.dv (DV.one (Value.slice (subAddr (some (Addr.mk n45 0 none)) 0 32 1) 32 32))] h48) h9 else J11 [SV.dv (DV.one (Value.slice a0p a0l a0c))] h9
theorem E_mac_New (c_sha_Digest_Write : Addr → (Option Addr) → Nat → Nat → (H → Prop) → H → Prop) (c_sha_Of : (Option Addr) → Nat → Nat → ((List Int) → H → Prop) → H → Prop) (c_sha_New : ((Option Addr) → H → Prop) → H → Prop) : ∀ (a0p : Option Addr) (a0l : Nat) (a0c : Nat) (Q : (Option Addr) → H → Prop) (h : H), G_mac_New c_sha_Digest_Write c_sha_Of c_sha_New a0p a0l a0c Q h = Dbody PP [(64, W [.addr, .slc] [] c_sha_Digest_Write), (74, W [.slc] [.ag [.row .u8 32]] c_sha_Of), (75, W [] [.ptr] c_sha_New)] [(7, [(0, .sc (.slc))]), (1018, [(22, .sc (.int .i64))])] Tryz.f63 [.one (.slice a0p a0l a0c)] (decR [.ptr] Q) h := by intros; kernel_rfl
def F_mac_New := G_mac_New F_sha_Digest_Write F_sha_Of F_sha_New
theorem R_mac_New : RunOk PP 63 (W [.slc] [.ptr] F_mac_New) := runOk_of (T := [(64, W [.addr, .slc] [] F_sha_Digest_Write), (74, W [.slc] [.ag [.row .u8 32]] F_sha_Of), (75, W [] [.ptr] F_sha_New)]) (ann := [(7, [(0, .sc (.slc))]), (1018, [(22, .sc (.int .i64))])]) (TblOk.cons R_sha_Digest_Write (TblOk.cons R_sha_Of (TblOk.cons R_sha_New (TblOk.nil)))) Tryz.func63 (by kernel_rfl) (by kernel_rfl) (E_mac_New F_sha_Digest_Write F_sha_Of F_sha_New)
attribute [irreducible] F_mac_New
def G_mac_Mac_Sum (c_sha_Digest_Write : Addr → Option Addr → Nat → Nat → (H → Prop) → H → Prop) (c_sha_New : (Option Addr → H → Prop) → H → Prop) (c_sha_Digest_Sum : Addr → (List Int → H → Prop) → H → Prop) (a0 : Addr) (Q : List Int → H → Prop) (h : H) : Prop := ∀ (n6 : Nat) (h7 : H), hnew h n6 (ints IntKind.u8 (zeros 32)) h7 → ∃ (o9 : Option Addr), hc h7 a0 = some (Value.pointer o9) ∧ ∃ (p10 : Addr), o9 = some p10 ∧ c_sha_Digest_Sum p10 (fun (l11 : List Int) (h12 : H) => ∀ (n13 : Nat) (h14 : H), hnew h12 n13 (ints IntKind.u8 (zeros 32)) h14 → hcan h14 (Addr.mk n13 0 none) 32 ∧ ∀ (h16 : H), h16 = hwr h14 (Addr.mk n13 0 none) (ints IntKind.u8 l11 ++ []) → c_sha_New (fun (o18 : Option Addr) (h19 : H) => ∃ (p20 : Addr), o18 = some p20 ∧ c_sha_Digest_Write p20 (subAddr (some (a0.add 1)) 0 64 1) 64 64 (fun (h21 : H) => ∃ (p22 : Addr), o18 = some p22 ∧ c_sha_Digest_Write p22 (subAddr (some (Addr.mk n13 0 none)) 0 32 1) 32 32 (fun (h23 : H) => ∃ (p24 : Addr), o18 = some p24 ∧ c_sha_Digest_Sum p24 (fun (l25 : List Int) (h26 : H) => hcan h26 (Addr.mk n6 0 none) 32 ∧ ∀ (h27 : H), h27 = hwr h26 (Addr.mk n6 0 none) (ints IntKind.u8 l25 ++ []) → ∃ (l29 : List Int), l29.length = 32 ∧ hrow h27 (Addr.mk n6 0 none) IntKind.u8 l29 ∧ Q l29 h27) h23) h21) h19) h16) h7
theorem E_mac_Mac_Sum (c_sha_Digest_Write : Addr → (Option Addr) → Nat → Nat → (H → Prop) → H → Prop) (c_sha_New : ((Option Addr) → H → Prop) → H → Prop) (c_sha_Digest_Sum : Addr → ((List Int) → H → Prop) → H → Prop) : ∀ (a0 : Addr) (Q : (List Int) → H → Prop) (h : H), G_mac_Mac_Sum c_sha_Digest_Write c_sha_New c_sha_Digest_Sum a0 Q h = Dbody PP [(64, W [.addr, .slc] [] c_sha_Digest_Write), (75, W [] [.ptr] c_sha_New), (77, W [.addr] [.ag [.row .u8 32]] c_sha_Digest_Sum)] [] Tryz.f65 [.addr a0] (decR [.ag [.row .u8 32]] Q) h := by intros; kernel_rfl
def F_mac_Mac_Sum := G_mac_Mac_Sum F_sha_Digest_Write F_sha_New F_sha_Digest_Sum
theorem R_mac_Mac_Sum : RunOk PP 65 (W [.addr] [.ag [.row .u8 32]] F_mac_Mac_Sum) := runOk_of (T := [(64, W [.addr, .slc] [] F_sha_Digest_Write), (75, W [] [.ptr] F_sha_New), (77, W [.addr] [.ag [.row .u8 32]] F_sha_Digest_Sum)]) (ann := []) (TblOk.cons R_sha_Digest_Write (TblOk.cons R_sha_New (TblOk.cons R_sha_Digest_Sum (TblOk.nil)))) Tryz.func65 (by kernel_rfl) (by kernel_rfl) (E_mac_Mac_Sum F_sha_Digest_Write F_sha_New F_sha_Digest_Sum)
attribute [irreducible] F_mac_Mac_Sum
def G_mac_Of (c_mac_New : Option Addr → Nat → Nat → (Option Addr → H → Prop) → H → Prop) (c_sha_Digest_Write : Addr → Option Addr → Nat → Nat → (H → Prop) → H → Prop) (c_mac_Mac_Sum : Addr → (List Int → H → Prop) → H → Prop) (a0p : Option Addr) (a0l : Nat) (a0c : Nat) (a1p : Option Addr) (a1l : Nat) (a1c : Nat) (Q : List Int → H → Prop) (h : H) : Prop := ∀ (n11 : Nat) (h12 : H), hnew h n11 (ints IntKind.u8 (zeros 32)) h12 → c_mac_New a0p a0l a0c (fun (o14 : Option Addr) (h15 : H) => ∃ (p16 : Addr), o14 = some p16 ∧ ∃ (o17 : Option Addr), hc h15 p16 = some (Value.pointer o17) ∧ ∃ (p18 : Addr), o17 = some p18 ∧ c_sha_Digest_Write p18 a1p a1l a1c (fun (h19 : H) => ∃ (p20 : Addr), o14 = some p20 ∧ c_mac_Mac_Sum p20 (fun (l21 : List Int) (h22 : H) => hcan h22 (Addr.mk n11 0 none) 32 ∧ ∀ (h23 : H), h23 = hwr h22 (Addr.mk n11 0 none) (ints IntKind.u8 l21 ++ []) → ∃ (l25 : List Int), l25.length = 32 ∧ hrow h23 (Addr.mk n11 0 none) IntKind.u8 l25 ∧ Q l25 h23) h19) h15) h12
theorem E_mac_Of (c_mac_New : (Option Addr) → Nat → Nat → ((Option Addr) → H → Prop) → H → Prop) (c_sha_Digest_Write : Addr → (Option Addr) → Nat → Nat → (H → Prop) → H → Prop) (c_mac_Mac_Sum : Addr → ((List Int) → H → Prop) → H → Prop) : ∀ (a0p : Option Addr) (a0l : Nat) (a0c : Nat) (a1p : Option Addr) (a1l : Nat) (a1c : Nat) (Q : (List Int) → H → Prop) (h : H), G_mac_Of c_mac_New c_sha_Digest_Write c_mac_Mac_Sum a0p a0l a0c a1p a1l a1c Q h = Dbody PP [(63, W [.slc] [.ptr] c_mac_New), (64, W [.addr, .slc] [] c_sha_Digest_Write), (65, W [.addr] [.ag [.row .u8 32]] c_mac_Mac_Sum)] [] Tryz.f47 [.one (.slice a0p a0l a0c), .one (.slice a1p a1l a1c)] (decR [.ag [.row .u8 32]] Q) h := by intros; kernel_rfl
def F_mac_Of := G_mac_Of F_mac_New F_sha_Digest_Write F_mac_Mac_Sum
theorem R_mac_Of : RunOk PP 47 (W [.slc, .slc] [.ag [.row .u8 32]] F_mac_Of) := runOk_of (T := [(63, W [.slc] [.ptr] F_mac_New), (64, W [.addr, .slc] [] F_sha_Digest_Write), (65, W [.addr] [.ag [.row .u8 32]] F_mac_Mac_Sum)]) (ann := []) (TblOk.cons R_mac_New (TblOk.cons R_sha_Digest_Write (TblOk.cons R_mac_Mac_Sum (TblOk.nil)))) Tryz.func47 (by kernel_rfl) (by kernel_rfl) (E_mac_Of F_mac_New F_sha_Digest_Write F_mac_Mac_Sum)
attribute [irreducible] F_mac_Of
def G_keys_Ring_Sign (c_mac_Of : Option Addr → Nat → Nat → Option Addr → Nat → Nat → (List Int → H → Prop) → H → Prop) (a0 : Addr) (a1 : Int) (a2p : Option Addr) (a2l : Nat) (a2c : Nat) (Q : List Int → Int → H → Prop) (h : H) : Prop := ∀ (n8 : Nat) (h9 : H), hnew h n8 (ints IntKind.u8 (zeros 32)) h9 → ∃ (o11 : Option Nat), hc h9 a0 = some (Value.map o11) ∧ ∃ (l12 : List (Value × DV)), ∃ (x13 : DV), ∃ (b14 : Bool), hmapO h9 o11 l12 ∧ mlook (Value.int IntKind.i64 a1) (DV.one (Value.slice none 0 0)) l12 = some (x13, b14) ∧ ∃ (o15 : Option Addr), ∃ (n16 : Nat), ∃ (n17 : Nat), x13 = DV.one (Value.slice o15 n16 n17) ∧ if (!b14) = true then hcan h9 (Addr.mk n8 0 none) 32 ∧ ∀ (h18 : H), h18 = hwr h9 (Addr.mk n8 0 none) (ints IntKind.u8 (zeros 32)) → ∃ (l20 : List Int), l20.length = 32 ∧ hrow h18 (Addr.mk n8 0 none) IntKind.u8 l20 ∧ Q l20 13 h18 else c_mac_Of o15 n16 n17 a2p a2l a2c (fun (l21 : List Int) (h22 : H) => hcan h22 (Addr.mk n8 0 none) 32 ∧ ∀ (h23 : H), h23 = hwr h22 (Addr.mk n8 0 none) (ints IntKind.u8 l21 ++ []) → ∃ (l25 : List Int), l25.length = 32 ∧ hrow h23 (Addr.mk n8 0 none) IntKind.u8 l25 ∧ Q l25 0 h23) h9
theorem E_keys_Ring_Sign (c_mac_Of : (Option Addr) → Nat → Nat → (Option Addr) → Nat → Nat → ((List Int) → H → Prop) → H → Prop) : ∀ (a0 : Addr) (a1 : Int) (a2p : Option Addr) (a2l : Nat) (a2c : Nat) (Q : (List Int) → Int → H → Prop) (h : H), G_keys_Ring_Sign c_mac_Of a0 a1 a2p a2l a2c Q h = Dbody PP [(47, W [.slc, .slc] [.ag [.row .u8 32]] c_mac_Of)] [] Tryz.f29 [.addr a0, .one (.int .i64 a1), .one (.slice a2p a2l a2c)] (decR [.ag [.row .u8 32], .int .i64] Q) h := by intros; kernel_rfl
def F_keys_Ring_Sign := G_keys_Ring_Sign F_mac_Of
theorem R_keys_Ring_Sign : RunOk PP 29 (W [.addr, .int .i64, .slc] [.ag [.row .u8 32], .int .i64] F_keys_Ring_Sign) := runOk_of (T := [(47, W [.slc, .slc] [.ag [.row .u8 32]] F_mac_Of)]) (ann := []) (TblOk.cons R_mac_Of (TblOk.nil)) Tryz.func29 (by kernel_rfl) (by kernel_rfl) (E_keys_Ring_Sign F_mac_Of)
attribute [irreducible] F_keys_Ring_Sign
def G_token_message (a0p : Option Addr) (a0l : Nat) (a0c : Nat) (Q : Option Addr → Nat → Nat → H → Prop) (h : H) : Prop := ∀ (n5 : Nat) (h6 : H), hnew h n5 [Value.int IntKind.u8 112, Value.int IntKind.u8 111, Value.int IntKind.u8 114, Value.int IntKind.u8 116, Value.int IntKind.u8 99, Value.int IntKind.u8 117, Value.int IntKind.u8 108, Value.int IntKind.u8 108, Value.int IntKind.u8 105, Value.int IntKind.u8 115, Value.int IntKind.u8 32, Value.int IntKind.u8 116, Value.int IntKind.u8 111, Value.int IntKind.u8 107, Value.int IntKind.u8 101, Value.int IntKind.u8 110, Value.int IntKind.u8 0] h6 → ∃ (p8 : Addr), some (Addr.mk n5 0 none) = some p8 ∧ ∀ (h9 : H), h9 = hmark h6 p8 → ∀ (n11 : Nat) (h12 : H), hnew h9 n11 [Value.int IntKind.u8 (IntKind.u8.wrap (↑a0l : Int))] h12 → ∃ (l14 : List Value), hsv h12 (some (Addr.mk n11 0 none)) 1 1 l14 ∧ pApp h12 1 [Value.int IntKind.u8 0] 1 (some (Addr.mk n5 0 none)) 17 17 1 l14 fun (o15 : Option Addr) (n16 n17 : Nat) (h18 : H) => ∃ (l19 : List Value), hsv h18 a0p 1 a0l l19 ∧ pApp h18 1 [Value.int IntKind.u8 0] 1 o15 n16 n17 a0l l19 fun (o20 : Option Addr) (n21 n22 : Nat) (h23 : H) => Q o20 n21 n22 h23
theorem E_token_message  : ∀ (a0p : Option Addr) (a0l : Nat) (a0c : Nat) (Q : (Option Addr) → Nat → Nat → H → Prop) (h : H), G_token_message a0p a0l a0c Q h = Dbody PP [] [] Tryz.f30 [.one (.slice a0p a0l a0c)] (decR [.slc] Q) h := by intros; kernel_rfl
def F_token_message := G_token_message
theorem R_token_message : RunOk PP 30 (W [.slc] [.slc] F_token_message) := runOk_of (T := []) (ann := []) (TblOk.nil) Tryz.func30 (by kernel_rfl) (by kernel_rfl) (E_token_message)
attribute [irreducible] F_token_message
def G_token_Issue (c_keys_Ring_Has : Addr → Int → (Bool → H → Prop) → H → Prop) (c_slices_Clone_byte_byte : Option Addr → Nat → Nat → (Option Addr → Nat → Nat → H → Prop) → H → Prop) (c_keys_Ring_Sign : Addr → Int → Option Addr → Nat → Nat → (List Int → Int → H → Prop) → H → Prop) (c_token_message : Option Addr → Nat → Nat → (Option Addr → Nat → Nat → H → Prop) → H → Prop) (a0 : Addr) (a1 : Int) (a2p : Option Addr) (a2l : Nat) (a2c : Nat) (Q : Int → Option Addr → Nat → Nat → Option Addr → Nat → Nat → List Int → Int → H → Prop) (h : H) : Prop := ∀ (n11 : Nat) (h12 : H), hnew h n11 (Value.int IntKind.i64 0 :: Value.slice none 0 0 :: Value.slice none 0 0 :: ints IntKind.u8 (zeros 32)) h12 → ∀ (J14 : List SV → H → Prop), (∀ (h15 : H), c_token_message a2p a2l a2c (fun (o16 : Option Addr) (n17 n18 : Nat) (h19 : H) => c_keys_Ring_Sign a0 a1 o16 n17 n18 (fun (l20 : List Int) (i21 : Int) (h22 : H) => ∀ (n23 : Nat) (h24 : H), hnew h22 n23 (ints IntKind.u8 (zeros 32)) h24 → hcan h24 (Addr.mk n23 0 none) 32 ∧ ∀ (h26 : H), h26 = hwr h24 (Addr.mk n23 0 none) (ints IntKind.u8 l20 ++ []) → if (i21 != 0) = true then hcan h26 (Addr.mk n11 0 none) 35 ∧ ∀ (h28 : H), h28 = hwr h26 (Addr.mk n11 0 none) (Value.int IntKind.i64 0 :: Value.slice none 0 0 :: Value.slice none 0 0 :: ints IntKind.u8 (zeros 32)) → ∃ (i30 : Int), hc h28 (Addr.mk n11 0 none) = some (Value.int IntKind.i64 i30) ∧ ∃ (o31 : Option Addr), ∃ (n32 : Nat), ∃ (n33 : Nat), hc h28 ((Addr.mk n11 0 none).add 1) = some (Value.slice o31 n32 n33) ∧ ∃ (o34 : Option Addr), ∃ (n35 : Nat), ∃ (n36 : Nat), hc h28 ((Addr.mk n11 0 none).add 2) = some (Value.slice o34 n35 n36) ∧ ∃ (l37 : List Int), l37.length = 32 ∧ hrow h28 ((Addr.mk n11 0 none).add 3) IntKind.u8 l37 ∧ Q i30 o31 n32 n33 o34 n35 n36 l37 i21 h28 else ∃ (l38 : List Int), l38.length = 32 ∧ hrow h26 (Addr.mk n23 0 none) IntKind.u8 l38 ∧ c_slices_Clone_byte_byte a2p a2l a2c (fun (o39 : Option Addr) (n40 n41 : Nat) (h42 : H) => hcs h42 (Addr.mk n23 0 none) (ints IntKind.u8 l38 ++ []) ∧ hcan h42 (Addr.mk n11 0 none) 35 ∧ ∀ (h43 : H), h43 = hwr h42 (Addr.mk n11 0 none) (Value.int IntKind.i64 a1 :: Value.slice o39 n40 n41 :: Value.slice none 0 0 :: (ints IntKind.u8 l38 ++ [])) → ∃ (i45 : Int), hc h43 (Addr.mk n11 0 none) = some (Value.int IntKind.i64 i45) ∧ ∃ (o46 : Option Addr), ∃ (n47 : Nat), ∃ (n48 : Nat), hc h43 ((Addr.mk n11 0 none).add 1) = some (Value.slice o46 n47 n48) ∧ ∃ (o49 : Option Addr), ∃ (n50 : Nat), ∃ (n51 : Nat), hc h43 ((Addr.mk n11 0 none).add 2) = some (Value.slice o49 n50 n51) ∧ ∃ (l52 : List Int), l52.length = 32 ∧ hrow h43 ((Addr.mk n11 0 none).add 3) IntKind.u8 l52 ∧ Q i45 o46 n47 n48 o49 n50 n51 l52 0 h43) h26) h19) h15 → J14 [] h15) → c_keys_Ring_Has a0 a1 (fun (b55 : Bool) (h56 : H) => if (!b55) = true then hcan h56 (Addr.mk n11 0 none) 35 ∧ ∀ (h57 : H), h57 = hwr h56 (Addr.mk n11 0 none) (Value.int IntKind.i64 0 :: Value.slice none 0 0 :: Value.slice none 0 0 :: ints IntKind.u8 (zeros 32)) → ∃ (i59 : Int), hc h57 (Addr.mk n11 0 none) = some (Value.int IntKind.i64 i59) ∧ ∃ (o60 : Option Addr), ∃ (n61 : Nat), ∃ (n62 : Nat), hc h57 ((Addr.mk n11 0 none).add 1) = some (Value.slice o60 n61 n62) ∧ ∃ (o63 : Option Addr), ∃ (n64 : Nat), ∃ (n65 : Nat), hc h57 ((Addr.mk n11 0 none).add 2) = some (Value.slice o63 n64 n65) ∧ ∃ (l66 : List Int), l66.length = 32 ∧ hrow h57 ((Addr.mk n11 0 none).add 3) IntKind.u8 l66 ∧ Q i59 o60 n61 n62 o63 n64 n65 l66 13 h57 else if ltI (↑a2l : Int) 1 = true then hcan h56 (Addr.mk n11 0 none) 35 ∧ ∀ (h67 : H), h67 = hwr h56 (Addr.mk n11 0 none) (Value.int IntKind.i64 0 :: Value.slice none 0 0 :: Value.slice none 0 0 :: ints IntKind.u8 (zeros 32)) → ∃ (i69 : Int), hc h67 (Addr.mk n11 0 none) = some (Value.int IntKind.i64 i69) ∧ ∃ (o70 : Option Addr), ∃ (n71 : Nat), ∃ (n72 : Nat), hc h67 ((Addr.mk n11 0 none).add 1) = some (Value.slice o70 n71 n72) ∧ ∃ (o73 : Option Addr), ∃ (n74 : Nat), ∃ (n75 : Nat), hc h67 ((Addr.mk n11 0 none).add 2) = some (Value.slice o73 n74 n75) ∧ ∃ (l76 : List Int), l76.length = 32 ∧ hrow h67 ((Addr.mk n11 0 none).add 3) IntKind.u8 l76 ∧ Q i69 o70 n71 n72 o73 n74 n75 l76 4 h67 else if ltI 64 (↑a2l : Int) = true then hcan h56 (Addr.mk n11 0 none) 35 ∧ ∀ (h77 : H), h77 = hwr h56 (Addr.mk n11 0 none) (Value.int IntKind.i64 0 :: Value.slice none 0 0 :: Value.slice none 0 0 :: ints IntKind.u8 (zeros 32)) → ∃ (i79 : Int), hc h77 (Addr.mk n11 0 none) = some (Value.int IntKind.i64 i79) ∧ ∃ (o80 : Option Addr), ∃ (n81 : Nat), ∃ (n82 : Nat), hc h77 ((Addr.mk n11 0 none).add 1) = some (Value.slice o80 n81 n82) ∧ ∃ (o83 : Option Addr), ∃ (n84 : Nat), ∃ (n85 : Nat), hc h77 ((Addr.mk n11 0 none).add 2) = some (Value.slice o83 n84 n85) ∧ ∃ (l86 : List Int), l86.length = 32 ∧ hrow h77 ((Addr.mk n11 0 none).add 3) IntKind.u8 l86 ∧ Q i79 o80 n81 n82 o83 n84 n85 l86 4 h77 else J14 [] h56) h12
theorem E_token_Issue (c_keys_Ring_Has : Addr → Int → (Bool → H → Prop) → H → Prop) (c_slices_Clone_byte_byte : (Option Addr) → Nat → Nat → ((Option Addr) → Nat → Nat → H → Prop) → H → Prop) (c_keys_Ring_Sign : Addr → Int → (Option Addr) → Nat → Nat → ((List Int) → Int → H → Prop) → H → Prop) (c_token_message : (Option Addr) → Nat → Nat → ((Option Addr) → Nat → Nat → H → Prop) → H → Prop) : ∀ (a0 : Addr) (a1 : Int) (a2p : Option Addr) (a2l : Nat) (a2c : Nat) (Q : Int → (Option Addr) → Nat → Nat → (Option Addr) → Nat → Nat → (List Int) → Int → H → Prop) (h : H), G_token_Issue c_keys_Ring_Has c_slices_Clone_byte_byte c_keys_Ring_Sign c_token_message a0 a1 a2p a2l a2c Q h = Dbody PP [(26, W [.addr, .int .i64] [.bool] c_keys_Ring_Has), (27, W [.slc] [.slc] c_slices_Clone_byte_byte), (29, W [.addr, .int .i64, .slc] [.ag [.row .u8 32], .int .i64] c_keys_Ring_Sign), (30, W [.slc] [.slc] c_token_message)] [(3, [])] Tryz.f10 [.addr a0, .one (.int .i64 a1), .one (.slice a2p a2l a2c)] (decR [.ag [.int .i64, .slc, .slc, .row .u8 32], .int .i64] Q) h := by intros; kernel_rfl
def F_token_Issue := G_token_Issue F_keys_Ring_Has F_slices_Clone_byte_byte F_keys_Ring_Sign F_token_message
theorem R_token_Issue : RunOk PP 10 (W [.addr, .int .i64, .slc] [.ag [.int .i64, .slc, .slc, .row .u8 32], .int .i64] F_token_Issue) := runOk_of (T := [(26, W [.addr, .int .i64] [.bool] F_keys_Ring_Has), (27, W [.slc] [.slc] F_slices_Clone_byte_byte), (29, W [.addr, .int .i64, .slc] [.ag [.row .u8 32], .int .i64] F_keys_Ring_Sign), (30, W [.slc] [.slc] F_token_message)]) (ann := [(3, [])]) (TblOk.cons R_keys_Ring_Has (TblOk.cons R_slices_Clone_byte_byte (TblOk.cons R_keys_Ring_Sign (TblOk.cons R_token_message (TblOk.nil))))) Tryz.func10 (by kernel_rfl) (by kernel_rfl) (E_token_Issue F_keys_Ring_Has F_slices_Clone_byte_byte F_keys_Ring_Sign F_token_message)
attribute [irreducible] F_token_Issue
def G_token_of (a0_0 : Int) (a0_1 : Int) (a0_2 : Int) (a0_3 : Int) (a0_4 : Int) (Q : Value → H → Prop) (h : H) : Prop := ∀ (n7 : Nat) (h8 : H), hnew h n7 [Value.int IntKind.i64 a0_0, Value.int IntKind.i64 a0_1, Value.int IntKind.i64 a0_2, Value.int IntKind.i64 a0_3, Value.int IntKind.u64 a0_4] h8 → ∃ (i10 : Int), hc h8 (Addr.mk n7 0 none) = some (Value.int IntKind.i64 i10) ∧ if (i10 == 1) = true then ∃ (i11 : Int), hc h8 ((Addr.mk n7 0 none).add 1) = some (Value.int IntKind.i64 i11) ∧ Q (Value.iface 134 (Value.agg (Array.mk [Value.int IntKind.i64 i11]))) h8 else if (i10 == 2) = true then ∃ (i12 : Int), hc h8 ((Addr.mk n7 0 none).add 2) = some (Value.int IntKind.i64 i12) ∧ ∃ (i13 : Int), hc h8 ((Addr.mk n7 0 none).add 3) = some (Value.int IntKind.i64 i13) ∧ Q (Value.iface 136 (Value.agg (Array.mk [Value.int IntKind.i64 i12, Value.int IntKind.i64 i13]))) h8 else if (i10 == 3) = true then ∃ (i14 : Int), hc h8 ((Addr.mk n7 0 none).add 4) = some (Value.int IntKind.u64 i14) ∧ Q (Value.iface 138 (Value.agg (Array.mk [Value.int IntKind.u64 i14]))) h8 else if (i10 == 4) = true then ∃ (i15 : Int), hc h8 ((Addr.mk n7 0 none).add 1) = some (Value.int IntKind.i64 i15) ∧ ∃ (i16 : Int), hc h8 ((Addr.mk n7 0 none).add 2) = some (Value.int IntKind.i64 i16) ∧ Q (Value.iface 140 (Value.agg (Array.mk [Value.int IntKind.i64 i15, Value.int IntKind.i64 i16]))) h8 else if (i10 == 5) = true then ∃ (i17 : Int), hc h8 ((Addr.mk n7 0 none).add 1) = some (Value.int IntKind.i64 i17) ∧ ∃ (i18 : Int), hc h8 ((Addr.mk n7 0 none).add 3) = some (Value.int IntKind.i64 i18) ∧ Q (Value.iface 142 (Value.agg (Array.mk [Value.int IntKind.i64 i17, Value.int IntKind.i64 i18]))) h8 else Q Value.nilIface h8
theorem E_token_of  : ∀ (a0_0 : Int) (a0_1 : Int) (a0_2 : Int) (a0_3 : Int) (a0_4 : Int) (Q : Value → H → Prop) (h : H), G_token_of a0_0 a0_1 a0_2 a0_3 a0_4 Q h = Dbody PP [] [] Tryz.f48 [.agg [.c (.int .i64 a0_0), .c (.int .i64 a0_1), .c (.int .i64 a0_2), .c (.int .i64 a0_3), .c (.int .u64 a0_4)]] (decR [.fn] Q) h := by intros; kernel_rfl
def F_token_of := G_token_of
theorem R_token_of : RunOk PP 48 (W [.ag [.int .i64, .int .i64, .int .i64, .int .i64, .int .u64]] [.fn] F_token_of) := runOk_of (T := []) (ann := []) (TblOk.nil) Tryz.func48 (by kernel_rfl) (by kernel_rfl) (E_token_of)
attribute [irreducible] F_token_of
end Go.Proofs.YtijcpgahmbkijaaGreatDoor
end
