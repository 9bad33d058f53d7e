/- StreamDoes and its parts, laid together by a program of ours: Fa0 Eac Eat Ean Eis Eir F -/
import Derived.LaidEql
import Derived.Lib.IfaceEq
import Derived.RowKitTokens
import Derived.Stop.Asserts
import Derived.Test.YteedolonhdbieaaGreatDoorProg
import Derived.WalkKit
import Derived.Test.YteedolonhdbieaaGreatDoorK2
set_option autoImplicit false
set_option linter.all false
section
namespace Go.Proofs.YteedolonhdbieaaGreatDoor
open Go Go.Vc
set_option maxRecDepth 100000
abbrev id_gate_Check_1 : Nat := 65
abbrev id_gate_Check_2 : Nat := 67
abbrev id_gate_Check_3 : Nat := 69
abbrev id_gate_Check_4 : Nat := 71
abbrev id_gate_Check_5 : Nat := 74
abbrev id_gate_Check_6 : Nat := 77
abbrev id_chip_Chip_begins_1 : Nat := 266
abbrev id_chip_Chip_begins_2 : Nat := 267
noncomputable abbrev PP : Program := Tryz.prog
end Go.Proofs.YteedolonhdbieaaGreatDoor
end
section
namespace Go.Proofs.YteedolonhdbieaaGreatDoor
open Go Go.RowKit Go.Extern.Stop Go.Stop Go.Extern
theorem as_nil (t : Value) (w : World) :
  Calls Tryz.prog 68 #[.nilIface, t] w fun e w' => e = .returned (.bool false) /\ w' = w := by
 go_enter Tryz.func68, Tryz.ntmps68
 go_wp2
 go_ret
 exact ⟨rfl, rfl⟩
theorem AsmethodKind (h : Value) (w : World) : (Go.method (524) 307 (.agg #[h]) "Kind").run Tryz.prog w = .ok (339, h) w := by kernel_rfl
theorem rlm (z : Sem Value) (f : TypeId -> Addr -> Nat -> Nat -> Sem Value) (v : Value) :
  ReflectliteValue.method z f #[v] = (do match ← ReflectliteValue.parts v with | none => z | some (t, a, fl) => f t a fl (fl % 32)) := rfl
theorem AsmethodElem (h : Value) (w : World) : (Go.method (524) 307 (.agg #[h]) "Elem").run Tryz.prog w = .ok (352, .agg #[h]) w := by kernel_rfl
theorem AsmethodImplements (h : Value) (w : World) : (Go.method (524) 307 (.agg #[h]) "Implements").run Tryz.prog w = .ok (353, .agg #[h]) w := by kernel_rfl
theorem AsmethodAssignableTo (h : Value) (w : World) : (Go.method (524) 307 (.agg #[h]) "AssignableTo").run Tryz.prog w = .ok (350, .agg #[h]) w := by kernel_rfl
theorem AstypeOf25 (v : Value) (w : World) : (ReflectliteType.typeOf #[.iface 162 v]).run Tryz.prog w = .ok (.iface 307 (.agg #[.pointer (some ⟨1, 162, none⟩)])) w := by kernel_rfl
theorem rls (v x : Value) : ReflectliteValue.set #[v, x] = (do
  let (some (dst, a, fl), some (src, b, _)) := (← ReflectliteValue.parts v, ← ReflectliteValue.parts x)
   | unsupported (.noEntry "extern/(internal/reflectlite.Value).Set.zeroValue")
  if fl / ReflectliteValue.flagAddr % 2 == 0 then unsupported (.noEntry "extern/(internal/reflectlite.Value).Set.unaddressable")
  let val ← loadVar src b
  if ← Rtype.directlyAssignable dst src then storeVar dst a val
  else if ← Rtype.implements dst src then
   if (← Rtype.kind src) == 20 then
    match val with
    | .nilIface => unsupported (.noEntry "extern/reflectlite: a nil value of one interface type handed on as a value of another")
    | _ => storeVar dst a val
   else storeVar dst a (.iface src val)
  else panicString ("reflectlite.Set: value of type " ++ (← Rtype.spelt src) ++ " is not assignable to type " ++ (← Rtype.spelt dst))
  pure (.tuple #[])) := rfl
open Go.Vc
def errTypeV : Value := .iface 307 (.agg #[.pointer (some ⟨1, 51, none⟩)])
theorem hnew_push (h : H) (c : List Value) (t : TypeId) : hnew h h.size c (h.push (.cells c.toArray t)) := ⟨rfl, t, 0, 0, fun i _ => by omega, rfl⟩
end Go.Proofs.YteedolonhdbieaaGreatDoor
end
section
namespace Go.Proofs.YteedolonhdbieaaGreatDoor
open Go Go.RowKit Go.Extern.Stop Go.Stop Go.Extern
set_option maxRecDepth 100000
theorem EvalueOf (t : Addr) (w : World) : (ReflectliteValue.unpack (.iface 153 (.pointer (some t)))).run Tryz.prog w
  = .ok (.agg #[.pointer (some ⟨1, 153, none⟩), .pointer (some ⟨w.heap.size, 0, none⟩), .int .u64 150]) (w.alloc (.cells #[.pointer (some t)] 153)) := by kernel_rfl
theorem Etype (a : Addr) (w : World) : (ReflectliteValue.methodAny (ReflectliteValue.valueError "reflectlite.Value.Type" 0) (fun t _ _ _ => ReflectliteType.toType t) #[.agg #[.pointer (some ⟨1, 153, none⟩), .pointer (some a), .int .u64 150]]).run Tryz.prog w
  = .ok (.iface 307 (.agg #[.pointer (some ⟨1, 153, none⟩)])) w := by kernel_rfl
theorem EkindP (w : World) : ((ReflectliteType.abiMethod fun t => (fun a : Nat => Value.int IntKind.u8 (a : Int)) <$> Rtype.kind t) #[.pointer (some ⟨1, 153, none⟩)]).run Tryz.prog w = .ok (.int .u8 22) w := by kernel_rfl
theorem Ekind (w : World) : ((ReflectliteType.abiMethod fun t => (fun a : Nat => Value.int IntKind.u8 (a : Int)) <$> Rtype.kind t) #[.pointer (some ⟨1, 31, none⟩)]).run Tryz.prog w = .ok (.int .u8 2) w := by kernel_rfl
theorem Eparts (a : Addr) (w : World) : (ReflectliteValue.parts (.agg #[.pointer (some ⟨1, 153, none⟩), .pointer (some a), .int .u64 150])).run Tryz.prog w = .ok (some (153, a, 150)) w := by kernel_rfl
theorem EisNil (a p : Addr) (W : World) (ha : W.cell? a = some (.pointer (some p))) :
  (ReflectliteValue.method (ReflectliteValue.valueError "reflectlite.Value.IsNil" 0) ReflectliteValue.isNil #[.agg #[.pointer (some ⟨1, 153, none⟩), .pointer (some a), .int .u64 150]]).run Tryz.prog W = .ok (.bool false) W := by
 rw [rlm]
 simp only [Sem.run_bind, Eparts, Result.andThen]
 simp [ReflectliteValue.isNil, loadVar, isAgg, underlying, Tryz.underlying153, ha, Result.andThen]
theorem Eelem (w : World) : (ReflectliteType.method ReflectliteType.elem #[.agg #[.pointer (some ⟨1, 153, none⟩)]]).run Tryz.prog w = .ok (.iface 307 (.agg #[.pointer (some ⟨1, 31, none⟩)])) w := by kernel_rfl
theorem Eimplements (w : World) : (ReflectliteType.relation "Implements" ReflectliteType.implements_ #[.agg #[.pointer (some ⟨1, 31, none⟩)], .iface 307 (.agg #[.pointer (some ⟨1, 51, none⟩)])]).run Tryz.prog w = .ok (.bool true) w := by kernel_rfl
theorem EassignW (w : World) : (ReflectliteType.relation "AssignableTo" ReflectliteType.assignableTo #[.agg #[.pointer (some ⟨1, 162, none⟩)], .iface 307 (.agg #[.pointer (some ⟨1, 31, none⟩)])]).run Tryz.prog w = .ok (.bool false) w := by kernel_rfl
theorem EtypeOf (v : Value) (w : World) : (ReflectliteType.typeOf #[.iface 31 v]).run Tryz.prog w = .ok (.iface 307 (.agg #[.pointer (some ⟨1, 31, none⟩)])) w := by kernel_rfl
theorem Eassign (w : World) : (ReflectliteType.relation "AssignableTo" ReflectliteType.assignableTo #[.agg #[.pointer (some ⟨1, 31, none⟩)], .iface 307 (.agg #[.pointer (some ⟨1, 31, none⟩)])]).run Tryz.prog w = .ok (.bool true) w := by kernel_rfl
theorem EvalueOfI (n : Int) (w : World) : (ReflectliteValue.unpack (.iface 31 (.int .i64 n))).run Tryz.prog w
  = .ok (.agg #[.pointer (some ⟨1, 31, none⟩), .pointer (some ⟨w.heap.size, 0, none⟩), .int .u64 130]) (w.alloc (.cells #[.int .i64 n] 31)) := by kernel_rfl
theorem EelemOf (w : World) : (Rtype.elem? 153).run Tryz.prog w = .ok (some 31) w := by kernel_rfl
theorem Emk (p : Addr) (w : World) : (ReflectliteValue.mk 31 p ReflectliteValue.flagAddr).run Tryz.prog w = .ok (.agg #[.pointer (some ⟨1, 31, none⟩), .pointer (some p), .int .u64 386]) w := by kernel_rfl
theorem EelemV (a p : Addr) (W : World) (ha : W.cell? a = some (.pointer (some p))) :
  (ReflectliteValue.method (ReflectliteValue.valueError "reflectlite.Value.Elem" 0) ReflectliteValue.elem #[.agg #[.pointer (some ⟨1, 153, none⟩), .pointer (some a), .int .u64 150]]).run Tryz.prog W
   = .ok (.agg #[.pointer (some ⟨1, 31, none⟩), .pointer (some p), .int .u64 386]) W := by
 rw [rlm]
 simp only [Sem.run_bind, Eparts, Result.andThen]
 simp [ReflectliteValue.elem, loadVar, isAgg, underlying, Tryz.underlying153, ha, Result.andThen, EelemOf, Emk]
theorem EpartsA (a : Addr) (w : World) : (ReflectliteValue.parts (.agg #[.pointer (some ⟨1, 31, none⟩), .pointer (some a), .int .u64 386])).run Tryz.prog w = .ok (some (31, a, 386)) w := by kernel_rfl
theorem EpartsI (a : Addr) (w : World) : (ReflectliteValue.parts (.agg #[.pointer (some ⟨1, 31, none⟩), .pointer (some a), .int .u64 130])).run Tryz.prog w = .ok (some (31, a, 130)) w := by kernel_rfl
theorem Edirect (w : World) : (Rtype.directlyAssignable 31 31).run Tryz.prog w = .ok true w := by kernel_rfl
theorem Eset (ta b : Addr) (n : Int) (old : Value) (W : World) (hb : W.cell? b = some (.int .i64 n)) (ht : W.cell? ta = some old) (hf : W.frozen? ta = false) :
  (ReflectliteValue.set #[.agg #[.pointer (some ⟨1, 31, none⟩), .pointer (some ta), .int .u64 386], .agg #[.pointer (some ⟨1, 31, none⟩), .pointer (some b), .int .u64 130]]).run Tryz.prog W
   = .ok (.tuple #[]) (W.setCell ta (.int .i64 n)) := by
 rw [rls]
 simp only [Sem.run_bind, EpartsA, EpartsI, Result.andThen]
 simp [ReflectliteValue.flagAddr, loadVar, isAgg, underlying, Tryz.underlying31, hb, Result.andThen, Edirect, storeVar, Value.cells, storeCells, Addr.add]
 rw [run_store Tryz.prog W ta _ _ (by rfl)]
 simp [ht, hf]
theorem EnoAs (v : Value) (xT : TypeId) (w : World) : (Instr.typeAssert (.iface 162 v) xT 312 true).run Tryz.prog w = .ok (.tuple #[.nilIface, .bool false]) w := run_typeAssert_lacksB Tryz.underlying312 (by kernel_rfl) (by kernel_rfl) v xT w
theorem EhasUn (v : Value) (xT : TypeId) (w : World) : (Instr.typeAssert (.iface 162 v) xT 315 true).run Tryz.prog w = .ok (.tuple #[.iface 162 v, .bool true]) w := run_typeAssert_hasB Tryz.underlying315 (by kernel_rfl) v xT w
theorem EmethodUn (v : Value) (w : World) : (Go.method (524) 162 v "Unwrap").run Tryz.prog w = .ok (345, v) w := by kernel_rfl
set_option maxHeartbeats 4000000 in
theorem as_far (e t : Addr) (n : Int) (old : Value) (w : World) (hg : w.cell? ⟨0, 0, none⟩ = some (.iface 307 (.agg #[.pointer (some ⟨1, 51, none⟩)]))) (ht0 : w.cell? t = some old) (hf0 : w.frozen? t = false) (he : w.cell? e = some (.int .i64 n)) :
  Calls Tryz.prog 68 #[.iface 162 (.pointer (some e)), .iface 153 (.pointer (some t))] w fun ev w' => ev = .returned (.bool true) /\ w' = ((((w.alloc (.cells #[.pointer (some t)] 153)).alloc (.cells #[.pointer (some ⟨1, 153, none⟩), .pointer (some ⟨w.heap.size, 0, none⟩), .int .u64 150] 229)).alloc (.cells #[.pointer (some ⟨1, 153, none⟩), .pointer (some ⟨w.heap.size, 0, none⟩), .int .u64 150] 229)).alloc (.cells #[.int .i64 n] 31)).setCell t (.int .i64 n) := by
 have h6 := @run_callFunc_extern Tryz.prog 147 _ (fun args => ReflectliteValue.unpack (args.getD 0 (.tuple #[]))) Tryz.func147 (by kernel_rfl) (by kernel_rfl) (by kernel_rfl) (by kernel_rfl)
 have h7 := @run_callFunc_extern Tryz.prog 148 _ (ReflectliteValue.methodAny (ReflectliteValue.valueError "reflectlite.Value.Type" 0) (fun t _ _ _ => ReflectliteType.toType t)) Tryz.func148 (by kernel_rfl) (by kernel_rfl) (by kernel_rfl) (by kernel_rfl)
 have h8 := @run_callFunc_extern Tryz.prog 149 _ (ReflectliteValue.method (ReflectliteValue.valueError "reflectlite.Value.IsNil" 0) ReflectliteValue.isNil) Tryz.func149 (by kernel_rfl) (by kernel_rfl) (by kernel_rfl) (by kernel_rfl)
 have h27 := @run_callFunc_extern Tryz.prog 339 _ (ReflectliteType.abiMethod fun t => do pure (.int .u8 (← Rtype.kind t))) Tryz.func339 (by kernel_rfl) (by kernel_rfl) (by kernel_rfl) (by kernel_rfl)
 have h37 := @run_callFunc_extern Tryz.prog 352 _ (ReflectliteType.method ReflectliteType.elem) Tryz.func352 (by kernel_rfl) (by kernel_rfl) (by kernel_rfl) (by kernel_rfl)
 have h38 := @run_callFunc_extern Tryz.prog 353 _ (ReflectliteType.relation "Implements" ReflectliteType.implements_) Tryz.func353 (by kernel_rfl) (by kernel_rfl) (by kernel_rfl) (by kernel_rfl)
 have h10 := @run_callFunc_extern Tryz.prog 224 _ ReflectliteType.typeOf Tryz.func224 (by kernel_rfl) (by kernel_rfl) (by kernel_rfl) (by kernel_rfl)
 have h35 := @run_callFunc_extern Tryz.prog 350 _ (ReflectliteType.relation "AssignableTo" ReflectliteType.assignableTo) Tryz.func350 (by kernel_rfl) (by kernel_rfl) (by kernel_rfl) (by kernel_rfl)
 have h11 := @run_callFunc_extern Tryz.prog 225 _ (ReflectliteValue.method (ReflectliteValue.valueError "reflectlite.Value.Elem" 0) ReflectliteValue.elem) Tryz.func225 (by kernel_rfl) (by kernel_rfl) (by kernel_rfl) (by kernel_rfl)
 have h12 := @run_callFunc_extern Tryz.prog 226 _ ReflectliteValue.set Tryz.func226 (by kernel_rfl) (by kernel_rfl) (by kernel_rfl) (by kernel_rfl)
 have tO := AstypeOf25
 have mA := AsmethodAssignableTo
 have a25 := EassignW
 have f6 := EvalueOf
 have f7 := Etype
 have mK := AsmethodKind
 have mE := AsmethodElem
 have mI := AsmethodImplements
 have k27 := EkindP
 have k25 := Ekind
 have e27 := Eelem
 have i25 := Eimplements
 have aE := Eassign
 have tE := EtypeOf
 have vE := EvalueOfI
 have nA := EnoAs
 have hU := EhasUn
 have mU := EmethodUn
 have n8 := EisNil ⟨w.heap.size, 0, none⟩ t ((w.alloc (.cells #[.pointer (some t)] 153)).alloc (.cells #[.pointer (some ⟨1, 153, none⟩), .pointer (some ⟨w.heap.size, 0, none⟩), .int .u64 150] 229)) (by simp)
 have hlt : 0 < w.heap.size := by
  rcases Nat.eq_zero_or_pos w.heap.size with h0 | h
  ·simp [World.cell?, h0] at hg
  ·exact h
 have hg2 : ((w.alloc (.cells #[.pointer (some t)] 153)).alloc (.cells #[.pointer (some ⟨1, 153, none⟩), .pointer (some ⟨w.heap.size, 0, none⟩), .int .u64 150] 229)).cell? ⟨0, 0, none⟩ = some (.iface 307 (.agg #[.pointer (some ⟨1, 51, none⟩)])) := by
  rw [World.cell?_alloc_lt _ _ ⟨0, 0, none⟩ (by simp), World.cell?_alloc_lt _ _ ⟨0, 0, none⟩ hlt]; exact hg
 have htl : t.block < w.heap.size := by
  rcases Nat.lt_or_ge t.block w.heap.size with h | h
  ·exact h
  ·simp [World.cell?, Array.getElem?_eq_none h] at ht0
 have hel : e.block < w.heap.size := by
  rcases Nat.lt_or_ge e.block w.heap.size with h | h
  ·exact h
  ·simp [World.cell?, Array.getElem?_eq_none h] at he
 have he3 : (((w.alloc (.cells #[.pointer (some t)] 153)).alloc (.cells #[.pointer (some ⟨1, 153, none⟩), .pointer (some ⟨w.heap.size, 0, none⟩), .int .u64 150] 229)).alloc (.cells #[.pointer (some ⟨1, 153, none⟩), .pointer (some ⟨w.heap.size, 0, none⟩), .int .u64 150] 229)).cell? e = some (.int .i64 n) := by
  rw [World.cell?_alloc_lt _ _ e (by simp; omega), World.cell?_alloc_lt _ _ e (by simp; omega), World.cell?_alloc_lt _ _ e hel]; exact he
 have el := EelemV ⟨w.heap.size, 0, none⟩ t (((w.alloc (.cells #[.pointer (some t)] 153)).alloc (.cells #[.pointer (some ⟨1, 153, none⟩), .pointer (some ⟨w.heap.size, 0, none⟩), .int .u64 150] 229)).alloc (.cells #[.pointer (some ⟨1, 153, none⟩), .pointer (some ⟨w.heap.size, 0, none⟩), .int .u64 150] 229)) (by rw [World.cell?_alloc_lt _ _ ⟨w.heap.size, 0, none⟩ (by simp; omega)]; simp)
 have st := Eset t ⟨w.heap.size + 1 + 1 + 1, 0, none⟩ n old ((((w.alloc (.cells #[.pointer (some t)] 153)).alloc (.cells #[.pointer (some ⟨1, 153, none⟩), .pointer (some ⟨w.heap.size, 0, none⟩), .int .u64 150] 229)).alloc (.cells #[.pointer (some ⟨1, 153, none⟩), .pointer (some ⟨w.heap.size, 0, none⟩), .int .u64 150] 229)).alloc (.cells #[.int .i64 n] 31))
  (by rw [World.cell?_alloc_at _ _ _ _ (by simp)]; rfl)
  (by rw [World.cell?_alloc_lt _ _ t (by simp; omega), World.cell?_alloc_lt _ _ t (by simp; omega), World.cell?_alloc_lt _ _ t (by simp; omega), World.cell?_alloc_lt _ _ t htl]; exact ht0)
  (by rw [World.frozen?_alloc_old _ _ t (by simp; omega), World.frozen?_alloc_old _ _ t (by simp; omega), World.frozen?_alloc_old _ _ t (by simp; omega), World.frozen?_alloc_old _ _ t (Nat.ne_of_lt htl)]; exact hf0)
 go_enter Tryz.func68, Tryz.ntmps68
 go_wp2
 refine wp_loop_rounds 2 ?_
 rw [rounds_succ]
 go_wp2
 rw [rounds_succ]
 go_wp2
 go_ret
 exact ⟨rfl, rfl⟩
end Go.Proofs.YteedolonhdbieaaGreatDoor
end
section
namespace Go.Proofs.YteedolonhdbieaaGreatDoor
open Go Go.RowKit Go.Extern.Stop Go.Stop Go.Extern Go.Vc
def F_errors_As (e t : Value) (Q : Bool -> H -> Prop) (h : H) : Prop :=
 ((e = .nilIface /\ Q false h) ∨
 ∃ (x : Addr) (b o : Nat) (n : Int), e = .iface 162 (.pointer (some x)) /\ t = .iface 153 (.pointer (some ⟨b, o, none⟩)) /\ hc h ⟨0, 0, none⟩ = some errTypeV /\ (∃ old, hc h ⟨b, o, none⟩ = some old) /\ hf h ⟨b, o, none⟩ = false /\ hc h x = some (.int .i64 n) /\
  ∀ b1 h1, hnew h b1 [.pointer (some ⟨b, o, none⟩)] h1 -> ∀ b2 h2, hnew h1 b2 [.pointer (some ⟨1, 153, none⟩), .pointer (some ⟨b1, 0, none⟩), .int .u64 150] h2 -> ∀ b3 h3, hnew h2 b3 [.pointer (some ⟨1, 153, none⟩), .pointer (some ⟨b1, 0, none⟩), .int .u64 150] h3 ->
   ∀ b4 h4, hnew h3 b4 [.int .i64 n] h4 -> ∀ h5, h5 = hwr h4 ⟨b, o, none⟩ [.int .i64 n] -> Q true h5) ∨
 False
theorem R_errors_As : RunOk PP 68 (W [.fn, .fn] [.bool] F_errors_As) := by
 intro args Q h hok hr
 have hcal : callable PP 68 = true := by kernel_rfl
 have two : ∃ e t : Value, args.map DV.flat = [e, t] /\ F_errors_As e t (enR [.bool] Q) h := by
  unfold W at hr
  match args, hr with
  | [.one e, .one t], hr => exact ⟨e, t, rfl, hr⟩
  | [.one e, .fnv t], hr => exact ⟨e, t, rfl, hr⟩
  | [.fnv e, .one t], hr => exact ⟨e, t, rfl, hr⟩
  | [.fnv e, .fnv t], hr => exact ⟨e, t, rfl, hr⟩
  | [], hr => exact absurd hr id
  | [.one e], hr => exact absurd hr id
  | [.fnv e], hr => exact absurd hr id
 obtain ⟨e, t, ha, hF⟩ := two
 rw [ha]
 refine ⟨hcal, fun w hw => ?_⟩
 subst hw
 rcases hF with (⟨rfl, hq⟩ | ⟨x, b, o, n, rfl, rfl, hg, ⟨old, ht⟩, hf0, he, hq⟩) | hF
 ·refine (as_nil t w).mono fun e' w' he => ?_
  obtain ⟨rfl, rfl⟩ := he
  exact ⟨[.one (.bool false)], by intro y hy; simp at hy; subst hy; rfl, rfl, ⟨rfl, rfl, rfl⟩, hq⟩
 ·refine (as_far x ⟨b, o, none⟩ n old w hg ht hf0 he).mono fun e' w' he => ?_
  obtain ⟨rfl, rfl⟩ := he
  refine ⟨[.one (.bool true)], by intro y hy; simp at hy; subst hy; rfl, rfl, ⟨rfl, rfl, rfl⟩, ?_⟩
  exact hq _ _ (hnew_push w.heap _ 153) _ _ (hnew_push _ _ 229) _ _ (hnew_push _ _ 229) _ _ (hnew_push _ _ 31) _ rfl
 ·exact hF.elim
attribute [irreducible] F_errors_As
end Go.Proofs.YteedolonhdbieaaGreatDoor
end
section
namespace Go.Proofs.YteedolonhdbieaaGreatDoor
open Go Go.RowKit Go.Extern.Stop Go.Stop Go.Extern
set_option maxRecDepth 100000
theorem IsComparable (w : World) : ((Extern.ReflectliteType.method fun t => do Rtype.noPackHeld "Comparable" t; (fun a => Value.bool a.comparable) <$> typeInfo t) #[.agg #[.pointer (some ⟨1, 31, none⟩)]]).run Tryz.prog w = .ok (.bool true) w := by kernel_rfl
theorem IsMethodComparable (v : Value) (w : World) : (Go.method (524) 307 v "Comparable").run Tryz.prog w = .ok (351, v) w := by kernel_rfl
theorem IsComp : (Tryz.prog.info? 31).map (·.comparable) = some true := by kernel_rfl
theorem WnoIs (v : Value) (xT : TypeId) (w : World) : (Instr.typeAssert (.iface 162 v) xT 353 true).run Tryz.prog w = .ok (.tuple #[.nilIface, .bool false]) w := run_typeAssert_lacksB Tryz.underlying353 (by kernel_rfl) (by kernel_rfl) v xT w
theorem EnoIs (v : Value) (xT : TypeId) (w : World) : (Instr.typeAssert (.iface 31 v) xT 353 true).run Tryz.prog w = .ok (.tuple #[.nilIface, .bool false]) w := run_typeAssert_lacksB Tryz.underlying353 (by kernel_rfl) (by kernel_rfl) v xT w
theorem EnoUn (v : Value) (xT : TypeId) (w : World) : (Instr.typeAssert (.iface 31 v) xT 315 true).run Tryz.prog w = .ok (.tuple #[.nilIface, .bool false]) w := run_typeAssert_lacksB Tryz.underlying315 (by kernel_rfl) (by kernel_rfl) v xT w
theorem EnoUns (v : Value) (xT : TypeId) (w : World) : (Instr.typeAssert (.iface 31 v) xT 317 true).run Tryz.prog w = .ok (.tuple #[.nilIface, .bool false]) w := run_typeAssert_lacksB Tryz.underlying317 (by kernel_rfl) (by kernel_rfl) v xT w
set_option maxHeartbeats 4000000 in
theorem is_eq (e : Addr) (m : Int) (w : World) (he : w.cell? e = some (.int .i64 m)) :
  Calls Tryz.prog 155 #[.iface 162 (.pointer (some e)), .iface 31 (.int .i64 m)] w fun ev w' => ev = .returned (.bool true) /\ w' = w := by
 have h8 := @run_callFunc_extern Tryz.prog 224 _ Extern.ReflectliteType.typeOf Tryz.func224 (by kernel_rfl) (by kernel_rfl) (by kernel_rfl) (by kernel_rfl)
 have h32 := @run_callFunc_extern Tryz.prog 351 _ (Extern.ReflectliteType.method fun t => do Rtype.noPackHeld "Comparable" t; pure (.bool (← typeInfo t).comparable)) Tryz.func351 (by kernel_rfl) (by kernel_rfl) (by kernel_rfl) (by kernel_rfl)
 have tT := EtypeOf
 have cT := IsComparable
 have mR := IsMethodComparable
 have nW := WnoIs
 have hU := EhasUn
 have mU := EmethodUn
 have heq := Go.Lib.run_eql_iface_int (P := Tryz.prog) w (k := .i64) m m Tryz.underlying51 IsComp Tryz.underlying31
 rw [show (m == m) = true by simp] at heq
 have hty := run_eql_iface_types (P := Tryz.prog) 162 31 (.pointer (some e)) (.int .i64 m) Tryz.underlying51 (by decide) w
 go_enter Tryz.func155, Tryz.ntmps155
 go_wp2
 refine wp_loop_rounds 2 ?_
 rw [rounds_succ]
 go_wp2
 rw [rounds_succ]
 go_wp2
 go_ret
 exact ⟨rfl, rfl⟩
set_option maxHeartbeats 4000000 in
theorem is_ne (e : Addr) (n m : Int) (w : World) (hnm : n ≠ m) (he : w.cell? e = some (.int .i64 n)) :
  Calls Tryz.prog 155 #[.iface 162 (.pointer (some e)), .iface 31 (.int .i64 m)] w fun ev w' => ev = .returned (.bool false) /\ w' = w := by
 have h8 := @run_callFunc_extern Tryz.prog 224 _ Extern.ReflectliteType.typeOf Tryz.func224 (by kernel_rfl) (by kernel_rfl) (by kernel_rfl) (by kernel_rfl)
 have h32 := @run_callFunc_extern Tryz.prog 351 _ (Extern.ReflectliteType.method fun t => do Rtype.noPackHeld "Comparable" t; pure (.bool (← typeInfo t).comparable)) Tryz.func351 (by kernel_rfl) (by kernel_rfl) (by kernel_rfl) (by kernel_rfl)
 have tT := EtypeOf
 have cT := IsComparable
 have mR := IsMethodComparable
 have nW := WnoIs
 have hU := EhasUn
 have nE := EnoIs
 have uE := EnoUn
 have vE := EnoUns
 have mU := EmethodUn
 have heq := Go.Lib.run_eql_iface_int (P := Tryz.prog) w (k := .i64) n m Tryz.underlying51 IsComp Tryz.underlying31
 rw [show (n == m) = false by simpa using hnm] at heq
 have hty := run_eql_iface_types (P := Tryz.prog) 162 31 (.pointer (some e)) (.int .i64 m) Tryz.underlying51 (by decide) w
 go_enter Tryz.func155, Tryz.ntmps155
 go_wp2
 refine wp_loop_rounds 2 ?_
 rw [rounds_succ]
 go_wp2
 rw [rounds_succ]
 go_wp2
 go_ret
 exact ⟨rfl, rfl⟩
end Go.Proofs.YteedolonhdbieaaGreatDoor
end
section
namespace Go.Proofs.YteedolonhdbieaaGreatDoor
open Go Go.RowKit Go.Extern.Stop Go.Stop Go.Extern Go.Vc
def F_errors_Is (e t : Value) (Q : Bool -> H -> Prop) (h : H) : Prop :=
 ∃ (x : Addr) (n m : Int), e = .iface 162 (.pointer (some x)) /\ t = .iface 31 (.int .i64 m) /\ hc h x = some (.int .i64 n) /\ Q (n == m) h
theorem R_errors_Is : RunOk PP 155 (W [.fn, .fn] [.bool] F_errors_Is) := by
 intro args Q h hok hr
 have hcal : callable PP 155 = true := by kernel_rfl
 have two : ∃ e t : Value, args.map DV.flat = [e, t] /\ F_errors_Is e t (enR [.bool] Q) h := by
  unfold W at hr
  match args, hr with
  | [.one e, .one t], hr => exact ⟨e, t, rfl, hr⟩
  | [.one e, .fnv t], hr => exact ⟨e, t, rfl, hr⟩
  | [.fnv e, .one t], hr => exact ⟨e, t, rfl, hr⟩
  | [.fnv e, .fnv t], hr => exact ⟨e, t, rfl, hr⟩
  | [], hr => exact absurd hr id
  | [.one e], hr => exact absurd hr id
  | [.fnv e], hr => exact absurd hr id
 obtain ⟨e, t, ha, hF⟩ := two
 rw [ha]
 refine ⟨hcal, fun w hw => ?_⟩
 subst hw
 obtain ⟨x, n, m, rfl, rfl, he, hq⟩ := hF
 by_cases c : n = m
 ·subst c
  refine (is_eq x n w he).mono fun e' w' he' => ?_
  obtain ⟨rfl, rfl⟩ := he'
  rw [show (n == n) = true by simp] at hq
  exact ⟨[.one (.bool true)], by intro y hy; simp at hy; subst hy; rfl, rfl, ⟨rfl, rfl, rfl⟩, hq⟩
 ·refine (is_ne x n m w c he).mono fun e' w' he' => ?_
  obtain ⟨rfl, rfl⟩ := he'
  rw [show (n == m) = false by simpa using c] at hq
  exact ⟨[.one (.bool false)], by intro y hy; simp at hy; subst hy; rfl, rfl, ⟨rfl, rfl, rfl⟩, hq⟩
attribute [irreducible] F_errors_Is
end Go.Proofs.YteedolonhdbieaaGreatDoor
end
section
namespace Go.Proofs.YteedolonhdbieaaGreatDoor
open Go Go.Vc
set_option maxRecDepth 100000
abbrev JT : Type := List SV → H → Prop
abbrev OA : Type := Option Addr
abbrev Ti : Ty := .int .i64
abbrev Si : Sh := .int .i64
abbrev vi (x : Int) : Value := .int .i64 x
abbrev P_ (b o : Nat) : Addr := ⟨b, o, none⟩
abbrev tc := @TblOk.cons
abbrev tn := @TblOk.nil
def G_portcullisref12_Ring_find (d : Addr) (k : Int) (Q : Int -> H -> Prop) (h : H) : Prop := ∀ (c : JT), (∀ (a : Int) (b : H), (∃ l e m, hc b d = some (.slice l e m) /\ if ltI a e then ∃ f g n, hc b d = some (.slice f g n) /\ ∃ i, f = some i /\ 0 ≤ a /\ a < g /\ ∃ j, hc b (i.add (a.toNat * 2)) = some (vi j) /\ if j == k then Q a b else c [.dv (.one (vi (IntKind.i64.wrap (a + 1))))] b else Q (-1) b) -> c [.dv (.one (vi a))] b) -> c [.dv (.one (vi 0))] h
theorem E_portcullisref12_Ring_find : ∀ a0 a1 Q h, G_portcullisref12_Ring_find a0 a1 Q h = Dbody PP [] [(26, [(5, .sc (.int .i64))])] Tryz.f162 [.addr a0, .one (.int .i64 a1)] (decR [Ti] Q) h := by intros; kernel_rfl
def F_portcullisref12_Ring_find := G_portcullisref12_Ring_find
theorem R_portcullisref12_Ring_find : RunOk PP 162 (W [.addr, Ti] [Ti] F_portcullisref12_Ring_find) := runOk_of (tn) Tryz.func162 (by kernel_rfl) (by kernel_rfl) (E_portcullisref12_Ring_find)
attribute [irreducible] F_portcullisref12_Ring_find
def G_portcullisref12_Ring_Has (c0 : Addr -> Int -> (Int -> H -> Prop) -> H -> Prop) (a : Addr) (b : Int) (Q : Bool -> H -> Prop) (h : H) : Prop := c0 a b (fun c d => Q (leI 0 c) d) h
theorem E_portcullisref12_Ring_Has : ∀ c0 a0 a1 Q h, G_portcullisref12_Ring_Has c0 a0 a1 Q h = Dbody PP [(162, W [.addr, Ti] [Ti] c0)] [] Tryz.f89 [.addr a0, .one (.int .i64 a1)] (decR [.bool] Q) h := by intros; kernel_rfl
def F_portcullisref12_Ring_Has := G_portcullisref12_Ring_Has F_portcullisref12_Ring_find
theorem R_portcullisref12_Ring_Has : RunOk PP 89 (W [.addr, Ti] [.bool] F_portcullisref12_Ring_Has) := runOk_of (tc R_portcullisref12_Ring_find (tn)) Tryz.func89 (by kernel_rfl) (by kernel_rfl) (E_portcullisref12_Ring_Has _)
attribute [irreducible] F_portcullisref12_Ring_Has
def G_portcullisref12_New (c0 : Addr -> Int -> (Bool -> H -> Prop) -> H -> Prop) (d : OA) (b : Nat) (af : Nat) (Q : OA -> Int -> Int -> H -> Prop) (h : H) : Prop := if ltI 64 b then Q none 3 64 h else ∀ c s, hnew h c [.slice none 0 0] s -> ∀ (m : JT), (∀ (a : Int) (e : H), (if ltI a b then ∀ (t : JT), (∀ (f : H), (∀ (u : JT), (∀ (n : H), (∃ v, d = some v /\ 0 ≤ a /\ a < b /\ ∃ w, hc n (v.add (a.toNat * 2)) = some (vi w) /\ c0 (P_ c 0) w (fun R x => if R then Q none 18 a x else ∀ y g, hnew x y [] g -> ∃ i j k, hc g (P_ c 0) = some (.slice i j k) /\ ∃ o, d = some o /\ 0 ≤ a /\ a < b /\ ∃ p, hc g (o.add (a.toNat * 2)) = some (vi p) /\ ∃ z, d = some z /\ 0 ≤ a /\ a < b /\ ∃ A q T, hc g ((z.add (a.toNat * 2)).add 1) = some (.slice A q T) /\ ∃ (B : List Value), hsv g A 1 q B /\ pApp g 1 [.int .u8 0] 1 (some (P_ y 0)) 0 0 q B fun U V X r => hcs r (o.add (a.toNat * 2)) [vi p] /\ hcs r (P_ c 0) [.slice i j k] /\ ∀ C l, hnew r C [vi p, .slice U V X] l -> hcs l (P_ c 0) [.slice i j k] /\ ∃ (E : List Value), hsv l (some (P_ C 0)) 2 1 E /\ pApp l 2 [vi 0, .slice none 0 0] 32 i j k 1 E fun Y Z aa F => hcan F (P_ c 0) 1 /\ ∀ G, G = hwr F (P_ c 0) [.slice Y Z aa] -> m [.dv (.one (vi (IntKind.i64.wrap (a + 1))))] G) n) -> u [] n) -> ∃ I, d = some I /\ 0 ≤ a /\ a < b /\ ∃ ab J ac, hc f ((I.add (a.toNat * 2)).add 1) = some (.slice ab J ac) /\ if ltI (↑J : Int) 1 then Q none 4 a f else ∃ K, d = some K /\ 0 ≤ a /\ a < b /\ ∃ ad L ae, hc f ((K.add (a.toNat * 2)).add 1) = some (.slice ad L ae) /\ if ltI 256 L then Q none 4 a f else u [] f) -> t [] f) -> ∃ M, d = some M /\ 0 ≤ a /\ a < b /\ ∃ N, hc e (M.add (a.toNat * 2)) = some (vi N) /\ if ltI N 0 then Q none 2 a e else ∃ O, d = some O /\ 0 ≤ a /\ a < b /\ ∃ P, hc e (O.add (a.toNat * 2)) = some (vi P) /\ if ltI 63 P then Q none 2 a e else t [] e else Q (some (P_ c 0)) 0 0 e) -> m [.dv (.one (vi a))] e) -> m [.dv (.one (vi 0))] s
theorem E_portcullisref12_New : ∀ c0 a0p a0l a0c Q h, G_portcullisref12_New c0 a0p a0l a0c Q h = Dbody PP [(89, W [.addr, Ti] [.bool] c0)] [(122, [(6, .sc (.int .i64))]), (1956, []), (3913, [])] Tryz.f21 [.one (.slice a0p a0l a0c)] (decR [.ptr, Ti, Ti] Q) h := by intros; kernel_rfl
def F_portcullisref12_New := G_portcullisref12_New F_portcullisref12_Ring_Has
theorem R_portcullisref12_New : RunOk PP 21 (W [.slc] [.ptr, Ti, Ti] F_portcullisref12_New) := runOk_of (tc R_portcullisref12_Ring_Has (tn)) Tryz.func21 (by kernel_rfl) (by kernel_rfl) (E_portcullisref12_New _)
attribute [irreducible] F_portcullisref12_New
def G_chip_within (a : Int) (b : Int) (c : Int) (Q : Bool -> H -> Prop) (h : H) : Prop := if leI b a then Q (leI a c) h else Q false h
theorem E_chip_within : ∀ a0 a1 a2 Q h, G_chip_within a0 a1 a2 Q h = Dbody PP [] [] Tryz.f163 [.one (.int .i64 a0), .one (.int .i64 a1), .one (.int .i64 a2)] (decR [.bool] Q) h := by intros; kernel_rfl
def F_chip_within := G_chip_within
theorem R_chip_within : RunOk PP 163 (W [Ti, Ti, Ti] [.bool] F_chip_within) := runOk_of (tn) Tryz.func163 (by kernel_rfl) (by kernel_rfl) (E_chip_within)
attribute [irreducible] F_chip_within
def G_chip_May (c0 : Int -> Int -> Int -> (Bool -> H -> Prop) -> H -> Prop) (u : Int) (v : Int) (w : Int) (x : Int) (y : Int) (z : Int) (A : Int) (Q : Int -> H -> Prop) (h : H) : Prop := ∀ a d, hnew h a [vi u, vi v, vi w, vi x, vi y, vi z, vi A] d -> ∀ (b : JT), (∀ (l : Bool) (e : H), (if !l then Q 1 e else Q 0 e) -> b [.dv (.one (.bool l))] e) -> ∃ m, hc d (P_ a 1) = some (vi m) /\ c0 m 1 8 (fun B c => if B then ∃ n, hc c (P_ a 0) = some (vi n) /\ ∃ o, hc c (P_ a 1) = some (vi o) /\ c0 n (IntKind.i64.wrap (o + 3)) 256 (fun C f => if C then ∃ p, hc f (P_ a 2) = some (vi p) /\ c0 p 1 64 (fun E g => if E then ∃ q, hc g (P_ a 3) = some (vi q) /\ c0 q 1 65536 (fun F i => if F then ∃ r, hc i (P_ a 4) = some (vi r) /\ c0 r 1 64 (fun G j => if G then ∃ s, hc j (P_ a 5) = some (vi s) /\ c0 s 0 65536 (fun I k => if I then ∃ t, hc k (P_ a 6) = some (vi t) /\ c0 t 0 64 (fun J K => b [.dv (.one (.bool J))] K) k else b [.dv (.one (.bool false))] k) j else b [.dv (.one (.bool false))] j) i else b [.dv (.one (.bool false))] i) g else b [.dv (.one (.bool false))] g) f else b [.dv (.one (.bool false))] f) c else b [.dv (.one (.bool false))] c) d
theorem E_chip_May : ∀ c0 a0_0 a0_1 a0_2 a0_3 a0_4 a0_5 a0_6 Q h, G_chip_May c0 a0_0 a0_1 a0_2 a0_3 a0_4 a0_5 a0_6 Q h = Dbody PP [(163, W [Ti, Ti, Ti] [.bool] c0)] [(3, [(3, .sc (.bool))])] Tryz.f90 [.agg [.c (.int .i64 a0_0), .c (.int .i64 a0_1), .c (.int .i64 a0_2), .c (.int .i64 a0_3), .c (.int .i64 a0_4), .c (.int .i64 a0_5), .c (.int .i64 a0_6)]] (decR [Ti] Q) h := by intros; kernel_rfl
def F_chip_May := G_chip_May F_chip_within
theorem R_chip_May : RunOk PP 90 (W [.ag [Si, Si, Si, Si, Si, Si, Si]] [Ti] F_chip_May) := runOk_of (tc R_chip_within (tn)) Tryz.func90 (by kernel_rfl) (by kernel_rfl) (E_chip_May _)
attribute [irreducible] F_chip_May
def G_chip_pages (d : Int) (e : Int) (f : Int) (g : Int) (i : Int) (j : Int) (k : Int) (Q : Int -> H -> Prop) (h : H) : Prop := ∀ b a, hnew h b [vi d, vi e, vi f, vi g, vi i, vi j, vi k] a -> ∃ c, hc a (P_ b 6) = some (vi c) /\ Q (IntKind.i64.wrap (2 + IntKind.i64.wrap (2 * c))) a
theorem E_chip_pages : ∀ a0_0 a0_1 a0_2 a0_3 a0_4 a0_5 a0_6 Q h, G_chip_pages a0_0 a0_1 a0_2 a0_3 a0_4 a0_5 a0_6 Q h = Dbody PP [] [] Tryz.f91 [.agg [.c (.int .i64 a0_0), .c (.int .i64 a0_1), .c (.int .i64 a0_2), .c (.int .i64 a0_3), .c (.int .i64 a0_4), .c (.int .i64 a0_5), .c (.int .i64 a0_6)]] (decR [Ti] Q) h := by intros; kernel_rfl
def F_chip_pages := G_chip_pages
theorem R_chip_pages : RunOk PP 91 (W [.ag [Si, Si, Si, Si, Si, Si, Si]] [Ti] F_chip_pages) := runOk_of (tn) Tryz.func91 (by kernel_rfl) (by kernel_rfl) (E_chip_pages)
attribute [irreducible] F_chip_pages
def G_chip_fuses (f : Int) (g : Int) (i : Int) (j : Int) (k : Int) (l : Int) (m : Int) (Q : Int -> H -> Prop) (h : H) : Prop := ∀ b a, hnew h b [vi f, vi g, vi i, vi j, vi k, vi l, vi m] a -> ∃ c, hc a (P_ b 1) = some (vi c) /\ ∃ d, hc a (P_ b 2) = some (vi d) /\ ∃ e, hc a (P_ b 4) = some (vi e) /\ Q (IntKind.i64.wrap (IntKind.i64.wrap (c * d) + e)) a
theorem E_chip_fuses : ∀ a0_0 a0_1 a0_2 a0_3 a0_4 a0_5 a0_6 Q h, G_chip_fuses a0_0 a0_1 a0_2 a0_3 a0_4 a0_5 a0_6 Q h = Dbody PP [] [] Tryz.f92 [.agg [.c (.int .i64 a0_0), .c (.int .i64 a0_1), .c (.int .i64 a0_2), .c (.int .i64 a0_3), .c (.int .i64 a0_4), .c (.int .i64 a0_5), .c (.int .i64 a0_6)]] (decR [Ti] Q) h := by intros; kernel_rfl
def F_chip_fuses := G_chip_fuses
theorem R_chip_fuses : RunOk PP 92 (W [.ag [Si, Si, Si, Si, Si, Si, Si]] [Ti] F_chip_fuses) := runOk_of (tn) Tryz.func92 (by kernel_rfl) (by kernel_rfl) (E_chip_fuses)
attribute [irreducible] F_chip_fuses
def G_math_bits_Mul32 (a : Int) (b : Int) (Q : Int -> Int -> H -> Prop) (h : H) : Prop := (0 : Int) ≤ 32 /\ Q (IntKind.u32.wrap ((IntKind.u64.wrap (IntKind.u64.wrap a * IntKind.u64.wrap b)).fdiv (2 ^ 32))) (IntKind.u32.wrap (IntKind.u64.wrap (IntKind.u64.wrap a * IntKind.u64.wrap b))) h
theorem E_math_bits_Mul32 : ∀ a0 a1 Q h, G_math_bits_Mul32 a0 a1 Q h = Dbody PP [] [] Tryz.f232 [.one (.int .u32 a0), .one (.int .u32 a1)] (decR [.int .u32, .int .u32] Q) h := by intros; kernel_rfl
def F_math_bits_Mul32 := G_math_bits_Mul32
theorem R_math_bits_Mul32 : RunOk PP 232 (W [.int .u32, .int .u32] [.int .u32, .int .u32] F_math_bits_Mul32) := runOk_of (tn) Tryz.func232 (by kernel_rfl) (by kernel_rfl) (E_math_bits_Mul32)
attribute [irreducible] F_math_bits_Mul32
def G_math_bits_Mul64 (a : Int) (b : Int) (Q : Int -> Int -> H -> Prop) (h : H) : Prop := ∀ (d : Int), d = 4294967295 -> (0 : Int) ≤ 32 /\ ∀ (c : Int), c = 4294967295 -> (0 : Int) ≤ 32 /\ (0 : Int) ≤ 32 /\ ∀ (e : Int), e = 4294967295 -> (0 : Int) ≤ 32 /\ (0 : Int) ≤ 32 /\ Q (IntKind.u64.wrap (IntKind.u64.wrap (IntKind.u64.wrap (a.fdiv (2 ^ 32) * b.fdiv (2 ^ 32)) + (IntKind.u64.wrap (IntKind.u64.wrap (a.fdiv (2 ^ 32) * bits .and .u64 b c) + (IntKind.u64.wrap (bits .and .u64 a d * bits .and .u64 b c)).fdiv (2 ^ 32))).fdiv (2 ^ 32)) + (IntKind.u64.wrap (bits .and .u64 (IntKind.u64.wrap (IntKind.u64.wrap (a.fdiv (2 ^ 32) * bits .and .u64 b c) + (IntKind.u64.wrap (bits .and .u64 a d * bits .and .u64 b c)).fdiv (2 ^ 32))) e + IntKind.u64.wrap (bits .and .u64 a d * b.fdiv (2 ^ 32)))).fdiv (2 ^ 32))) (IntKind.u64.wrap (a * b)) h
theorem E_math_bits_Mul64 : ∀ a0 a1 Q h, G_math_bits_Mul64 a0 a1 Q h = Dbody PP [] [] Tryz.f233 [.one (.int .u64 a0), .one (.int .u64 a1)] (decR [.int .u64, .int .u64] Q) h := by intros; kernel_rfl
def F_math_bits_Mul64 := G_math_bits_Mul64
theorem R_math_bits_Mul64 : RunOk PP 233 (W [.int .u64, .int .u64] [.int .u64, .int .u64] F_math_bits_Mul64) := runOk_of (tn) Tryz.func233 (by kernel_rfl) (by kernel_rfl) (E_math_bits_Mul64)
attribute [irreducible] F_math_bits_Mul64
def G_math_bits_Mul (c0 : Int -> Int -> (Int -> Int -> H -> Prop) -> H -> Prop) (c1 : Int -> Int -> (Int -> Int -> H -> Prop) -> H -> Prop) (a : Int) (b : Int) (Q : Int -> Int -> H -> Prop) (h : H) : Prop := c1 a b (fun c d e => Q c d e) h
theorem E_math_bits_Mul : ∀ c0 c1 a0 a1 Q h, G_math_bits_Mul c0 c1 a0 a1 Q h = Dbody PP [(232, W [.int .u32, .int .u32] [.int .u32, .int .u32] c0), (233, W [.int .u64, .int .u64] [.int .u64, .int .u64] c1)] [] Tryz.f164 [.one (.int .u64 a0), .one (.int .u64 a1)] (decR [.int .u64, .int .u64] Q) h := by intros; kernel_rfl
def F_math_bits_Mul := G_math_bits_Mul F_math_bits_Mul32 F_math_bits_Mul64
theorem R_math_bits_Mul : RunOk PP 164 (W [.int .u64, .int .u64] [.int .u64, .int .u64] F_math_bits_Mul) := runOk_of (tc R_math_bits_Mul32 (tc R_math_bits_Mul64 (tn))) Tryz.func164 (by kernel_rfl) (by kernel_rfl) (E_math_bits_Mul _ _)
attribute [irreducible] F_math_bits_Mul
def G_slices_Repeat_api_Cell_api_Cell (c0 : Int -> Int -> (Int -> Int -> H -> Prop) -> H -> Prop) (u : OA) (e : Nat) (x : Nat) (k : Int) (Q : OA -> Nat -> Nat -> H -> Prop) (h : H) : Prop := ∀ (l : JT), (∀ (m : H), c0 (IntKind.u64.wrap (↑e : Int)) (IntKind.u64.wrap k) (fun v a w => ∀ (n : JT), (∀ (o : H), (0 ≤ IntKind.i64.wrap a /\ IntKind.i64.wrap a ≤ IntKind.i64.wrap a /\ (↑32 : Int) * IntKind.i64.wrap a ≤ 2 ^ 48 /\ IntKind.i64.wrap a ≤ 2 ^ 48 /\ ∀ c f, hnew o c (List.replicate (IntKind.i64.wrap a).toNat (ints .u8 (zeros 32))).flatten f -> ∃ (g : List Value), hsv f u 32 (e.min (IntKind.i64.wrap a).toNat) g /\ (g = [] ∨ ∃ p, some (P_ c 0) = some p /\ hcan f p (e.min (IntKind.i64.wrap a).toNat * 32)) /\ ∀ (q : H), q = hwrO f (some (P_ c 0)) g -> ∀ (i : JT), (∀ (b : Int) (d : H), (if ltI b (↑(IntKind.i64.wrap a).toNat : Int) then 0 ≤ b /\ b ≤ (↑(IntKind.i64.wrap a).toNat : Int) /\ 0 ≤ b /\ b ≤ (↑(IntKind.i64.wrap a).toNat : Int) /\ ∃ (j : List Value), hsv d (subAddr (some (P_ c 0)) 0 (IntKind.i64.wrap a).toNat 32) 32 ((b.toNat - 0).min ((IntKind.i64.wrap a).toNat - b.toNat)) j /\ (j = [] ∨ ∃ (r : Addr), subAddr (some (P_ c 0)) b.toNat (IntKind.i64.wrap a).toNat 32 = some r /\ hcan d r ((b.toNat - 0).min ((IntKind.i64.wrap a).toNat - b.toNat) * 32)) /\ ∀ (s : H), s = hwrO d (subAddr (some (P_ c 0)) b.toNat (IntKind.i64.wrap a).toNat 32) j -> i [.dv (.one (vi (IntKind.i64.wrap (b + (↑((b.toNat - 0).min ((IntKind.i64.wrap a).toNat - b.toNat)) : Int)))))] s else Q (some (P_ c 0)) (IntKind.i64.wrap a).toNat (IntKind.i64.wrap a).toNat d) -> i [.dv (.one (vi b))] d) -> i [.dv (.one (vi (↑(e.min (IntKind.i64.wrap a).toNat) : Int)))] q) -> n [] o) -> if ltI 0 v then False else ∀ (t : Int), t = 9223372036854775807 -> if ltI t a then False else n [] w) m -> l [] m) -> if ltI k 0 then False else l [] h
theorem E_slices_Repeat_api_Cell_api_Cell : ∀ c0 a0p a0l a0c a1 Q h, G_slices_Repeat_api_Cell_api_Cell c0 a0p a0l a0c a1 Q h = Dbody PP [(164, W [.int .u64, .int .u64] [.int .u64, .int .u64] c0)] [(3, []), (15, []), (508, [(8, .sc (.int .i64))])] Tryz.f93 [.one (.slice a0p a0l a0c), .one (.int .i64 a1)] (decR [.slc] Q) h := by intros; kernel_rfl
def F_slices_Repeat_api_Cell_api_Cell := G_slices_Repeat_api_Cell_api_Cell F_math_bits_Mul
theorem R_slices_Repeat_api_Cell_api_Cell : RunOk PP 93 (W [.slc, Ti] [.slc] F_slices_Repeat_api_Cell_api_Cell) := runOk_of (tc R_math_bits_Mul (tn)) Tryz.func93 (by kernel_rfl) (by kernel_rfl) (E_slices_Repeat_api_Cell_api_Cell _)
attribute [irreducible] F_slices_Repeat_api_Cell_api_Cell
def G_chip_blank (Q : List Int -> H -> Prop) (h : H) : Prop := ∀ c j, hnew h c (ints .u8 (zeros 32)) j -> ∀ d k, hnew j d (ints .u8 (zeros 32)) k -> ∀ (e : JT), (∀ (a : Int) (b : H), (if ltI a 32 then 0 ≤ a /\ a < (↑32 : Int) /\ hcan b ((P_ d 0).add (a.toNat * 1)) 1 /\ ∀ l, l = hwr b ((P_ d 0).add (a.toNat * 1)) [.int .u8 255] -> e [.dv (.one (vi (IntKind.i64.wrap (a + 1))))] l else ∃ (f : List Int), f.length = 32 /\ hrow b (P_ d 0) .u8 f /\ hcan b (P_ c 0) 32 /\ ∀ g, g = hwr b (P_ c 0) (ints .u8 f ++ []) -> ∃ (i : List Int), i.length = 32 /\ hrow g (P_ c 0) .u8 i /\ Q i g) -> e [.dv (.one (vi a))] b) -> e [.dv (.one (vi 0))] k
theorem E_chip_blank : ∀ Q h, G_chip_blank Q h = Dbody PP [] [(58, [(3, .sc (.int .i64))])] Tryz.f94 [] (decR [.ag [.row .u8 32]] Q) h := by intros; kernel_rfl
def F_chip_blank := G_chip_blank
theorem R_chip_blank : RunOk PP 94 (W [] [.ag [.row .u8 32]] F_chip_blank) := runOk_of (tn) Tryz.func94 (by kernel_rfl) (by kernel_rfl) (E_chip_blank)
attribute [irreducible] F_chip_blank
def G_chip_New (c0 : Int -> Int -> Int -> Int -> Int -> Int -> Int -> (Int -> H -> Prop) -> H -> Prop) (c1 : Int -> Int -> Int -> Int -> Int -> Int -> Int -> (Int -> H -> Prop) -> H -> Prop) (c2 : Int -> Int -> Int -> Int -> Int -> Int -> Int -> (Int -> H -> Prop) -> H -> Prop) (c3 : OA -> Nat -> Nat -> Int -> (OA -> Nat -> Nat -> H -> Prop) -> H -> Prop) (c4 : (List Int -> H -> Prop) -> H -> Prop) (dw : Int) (dx : Int) (dy : Int) (dz : Int) (d0 : Int) (d1 : Int) (d2 : Int) (Q : OA -> Int -> H -> Prop) (h : H) : Prop := ∀ b v, hnew h b [vi dw, vi dx, vi dy, vi dz, vi d0, vi d1, vi d2] v -> ∃ a9, hc v (P_ b 0) = some (vi a9) /\ ∃ ba, hc v (P_ b 1) = some (vi ba) /\ ∃ bb, hc v (P_ b 2) = some (vi bb) /\ ∃ bc, hc v (P_ b 3) = some (vi bc) /\ ∃ bd, hc v (P_ b 4) = some (vi bd) /\ ∃ be, hc v (P_ b 5) = some (vi be) /\ ∃ bf, hc v (P_ b 6) = some (vi bf) /\ c0 a9 ba bb bc bd be bf (fun bg e => if bg != 0 then Q none bg e else ∀ (f : JT), (∀ (s : Addr) (w : H), (∃ bh, hc w (P_ b 0) = some (vi bh) /\ ∃ bi, hc w (P_ b 1) = some (vi bi) /\ ∃ bj, hc w (P_ b 2) = some (vi bj) /\ ∃ bk, hc w (P_ b 3) = some (vi bk) /\ ∃ bl, hc w (P_ b 4) = some (vi bl) /\ ∃ bm, hc w (P_ b 5) = some (vi bm) /\ ∃ bn, hc w (P_ b 6) = some (vi bn) /\ c1 bh bi bj bk bl bm bn (fun d3 d4 => ∀ (af : JT), (∀ (ag : Int) (r : H), (if ltI ag d3 then ∃ B C E, hc r s = some (.slice B C E) /\ ∃ F, hc r (P_ b 0) = some (vi F) /\ c4 (fun d5 ah => hcs ah (P_ b 0) [vi F] /\ hcs ah s [.slice B C E] /\ ∀ bo G, hnew ah bo (ints .u8 d5 ++ []) G -> hcs G (P_ b 0) [vi F] /\ hcs G s [.slice B C E] /\ c3 (some (P_ bo 0)) 1 1 F (fun d6 d7 d8 bp => hcs bp s [.slice B C E] /\ ∀ bq I, hnew bp bq [.slice d6 d7 d8] I -> hcs I s [.slice B C E] /\ ∃ (br : List Value), hsv I (some (P_ bq 0)) 1 1 br /\ pApp I 1 [.slice none 0 0] 24 B C E 1 br fun d9 ea eb bs => hcan bs s 1 /\ ∀ bt, bt = hwr bs s [.slice d9 ea eb] -> af [.dv (.one (vi (IntKind.i64.wrap (ag + 1))))] bt) G) r else ∃ bu, hc r (P_ b 0) = some (vi bu) /\ ∃ bv, hc r (P_ b 1) = some (vi bv) /\ ∃ bw, hc r (P_ b 2) = some (vi bw) /\ ∃ bx, hc r (P_ b 3) = some (vi bx) /\ ∃ bz, hc r (P_ b 4) = some (vi bz) /\ ∃ b0, hc r (P_ b 5) = some (vi b0) /\ ∃ b1, hc r (P_ b 6) = some (vi b1) /\ ∃ b2 b3 b4, hc r s = some (.slice b2 b3 b4) /\ ∃ b5 b6 b7, hc r (s.add 1) = some (.slice b5 b6 b7) /\ ∃ b8 b9 ca, hc r (s.add 2) = some (.slice b8 b9 ca) /\ ∀ cb cc, hnew r cb [vi bu, vi bv, vi bw, vi bx, vi bz, vi b0, vi b1, .slice b2 b3 b4, .slice b5 b6 b7, .slice b8 b9 ca, vi 0, .bool false, vi (-1), .slice none 0 0] cc -> Q (some (P_ cb 0)) 0 cc) -> af [.dv (.one (vi ag))] r) -> af [.dv (.one (vi 0))] d4) w) -> f [SV.dv (DV.addr s)] w) -> ∃ J, hc e (P_ b 0) = some (vi J) /\ ∃ K, hc e (P_ b 1) = some (vi K) /\ ∃ L, hc e (P_ b 2) = some (vi L) /\ ∃ M, hc e (P_ b 3) = some (vi M) /\ ∃ N, hc e (P_ b 4) = some (vi N) /\ ∃ O, hc e (P_ b 5) = some (vi O) /\ ∃ P, hc e (P_ b 6) = some (vi P) /\ ∃ g, hc e (P_ b 0) = some (vi g) /\ ∃ i, hc e (P_ b 1) = some (vi i) /\ ∃ j, hc e (P_ b 2) = some (vi j) /\ ∃ k, hc e (P_ b 3) = some (vi k) /\ ∃ l, hc e (P_ b 4) = some (vi l) /\ ∃ m, hc e (P_ b 5) = some (vi m) /\ ∃ n, hc e (P_ b 6) = some (vi n) /\ c1 J K L M N O P (fun a R => hcs R (P_ b 0) [vi g, vi i, vi j, vi k, vi l, vi m, vi n] /\ (0 ≤ a /\ a ≤ a /\ (↑8 : Int) * a ≤ 2 ^ 48 /\ a ≤ 2 ^ 48 /\ ∀ T U, hnew R T (List.replicate a.toNat [vi 0]).flatten U -> hcs U (P_ b 0) [vi g, vi i, vi j, vi k, vi l, vi m, vi n] /\ c2 g i j k l m n (fun o cd => (0 ≤ o /\ o ≤ o /\ (↑1 : Int) * o ≤ 2 ^ 48 /\ o ≤ 2 ^ 48 /\ ∀ ce cf, hnew cd ce (List.replicate o.toNat [.bool false]).flatten cf -> ∀ V ai, hnew cf V [.slice none 0 0, .slice none 0 0, .slice none 0 0] ai -> hcan ai (P_ V 0) 3 /\ ∀ cg, cg = hwr ai (P_ V 0) [.slice none 0 0, .slice (some (P_ T 0)) a.toNat a.toNat, .slice (some (P_ ce 0)) o.toNat o.toNat] -> f [SV.dv (DV.addr (P_ V 0))] cg) /\ ∀ X ch, hnew cd X [.slice none 0 0, .slice none 0 0, .slice none 0 0] ch -> 0 ≤ o /\ o ≤ o /\ (↑1 : Int) * o ≤ 2 ^ 48 /\ o ≤ 2 ^ 48 /\ ∀ ci aj, hnew ch ci (List.replicate o.toNat [.bool false]).flatten aj -> hcan aj (P_ X 0) 3 /\ ∀ cj, cj = hwr aj (P_ X 0) [.slice none 0 0, .slice (some (P_ T 0)) a.toNat a.toNat, .slice (some (P_ ci 0)) o.toNat o.toNat] -> f [SV.dv (DV.addr (P_ X 0))] cj) U /\ ∀ Y ak, hnew U Y [.slice none 0 0, .slice none 0 0, .slice none 0 0] ak -> hcs ak (P_ b 0) [vi g, vi i, vi j, vi k, vi l, vi m, vi n] /\ c2 g i j k l m n (fun x ec => 0 ≤ x /\ x ≤ x /\ (↑1 : Int) * x ≤ 2 ^ 48 /\ x ≤ 2 ^ 48 /\ ∀ ck al, hnew ec ck (List.replicate x.toNat [.bool false]).flatten al -> hcan al (P_ Y 0) 3 /\ ∀ cl, cl = hwr al (P_ Y 0) [.slice none 0 0, .slice (some (P_ T 0)) a.toNat a.toNat, .slice (some (P_ ck 0)) x.toNat x.toNat] -> f [SV.dv (DV.addr (P_ Y 0))] cl) ak) /\ c2 g i j k l m n (fun c am => (0 ≤ a /\ a ≤ a /\ (↑8 : Int) * a ≤ 2 ^ 48 /\ a ≤ 2 ^ 48 /\ ∀ an ao, hnew am an (List.replicate a.toNat [vi 0]).flatten ao -> (0 ≤ c /\ c ≤ c /\ (↑1 : Int) * c ≤ 2 ^ 48 /\ c ≤ 2 ^ 48 /\ ∀ cm cn, hnew ao cm (List.replicate c.toNat [.bool false]).flatten cn -> ∀ Z ap, hnew cn Z [.slice none 0 0, .slice none 0 0, .slice none 0 0] ap -> hcan ap (P_ Z 0) 3 /\ ∀ co, co = hwr ap (P_ Z 0) [.slice none 0 0, .slice (some (P_ an 0)) a.toNat a.toNat, .slice (some (P_ cm 0)) c.toNat c.toNat] -> f [SV.dv (DV.addr (P_ Z 0))] co) /\ ∀ aa cp, hnew ao aa [.slice none 0 0, .slice none 0 0, .slice none 0 0] cp -> 0 ≤ c /\ c ≤ c /\ (↑1 : Int) * c ≤ 2 ^ 48 /\ c ≤ 2 ^ 48 /\ ∀ cq aq, hnew cp cq (List.replicate c.toNat [.bool false]).flatten aq -> hcan aq (P_ aa 0) 3 /\ ∀ cr, cr = hwr aq (P_ aa 0) [.slice none 0 0, .slice (some (P_ an 0)) a.toNat a.toNat, .slice (some (P_ cq 0)) c.toNat c.toNat] -> f [SV.dv (DV.addr (P_ aa 0))] cr) /\ (0 ≤ c /\ c ≤ c /\ (↑1 : Int) * c ≤ 2 ^ 48 /\ c ≤ 2 ^ 48 /\ ∀ ar au, hnew am ar (List.replicate c.toNat [.bool false]).flatten au -> (0 ≤ a /\ a ≤ a /\ (↑8 : Int) * a ≤ 2 ^ 48 /\ a ≤ 2 ^ 48 /\ ∀ cs ct, hnew au cs (List.replicate a.toNat [vi 0]).flatten ct -> ∀ ab av, hnew ct ab [.slice none 0 0, .slice none 0 0, .slice none 0 0] av -> hcan av (P_ ab 0) 3 /\ ∀ cu, cu = hwr av (P_ ab 0) [.slice none 0 0, .slice (some (P_ cs 0)) a.toNat a.toNat, .slice (some (P_ ar 0)) c.toNat c.toNat] -> f [SV.dv (DV.addr (P_ ab 0))] cu) /\ ∀ ac cv, hnew au ac [.slice none 0 0, .slice none 0 0, .slice none 0 0] cv -> 0 ≤ a /\ a ≤ a /\ (↑8 : Int) * a ≤ 2 ^ 48 /\ a ≤ 2 ^ 48 /\ ∀ cw aw, hnew cv cw (List.replicate a.toNat [vi 0]).flatten aw -> hcan aw (P_ ac 0) 3 /\ ∀ cx, cx = hwr aw (P_ ac 0) [.slice none 0 0, .slice (some (P_ cw 0)) a.toNat a.toNat, .slice (some (P_ ar 0)) c.toNat c.toNat] -> f [SV.dv (DV.addr (P_ ac 0))] cx) /\ ∀ A ax, hnew am A [.slice none 0 0, .slice none 0 0, .slice none 0 0] ax -> (0 ≤ a /\ a ≤ a /\ (↑8 : Int) * a ≤ 2 ^ 48 /\ a ≤ 2 ^ 48 /\ ∀ cy cz, hnew ax cy (List.replicate a.toNat [vi 0]).flatten cz -> 0 ≤ c /\ c ≤ c /\ (↑1 : Int) * c ≤ 2 ^ 48 /\ c ≤ 2 ^ 48 /\ ∀ c0 ay, hnew cz c0 (List.replicate c.toNat [.bool false]).flatten ay -> hcan ay (P_ A 0) 3 /\ ∀ c1, c1 = hwr ay (P_ A 0) [.slice none 0 0, .slice (some (P_ cy 0)) a.toNat a.toNat, .slice (some (P_ c0 0)) c.toNat c.toNat] -> f [SV.dv (DV.addr (P_ A 0))] c1) /\ 0 ≤ c /\ c ≤ c /\ (↑1 : Int) * c ≤ 2 ^ 48 /\ c ≤ 2 ^ 48 /\ ∀ c2 c3, hnew ax c2 (List.replicate c.toNat [.bool false]).flatten c3 -> 0 ≤ a /\ a ≤ a /\ (↑8 : Int) * a ≤ 2 ^ 48 /\ a ≤ 2 ^ 48 /\ ∀ c4 az, hnew c3 c4 (List.replicate a.toNat [vi 0]).flatten az -> hcan az (P_ A 0) 3 /\ ∀ c5, c5 = hwr az (P_ A 0) [.slice none 0 0, .slice (some (P_ c4 0)) a.toNat a.toNat, .slice (some (P_ c2 0)) c.toNat c.toNat] -> f [SV.dv (DV.addr (P_ A 0))] c5) R /\ ∀ t ad, hnew R t [.slice none 0 0, .slice none 0 0, .slice none 0 0] ad -> hcs ad (P_ b 0) [vi g, vi i, vi j, vi k, vi l, vi m, vi n] /\ (0 ≤ a /\ a ≤ a /\ (↑8 : Int) * a ≤ 2 ^ 48 /\ a ≤ 2 ^ 48 /\ ∀ c6 a0, hnew ad c6 (List.replicate a.toNat [vi 0]).flatten a0 -> hcs a0 (P_ b 0) [vi g, vi i, vi j, vi k, vi l, vi m, vi n] /\ c2 g i j k l m n (fun y ed => 0 ≤ y /\ y ≤ y /\ (↑1 : Int) * y ≤ 2 ^ 48 /\ y ≤ 2 ^ 48 /\ ∀ c7 a1, hnew ed c7 (List.replicate y.toNat [.bool false]).flatten a1 -> hcan a1 (P_ t 0) 3 /\ ∀ c8, c8 = hwr a1 (P_ t 0) [.slice none 0 0, .slice (some (P_ c6 0)) a.toNat a.toNat, .slice (some (P_ c7 0)) y.toNat y.toNat] -> f [SV.dv (DV.addr (P_ t 0))] c8) a0) /\ c2 g i j k l m n (fun p c9 => (0 ≤ a /\ a ≤ a /\ (↑8 : Int) * a ≤ 2 ^ 48 /\ a ≤ 2 ^ 48 /\ ∀ da db, hnew c9 da (List.replicate a.toNat [vi 0]).flatten db -> 0 ≤ p /\ p ≤ p /\ (↑1 : Int) * p ≤ 2 ^ 48 /\ p ≤ 2 ^ 48 /\ ∀ dc a2, hnew db dc (List.replicate p.toNat [.bool false]).flatten a2 -> hcan a2 (P_ t 0) 3 /\ ∀ dd, dd = hwr a2 (P_ t 0) [.slice none 0 0, .slice (some (P_ da 0)) a.toNat a.toNat, .slice (some (P_ dc 0)) p.toNat p.toNat] -> f [SV.dv (DV.addr (P_ t 0))] dd) /\ 0 ≤ p /\ p ≤ p /\ (↑1 : Int) * p ≤ 2 ^ 48 /\ p ≤ 2 ^ 48 /\ ∀ de df, hnew c9 de (List.replicate p.toNat [.bool false]).flatten df -> 0 ≤ a /\ a ≤ a /\ (↑8 : Int) * a ≤ 2 ^ 48 /\ a ≤ 2 ^ 48 /\ ∀ dg a3, hnew df dg (List.replicate a.toNat [vi 0]).flatten a3 -> hcan a3 (P_ t 0) 3 /\ ∀ dh, dh = hwr a3 (P_ t 0) [.slice none 0 0, .slice (some (P_ dg 0)) a.toNat a.toNat, .slice (some (P_ de 0)) p.toNat p.toNat] -> f [SV.dv (DV.addr (P_ t 0))] dh) ad) e /\ ∀ u ae, hnew e u [.slice none 0 0, .slice none 0 0, .slice none 0 0] ae -> hcs ae (P_ b 0) [vi g, vi i, vi j, vi k, vi l, vi m, vi n] /\ hcs ae (P_ b 0) [vi J, vi K, vi L, vi M, vi N, vi O, vi P] /\ c1 J K L M N O P (fun d a4 => hcs a4 (P_ b 0) [vi g, vi i, vi j, vi k, vi l, vi m, vi n] /\ (0 ≤ d /\ d ≤ d /\ (↑8 : Int) * d ≤ 2 ^ 48 /\ d ≤ 2 ^ 48 /\ ∀ di a5, hnew a4 di (List.replicate d.toNat [vi 0]).flatten a5 -> hcs a5 (P_ b 0) [vi g, vi i, vi j, vi k, vi l, vi m, vi n] /\ c2 g i j k l m n (fun z ee => 0 ≤ z /\ z ≤ z /\ (↑1 : Int) * z ≤ 2 ^ 48 /\ z ≤ 2 ^ 48 /\ ∀ dj a6, hnew ee dj (List.replicate z.toNat [.bool false]).flatten a6 -> hcan a6 (P_ u 0) 3 /\ ∀ dk, dk = hwr a6 (P_ u 0) [.slice none 0 0, .slice (some (P_ di 0)) d.toNat d.toNat, .slice (some (P_ dj 0)) z.toNat z.toNat] -> f [SV.dv (DV.addr (P_ u 0))] dk) a5) /\ c2 g i j k l m n (fun q dl => (0 ≤ d /\ d ≤ d /\ (↑8 : Int) * d ≤ 2 ^ 48 /\ d ≤ 2 ^ 48 /\ ∀ dm dn, hnew dl dm (List.replicate d.toNat [vi 0]).flatten dn -> 0 ≤ q /\ q ≤ q /\ (↑1 : Int) * q ≤ 2 ^ 48 /\ q ≤ 2 ^ 48 /\ ∀ dp a7, hnew dn dp (List.replicate q.toNat [.bool false]).flatten a7 -> hcan a7 (P_ u 0) 3 /\ ∀ dq, dq = hwr a7 (P_ u 0) [.slice none 0 0, .slice (some (P_ dm 0)) d.toNat d.toNat, .slice (some (P_ dp 0)) q.toNat q.toNat] -> f [SV.dv (DV.addr (P_ u 0))] dq) /\ 0 ≤ q /\ q ≤ q /\ (↑1 : Int) * q ≤ 2 ^ 48 /\ q ≤ 2 ^ 48 /\ ∀ dr ds, hnew dl dr (List.replicate q.toNat [.bool false]).flatten ds -> 0 ≤ d /\ d ≤ d /\ (↑8 : Int) * d ≤ 2 ^ 48 /\ d ≤ 2 ^ 48 /\ ∀ dt a8, hnew ds dt (List.replicate d.toNat [vi 0]).flatten a8 -> hcan a8 (P_ u 0) 3 /\ ∀ du, du = hwr a8 (P_ u 0) [.slice none 0 0, .slice (some (P_ dt 0)) d.toNat d.toNat, .slice (some (P_ dr 0)) q.toNat q.toNat] -> f [SV.dv (DV.addr (P_ u 0))] du) a4) ae) v
theorem E_chip_New : ∀ c0 c1 c2 c3 c4 a0_0 a0_1 a0_2 a0_3 a0_4 a0_5 a0_6 Q h, G_chip_New c0 c1 c2 c3 c4 a0_0 a0_1 a0_2 a0_3 a0_4 a0_5 a0_6 Q h = Dbody PP [(90, W [.ag [Si, Si, Si, Si, Si, Si, Si]] [Ti] c0), (91, W [.ag [Si, Si, Si, Si, Si, Si, Si]] [Ti] c1), (92, W [.ag [Si, Si, Si, Si, Si, Si, Si]] [Ti] c2), (93, W [.slc, Ti] [.slc] c3), (94, W [] [.ag [.row .u8 32]] c4)] [(7, [(5, .addr)]), (122, [(20, .sc (.int .i64))])] Tryz.f22 [.agg [.c (.int .i64 a0_0), .c (.int .i64 a0_1), .c (.int .i64 a0_2), .c (.int .i64 a0_3), .c (.int .i64 a0_4), .c (.int .i64 a0_5), .c (.int .i64 a0_6)]] (decR [.ptr, Ti] Q) h := by intros; kernel_rfl
def F_chip_New := G_chip_New F_chip_May F_chip_pages F_chip_fuses F_slices_Repeat_api_Cell_api_Cell F_chip_blank
theorem R_chip_New : RunOk PP 22 (W [.ag [Si, Si, Si, Si, Si, Si, Si]] [.ptr, Ti] F_chip_New) := runOk_of (tc R_chip_May (tc R_chip_pages (tc R_chip_fuses (tc R_slices_Repeat_api_Cell_api_Cell (tc R_chip_blank (tn)))))) Tryz.func22 (by kernel_rfl) (by kernel_rfl) (E_chip_New _ _ _ _ _)
attribute [irreducible] F_chip_New
def G_portcullisref04_within (a : Int) (b : Int) (c : Int) (Q : Bool -> H -> Prop) (h : H) : Prop := if leI b a then Q (leI a c) h else Q false h
theorem E_portcullisref04_within : ∀ a0 a1 a2 Q h, G_portcullisref04_within a0 a1 a2 Q h = Dbody PP [] [] Tryz.f95 [.one (.int .i64 a0), .one (.int .i64 a1), .one (.int .i64 a2)] (decR [.bool] Q) h := by intros; kernel_rfl
def F_portcullisref04_within := G_portcullisref04_within
theorem R_portcullisref04_within : RunOk PP 95 (W [Ti, Ti, Ti] [.bool] F_portcullisref04_within) := runOk_of (tn) Tryz.func95 (by kernel_rfl) (by kernel_rfl) (E_portcullisref04_within)
attribute [irreducible] F_portcullisref04_within
def G_portcullisref04_May (c0 : Int -> Int -> Int -> (Bool -> H -> Prop) -> H -> Prop) (u : Int) (v : Int) (w : Int) (x : Int) (y : Int) (z : Int) (A : Int) (Q : Int -> H -> Prop) (h : H) : Prop := ∀ a g, hnew h a [vi u, vi v, vi w, vi x, vi y, vi z, vi A] g -> ∀ (b : JT), (∀ (c : Bool) (i : H), (∃ m, hc i (P_ a 4) = some (vi m) /\ c0 m 1 64 (fun B d => if B then ∃ n, hc d (P_ a 5) = some (vi n) /\ c0 n 0 65536 (fun C e => if C then ∃ o, hc e (P_ a 6) = some (vi o) /\ c0 o 0 64 (fun E j => if !c then Q 1 j else if !E then Q 1 j else Q 0 j) e else if !c then Q 1 e else Q 1 e) d else if !c then Q 1 d else Q 1 d) i) -> b [.dv (.one (.bool c))] i) -> ∃ p, hc g (P_ a 1) = some (vi p) /\ c0 p 1 8 (fun F f => if F then ∃ q, hc f (P_ a 0) = some (vi q) /\ ∃ r, hc f (P_ a 1) = some (vi r) /\ c0 q (IntKind.i64.wrap (r + 3)) 256 (fun G k => if G then ∃ s, hc k (P_ a 2) = some (vi s) /\ c0 s 1 64 (fun I l => if I then ∃ t, hc l (P_ a 3) = some (vi t) /\ c0 t 1 65536 (fun J K => b [.dv (.one (.bool J))] K) l else b [.dv (.one (.bool false))] l) k else b [.dv (.one (.bool false))] k) f else b [.dv (.one (.bool false))] f) g
theorem E_portcullisref04_May : ∀ c0 a0_0 a0_1 a0_2 a0_3 a0_4 a0_5 a0_6 Q h, G_portcullisref04_May c0 a0_0 a0_1 a0_2 a0_3 a0_4 a0_5 a0_6 Q h = Dbody PP [(95, W [Ti, Ti, Ti] [.bool] c0)] [(3, [(3, .sc (.bool))])] Tryz.f23 [.agg [.c (.int .i64 a0_0), .c (.int .i64 a0_1), .c (.int .i64 a0_2), .c (.int .i64 a0_3), .c (.int .i64 a0_4), .c (.int .i64 a0_5), .c (.int .i64 a0_6)]] (decR [Ti] Q) h := by intros; kernel_rfl
def F_portcullisref04_May := G_portcullisref04_May F_portcullisref04_within
theorem R_portcullisref04_May : RunOk PP 23 (W [.ag [Si, Si, Si, Si, Si, Si, Si]] [Ti] F_portcullisref04_May) := runOk_of (tc R_portcullisref04_within (tn)) Tryz.func23 (by kernel_rfl) (by kernel_rfl) (E_portcullisref04_May _)
attribute [irreducible] F_portcullisref04_May
def G_portcullisref04_Blank (Q : List Int -> H -> Prop) (h : H) : Prop := ∀ d k, hnew h d (ints .u8 (zeros 32)) k -> ∀ b e, hnew k b (ints .u8 (zeros 32)) e -> hcan e (P_ b 0) 32 /\ ∀ l, l = hwr e (P_ b 0) (ints .u8 (zeros 32)) -> ∀ (f : JT), (∀ (a : Int) (c : H), (if ltI a 32 then 0 ≤ a /\ a < (↑32 : Int) /\ hcan c ((P_ b 0).add (a.toNat * 1)) 1 /\ ∀ m, m = hwr c ((P_ b 0).add (a.toNat * 1)) [.int .u8 255] -> f [.dv (.one (vi (IntKind.i64.wrap (a + 1))))] m else ∃ (g : List Int), g.length = 32 /\ hrow c (P_ b 0) .u8 g /\ hcan c (P_ d 0) 32 /\ ∀ i, i = hwr c (P_ d 0) (ints .u8 g ++ []) -> ∃ (j : List Int), j.length = 32 /\ hrow i (P_ d 0) .u8 j /\ Q j i) -> f [.dv (.one (vi a))] c) -> f [.dv (.one (vi 0))] l
theorem E_portcullisref04_Blank : ∀ Q h, G_portcullisref04_Blank Q h = Dbody PP [] [(58, [(2, .sc (.int .i64))])] Tryz.f204 [] (decR [.ag [.row .u8 32]] Q) h := by intros; kernel_rfl
def F_portcullisref04_Blank := G_portcullisref04_Blank
theorem R_portcullisref04_Blank : RunOk PP 204 (W [] [.ag [.row .u8 32]] F_portcullisref04_Blank) := runOk_of (tn) Tryz.func204 (by kernel_rfl) (by kernel_rfl) (E_portcullisref04_Blank)
attribute [irreducible] F_portcullisref04_Blank
def G_portcullisref04_fresh (c0 : (List Int -> H -> Prop) -> H -> Prop) (bi : Int) (bj : Int) (bk : Int) (bl : Int) (bm : Int) (bn : Int) (bo : Int) (Q : OA -> Nat -> Nat -> OA -> Nat -> Nat -> OA -> Nat -> Nat -> H -> Prop) (h : H) : Prop := ∀ e T, hnew h e [vi bi, vi bj, vi bk, vi bl, vi bm, vi bn, vi bo] T -> ∀ o i, hnew T o [.slice none 0 0, .slice none 0 0, .slice none 0 0] i -> ∀ (j : JT), (∀ (k : Addr) (U : H), (∀ (z : JT), (∀ (A : Int) (g : H), (∃ V, hc g (P_ e 6) = some (vi V) /\ if ltI A (IntKind.i64.wrap (2 + IntKind.i64.wrap (2 * V))) then ∃ f, hc g (P_ e 0) = some (vi f) /\ 0 ≤ f /\ f ≤ f /\ (↑32 : Int) * f ≤ 2 ^ 48 /\ f ≤ 2 ^ 48 /\ ∀ B X, hnew g B (List.replicate f.toNat (ints .u8 (zeros 32))).flatten X -> ∀ (C : JT), (∀ (l : Int) (q : H), (∃ Y, hc q (P_ e 0) = some (vi Y) /\ if ltI l Y then c0 (fun bp Z => ∃ E, some (P_ B 0) = some E /\ 0 ≤ l /\ l < (↑f.toNat : Int) /\ hcan Z (E.add (l.toNat * 32)) 32 /\ ∀ aa, aa = hwr Z (E.add (l.toNat * 32)) (ints .u8 bp ++ []) -> C [.dv (.one (vi (IntKind.i64.wrap (l + 1))))] aa) q else ∃ ab ac ad, hc q k = some (.slice ab ac ad) /\ ∀ ae F, hnew q ae [.slice (some (P_ B 0)) f.toNat f.toNat] F -> ∃ (af : List Value), hsv F (some (P_ ae 0)) 1 1 af /\ pApp F 1 [.slice none 0 0] 24 ab ac ad 1 af fun bq br bs ag => hcan ag k 1 /\ ∀ ah, ah = hwr ag k [.slice bq br bs] -> z [.dv (.one (vi (IntKind.i64.wrap (A + 1))))] ah) -> C [.dv (.one (vi l))] q) -> C [.dv (.one (vi 0))] X else ∃ ai aj ak, hc g k = some (.slice ai aj ak) /\ ∃ al am an, hc g (k.add 1) = some (.slice al am an) /\ ∃ ao ap aq, hc g (k.add 2) = some (.slice ao ap aq) /\ hcan g (P_ o 0) 3 /\ ∀ r, r = hwr g (P_ o 0) [.slice ai aj ak, .slice al am an, .slice ao ap aq] -> ∃ ar au av, hc r (P_ o 0) = some (.slice ar au av) /\ ∃ aw ax ay, hc r (P_ o 1) = some (.slice aw ax ay) /\ ∃ az a0 a1, hc r (P_ o 2) = some (.slice az a0 a1) /\ Q ar au av aw ax ay az a0 a1 r) -> z [.dv (.one (vi A))] g) -> z [.dv (.one (vi 0))] U) -> j [SV.dv (DV.addr k)] U) -> ∃ a, hc i (P_ e 6) = some (vi a) /\ ∃ b, hc i (P_ e 1) = some (vi b) /\ ∃ c, hc i (P_ e 2) = some (vi c) /\ ∃ d, hc i (P_ e 4) = some (vi d) /\ (0 ≤ IntKind.i64.wrap (2 + IntKind.i64.wrap (2 * a)) /\ IntKind.i64.wrap (2 + IntKind.i64.wrap (2 * a)) ≤ IntKind.i64.wrap (2 + IntKind.i64.wrap (2 * a)) /\ (↑8 : Int) * IntKind.i64.wrap (2 + IntKind.i64.wrap (2 * a)) ≤ 2 ^ 48 /\ IntKind.i64.wrap (2 + IntKind.i64.wrap (2 * a)) ≤ 2 ^ 48 /\ ∀ G p, hnew i G (List.replicate (IntKind.i64.wrap (2 + IntKind.i64.wrap (2 * a))).toNat [vi 0]).flatten p -> hcs p (P_ e 4) [vi d] /\ hcs p (P_ e 2) [vi c] /\ hcs p (P_ e 1) [vi b] /\ (0 ≤ IntKind.i64.wrap (IntKind.i64.wrap (b * c) + d) /\ IntKind.i64.wrap (IntKind.i64.wrap (b * c) + d) ≤ IntKind.i64.wrap (IntKind.i64.wrap (b * c) + d) /\ (↑1 : Int) * IntKind.i64.wrap (IntKind.i64.wrap (b * c) + d) ≤ 2 ^ 48 /\ IntKind.i64.wrap (IntKind.i64.wrap (b * c) + d) ≤ 2 ^ 48 /\ ∀ a2 a3, hnew p a2 (List.replicate (IntKind.i64.wrap (IntKind.i64.wrap (b * c) + d)).toNat [.bool false]).flatten a3 -> ∀ u I, hnew a3 u [.slice none 0 0, .slice none 0 0, .slice none 0 0] I -> hcan I (P_ u 0) 3 /\ ∀ a4, a4 = hwr I (P_ u 0) [.slice none 0 0, .slice (some (P_ G 0)) (IntKind.i64.wrap (2 + IntKind.i64.wrap (2 * a))).toNat (IntKind.i64.wrap (2 + IntKind.i64.wrap (2 * a))).toNat, .slice (some (P_ a2 0)) (IntKind.i64.wrap (IntKind.i64.wrap (b * c) + d)).toNat (IntKind.i64.wrap (IntKind.i64.wrap (b * c) + d)).toNat] -> j [SV.dv (DV.addr (P_ u 0))] a4) /\ ∀ v s, hnew p v [.slice none 0 0, .slice none 0 0, .slice none 0 0] s -> hcs s (P_ e 4) [vi d] /\ hcs s (P_ e 2) [vi c] /\ hcs s (P_ e 1) [vi b] /\ 0 ≤ IntKind.i64.wrap (IntKind.i64.wrap (b * c) + d) /\ IntKind.i64.wrap (IntKind.i64.wrap (b * c) + d) ≤ IntKind.i64.wrap (IntKind.i64.wrap (b * c) + d) /\ (↑1 : Int) * IntKind.i64.wrap (IntKind.i64.wrap (b * c) + d) ≤ 2 ^ 48 /\ IntKind.i64.wrap (IntKind.i64.wrap (b * c) + d) ≤ 2 ^ 48 /\ ∀ a5 J, hnew s a5 (List.replicate (IntKind.i64.wrap (IntKind.i64.wrap (b * c) + d)).toNat [.bool false]).flatten J -> hcan J (P_ v 0) 3 /\ ∀ a6, a6 = hwr J (P_ v 0) [.slice none 0 0, .slice (some (P_ G 0)) (IntKind.i64.wrap (2 + IntKind.i64.wrap (2 * a))).toNat (IntKind.i64.wrap (2 + IntKind.i64.wrap (2 * a))).toNat, .slice (some (P_ a5 0)) (IntKind.i64.wrap (IntKind.i64.wrap (b * c) + d)).toNat (IntKind.i64.wrap (IntKind.i64.wrap (b * c) + d)).toNat] -> j [SV.dv (DV.addr (P_ v 0))] a6) /\ (0 ≤ IntKind.i64.wrap (IntKind.i64.wrap (b * c) + d) /\ IntKind.i64.wrap (IntKind.i64.wrap (b * c) + d) ≤ IntKind.i64.wrap (IntKind.i64.wrap (b * c) + d) /\ (↑1 : Int) * IntKind.i64.wrap (IntKind.i64.wrap (b * c) + d) ≤ 2 ^ 48 /\ IntKind.i64.wrap (IntKind.i64.wrap (b * c) + d) ≤ 2 ^ 48 /\ ∀ K w, hnew i K (List.replicate (IntKind.i64.wrap (IntKind.i64.wrap (b * c) + d)).toNat [.bool false]).flatten w -> hcs w (P_ e 6) [vi a] /\ (0 ≤ IntKind.i64.wrap (2 + IntKind.i64.wrap (2 * a)) /\ IntKind.i64.wrap (2 + IntKind.i64.wrap (2 * a)) ≤ IntKind.i64.wrap (2 + IntKind.i64.wrap (2 * a)) /\ (↑8 : Int) * IntKind.i64.wrap (2 + IntKind.i64.wrap (2 * a)) ≤ 2 ^ 48 /\ IntKind.i64.wrap (2 + IntKind.i64.wrap (2 * a)) ≤ 2 ^ 48 /\ ∀ a7 a8, hnew w a7 (List.replicate (IntKind.i64.wrap (2 + IntKind.i64.wrap (2 * a))).toNat [vi 0]).flatten a8 -> ∀ x L, hnew a8 x [.slice none 0 0, .slice none 0 0, .slice none 0 0] L -> hcan L (P_ x 0) 3 /\ ∀ a9, a9 = hwr L (P_ x 0) [.slice none 0 0, .slice (some (P_ a7 0)) (IntKind.i64.wrap (2 + IntKind.i64.wrap (2 * a))).toNat (IntKind.i64.wrap (2 + IntKind.i64.wrap (2 * a))).toNat, .slice (some (P_ K 0)) (IntKind.i64.wrap (IntKind.i64.wrap (b * c) + d)).toNat (IntKind.i64.wrap (IntKind.i64.wrap (b * c) + d)).toNat] -> j [SV.dv (DV.addr (P_ x 0))] a9) /\ ∀ y M, hnew w y [.slice none 0 0, .slice none 0 0, .slice none 0 0] M -> hcs M (P_ e 6) [vi a] /\ 0 ≤ IntKind.i64.wrap (2 + IntKind.i64.wrap (2 * a)) /\ IntKind.i64.wrap (2 + IntKind.i64.wrap (2 * a)) ≤ IntKind.i64.wrap (2 + IntKind.i64.wrap (2 * a)) /\ (↑8 : Int) * IntKind.i64.wrap (2 + IntKind.i64.wrap (2 * a)) ≤ 2 ^ 48 /\ IntKind.i64.wrap (2 + IntKind.i64.wrap (2 * a)) ≤ 2 ^ 48 /\ ∀ ba N, hnew M ba (List.replicate (IntKind.i64.wrap (2 + IntKind.i64.wrap (2 * a))).toNat [vi 0]).flatten N -> hcan N (P_ y 0) 3 /\ ∀ bb, bb = hwr N (P_ y 0) [.slice none 0 0, .slice (some (P_ ba 0)) (IntKind.i64.wrap (2 + IntKind.i64.wrap (2 * a))).toNat (IntKind.i64.wrap (2 + IntKind.i64.wrap (2 * a))).toNat, .slice (some (P_ K 0)) (IntKind.i64.wrap (IntKind.i64.wrap (b * c) + d)).toNat (IntKind.i64.wrap (IntKind.i64.wrap (b * c) + d)).toNat] -> j [SV.dv (DV.addr (P_ y 0))] bb) /\ ∀ m n, hnew i m [.slice none 0 0, .slice none 0 0, .slice none 0 0] n -> hcs n (P_ e 4) [vi d] /\ hcs n (P_ e 2) [vi c] /\ hcs n (P_ e 1) [vi b] /\ hcs n (P_ e 6) [vi a] /\ (0 ≤ IntKind.i64.wrap (2 + IntKind.i64.wrap (2 * a)) /\ IntKind.i64.wrap (2 + IntKind.i64.wrap (2 * a)) ≤ IntKind.i64.wrap (2 + IntKind.i64.wrap (2 * a)) /\ (↑8 : Int) * IntKind.i64.wrap (2 + IntKind.i64.wrap (2 * a)) ≤ 2 ^ 48 /\ IntKind.i64.wrap (2 + IntKind.i64.wrap (2 * a)) ≤ 2 ^ 48 /\ ∀ bc t, hnew n bc (List.replicate (IntKind.i64.wrap (2 + IntKind.i64.wrap (2 * a))).toNat [vi 0]).flatten t -> hcs t (P_ e 4) [vi d] /\ hcs t (P_ e 2) [vi c] /\ hcs t (P_ e 1) [vi b] /\ 0 ≤ IntKind.i64.wrap (IntKind.i64.wrap (b * c) + d) /\ IntKind.i64.wrap (IntKind.i64.wrap (b * c) + d) ≤ IntKind.i64.wrap (IntKind.i64.wrap (b * c) + d) /\ (↑1 : Int) * IntKind.i64.wrap (IntKind.i64.wrap (b * c) + d) ≤ 2 ^ 48 /\ IntKind.i64.wrap (IntKind.i64.wrap (b * c) + d) ≤ 2 ^ 48 /\ ∀ bd O, hnew t bd (List.replicate (IntKind.i64.wrap (IntKind.i64.wrap (b * c) + d)).toNat [.bool false]).flatten O -> hcan O (P_ m 0) 3 /\ ∀ be, be = hwr O (P_ m 0) [.slice none 0 0, .slice (some (P_ bc 0)) (IntKind.i64.wrap (2 + IntKind.i64.wrap (2 * a))).toNat (IntKind.i64.wrap (2 + IntKind.i64.wrap (2 * a))).toNat, .slice (some (P_ bd 0)) (IntKind.i64.wrap (IntKind.i64.wrap (b * c) + d)).toNat (IntKind.i64.wrap (IntKind.i64.wrap (b * c) + d)).toNat] -> j [SV.dv (DV.addr (P_ m 0))] be) /\ 0 ≤ IntKind.i64.wrap (IntKind.i64.wrap (b * c) + d) /\ IntKind.i64.wrap (IntKind.i64.wrap (b * c) + d) ≤ IntKind.i64.wrap (IntKind.i64.wrap (b * c) + d) /\ (↑1 : Int) * IntKind.i64.wrap (IntKind.i64.wrap (b * c) + d) ≤ 2 ^ 48 /\ IntKind.i64.wrap (IntKind.i64.wrap (b * c) + d) ≤ 2 ^ 48 /\ ∀ bf P, hnew n bf (List.replicate (IntKind.i64.wrap (IntKind.i64.wrap (b * c) + d)).toNat [.bool false]).flatten P -> hcs P (P_ e 6) [vi a] /\ 0 ≤ IntKind.i64.wrap (2 + IntKind.i64.wrap (2 * a)) /\ IntKind.i64.wrap (2 + IntKind.i64.wrap (2 * a)) ≤ IntKind.i64.wrap (2 + IntKind.i64.wrap (2 * a)) /\ (↑8 : Int) * IntKind.i64.wrap (2 + IntKind.i64.wrap (2 * a)) ≤ 2 ^ 48 /\ IntKind.i64.wrap (2 + IntKind.i64.wrap (2 * a)) ≤ 2 ^ 48 /\ ∀ bg R, hnew P bg (List.replicate (IntKind.i64.wrap (2 + IntKind.i64.wrap (2 * a))).toNat [vi 0]).flatten R -> hcan R (P_ m 0) 3 /\ ∀ bh, bh = hwr R (P_ m 0) [.slice none 0 0, .slice (some (P_ bg 0)) (IntKind.i64.wrap (2 + IntKind.i64.wrap (2 * a))).toNat (IntKind.i64.wrap (2 + IntKind.i64.wrap (2 * a))).toNat, .slice (some (P_ bf 0)) (IntKind.i64.wrap (IntKind.i64.wrap (b * c) + d)).toNat (IntKind.i64.wrap (IntKind.i64.wrap (b * c) + d)).toNat] -> j [SV.dv (DV.addr (P_ m 0))] bh
theorem E_portcullisref04_fresh : ∀ c0 a0_0 a0_1 a0_2 a0_3 a0_4 a0_5 a0_6 Q h, G_portcullisref04_fresh c0 a0_0 a0_1 a0_2 a0_3 a0_4 a0_5 a0_6 Q h = Dbody PP [(204, W [] [.ag [.row .u8 32]] c0)] [(3, [(3, .addr)]), (58, [(4, .sc (.int .i64))]), (14922, [(6, .sc (.int .i64))])] Tryz.f130 [.agg [.c (.int .i64 a0_0), .c (.int .i64 a0_1), .c (.int .i64 a0_2), .c (.int .i64 a0_3), .c (.int .i64 a0_4), .c (.int .i64 a0_5), .c (.int .i64 a0_6)]] (decR [.ag [.slc, .slc, .slc]] Q) h := by intros; kernel_rfl
def F_portcullisref04_fresh := G_portcullisref04_fresh F_portcullisref04_Blank
theorem R_portcullisref04_fresh : RunOk PP 130 (W [.ag [Si, Si, Si, Si, Si, Si, Si]] [.ag [.slc, .slc, .slc]] F_portcullisref04_fresh) := runOk_of (tc R_portcullisref04_Blank (tn)) Tryz.func130 (by kernel_rfl) (by kernel_rfl) (E_portcullisref04_fresh _)
attribute [irreducible] F_portcullisref04_fresh
def G_portcullisref04_New (c0 : Int -> Int -> Int -> Int -> Int -> Int -> Int -> (Int -> H -> Prop) -> H -> Prop) (c1 : Int -> Int -> Int -> Int -> Int -> Int -> Int -> (OA -> Nat -> Nat -> OA -> Nat -> Nat -> OA -> Nat -> Nat -> H -> Prop) -> H -> Prop) (E : Int) (F : Int) (G : Int) (I : Int) (J : Int) (K : Int) (L : Int) (Q : OA -> Int -> H -> Prop) (h : H) : Prop := ∀ a c, hnew h a [vi E, vi F, vi G, vi I, vi J, vi K, vi L] c -> ∃ l, hc c (P_ a 0) = some (vi l) /\ ∃ m, hc c (P_ a 1) = some (vi m) /\ ∃ n, hc c (P_ a 2) = some (vi n) /\ ∃ o, hc c (P_ a 3) = some (vi o) /\ ∃ p, hc c (P_ a 4) = some (vi p) /\ ∃ q, hc c (P_ a 5) = some (vi q) /\ ∃ r, hc c (P_ a 6) = some (vi r) /\ c0 l m n o p q r (fun s b => if s != 0 then Q none s b else ∃ d, hc b (P_ a 0) = some (vi d) /\ ∃ e, hc b (P_ a 1) = some (vi e) /\ ∃ f, hc b (P_ a 2) = some (vi f) /\ ∃ g, hc b (P_ a 3) = some (vi g) /\ ∃ i, hc b (P_ a 4) = some (vi i) /\ ∃ j, hc b (P_ a 5) = some (vi j) /\ ∃ k, hc b (P_ a 6) = some (vi k) /\ ∃ t, hc b (P_ a 0) = some (vi t) /\ ∃ u, hc b (P_ a 1) = some (vi u) /\ ∃ v, hc b (P_ a 2) = some (vi v) /\ ∃ w, hc b (P_ a 3) = some (vi w) /\ ∃ x, hc b (P_ a 4) = some (vi x) /\ ∃ y, hc b (P_ a 5) = some (vi y) /\ ∃ z, hc b (P_ a 6) = some (vi z) /\ c1 t u v w x y z (fun M N O P R T U V X A => hcs A (P_ a 0) [vi d, vi e, vi f, vi g, vi i, vi j, vi k] /\ ∀ B C, hnew A B [vi d, vi e, vi f, vi g, vi i, vi j, vi k, .slice M N O, .slice P R T, .slice U V X, vi 0, .bool false, vi (-1), .slice none 0 0] C -> Q (some (P_ B 0)) 0 C) b) c
theorem E_portcullisref04_New : ∀ c0 c1 a0_0 a0_1 a0_2 a0_3 a0_4 a0_5 a0_6 Q h, G_portcullisref04_New c0 c1 a0_0 a0_1 a0_2 a0_3 a0_4 a0_5 a0_6 Q h = Dbody PP [(23, W [.ag [Si, Si, Si, Si, Si, Si, Si]] [Ti] c0), (130, W [.ag [Si, Si, Si, Si, Si, Si, Si]] [.ag [.slc, .slc, .slc]] c1)] [] Tryz.f50 [.agg [.c (.int .i64 a0_0), .c (.int .i64 a0_1), .c (.int .i64 a0_2), .c (.int .i64 a0_3), .c (.int .i64 a0_4), .c (.int .i64 a0_5), .c (.int .i64 a0_6)]] (decR [.ptr, Ti] Q) h := by intros; kernel_rfl
def F_portcullisref04_New := G_portcullisref04_New F_portcullisref04_May F_portcullisref04_fresh
theorem R_portcullisref04_New : RunOk PP 50 (W [.ag [Si, Si, Si, Si, Si, Si, Si]] [.ptr, Ti] F_portcullisref04_New) := runOk_of (tc R_portcullisref04_May (tc R_portcullisref04_fresh (tn))) Tryz.func50 (by kernel_rfl) (by kernel_rfl) (E_portcullisref04_New _ _)
attribute [irreducible] F_portcullisref04_New
def G_keys_Ring_Has (e : Addr) (f : Int) (Q : Bool -> H -> Prop) (h : H) : Prop := ∃ (a : Option Nat), hc h e = some (.map a) /\ ∃ (b : List (Value × DV)), ∃ (c : DV), ∃ (d : Bool), hmapO h a b /\ mlook (vi f) (DV.one (.slice none 0 0)) b = some (c, d) /\ ∃ (g : OA), ∃ (i : Nat), ∃ (j : Nat), c = DV.one (.slice g i j) /\ Q d h
theorem E_keys_Ring_Has : ∀ a0 a1 Q h, G_keys_Ring_Has a0 a1 Q h = Dbody PP [] [] Tryz.f73 [.addr a0, .one (.int .i64 a1)] (decR [.bool] Q) h := by intros; kernel_rfl
def F_keys_Ring_Has := G_keys_Ring_Has
theorem R_keys_Ring_Has : RunOk PP 73 (W [.addr, Ti] [.bool] F_keys_Ring_Has) := runOk_of (tn) Tryz.func73 (by kernel_rfl) (by kernel_rfl) (E_keys_Ring_Has)
attribute [irreducible] F_keys_Ring_Has
def G_slices_Clone_byte_byte (b : OA) (c : Nat) (k : Nat) (Q : OA -> Nat -> Nat -> H -> Prop) (h : H) : Prop := if b.isNone = true then Q none 0 0 h else ∀ d a, hnew h d [] a -> ∃ (e : List Value), hsv a b 1 c e /\ pApp a 1 [.int .u8 0] 1 (some (P_ d 0)) 0 0 c e fun f g i j => Q f g i j
theorem E_slices_Clone_byte_byte : ∀ a0p a0l a0c Q h, G_slices_Clone_byte_byte a0p a0l a0c Q h = Dbody PP [] [] Tryz.f118 [.one (.slice a0p a0l a0c)] (decR [.slc] Q) h := by intros; kernel_rfl
def F_slices_Clone_byte_byte := G_slices_Clone_byte_byte
theorem R_slices_Clone_byte_byte : RunOk PP 118 (W [.slc] [.slc] F_slices_Clone_byte_byte) := runOk_of (tn) Tryz.func118 (by kernel_rfl) (by kernel_rfl) (E_slices_Clone_byte_byte)
attribute [irreducible] F_slices_Clone_byte_byte
def G_keys_New (c0 : Addr -> Int -> (Bool -> H -> Prop) -> H -> Prop) (c1 : OA -> Nat -> Nat -> (OA -> Nat -> Nat -> H -> Prop) -> H -> Prop) (M : OA) (j : Nat) (Y : Nat) (Q : OA -> Int -> Int -> H -> Prop) (h : H) : Prop := if ltI 64 j then Q none 3 64 h else ∀ (r : Nat) (s : H), hmnew h r s -> ∀ d t, hnew s d [.map (some r)] t -> ∀ (k : JT), (∀ (a : Int) (e : H), (if ltI a j then ∃ l, M = some l /\ 0 ≤ a /\ a < j /\ ∃ u, hc e (l.add (a.toNat * 2)) = some (vi u) /\ ∃ v w x, hc e ((l.add (a.toNat * 2)).add 1) = some (.slice v w x) /\ ∀ b m, hnew e b [vi 0, .slice none 0 0] m -> hcan m (P_ b 0) 2 /\ ∀ f, f = hwr m (P_ b 0) [vi u, .slice v w x] -> ∀ (n : JT), (∀ (y : Bool) (c : H), (if y then Q none 2 a c else ∃ N z O, hc c (P_ b 1) = some (.slice N z O) /\ if ltI (↑z : Int) 1 then Q none 4 a c else ∃ P A R, hc c (P_ b 1) = some (.slice P A R) /\ if ltI 256 A then Q none 4 a c else ∃ B, hc c (P_ b 0) = some (vi B) /\ c0 (P_ d 0) B (fun T g => if T then Q none 18 a g else ∃ (o : Option Nat), hc g (P_ d 0) = some (.map o) /\ ∃ p, hc g (P_ b 0) = some (vi p) /\ ∃ C E F, hc g (P_ b 1) = some (.slice C E F) /\ c1 C E F (fun U V X i => hcs i (P_ b 0) [vi p] /\ hcs i (P_ d 0) [.map o] /\ ∃ (q : Nat), ∃ (G : List (Value × DV)), ∃ (I : List (Value × DV)), o = some q /\ hmap i q G /\ mins (vi p) (DV.one (.slice U V X)) G = some I /\ ∀ (J : H), hmset i q I J -> k [.dv (.one (vi (IntKind.i64.wrap (a + 1))))] J) g) c) -> n [.dv (.one (.bool y))] c) -> ∃ K, hc f (P_ b 0) = some (vi K) /\ if ltI K 0 then n [.dv (.one (.bool true))] f else ∃ L, hc f (P_ b 0) = some (vi L) /\ n [.dv (.one (.bool (leI 64 L)))] f else Q (some (P_ d 0)) 0 0 e) -> k [.dv (.one (vi a))] e) -> k [.dv (.one (vi 0))] t
theorem E_keys_New : ∀ c0 c1 a0p a0l a0c Q h, G_keys_New c0 c1 a0p a0l a0c Q h = Dbody PP [(73, W [.addr, Ti] [.bool] c0), (118, W [.slc] [.slc] c1)] [(122, [(16, .sc (.int .i64))]), (31332, [(21, .sc (.bool))])] Tryz.f59 [.one (.slice a0p a0l a0c)] (decR [.ptr, Ti, Ti] Q) h := by intros; kernel_rfl
def F_keys_New := G_keys_New F_keys_Ring_Has F_slices_Clone_byte_byte
theorem R_keys_New : RunOk PP 59 (W [.slc] [.ptr, Ti, Ti] F_keys_New) := runOk_of (tc R_keys_Ring_Has (tc R_slices_Clone_byte_byte (tn))) Tryz.func59 (by kernel_rfl) (by kernel_rfl) (E_keys_New _ _)
attribute [irreducible] F_keys_New
def G_chip_Chip_Out (b : Addr) (Q : Bool -> H -> Prop) (h : H) : Prop := ∃ a, hc h (b.add 11) = some (.bool a) /\ Q a h
theorem E_chip_Chip_Out : ∀ a0 Q h, G_chip_Chip_Out a0 Q h = Dbody PP [] [] Tryz.f42 [.addr a0] (decR [.bool] Q) h := by intros; kernel_rfl
def F_chip_Chip_Out := G_chip_Chip_Out
theorem R_chip_Chip_Out : RunOk PP 42 (W [.addr] [.bool] F_chip_Chip_Out) := runOk_of (tn) Tryz.func42 (by kernel_rfl) (by kernel_rfl) (E_chip_Chip_Out)
attribute [irreducible] F_chip_Chip_Out
def G_log_Mount (c0 : Addr -> (Bool -> H -> Prop) -> H -> Prop) (a : Addr) (Q : OA -> Int -> H -> Prop) (h : H) : Prop := c0 a (fun e b => if e then Q none 8 b else ∀ c d, hnew b c [.pointer (some a)] d -> Q (some (P_ c 0)) 0 d) h
theorem E_log_Mount : ∀ c0 a0 Q h, G_log_Mount c0 a0 Q h = Dbody PP [(42, W [.addr] [.bool] c0)] [] Tryz.f142 [.addr a0] (decR [.ptr, Ti] Q) h := by intros; kernel_rfl
def F_log_Mount := G_log_Mount F_chip_Chip_Out
theorem R_log_Mount : RunOk PP 142 (W [.addr] [.ptr, Ti] F_log_Mount) := runOk_of (tc R_chip_Chip_Out (tn)) Tryz.func142 (by kernel_rfl) (by kernel_rfl) (E_log_Mount _)
attribute [irreducible] F_log_Mount
def G_store_Mount (c0 : Addr -> (OA -> Int -> H -> Prop) -> H -> Prop) (a : Addr) (Q : OA -> Int -> H -> Prop) (h : H) : Prop := c0 a (fun f b c => if b != 0 then Q none b c else ∀ d e, hnew c d [.pointer (some a), .pointer f] e -> Q (some (P_ d 0)) 0 e) h
theorem E_store_Mount : ∀ c0 a0 Q h, G_store_Mount c0 a0 Q h = Dbody PP [(142, W [.addr] [.ptr, Ti] c0)] [] Tryz.f60 [.addr a0] (decR [.ptr, Ti] Q) h := by intros; kernel_rfl
def F_store_Mount := G_store_Mount F_log_Mount
theorem R_store_Mount : RunOk PP 60 (W [.addr] [.ptr, Ti] F_store_Mount) := runOk_of (tc R_log_Mount (tn)) Tryz.func60 (by kernel_rfl) (by kernel_rfl) (E_store_Mount _)
attribute [irreducible] F_store_Mount
def G_sha_start (Q : List Int -> H -> Prop) (h : H) : Prop := ∀ a b, hnew h a (ints .u32 (zeros 8)) b -> hcan b (P_ a 0) 8 /\ ∀ c, c = hwr b (P_ a 0) (ints .u32 [1779033703, 3144134277, 1013904242, 2773480762, 1359893119, 2600822924, 528734635, 1541459225]) -> ∃ (d : List Int), d.length = 8 /\ hrow c (P_ a 0) .u32 d /\ Q d c
theorem E_sha_start : ∀ Q h, G_sha_start Q h = Dbody PP [] [] Tryz.f159 [] (decR [.ag [.row .u32 8]] Q) h := by intros; kernel_rfl
def F_sha_start := G_sha_start
theorem R_sha_start : RunOk PP 159 (W [] [.ag [.row .u32 8]] F_sha_start) := runOk_of (tn) Tryz.func159 (by kernel_rfl) (by kernel_rfl) (E_sha_start)
attribute [irreducible] F_sha_start
def G_sha_rounds (Q : List Int -> H -> Prop) (h : H) : Prop := ∀ a b, hnew h a (ints .u32 (zeros 64)) b -> hcan b (P_ a 0) 64 /\ ∀ c, c = hwr b (P_ a 0) (ints .u32 [1116352408, 1899447441, 3049323471, 3921009573, 961987163, 1508970993, 2453635748, 2870763221, 3624381080, 310598401, 607225278, 1426881987, 1925078388, 2162078206, 2614888103, 3248222580, 3835390401, 4022224774, 264347078, 604807628, 770255983, 1249150122, 1555081692, 1996064986, 2554220882, 2821834349, 2952996808, 3210313671, 3336571891, 3584528711, 113926993, 338241895, 666307205, 773529912, 1294757372, 1396182291, 1695183700, 1986661051, 2177026350, 2456956037, 2730485921, 2820302411, 3259730800, 3345764771, 3516065817, 3600352804, 4094571909, 275423344, 430227734, 506948616, 659060556, 883997877, 958139571, 1322822218, 1537002063, 1747873779, 1955562222, 2024104815, 2227730452, 2361852424, 2428436474, 2756734187, 3204031479, 3329325298]) -> ∃ (d : List Int), d.length = 64 /\ hrow c (P_ a 0) .u32 d /\ Q d c
theorem E_sha_rounds : ∀ Q h, G_sha_rounds Q h = Dbody PP [] [] Tryz.f160 [] (decR [.ag [.row .u32 64]] Q) h := by intros; kernel_rfl
def F_sha_rounds := G_sha_rounds
theorem R_sha_rounds : RunOk PP 160 (W [] [.ag [.row .u32 64]] F_sha_rounds) := runOk_of (tn) Tryz.func160 (by kernel_rfl) (by kernel_rfl) (E_sha_rounds)
attribute [irreducible] F_sha_rounds
def G_sha_New (c0 : (List Int -> H -> Prop) -> H -> Prop) (c1 : (List Int -> H -> Prop) -> H -> Prop) (Q : OA -> H -> Prop) (h : H) : Prop := c0 (fun c d => c1 (fun e f => ∀ a b, hnew f a (ints .u32 c ++ (ints .u8 (zeros 64) ++ .int .u64 0 :: (ints .u32 e ++ []))) b -> Q (some (P_ a 0)) b) d) h
theorem E_sha_New : ∀ c0 c1 Q h, G_sha_New c0 c1 Q h = Dbody PP [(159, W [] [.ag [.row .u32 8]] c0), (160, W [] [.ag [.row .u32 64]] c1)] [] Tryz.f86 [] (decR [.ptr] Q) h := by intros; kernel_rfl
def F_sha_New := G_sha_New F_sha_start F_sha_rounds
theorem R_sha_New : RunOk PP 86 (W [] [.ptr] F_sha_New) := runOk_of (tc R_sha_start (tc R_sha_rounds (tn))) Tryz.func86 (by kernel_rfl) (by kernel_rfl) (E_sha_New _ _)
attribute [irreducible] F_sha_New
def G_stream_New (c0 : (OA -> H -> Prop) -> H -> Prop) (c : Addr) (d : Addr) (Q : OA -> H -> Prop) (h : H) : Prop := c0 (fun e f => ∀ a b, hnew f a [.pointer (some c), .pointer (some d), .slice none 0 0, .pointer e] b -> Q (some (P_ a 0)) b) h
theorem E_stream_New : ∀ c0 a0 a1 Q h, G_stream_New c0 a0 a1 Q h = Dbody PP [(86, W [] [.ptr] c0)] [] Tryz.f61 [.addr a0, .addr a1] (decR [.ptr] Q) h := by intros; kernel_rfl
def F_stream_New := G_stream_New F_sha_New
theorem R_stream_New : RunOk PP 61 (W [.addr, .addr] [.ptr] F_stream_New) := runOk_of (tc R_sha_New (tn)) Tryz.func61 (by kernel_rfl) (by kernel_rfl) (E_stream_New _)
attribute [irreducible] F_stream_New
def G_portcullislaw26_begun (c0 : OA -> Nat -> Nat -> (OA -> Int -> Int -> H -> Prop) -> H -> Prop) (c1 : Int -> Int -> Int -> Int -> Int -> Int -> Int -> (OA -> Int -> H -> Prop) -> H -> Prop) (c2 : Int -> Int -> Int -> Int -> Int -> Int -> Int -> (OA -> Int -> H -> Prop) -> H -> Prop) (c3 : OA -> Nat -> Nat -> (OA -> Int -> Int -> H -> Prop) -> H -> Prop) (c4 : Addr -> (OA -> Int -> H -> Prop) -> H -> Prop) (c5 : Addr -> Addr -> (OA -> H -> Prop) -> H -> Prop) (ad : Int) (ae : Int) (af : Int) (ag : Int) (ah : Int) (ai : Int) (aj : Int) (p : OA) (q : Nat) (r : Nat) (Q : OA -> Bool -> H -> Prop) (h : H) : Prop := ∀ a s, hnew h a [vi ad, vi ae, vi af, vi ag, vi ah, vi ai, vi aj] s -> c0 p q r (fun k t au ak => c3 p q r (fun g al av b => if al != t then Q none false b else ∃ u, hc b (P_ a 0) = some (vi u) /\ ∃ v, hc b (P_ a 1) = some (vi v) /\ ∃ w, hc b (P_ a 2) = some (vi w) /\ ∃ x, hc b (P_ a 3) = some (vi x) /\ ∃ y, hc b (P_ a 4) = some (vi y) /\ ∃ z, hc b (P_ a 5) = some (vi z) /\ ∃ A, hc b (P_ a 6) = some (vi A) /\ c2 u v w x y z A (fun l B d => ∃ C, hc d (P_ a 0) = some (vi C) /\ ∃ E, hc d (P_ a 1) = some (vi E) /\ ∃ F, hc d (P_ a 2) = some (vi F) /\ ∃ G, hc d (P_ a 3) = some (vi G) /\ ∃ I, hc d (P_ a 4) = some (vi I) /\ ∃ J, hc d (P_ a 5) = some (vi J) /\ ∃ K, hc d (P_ a 6) = some (vi K) /\ c1 C E F G I J K (fun m am i => if B != am then Q none false i else ∀ (L : JT), (∀ (M : H), (∃ N, m = some N /\ c4 N (fun j an e => ∀ (O : JT), (∀ (P : H), (∀ c R, hnew P c [.pointer m, .pointer j, .pointer g, .pointer l, .pointer k, .pointer none, .pointer none, .pointer none, .pointer none] R -> ∃ T, j = some T /\ ∃ U, g = some U /\ c5 T U (fun ao ap => ∀ V n, hnew ap V [.pointer l, .pointer k, .slice none 0 0] n -> hcan n (P_ c 5) 2 /\ ∀ X, X = hwr n (P_ c 5) [.pointer ao, .pointer (some (P_ V 0))] -> ∃ Y, j = some Y /\ ∃ Z, g = some Z /\ c5 Y Z (fun aq ar => ∀ aa o, hnew ar aa [.pointer l, .pointer k, .slice none 0 0] o -> hcan o (P_ c 7) 2 /\ ∀ f, f = hwr o (P_ c 7) [.pointer aq, .pointer (some (P_ aa 0))] -> ∃ ab, hc f (P_ c 5) = some (.pointer ab) /\ if !ab.isNone then ∃ ac, hc f (P_ c 7) = some (.pointer ac) /\ Q (some (P_ c 0)) (!ac.isNone) f else Q (some (P_ c 0)) false f) X) R) -> O [] P) -> if g.isNone = true then Q none false e else if m.isNone = true then Q none false e else if j.isNone = true then Q none false e else if an != 0 then Q none false e else O [] e) M) -> L [] M) -> if t != 0 then Q none true i else if B != 0 then Q none true i else L [] i) d) b) ak) s
theorem E_portcullislaw26_begun : ∀ c0 c1 c2 c3 c4 c5 a0_0 a0_1 a0_2 a0_3 a0_4 a0_5 a0_6 a1p a1l a1c Q h, G_portcullislaw26_begun c0 c1 c2 c3 c4 c5 a0_0 a0_1 a0_2 a0_3 a0_4 a0_5 a0_6 a1p a1l a1c Q h = Dbody PP [(21, W [.slc] [.ptr, Ti, Ti] c0), (22, W [.ag [Si, Si, Si, Si, Si, Si, Si]] [.ptr, Ti] c1), (50, W [.ag [Si, Si, Si, Si, Si, Si, Si]] [.ptr, Ti] c2), (59, W [.slc] [.ptr, Ti, Ti] c3), (60, W [.addr] [.ptr, Ti] c4), (61, W [.addr, .addr] [.ptr] c5)] [(255, []), (1023, [])] Tryz.f10 [.agg [.c (.int .i64 a0_0), .c (.int .i64 a0_1), .c (.int .i64 a0_2), .c (.int .i64 a0_3), .c (.int .i64 a0_4), .c (.int .i64 a0_5), .c (.int .i64 a0_6)], .one (.slice a1p a1l a1c)] (decR [.ptr, .bool] Q) h := by intros; kernel_rfl
def F_portcullislaw26_begun := G_portcullislaw26_begun F_portcullisref12_New F_chip_New F_portcullisref04_New F_keys_New F_store_Mount F_stream_New
theorem R_portcullislaw26_begun : RunOk PP 10 (W [.ag [Si, Si, Si, Si, Si, Si, Si], .slc] [.ptr, .bool] F_portcullislaw26_begun) := runOk_of (tc R_portcullisref12_New (tc R_chip_New (tc R_portcullisref04_New (tc R_keys_New (tc R_store_Mount (tc R_stream_New (tn))))))) Tryz.func10 (by kernel_rfl) (by kernel_rfl) (E_portcullislaw26_begun _ _ _ _ _ _)
attribute [irreducible] F_portcullislaw26_begun
def G_chip_Chip_Config (d : Addr) (Q : Int -> Int -> Int -> Int -> Int -> Int -> Int -> H -> Prop) (h : H) : Prop := ∀ a b, hnew h a [vi 0, vi 0, vi 0, vi 0, vi 0, vi 0, vi 0] b -> ∃ e, hc b d = some (vi e) /\ ∃ f, hc b (d.add 1) = some (vi f) /\ ∃ g, hc b (d.add 2) = some (vi g) /\ ∃ i, hc b (d.add 3) = some (vi i) /\ ∃ j, hc b (d.add 4) = some (vi j) /\ ∃ k, hc b (d.add 5) = some (vi k) /\ ∃ l, hc b (d.add 6) = some (vi l) /\ hcan b (P_ a 0) 7 /\ ∀ c, c = hwr b (P_ a 0) [vi e, vi f, vi g, vi i, vi j, vi k, vi l] -> ∃ m, hc c (P_ a 0) = some (vi m) /\ ∃ n, hc c (P_ a 1) = some (vi n) /\ ∃ o, hc c (P_ a 2) = some (vi o) /\ ∃ p, hc c (P_ a 3) = some (vi p) /\ ∃ q, hc c (P_ a 4) = some (vi q) /\ ∃ r, hc c (P_ a 5) = some (vi r) /\ ∃ s, hc c (P_ a 6) = some (vi s) /\ Q m n o p q r s c
theorem E_chip_Chip_Config : ∀ a0 Q h, G_chip_Chip_Config a0 Q h = Dbody PP [] [] Tryz.f63 [.addr a0] (decR [.ag [Si, Si, Si, Si, Si, Si, Si]] Q) h := by intros; kernel_rfl
def F_chip_Chip_Config := G_chip_Chip_Config
theorem R_chip_Chip_Config : RunOk PP 63 (W [.addr] [.ag [Si, Si, Si, Si, Si, Si, Si]] F_chip_Chip_Config) := runOk_of (tn) Tryz.func63 (by kernel_rfl) (by kernel_rfl) (E_chip_Chip_Config)
attribute [irreducible] F_chip_Chip_Config
def G_chip_Chip_asked (c : Addr) (a : Int) (d : Int) (Q : Int -> H -> Prop) (h : H) : Prop := ∃ b, hc h (c.add 11) = some (.bool b) /\ if b then Q 8 h else if ltI a 0 then Q 2 h else if leI d a then Q 2 h else Q 0 h
theorem E_chip_Chip_asked : ∀ a0 a1 a2 Q h, G_chip_Chip_asked a0 a1 a2 Q h = Dbody PP [] [] Tryz.f222 [.addr a0, .one (.int .i64 a1), .one (.int .i64 a2)] (decR [Ti] Q) h := by intros; kernel_rfl
def F_chip_Chip_asked := G_chip_Chip_asked
theorem R_chip_Chip_asked : RunOk PP 222 (W [.addr, Ti, Ti] [Ti] F_chip_Chip_asked) := runOk_of (tn) Tryz.func222 (by kernel_rfl) (by kernel_rfl) (E_chip_Chip_asked)
attribute [irreducible] F_chip_Chip_asked
def G_chip_Chip_Erases (c0 : Addr -> Int -> Int -> (Int -> H -> Prop) -> H -> Prop) (c : Addr) (a : Int) (Q : Int -> Int -> H -> Prop) (h : H) : Prop := ∃ k d l, hc h (c.add 7) = some (.slice k d l) /\ c0 c a (↑d : Int) (fun e b => if e != 0 then Q 0 e b else ∃ f g m, hc b (c.add 8) = some (.slice f g m) /\ ∃ i, f = some i /\ 0 ≤ a /\ a < (↑g : Int) /\ ∃ j, hc b (i.add (a.toNat * 1)) = some (vi j) /\ Q j 0 b) h
theorem E_chip_Chip_Erases : ∀ c0 a0 a1 Q h, G_chip_Chip_Erases c0 a0 a1 Q h = Dbody PP [(222, W [.addr, Ti, Ti] [Ti] c0)] [] Tryz.f195 [.addr a0, .one (.int .i64 a1)] (decR [Ti, Ti] Q) h := by intros; kernel_rfl
def F_chip_Chip_Erases := G_chip_Chip_Erases F_chip_Chip_asked
theorem R_chip_Chip_Erases : RunOk PP 195 (W [.addr, Ti] [Ti, Ti] F_chip_Chip_Erases) := runOk_of (tc R_chip_Chip_asked (tn)) Tryz.func195 (by kernel_rfl) (by kernel_rfl) (E_chip_Chip_Erases _)
attribute [irreducible] F_chip_Chip_Erases
end Go.Proofs.YteedolonhdbieaaGreatDoor
end
