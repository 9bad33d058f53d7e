/- LoaderWhole and its parts, laid together by a program of ours: Fa0 Eac Eat Ean Eis Eir Ls0 Hp Hs Ls1 -/
import Derived.BigFrameIn
import Derived.LaidEql
import Derived.Lib.IfaceEq
import Derived.OwnWalkIn
import Derived.RangeFuncCalls
import Derived.RangeFuncLeaves
import Derived.RangeFuncNested
import Derived.RangeFuncRecord
import Derived.RowKitTokens
import Derived.Stop.Asserts
import Derived.TacticsIn
import Derived.TacticsInMore
import Derived.Test.YteedolonhdbieaaGreatDoorProg
import Derived.WalkKit
import Derived.Test.YteedolonhdbieaaGreatDoorK2
set_option autoImplicit false
set_option linter.all false
section
namespace Go.Proofs.YteedolonhdbieaaGreatDoor
open Go Go.Vc
set_option maxRecDepth 100000
abbrev rX:Nat:=65
abbrev rY:Nat:=67
abbrev rZ:Nat:=69
abbrev sA:Nat:=71
abbrev sB:Nat:=74
abbrev sC:Nat:=77
abbrev rV:Nat:=132
abbrev rW:Nat:=134
abbrev AhB:Nat:=191
abbrev rS:Nat:=266
abbrev rU:Nat:=267
noncomputable abbrev PP:Program:=Tryz.prog
end Go.Proofs.YteedolonhdbieaaGreatDoor
end
section
namespace Go.Proofs.YteedolonhdbieaaGreatDoor
open Go Go.RowKit Go.Extern.Stop Go.Stop Go.Extern
theorem AdH(t:Value)(w:World):
  Calls Tryz.prog 68 #[.nilIface,t] w fun e w'=>e=.returned (.bool false)/\w'=w:=by
 go_enter Tryz.func68,Tryz.ntmps68
 go_wp2
 go_ret
 exact⟨rfl,rfl⟩
theorem wZ(h : Value)(w : World) : (Go.method (524) 307 (.agg #[h]) "Kind").run Tryz.prog w = .ok (339, h) w := by kernel_rfl
theorem rlm(z:Sem Value)(f:TypeId->Addr->Nat->Nat->Sem Value)(v:Value):
  ReflectliteValue.method z f #[v]=(do match ←ReflectliteValue.parts v with | none=>z | some (t,a,fl)=>f t a fl (fl % 32)):=rfl
theorem wX(h : Value)(w : World) : (Go.method (524) 307 (.agg #[h]) "Elem").run Tryz.prog w = .ok (352, .agg #[h]) w := by kernel_rfl
theorem wY(h : Value)(w : World) : (Go.method (524) 307 (.agg #[h]) "Implements").run Tryz.prog w = .ok (353, .agg #[h]) w := by kernel_rfl
theorem wW(h : Value)(w : World) : (Go.method (524) 307 (.agg #[h]) "AssignableTo").run Tryz.prog w = .ok (350, .agg #[h]) w := by kernel_rfl
theorem w7(v:Value)(w:World):(ReflectliteType.typeOf #[.iface 162 v]).run Tryz.prog w=.ok (.iface 307 (.agg #[.pointer (some ⟨1,162,none⟩)])) w:=by kernel_rfl
theorem rls(v x:Value):ReflectliteValue.set #[v,x]=(do
  let (some (dst,a,fl),some (src,b,_)):=(←ReflectliteValue.parts v,←ReflectliteValue.parts x)
   | unsupported (.noEntry "extern/(internal/reflectlite.Value).Set.zeroValue")
  if fl / ReflectliteValue.flagAddr % 2 == 0 then unsupported (.noEntry "extern/(internal/reflectlite.Value).Set.unaddressable")
  let val ←loadVar src b
  if ←Rtype.directlyAssignable dst src then storeVar dst a val
  else if ←Rtype.implements dst src then
   if (←Rtype.kind src)==20 then
    match val with
    | .nilIface => unsupported (.noEntry "extern/reflectlite: a nil value of one interface type handed on as a value of another")
    | _=>storeVar dst a val
   else storeVar dst a (.iface src val)
  else panicString ("reflectlite.Set: value of type " ++ (← Rtype.spelt src) ++ " is not assignable to type " ++ (← Rtype.spelt dst))
  pure (.tuple #[])):=rfl
open Go.Vc
def GB:Value:=.iface 307 (.agg #[.pointer (some ⟨1,51,none⟩)])
theorem XD(h:H)(c:List Value)(t:TypeId):hnew h h.size c (h.push (.cells c.toArray t)):=⟨rfl,t,0,0,fun i _=>by omega,rfl⟩
end Go.Proofs.YteedolonhdbieaaGreatDoor
end
section
namespace Go.Proofs.YteedolonhdbieaaGreatDoor
open Go Go.RowKit Go.Extern.Stop Go.Stop Go.Extern
set_option maxRecDepth 100000
theorem yZ(t:Addr)(w:World):(ReflectliteValue.unpack (.iface 153 (.pointer (some t)))).run Tryz.prog w
  = .ok (.agg #[.pointer (some ⟨1,153,none⟩),.pointer (some ⟨w.heap.size,0,none⟩),.int .u64 150]) (w.alloc (.cells #[.pointer (some t)] 153)):=by kernel_rfl
theorem yX(a : Addr)(w : World) : (ReflectliteValue.methodAny (ReflectliteValue.valueError "reflectlite.Value.Type" 0) (fun t _ _ _ => ReflectliteType.toType t) #[.agg #[.pointer (some ⟨1, 153, none⟩), .pointer (some a), .int .u64 150]]).run Tryz.prog w
  = .ok (.iface 307 (.agg #[.pointer (some ⟨1,153,none⟩)])) w:=by kernel_rfl
theorem yR(w:World):((ReflectliteType.abiMethod fun t=>(fun a:Nat=>Value.int IntKind.u8 (a:Int)) <$> Rtype.kind t) #[.pointer (some ⟨1,153,none⟩)]).run Tryz.prog w=.ok (.int .u8 22) w:=by kernel_rfl
theorem yQ(w:World):((ReflectliteType.abiMethod fun t=>(fun a:Nat=>Value.int IntKind.u8 (a:Int)) <$> Rtype.kind t) #[.pointer (some ⟨1,31,none⟩)]).run Tryz.prog w=.ok (.int .u8 2) w:=by kernel_rfl
theorem lU(a:Addr)(w:World):(ReflectliteValue.parts (.agg #[.pointer (some ⟨1,153,none⟩),.pointer (some a),.int .u64 150])).run Tryz.prog w=.ok (some (153,a,150)) w:=by kernel_rfl
theorem yP(a p:Addr)(W:World)(ha:W.cell? a=some (.pointer (some p))):
  (ReflectliteValue.method (ReflectliteValue.valueError "reflectlite.Value.IsNil" 0) ReflectliteValue.isNil #[.agg #[.pointer (some ⟨1, 153, none⟩), .pointer (some a), .int .u64 150]]).run Tryz.prog W = .ok (.bool false) W := by
 rw[rlm]
 simp only[Sem.run_bind,lU,Result.andThen]
 simp[ReflectliteValue.isNil,loadVar,isAgg,underlying,Tryz.underlying153,ha,Result.andThen]
theorem yK(w:World):(ReflectliteType.method ReflectliteType.elem #[.agg #[.pointer (some ⟨1,153,none⟩)]]).run Tryz.prog w=.ok (.iface 307 (.agg #[.pointer (some ⟨1,31,none⟩)])) w:=by kernel_rfl
theorem yO(w : World) : (ReflectliteType.relation "Implements" ReflectliteType.implements_ #[.agg #[.pointer (some ⟨1, 31, none⟩)], .iface 307 (.agg #[.pointer (some ⟨1, 51, none⟩)])]).run Tryz.prog w = .ok (.bool true) w := by kernel_rfl
theorem yI(w : World) : (ReflectliteType.relation "AssignableTo" ReflectliteType.assignableTo #[.agg #[.pointer (some ⟨1, 162, none⟩)], .iface 307 (.agg #[.pointer (some ⟨1, 31, none⟩)])]).run Tryz.prog w = .ok (.bool false) w := by kernel_rfl
theorem yY(v:Value)(w:World):(ReflectliteType.typeOf #[.iface 31 v]).run Tryz.prog w=.ok (.iface 307 (.agg #[.pointer (some ⟨1,31,none⟩)])) w:=by kernel_rfl
theorem yH(w : World) : (ReflectliteType.relation "AssignableTo" ReflectliteType.assignableTo #[.agg #[.pointer (some ⟨1, 31, none⟩)], .iface 307 (.agg #[.pointer (some ⟨1, 31, none⟩)])]).run Tryz.prog w = .ok (.bool true) w := by kernel_rfl
theorem y8(n:Int)(w:World):(ReflectliteValue.unpack (.iface 31 (.int .i64 n))).run Tryz.prog w
  = .ok (.agg #[.pointer (some ⟨1,31,none⟩),.pointer (some ⟨w.heap.size,0,none⟩),.int .u64 130]) (w.alloc (.cells #[.int .i64 n] 31)):=by kernel_rfl
theorem yL(w:World):(Rtype.elem? 153).run Tryz.prog w=.ok (some 31) w:=by kernel_rfl
theorem Emk(p:Addr)(w:World):(ReflectliteValue.mk 31 p ReflectliteValue.flagAddr).run Tryz.prog w=.ok (.agg #[.pointer (some ⟨1,31,none⟩),.pointer (some p),.int .u64 386]) w:=by kernel_rfl
theorem yM(a p:Addr)(W:World)(ha:W.cell? a=some (.pointer (some p))):
  (ReflectliteValue.method (ReflectliteValue.valueError "reflectlite.Value.Elem" 0) ReflectliteValue.elem #[.agg #[.pointer (some ⟨1, 153, none⟩), .pointer (some a), .int .u64 150]]).run Tryz.prog W
   = .ok (.agg #[.pointer (some ⟨1,31,none⟩),.pointer (some p),.int .u64 386]) W:=by
 rw[rlm]
 simp only[Sem.run_bind,lU,Result.andThen]
 simp[ReflectliteValue.elem,loadVar,isAgg,underlying,Tryz.underlying153,ha,Result.andThen,yL,Emk]
theorem yU(a:Addr)(w:World):(ReflectliteValue.parts (.agg #[.pointer (some ⟨1,31,none⟩),.pointer (some a),.int .u64 386])).run Tryz.prog w=.ok (some (31,a,386)) w:=by kernel_rfl
theorem yV(a:Addr)(w:World):(ReflectliteValue.parts (.agg #[.pointer (some ⟨1,31,none⟩),.pointer (some a),.int .u64 130])).run Tryz.prog w=.ok (some (31,a,130)) w:=by kernel_rfl
theorem yJ(w:World):(Rtype.directlyAssignable 31 31).run Tryz.prog w=.ok true w:=by kernel_rfl
theorem yW(ta b:Addr)(n:Int)(old:Value)(W:World)(hb:W.cell? b=some (.int .i64 n))(ht:W.cell? ta=some old)(hf:W.frozen? ta=false):
  (ReflectliteValue.set #[.agg #[.pointer (some ⟨1,31,none⟩),.pointer (some ta),.int .u64 386],.agg #[.pointer (some ⟨1,31,none⟩),.pointer (some b),.int .u64 130]]).run Tryz.prog W
   = .ok (.tuple #[]) (W.setCell ta (.int .i64 n)):=by
 rw[rls]
 simp only[Sem.run_bind,yU,yV,Result.andThen]
 simp[ReflectliteValue.flagAddr,loadVar,isAgg,underlying,Tryz.underlying31,hb,Result.andThen,yJ,storeVar,Value.cells,storeCells,Addr.add]
 rw[run_store Tryz.prog W ta _ _ (by rfl)]
 simp[ht,hf]
theorem yT(v:Value)(xT:TypeId)(w:World):(Instr.typeAssert (.iface 162 v) xT 312 true).run Tryz.prog w=.ok (.tuple #[.nilIface,.bool false]) w:=run_typeAssert_lacksB Tryz.underlying312 (by kernel_rfl) (by kernel_rfl) v xT w
theorem yN(v:Value)(xT:TypeId)(w:World):(Instr.typeAssert (.iface 162 v) xT 315 true).run Tryz.prog w=.ok (.tuple #[.iface 162 v,.bool true]) w:=run_typeAssert_hasB Tryz.underlying315 (by kernel_rfl) v xT w
theorem yS(v : Value)(w : World) : (Go.method (524) 162 v "Unwrap").run Tryz.prog w = .ok (345, v) w := by kernel_rfl
set_option maxHeartbeats 4000000 in
theorem AdG(e t:Addr)(n:Int)(old:Value)(w:World)(hg:w.cell? ⟨0,0,none⟩=some (.iface 307 (.agg #[.pointer (some ⟨1,51,none⟩)])))(ht0:w.cell? t=some old)(hf0:w.frozen? t=false)(he:w.cell? e=some (.int .i64 n)):
  Calls Tryz.prog 68 #[.iface 162 (.pointer (some e)),.iface 153 (.pointer (some t))] w fun ev w'=>ev=.returned (.bool true)/\w'=((((w.alloc (.cells #[.pointer (some t)] 153)).alloc (.cells #[.pointer (some ⟨1,153,none⟩),.pointer (some ⟨w.heap.size,0,none⟩),.int .u64 150] 229)).alloc (.cells #[.pointer (some ⟨1,153,none⟩),.pointer (some ⟨w.heap.size,0,none⟩),.int .u64 150] 229)).alloc (.cells #[.int .i64 n] 31)).setCell t (.int .i64 n):=by
 have h6:=@run_callFunc_extern Tryz.prog 147 _ (fun args=>ReflectliteValue.unpack (args.getD 0 (.tuple #[]))) Tryz.func147 (by kernel_rfl) (by kernel_rfl) (by kernel_rfl) (by kernel_rfl)
 have h7 := @run_callFunc_extern Tryz.prog 148 _ (ReflectliteValue.methodAny (ReflectliteValue.valueError "reflectlite.Value.Type" 0) (fun t _ _ _ => ReflectliteType.toType t)) Tryz.func148 (by kernel_rfl) (by kernel_rfl) (by kernel_rfl) (by kernel_rfl)
 have h8 := @run_callFunc_extern Tryz.prog 149 _ (ReflectliteValue.method (ReflectliteValue.valueError "reflectlite.Value.IsNil" 0) ReflectliteValue.isNil) Tryz.func149 (by kernel_rfl) (by kernel_rfl) (by kernel_rfl) (by kernel_rfl)
 have h27:=@run_callFunc_extern Tryz.prog 339 _ (ReflectliteType.abiMethod fun t=>do pure (.int .u8 (←Rtype.kind t))) Tryz.func339 (by kernel_rfl) (by kernel_rfl) (by kernel_rfl) (by kernel_rfl)
 have h37:=@run_callFunc_extern Tryz.prog 352 _ (ReflectliteType.method ReflectliteType.elem) Tryz.func352 (by kernel_rfl) (by kernel_rfl) (by kernel_rfl) (by kernel_rfl)
 have h38 := @run_callFunc_extern Tryz.prog 353 _ (ReflectliteType.relation "Implements" ReflectliteType.implements_) Tryz.func353 (by kernel_rfl) (by kernel_rfl) (by kernel_rfl) (by kernel_rfl)
 have h10:=@run_callFunc_extern Tryz.prog 224 _ ReflectliteType.typeOf Tryz.func224 (by kernel_rfl) (by kernel_rfl) (by kernel_rfl) (by kernel_rfl)
 have h35 := @run_callFunc_extern Tryz.prog 350 _ (ReflectliteType.relation "AssignableTo" ReflectliteType.assignableTo) Tryz.func350 (by kernel_rfl) (by kernel_rfl) (by kernel_rfl) (by kernel_rfl)
 have h11 := @run_callFunc_extern Tryz.prog 225 _ (ReflectliteValue.method (ReflectliteValue.valueError "reflectlite.Value.Elem" 0) ReflectliteValue.elem) Tryz.func225 (by kernel_rfl) (by kernel_rfl) (by kernel_rfl) (by kernel_rfl)
 have h12:=@run_callFunc_extern Tryz.prog 226 _ ReflectliteValue.set Tryz.func226 (by kernel_rfl) (by kernel_rfl) (by kernel_rfl) (by kernel_rfl)
 have tO:=w7
 have mA:=wW
 have a25:=yI
 have f6:=yZ
 have f7:=yX
 have mK:=wZ
 have mE:=wX
 have mI:=wY
 have k27:=yR
 have k25:=yQ
 have e27:=yK
 have i25:=yO
 have aE:=yH
 have tE:=yY
 have vE:=y8
 have nA:=yT
 have hU:=yN
 have mU:=yS
 have n8:=yP ⟨w.heap.size,0,none⟩ t ((w.alloc (.cells #[.pointer (some t)] 153)).alloc (.cells #[.pointer (some ⟨1,153,none⟩),.pointer (some ⟨w.heap.size,0,none⟩),.int .u64 150] 229)) (by simp)
 have hlt:0<w.heap.size:=by
  rcases Nat.eq_zero_or_pos w.heap.size with h0 | h
  ·simp[World.cell?,h0]at hg
  ·exact h
 have hg2:((w.alloc (.cells #[.pointer (some t)] 153)).alloc (.cells #[.pointer (some ⟨1,153,none⟩),.pointer (some ⟨w.heap.size,0,none⟩),.int .u64 150] 229)).cell? ⟨0,0,none⟩=some (.iface 307 (.agg #[.pointer (some ⟨1,51,none⟩)])):=by
  rw[World.cell?_alloc_lt _ _ ⟨0,0,none⟩ (by simp),World.cell?_alloc_lt _ _ ⟨0,0,none⟩ hlt];exact hg
 have htl:t.block<w.heap.size:=by
  rcases Nat.lt_or_ge t.block w.heap.size with h | h
  ·exact h
  ·simp[World.cell?,Array.getElem?_eq_none h]at ht0
 have hel:e.block<w.heap.size:=by
  rcases Nat.lt_or_ge e.block w.heap.size with h | h
  ·exact h
  ·simp[World.cell?,Array.getElem?_eq_none h]at he
 have he3:(((w.alloc (.cells #[.pointer (some t)] 153)).alloc (.cells #[.pointer (some ⟨1,153,none⟩),.pointer (some ⟨w.heap.size,0,none⟩),.int .u64 150] 229)).alloc (.cells #[.pointer (some ⟨1,153,none⟩),.pointer (some ⟨w.heap.size,0,none⟩),.int .u64 150] 229)).cell? e=some (.int .i64 n):=by
  rw[World.cell?_alloc_lt _ _ e (by simp;omega),World.cell?_alloc_lt _ _ e (by simp;omega),World.cell?_alloc_lt _ _ e hel];exact he
 have el:=yM ⟨w.heap.size,0,none⟩ t (((w.alloc (.cells #[.pointer (some t)] 153)).alloc (.cells #[.pointer (some ⟨1,153,none⟩),.pointer (some ⟨w.heap.size,0,none⟩),.int .u64 150] 229)).alloc (.cells #[.pointer (some ⟨1,153,none⟩),.pointer (some ⟨w.heap.size,0,none⟩),.int .u64 150] 229)) (by rw[World.cell?_alloc_lt _ _ ⟨w.heap.size,0,none⟩ (by simp;omega)];simp)
 have st:=yW t ⟨w.heap.size+1+1+1,0,none⟩ n old ((((w.alloc (.cells #[.pointer (some t)] 153)).alloc (.cells #[.pointer (some ⟨1,153,none⟩),.pointer (some ⟨w.heap.size,0,none⟩),.int .u64 150] 229)).alloc (.cells #[.pointer (some ⟨1,153,none⟩),.pointer (some ⟨w.heap.size,0,none⟩),.int .u64 150] 229)).alloc (.cells #[.int .i64 n] 31))
  (by rw[World.cell?_alloc_at _ _ _ _ (by simp)];rfl)
  (by rw[World.cell?_alloc_lt _ _ t (by simp;omega),World.cell?_alloc_lt _ _ t (by simp;omega),World.cell?_alloc_lt _ _ t (by simp;omega),World.cell?_alloc_lt _ _ t htl];exact ht0)
  (by rw[World.frozen?_alloc_old _ _ t (by simp;omega),World.frozen?_alloc_old _ _ t (by simp;omega),World.frozen?_alloc_old _ _ t (by simp;omega),World.frozen?_alloc_old _ _ t (Nat.ne_of_lt htl)];exact hf0)
 go_enter Tryz.func68,Tryz.ntmps68
 go_wp2
 refine wp_loop_rounds 2 ?_
 rw[rounds_succ]
 go_wp2
 rw[rounds_succ]
 go_wp2
 go_ret
 exact⟨rfl,rfl⟩
end Go.Proofs.YteedolonhdbieaaGreatDoor
end
section
namespace Go.Proofs.YteedolonhdbieaaGreatDoor
open Go Go.RowKit Go.Extern.Stop Go.Stop Go.Extern Go.Vc
def NQ(e t:Value)(Q:Bool->H->Prop)(h:H):Prop:=
 ((e=.nilIface/\Q false h) ∨
 ∃(x:Addr) (b o:Nat) (n:Int),e=.iface 162 (.pointer (some x))/\t=.iface 153 (.pointer (some ⟨b,o,none⟩))/\hc h ⟨0,0,none⟩=some GB/\(∃old,hc h ⟨b,o,none⟩=some old)/\hf h ⟨b,o,none⟩=false/\hc h x=some (.int .i64 n)/\
  ∀b1 h1,hnew h b1 [.pointer (some ⟨b,o,none⟩)] h1->∀b2 h2,hnew h1 b2 [.pointer (some ⟨1,153,none⟩),.pointer (some ⟨b1,0,none⟩),.int .u64 150] h2->∀b3 h3,hnew h2 b3 [.pointer (some ⟨1,153,none⟩),.pointer (some ⟨b1,0,none⟩),.int .u64 150] h3->
   ∀b4 h4,hnew h3 b4 [.int .i64 n] h4->∀h5,h5=hwr h4 ⟨b,o,none⟩ [.int .i64 n]->Q true h5) ∨
 False
theorem AaR:AE PP 68 (W [.fn,.fn] [.bool] NQ):=by
 intro args Q h hok hr
 have hcal:L8 PP 68=true:=by kernel_rfl
 have two:∃e t:Value,args.map DV.flat=[e,t]/\NQ e t (enR [.bool] Q) h:=by
  unfold W at hr
  match args,hr with
  | [.one e,.one t],hr=>exact⟨e,t,rfl,hr⟩
  | [.one e,.fnv t],hr=>exact⟨e,t,rfl,hr⟩
  | [.fnv e,.one t],hr=>exact⟨e,t,rfl,hr⟩
  | [.fnv e,.fnv t],hr=>exact⟨e,t,rfl,hr⟩
  | [],hr=>exact absurd hr id
  | [.one e],hr=>exact absurd hr id
  | [.fnv e],hr=>exact absurd hr id
 obtain⟨e,t,ha,hF⟩:=two
 rw[ha]
 refine⟨hcal,fun w hw=>?_⟩
 subst hw
 rcases hF with (⟨rfl,hq⟩ | ⟨x,b,o,n,rfl,rfl,hg,⟨old,ht⟩,hf0,he,hq⟩) | hF
 ·refine (AdH t w).mono fun e' w' he=>?_
  obtain⟨rfl,rfl⟩:=he
  exact⟨[.one (.bool false)],by intro y hy;simp at hy;subst hy;rfl,rfl,⟨rfl,rfl,rfl⟩,hq⟩
 ·refine (AdG x ⟨b,o,none⟩ n old w hg ht hf0 he).mono fun e' w' he=>?_
  obtain⟨rfl,rfl⟩:=he
  refine⟨[.one (.bool true)],by intro y hy;simp at hy;subst hy;rfl,rfl,⟨rfl,rfl,rfl⟩,?_⟩
  exact hq _ _ (XD w.heap _ 153) _ _ (XD _ _ 229) _ _ (XD _ _ 229) _ _ (XD _ _ 31) _ rfl
 ·exact hF.elim
attribute [irreducible] NQ
end Go.Proofs.YteedolonhdbieaaGreatDoor
end
section
namespace Go.Proofs.YteedolonhdbieaaGreatDoor
set_option maxRecDepth 100000
open Go Go.RowKit Go.Extern.Stop Go.Stop Go.Extern
end Go.Proofs.YteedolonhdbieaaGreatDoor
end
section
namespace Go.Proofs.YteedolonhdbieaaGreatDoor
open Go Go.RowKit Go.Extern.Stop Go.Stop Go.Extern Go.Vc
end Go.Proofs.YteedolonhdbieaaGreatDoor
end
section
namespace Go.Proofs.YteedolonhdbieaaGreatDoor
open Go Go.RowKit Go.Vc
set_option maxRecDepth 100000
noncomputable def cS:Code:=Tryz.f40.body.getD .skip
def sL:Code->Code | .seq a _=>a | c=>c
def sR:Code->Code | .seq _ b=>b | c=>c
def bB:Code->Code | .block _ b=>b | c=>c
def rA:Code->Code | .rangeFunc _ _ a _=>a | c=>c
def rB:Code->Code | .rangeFunc _ _ _ b=>b | c=>c
abbrev imT:Ty:=.ag [.int .i64,.int .i64,.int .i64,.slc,.row .u8 32]
noncomputable def RND(c_holds:Addr->Int->(Int->Int->Int->Option Addr->Nat->Nat->List Int->Bool->H->Prop)->H->Prop)(a1 a2 a3 a4:Addr)(x:Int)(N R:H->Prop)(h:H):Prop:=
 D Tryz.prog [(120,W [.addr,.int .i64] [imT,.bool] c_holds)] [] (rB (bB (sR (sL (sR (sR (sR cS))))))) 1 (fun e _ h'=>match e with | .normal=>N h' | .ret=>R h' | _=>False) [(7,.dv (.one (.int .i64 x))),(24,.dv (.one (.int .i64 x))),(1,.dv (.addr a1)),(2,.dv (.addr a2)),(3,.dv (.addr a3)),(4,.dv (.addr a4))] h
noncomputable def PI(a2 a3 a4:Addr)(Q:List DV->H->Prop)(h:H):Prop:=GM Tryz.prog Tryz.f40.results.toList [(2,.dv (.addr a2)),(3,.dv (.addr a3)),(4,.dv (.addr a4))] h fun xs=>Q xs h
noncomputable def T9(a2 a3 a4:Addr)(R:H->Prop)(h:H):Prop:=D Tryz.prog [] [] (sL (sR (sR (sR (sR cS))))) 1 (fun e _ h'=>match e with | .normal=>R h' | _=>False) [(2,.dv (.addr a2)),(3,.dv (.addr a3)),(4,.dv (.addr a4))] h
noncomputable def RET(a2 a3 a4:Addr)(Q:List DV->H->Prop)(dd l:Nat)(oD oB:Obj)(h:H):Prop:=C2 h dd oD/\C2 h l oB/\∀(oR oE oN:Obj) (hA:H),hA=A3 (A3 (A3 h l oR) l oE) dd oN->PI a2 a3 a4 Q hA
noncomputable def gG(c_holds:Addr->Int->(Int->Int->Int->Option Addr->Nat->Nat->List Int->Bool->H->Prop)->H->Prop)(s1 s2 s3 s4 s23:SV)(Q:List DV->H->Prop)(h:H):Prop:=
 match s1,s2,s3,s4,s23 with
 | .dv (.addr a1),.dv (.addr a2),.dv (.addr a3),.dv (.addr a4),.dv (.fnv v)=>∃(nb:Addr),v=Value.func (Fn.func 191) #[] #[.pointer (some nb)]/\∃(act:Int),hc h nb=some (.int .i64 act)/\
  ∀(oD oR oB:Obj) (hA:H),hA=A3 (EX (EX h oD) oR) (BE h+1) oB->RND c_holds a1 a2 a3 a4 (act.tmod 2)
   (fun h2=>C2 h2 (BE h) oD/\C2 h2 (BE h+1) oB/\∀(oR2 oB2:Obj) (hB:H),hB=A3 (A3 h2 (BE h+1) oR2) (BE h+1) oB2->RND c_holds a1 a2 a3 a4 (IntKind.i64.wrap (1-act.tmod 2))
    (fun h3=>C2 h3 (BE h) oD/\C2 h3 (BE h+1) oB2/\∀(oR3 oE:Obj) (hC:H),hC=A3 (A3 h3 (BE h+1) oR3) (BE h+1) oE->T9 a2 a3 a4 (fun h4=>C2 h4 (BE h) oD/\∀(oN:Obj) (hE:H),hE=A3 h4 (BE h) oN->PI a2 a3 a4 Q hE) hC)
    (RET a2 a3 a4 Q (BE h) (BE h+1) oD oB2) hB)
   (RET a2 a3 a4 Q (BE h) (BE h+1) oD oB) hA
 | _,_,_,_,_=>False
noncomputable def DD(c_act:Addr->(Int->Int->H->Prop)->H->Prop)(c_areas:Int->(Value->H->Prop)->H->Prop)(c_holds:Addr->Int->(Int->Int->Int->Option Addr->Nat->Nat->List Int->Bool->H->Prop)->H->Prop)(args:List DV)(Q:List DV->H->Prop)(h:H):Prop:=match args with
 | [_]=>D Tryz.prog [(66,W [.addr] [.int .i64,.int .i64] c_act),(119,W [.int .i64] [.fn] c_areas)] [] (sL cS) 1 (fun e fr h=>match e with
  | .normal=>D Tryz.prog [(66,W [.addr] [.int .i64,.int .i64] c_act),(119,W [.int .i64] [.fn] c_areas)] [] (sL (sR cS)) 1 (fun e fr h=>match e with
   | .normal=>D Tryz.prog [(66,W [.addr] [.int .i64,.int .i64] c_act),(119,W [.int .i64] [.fn] c_areas)] [] (sL (sR (sR cS))) 1 (fun e fr h=>match e with
    | .normal=>D Tryz.prog [(66,W [.addr] [.int .i64,.int .i64] c_act),(119,W [.int .i64] [.fn] c_areas)] [] (sL (sL (sR (sR (sR cS))))) 1 (fun e fr h=>match e with
     | .normal=>gG c_holds (get fr 1) (get fr 2) (get fr 3) (get fr 4) (get fr 23) Q h
     | _=>False) fr h
    | .ret=>GM Tryz.prog Tryz.f40.results.toList fr h fun xs=>Q xs h
    | _=>False) fr h
   | _=>False) fr h
  | _=>False) (KB 0 args) h
 | _=>False
def iX(c_act:Addr->(Int->Int->H->Prop)->H->Prop)(c_areas:Int->(Value->H->Prop)->H->Prop)(c_holds:Addr->Int->(Int->Int->Int->Option Addr->Nat->Nat->List Int->Bool->H->Prop)->H->Prop)(a:Addr)(Q:Int->Int->Int->Option Addr->Nat->Nat->List Int->Int->Int->H->Prop)(h:H):Prop:=
 ∀(n6:Nat) (h7:H),hnew h n6 [Value.pointer (some a)] h7->∀(n9:Nat) (h10:H),hnew h7 n9 (Value.int IntKind.i64 0::Value.int IntKind.i64 0 ::
 Value.int IntKind.i64 0::Value.slice none 0 0::AA IntKind.u8 (AB 32)) h10->∀(n12:Nat) (h13:H),hnew h10 n12 [Value.int IntKind.i64 0] h13
 -> ∀(n15:Nat) (h16:H),hnew h13 n15 [Value.int IntKind.i64 0] h16->∃(o18:Option Addr),hc h16 (Addr.mk n6 0 none)=some (Value.pointer o18)/\
 ∃(p19:Addr),o18=some p19/\∃(o20:Option Addr),hc h16 (p19.add 1)=some (Value.pointer o20)/\∃(p21:Addr),o20=some p21/\c_act p21 (fun
 (i22 i23:Int) (h24:H)=>if (i23 != 0)=true then AC h24 (Addr.mk n9 0 none) 36/\∀(h25:H),h25=hwr h24 (Addr.mk n9 0 none) (Value.int IntKind.i64
 0::Value.int IntKind.i64 0::Value.int IntKind.i64 0::Value.slice none 0 0::AA IntKind.u8 (AB 32))->AC h25 (Addr.mk n12 0 none) 1/\∀(h27
 : H),h27=hwr h25 (Addr.mk n12 0 none) [Value.int IntKind.i64 0]->AC h27 (Addr.mk n15 0 none) 1/\∀(h29:H),h29=hwr h27 (Addr.mk n15 0 none)
 [Value.int IntKind.i64 i23]->∃(i31:Int),hc h29 (Addr.mk n9 0 none)=some (Value.int IntKind.i64 i31)/\∃(i32:Int),hc h29 ((Addr.mk n9 0 none).add
 1)=some (Value.int IntKind.i64 i32)/\∃(i33:Int),hc h29 ((Addr.mk n9 0 none).add 2)=some (Value.int IntKind.i64 i33)/\∃(o34:Option Addr),∃
 (n35:Nat),∃(n36:Nat),hc h29 ((Addr.mk n9 0 none).add 3)=some (Value.slice o34 n35 n36)/\∃(l37:List Int),l37.length=32/\hrow h29 ((Addr.mk
 n9 0 none).add 4) IntKind.u8 l37/\∃(i38:Int),hc h29 (Addr.mk n12 0 none)=some (Value.int IntKind.i64 i38)/\∃(i39:Int),hc h29 (Addr.mk n15 0
 none)=some (Value.int IntKind.i64 i39)/\Q i31 i32 i33 o34 n35 n36 l37 i38 i39 h29 else c_areas i22 (fun(v40:Value) (h41:H)=>∃(p42:Addr),v40
 = Value.func (Fn.func 191) (Array.mk []) (Array.mk [Value.pointer (some p42)])/\∃(i43:Int),hc h41 p42=some (Value.int IntKind.i64
 i43)/\∀(x44 x45 x46:Obj) (h47:H),h47=A3 (EX (EX h41 x44) x45) (BE h41+1) x46->∃(o49:Option Addr),hc h47 (Addr.mk n6 0 none)
 = some (Value.pointer o49)/\∃(p50:Addr),o49=some p50/\c_holds p50 (i43.tmod 2) (fun(i51 i52 i53:Int) (o54:Option Addr) (n55 n56:Nat) (l57
 : List Int) (b58:Bool) (h59:H)=>∀(n60:Nat) (h61:H),hnew h59 n60 (Value.int IntKind.i64 0::Value.int IntKind.i64 0::Value.int IntKind.i64
 0::Value.slice none 0 0::AA IntKind.u8 (AB 32)) h61->AC h61 (Addr.mk n60 0 none) 36/\∀(h63:H),h63=hwr h61 (Addr.mk n60 0 none) (Value.int
 IntKind.i64 i51::Value.int IntKind.i64 i52::Value.int IntKind.i64 i53::Value.slice o54 n55 n56::(AA IntKind.u8 l57++[]))->if b58=true then
 ∃(i65:Int),hc h63 (Addr.mk n60 0 none)=some (Value.int IntKind.i64 i65)/\∃(i66:Int),hc h63 ((Addr.mk n60 0 none).add 1)=some (Value.int IntKind.i64
 i66)/\∃(i67:Int),hc h63 ((Addr.mk n60 0 none).add 2)=some (Value.int IntKind.i64 i67)/\∃(o68:Option Addr),∃(n69:Nat),∃(n70:Nat),hc
 h63 ((Addr.mk n60 0 none).add 3)=some (Value.slice o68 n69 n70)/\∃(l71:List Int),l71.length=32/\hrow h63 ((Addr.mk n60 0 none).add 4) IntKind.u8
 l71/\AC h63 (Addr.mk n9 0 none) 36/\∀(h72:H),h72=hwr h63 (Addr.mk n9 0 none) (Value.int IntKind.i64 i65::Value.int IntKind.i64 i66::Value.int
 IntKind.i64 i67::Value.slice o68 n69 n70::(AA IntKind.u8 l71++[]))->AC h72 (Addr.mk n12 0 none) 1/\∀(h74:H),h74=hwr h72 (Addr.mk n12
 0 none) [Value.int IntKind.i64 (i43.tmod 2)]->AC h74 (Addr.mk n15 0 none) 1/\∀(h76:H),h76=hwr h74 (Addr.mk n15 0 none) [Value.int IntKind.i64
 0]->C2 h76 (BE h41) x44/\C2 h76 (BE h41+1) x46/\∀(x78 x79 x80:Obj) (h81:H),h81=A3 (A3 (A3 h76 (BE h41+1) x78) (BE
 h41+1) x79) (BE h41) x80->∃(i83:Int),hc h81 (Addr.mk n9 0 none)=some (Value.int IntKind.i64 i83)/\∃(i84:Int),hc h81 ((Addr.mk n9 0 none).add
 1)=some (Value.int IntKind.i64 i84)/\∃(i85:Int),hc h81 ((Addr.mk n9 0 none).add 2)=some (Value.int IntKind.i64 i85)/\∃(o86:Option Addr),∃
 (n87:Nat),∃(n88:Nat),hc h81 ((Addr.mk n9 0 none).add 3)=some (Value.slice o86 n87 n88)/\∃(l89:List Int),l89.length=32/\hrow h81 ((Addr.mk
 n9 0 none).add 4) IntKind.u8 l89/\∃(i90:Int),hc h81 (Addr.mk n12 0 none)=some (Value.int IntKind.i64 i90)/\∃(i91:Int),hc h81 (Addr.mk n15 0
 none)=some (Value.int IntKind.i64 i91)/\Q i83 i84 i85 o86 n87 n88 l89 i90 i91 h81 else C2 h63 (BE h41) x44/\C2 h63 (BE h41+1) x46/\∀(x92
 x93:Obj) (h94:H),h94=A3 (A3 h63 (BE h41+1) x92) (BE h41+1) x93->∃(o96:Option Addr),hc h94 (Addr.mk n6 0 none)=some (Value.pointer
 o96)/\∃(p97:Addr),o96=some p97/\c_holds p97 (IntKind.i64.wrap (1-i43.tmod 2)) (fun(i98 i99 i100:Int) (o101:Option Addr) (n102 n103:Nat)
 (l104:List Int) (b105:Bool) (h106:H)=>∀(n107:Nat) (h108:H),hnew h106 n107 (Value.int IntKind.i64 0::Value.int IntKind.i64 0::Value.int
 IntKind.i64 0::Value.slice none 0 0::AA IntKind.u8 (AB 32)) h108->AC h108 (Addr.mk n107 0 none) 36/\∀(h110:H),h110=hwr h108 (Addr.mk
 n107 0 none) (Value.int IntKind.i64 i98::Value.int IntKind.i64 i99::Value.int IntKind.i64 i100::Value.slice o101 n102 n103::(AA IntKind.u8 l104
 ++ []))->if b105=true then ∃(i112:Int),hc h110 (Addr.mk n107 0 none)=some (Value.int IntKind.i64 i112)/\∃(i113:Int),hc h110 ((Addr.mk n107
 0 none).add 1)=some (Value.int IntKind.i64 i113)/\∃(i114:Int),hc h110 ((Addr.mk n107 0 none).add 2)=some (Value.int IntKind.i64 i114)/\∃(o115
 : Option Addr),∃(n116:Nat),∃(n117:Nat),hc h110 ((Addr.mk n107 0 none).add 3)=some (Value.slice o115 n116 n117)/\∃(l118:List Int),l118.length
 = 32/\hrow h110 ((Addr.mk n107 0 none).add 4) IntKind.u8 l118/\AC h110 (Addr.mk n9 0 none) 36/\∀(h119:H),h119=hwr h110 (Addr.mk n9 0 none) (Value.int
 IntKind.i64 i112::Value.int IntKind.i64 i113::Value.int IntKind.i64 i114::Value.slice o115 n116 n117::(AA IntKind.u8 l118++[]))->AC h119
 (Addr.mk n12 0 none) 1/\∀(h121:H),h121=hwr h119 (Addr.mk n12 0 none) [Value.int IntKind.i64 (IntKind.i64.wrap (1-i43.tmod 2))]->AC h121 (Addr.mk
 n15 0 none) 1/\∀(h123:H),h123=hwr h121 (Addr.mk n15 0 none) [Value.int IntKind.i64 0]->C2 h123 (BE h41) x44/\C2 h123 (BE h41+1) x93
 /\ ∀(x125 x126 x127:Obj) (h128:H),h128=A3 (A3 (A3 h123 (BE h41+1) x125) (BE h41+1) x126) (BE h41) x127->∃(i130:Int),hc h128
 (Addr.mk n9 0 none)=some (Value.int IntKind.i64 i130)/\∃(i131:Int),hc h128 ((Addr.mk n9 0 none).add 1)=some (Value.int IntKind.i64 i131)/\∃(i132
 : Int),hc h128 ((Addr.mk n9 0 none).add 2)=some (Value.int IntKind.i64 i132)/\∃(o133:Option Addr),∃(n134:Nat),∃(n135:Nat),hc h128 ((Addr.mk
 n9 0 none).add 3)=some (Value.slice o133 n134 n135)/\∃(l136:List Int),l136.length=32/\hrow h128 ((Addr.mk n9 0 none).add 4) IntKind.u8 l136/\
 ∃(i137:Int),hc h128 (Addr.mk n12 0 none)=some (Value.int IntKind.i64 i137)/\∃(i138:Int),hc h128 (Addr.mk n15 0 none)=some (Value.int IntKind.i64
 i138)/\Q i130 i131 i132 o133 n134 n135 l136 i137 i138 h128 else C2 h110 (BE h41) x44/\C2 h110 (BE h41+1) x93/\∀(x139 x140:Obj) (h141
 : H),h141=A3 (A3 h110 (BE h41+1) x139) (BE h41+1) x140->AC h141 (Addr.mk n9 0 none) 36/\∀(h143:H),h143=hwr h141 (Addr.mk n9
 0 none) (Value.int IntKind.i64 0::Value.int IntKind.i64 0::Value.int IntKind.i64 0::Value.slice none 0 0::AA IntKind.u8 (AB 32))->AC h143
 (Addr.mk n12 0 none) 1/\∀(h145:H),h145=hwr h143 (Addr.mk n12 0 none) [Value.int IntKind.i64 0]->AC h145 (Addr.mk n15 0 none) 1/\∀(h147:H),
 h147=hwr h145 (Addr.mk n15 0 none) [Value.int IntKind.i64 17]->C2 h147 (BE h41) x44/\∀(x149:Obj) (h150:H),h150=A3 h147 (BE h41) x149
 -> ∃(i152:Int),hc h150 (Addr.mk n9 0 none)=some (Value.int IntKind.i64 i152)/\∃(i153:Int),hc h150 ((Addr.mk n9 0 none).add 1)=some (Value.int
 IntKind.i64 i153)/\∃(i154:Int),hc h150 ((Addr.mk n9 0 none).add 2)=some (Value.int IntKind.i64 i154)/\∃(o155:Option Addr),∃(n156:Nat),∃
 (n157:Nat),hc h150 ((Addr.mk n9 0 none).add 3)=some (Value.slice o155 n156 n157)/\∃(l158:List Int),l158.length=32/\hrow h150 ((Addr.mk n9
 0 none).add 4) IntKind.u8 l158/\∃(i159:Int),hc h150 (Addr.mk n12 0 none)=some (Value.int IntKind.i64 i159)/\∃(i160:Int),hc h150 (Addr.mk n15
 0 none)=some (Value.int IntKind.i64 i160)/\Q i152 i153 i154 o155 n156 n157 l158 i159 i160 h150) h94) h47) h24) h16
theorem AfF(c_act:Addr->(Int->Int->H->Prop)->H->Prop)(c_areas:Int->(Value->H->Prop)->H->Prop)(c_holds:Addr->Int->(Int->Int->Int->Option Addr->Nat->Nat->List Int->Bool->H->Prop)->H->Prop):∀(a:Addr) (Q:Int->Int->Int->Option Addr->Nat->Nat->List Int->Int->Int->H->Prop) (h:H),iX c_act c_areas c_holds a Q h=DD c_act c_areas c_holds [.addr a] (PU [imT,.int .i64,.int .i64] Q) h:=by
 intros;kernel_rfl
end Go.Proofs.YteedolonhdbieaaGreatDoor
end
section
namespace Go.Vc
def Blk(h:H)(b:Nat)(vs:List Value):Prop:=
 ∃t lo n,h[b]?=some (.cells vs.toArray t (lo,lo+n))/\∀i,i<vs.length->¬(lo≤i/\i<lo+n)
abbrev at_(b o:Nat):Addr:=⟨b,o,none⟩
@[simp] theorem AI(b o n:Nat):(Addr.mk b o none).add n=Addr.mk b (o+n) none:=by
 unfold Addr.add;split
 ·rename_i h;subst h;rfl
 ·rfl
theorem Blk.lt{h:H}{b:Nat}{vs:List Value}(k:Blk h b vs):b<h.size:=by
 obtain⟨t,lo,hi,hb,_⟩:=k
 exact (Array.getElem?_eq_some_iff.1 hb).1
theorem Blk.of_eq{h h':H}{b:Nat}{vs:List Value}(k:Blk h b vs)(e:h'[b]?=h[b]?):Blk h' b vs:=by
 obtain⟨t,lo,hi,hb,hf⟩:=k
 exact⟨t,lo,hi,by rw[e];exact hb,hf⟩
theorem Blk.hc{h:H}{b:Nat}{vs:List Value}(k:Blk h b vs)(o:Nat):hc h ⟨b,o,none⟩=vs[o]?:=by
 obtain⟨t,lo,hi,hb,_⟩:=k
 simp[Vc.hc,hb]
theorem Blk.hf{h:H}{b:Nat}{vs:List Value}(k:Blk h b vs){o:Nat}(ho:o<vs.length):hf h ⟨b,o,none⟩=false:=by
 obtain⟨t,lo,hi,hb,hfz⟩:=k
 have:=hfz o ho
 simp only[Vc.hf,hb]
 simp only[Bool.and_eq_false_imp,decide_eq_true_eq,decide_eq_false_iff_not]
 intro h1 h2;exact this ⟨h1,h2⟩
theorem Blk.can{h:H}{b:Nat}{vs:List Value}(k:Blk h b vs){o n:Nat}(ho:o+n≤vs.length):AC h ⟨b,o,none⟩ n:=by
 intro i hi
 have hl:o+i<vs.length:=by omega
 rw[AI,k.hc,k.hf hl]
 simp[List.getElem?_eq_getElem hl]
theorem Blk.hcs{h:H}{b:Nat}{vs:List Value}(k:Blk h b vs){o:Nat}{xs:List Value}(e:∀i,i<xs.length->vs[o+i]?=xs[i]?):hcs h ⟨b,o,none⟩ xs:=by
 intro i v hv
 rw[AI,k.hc,e i (List.getElem?_eq_some_iff.1 hv).1,hv]
/-! ### Writing -/
def AO(vs:List Value):Nat->List Value->List Value
 | _,[]=>vs
 | o,x::r=>AO (vs.set o x) (o+1) r
@[simp] theorem VO(vs:List Value)(o:Nat):AO vs o []=vs:=rfl
@[simp] theorem GK(vs:List Value)(o:Nat)(x:Value)(r:List Value):AO vs o (x::r)=AO (vs.set o x) (o+1) r:=rfl
@[simp] theorem AlR(vs:List Value)(o:Nat)(xs:List Value):(AO vs o xs).length=vs.length:=by
 induction xs generalizing vs o with
 | nil=>rfl
 | cons x r ih=>simp[ih]
theorem VN(vs:List Value)(o:Nat)(xs:List Value)(i:Nat):(AO vs o xs)[i]?=if o≤i/\i<o+xs.length/\i<vs.length then xs[i-o]? else vs[i]?:=by
 induction xs generalizing vs o with
 | nil=>
  have:¬(o≤i/\i<o+([]:List Value).length/\i<vs.length):=by simp;omega
  rw[if_neg this];rfl
 | cons x r ih=>
  rw[GK,ih]
  simp only[List.length_cons,List.length_set]
  by_cases h1:o=i
  ·subst h1
   rw[if_neg (by omega)]
   by_cases h2:o<vs.length
   ·rw[if_pos (by omega)];simp[h2]
   ·rw[if_neg (by omega)]
    have:(vs.set o x)=vs:=List.set_eq_of_length_le (by omega)
    rw[this]
  ·rw[List.getElem?_set_ne h1]
   by_cases h2:o+1≤i/\i<o+1+r.length/\i<vs.length
   ·rw[if_pos h2,if_pos (by omega)]
    have:i-o=(i-(o+1))+1:=by omega
    rw[this];simp
   ·rw[if_neg h2,if_neg (by omega)]
theorem kO(vs xs:List Value)(h:xs.length=vs.length):AO vs 0 xs=xs:=by
 apply List.ext_getElem?
 intro i
 rw[VN]
 split
 ·simp
 ·rename_i hn
  rw[List.getElem?_eq_none (by omega),List.getElem?_eq_none (by omega)]
theorem TB(a b c xs:List Value)(h:xs.length=b.length):AO (a++b++c) a.length xs=a++xs++c:=by
 apply List.ext_getElem?
 intro i
 rw[VN]
 simp only[List.length_append]
 split
 ·rename_i hh
  rw[List.append_assoc,List.getElem?_append_right hh.1,List.getElem?_append_left (by omega)]
 ·rename_i hh
  rw[List.append_assoc,List.append_assoc]
  by_cases h1:i<a.length
  ·rw[List.getElem?_append_left h1,List.getElem?_append_left h1]
  ·rw[List.getElem?_append_right (by omega),List.getElem?_append_right (by omega)]
   by_cases h2:i-a.length<b.length
   ·omega
   ·rw[List.getElem?_append_right (by omega),List.getElem?_append_right (by omega),h]
theorem Ah4{h:H}{b:Nat}{vs:List Value}(k:Blk h b vs)(o:Nat)(v:Value):Blk (hs h ⟨b,o,none⟩ v) b (vs.set o v):=by
 obtain⟨t,lo,hi,hb,hfz⟩:=k
 refine⟨t,lo,hi,?_,by simpa using hfz⟩
 simp only[hs,Array.getElem?_modify,hb]
 simp
theorem Ah5(h:H)(a:Addr)(v:Value){x:Nat}(hx:x≠a.block):(hs h a v)[x]?=h[x]?:=by
 simp only[hs,Array.getElem?_modify]
 rw[if_neg (by omega)]
theorem Ah6(h:H)(a:Addr)(v:Value):(hs h a v).size=h.size:=by simp[hs]
theorem Ah7{h:H}{b:Nat}{vs:List Value}(k:Blk h b vs)(o:Nat)(xs:List Value)(j:Nat):Blk (IS h ⟨b,o,none⟩ j xs) b (AO vs (o+j) xs):=by
 induction xs generalizing h vs j with
 | nil=>exact k
 | cons x r ih=>
  simp only[IS,GK,AI]
  exact ih (Ah4 k (o+j) x) (j+1)
theorem oS(a:Addr)(n:Nat):(a.add n).block=a.block:=by unfold Addr.add;split <;> rfl
theorem Ah8(h:H)(a:Addr)(j:Nat)(xs:List Value){x:Nat}(hx:x≠a.block):(IS h a j xs)[x]?=h[x]?:=by
 induction xs generalizing h j with
 | nil=>rfl
 | cons y r ih=>simp only[IS];rw[ih,Ah5];rw[oS];exact hx
theorem Ah9(h:H)(a:Addr)(j:Nat)(xs:List Value):(IS h a j xs).size=h.size:=by
 induction xs generalizing h j with
 | nil=>rfl
 | cons y r ih=>simp only[IS];rw[ih,Ah6]
theorem Blk.wr{h:H}{b:Nat}{vs:List Value}(k:Blk h b vs)(o:Nat)(xs:List Value):Blk (hwr h ⟨b,o,none⟩ xs) b (AO vs o xs):=Ah7 k o xs 0
theorem jC(h:H)(a:Addr)(xs:List Value){x:Nat}(hx:x≠a.block):(hwr h a xs)[x]?=h[x]?:=Ah8 h a 0 xs hx
theorem rQ(h:H)(a:Addr)(xs:List Value):(hwr h a xs).size=h.size:=Ah9 h a 0 xs
theorem Blk.wr_ne{h:H}{b:Nat}{vs:List Value}(k:Blk h b vs){a:Addr}{xs:List Value}(hx:b≠a.block):Blk (hwr h a xs) b vs:=k.of_eq (jC h a xs hx)
/-! ### What is left alone -/
structure Ext (S:Nat->Prop) (h h':H):Prop where
 size:h.size≤h'.size
 eq:∀b,b<h.size->¬S b->h'[b]?=h[b]?
abbrev CR:Nat->Prop:=fun _=>False
theorem Ext.refl(S:Nat->Prop)(h:H):Ext S h h:=⟨Nat.le_refl _,fun _ _ _=>rfl⟩
theorem Ext.trans{S:Nat->Prop}{h h' h'':H}(a:Ext S h h')(b:Ext S h' h''):Ext S h h'':=
 ⟨Nat.le_trans a.size b.size,fun x hx hs=>by rw[b.eq x (Nat.lt_of_lt_of_le hx a.size) hs,a.eq x hx hs]⟩
theorem Ext.mono{S T:Nat->Prop}{h h':H}(a:Ext S h h')(st:∀b,b<h.size->S b->T b):Ext T h h':=
 ⟨a.size,fun x hx hs=>a.eq x hx fun h=>hs (st x hx h)⟩
theorem Ext.comp{S T:Nat->Prop}{h h' h'':H}(a:Ext S h h')(b:Ext T h' h'')(st:∀x,x<h.size->T x->S x):Ext S h h'':=
 ⟨Nat.le_trans a.size b.size,fun x hx hs=>by rw[b.eq x (Nat.lt_of_lt_of_le hx a.size) (fun t=>hs (st x hx t)),a.eq x hx hs]⟩
theorem Ext.blk{S:Nat->Prop}{h h':H}(a:Ext S h h'){b:Nat}{vs:List Value}(k:Blk h b vs)(hb:¬S b):Blk h' b vs:=k.of_eq (a.eq b k.lt hb)
theorem Ext.wr(h:H)(b o:Nat)(xs:List Value):Ext (fun x=>x=b) h (hwr h ⟨b,o,none⟩ xs):=
 ⟨by rw[rQ];exact Nat.le_refl _,fun x _ hx=>jC h _ xs hx⟩
theorem hnew.size{h h':H}{b:Nat}{c:List Value}(n:hnew h b c h'):h'.size=h.size+1:=by
 obtain⟨_,t,lo,hi,_,rfl⟩:=n;simp
theorem hnew.b{h h':H}{b:Nat}{c:List Value}(n:hnew h b c h'):b=h.size:=n.1
theorem hnew.ext{h h':H}{b:Nat}{c:List Value}(n:hnew h b c h'):Ext CR h h':=by
 refine⟨by rw[n.size];omega,?_⟩
 obtain⟨_,t,lo,hi,_,rfl⟩:=n
 intro x hx _
 rw[Array.getElem?_push];rw[if_neg (by omega)]
theorem hnew.blk{h h':H}{b:Nat}{c:List Value}(n:hnew h b c h'):Blk h' b c:=by
 obtain⟨rfl,t,lo,hi,hf,rfl⟩:=n
 exact⟨t,lo,hi,by simp,hf⟩
theorem Blk.ne{h:H}{b b':Nat}{vs vs':List Value}(k:Blk h b vs)(k':¬b'<h.size):b≠b':=fun e=>k' (e ▸ k.lt)
/-! ### Rows of integers -/
@[simp] theorem An7(k:IntKind):AA k []=[]:=rfl
@[simp] theorem An6(k:IntKind)(n:Int)(r:List Int):AA k (n::r)=.int k n::AA k r:=rfl
@[simp] theorem BV(k:IntKind)(ns:List Int):(AA k ns).length=ns.length:=by simp[AA]
@[simp] theorem XI(k:IntKind)(a b:List Int):AA k (a++b)=AA k a++AA k b:=by simp[AA]
theorem BR(k:IntKind)(ns:List Int)(i:Nat):(AA k ns)[i]?=ns[i]?.map (Value.int k):=by simp[AA]
@[simp] theorem AnF(n:Nat):(AB n).length=n:=by simp[AB]
theorem Blk.hrow{h:H}{b:Nat}{vs:List Value}(k:Blk h b vs){o:Nat}{kd:IntKind}{ns:List Int}(e:∀i,i<ns.length->vs[o+i]?=ns[i]?.map (Value.int kd)):hrow h ⟨b,o,none⟩ kd ns:=by
 apply k.hcs
 intro i hi
 rw[e i (by simpa using hi),BR]
@[simp] theorem An9(k:IntKind)(n:Int):(Value.int k n).oneCell'=true:=rfl
theorem AgT{h h':H}{a:Addr}(e:h'[a.block]?=h[a.block]?):hc h' a=hc h a:=by simp only[hc,e]
theorem rF{h:H}{a:Addr}{v:Value}(e:hc h a=some v):a.block<h.size:=by
 rcases Nat.lt_or_ge a.block h.size with k | k
 ·exact k
 ·simp[hc,Array.getElem?_eq_none k]at e
theorem IR{S:Nat->Prop}{h h':H}(x:Ext S h h'){a:Addr}{v:Value}(e:hc h a=some v)(hs:¬S a.block):hc h' a=some v:=by
 rw[AgT (x.eq _ (rF e) hs),e]
theorem AgV{S:Nat->Prop}{h h':H}(x:Ext S h h'){a:Addr}{vs:List Value}(e:hcs h a vs)(hs:¬S a.block):hcs h' a vs:=by
 intro i v hv
 exact IR x (e i v hv) (by rw[oS];exact hs)
theorem J8{S:Nat->Prop}{h h':H}(x:Ext S h h'){p:Option Addr}{sz l:Nat}{vs:List Value}(e:hsv h p sz l vs)(hs:∀q,p=some q->¬S q.block):hsv h' p sz l vs:=by
 obtain⟨h1,h2,h3⟩:=e
 refine⟨h1,h2,?_⟩
 rcases h3 with h3 | ⟨q,hq,h3⟩
 ·exact Or.inl h3
 ·exact Or.inr ⟨q,hq,AgV x h3 (hs q hq)⟩
theorem rP{h:H}{sz l:Nat}{vs:List Value}(e:hsv h none sz l vs):vs=[]:=by
 obtain⟨_,_,h3⟩:=e
 rcases h3 with h3 | ⟨q,hq,_⟩
 ·exact h3
 ·cases hq
theorem MJ{h:H}{p:Option Addr}{sz l:Nat}{vs:List Value}(e:hsv h p sz l vs){i:Nat}{v:Value}(hi:vs[i]?=some v):∃q,p=some q/\hc h (q.add i)=some v:=by
 obtain⟨_,_,h3⟩:=e
 rcases h3 with h3 | ⟨q,hq,h3⟩
 ·subst h3;simp at hi
 ·exact⟨q,hq,h3 i v hi⟩
def OwnS(h:H)(p:Option Addr)(l c sz:Nat)(vs:List Value)(bs:List Nat):Prop:=
 vs.length=l*sz/\l≤c/\(∀v,v∈vs->v.oneCell'=true)/\
  ((l=0/\c=0/\bs=[])∨∃b rest,p=some ⟨b,0,none⟩/\bs=[b]/\Blk h b (vs++rest)/\(c-l)*sz≤rest.length)
theorem OwnS.hsv{h:H}{p:Option Addr}{l c sz:Nat}{vs:List Value}{bs:List Nat}(o:OwnS h p l c sz vs bs):hsv h p sz l vs:=by
 obtain⟨h1,h2,h3,h4⟩:=o
 refine⟨h1,h3,?_⟩
 rcases h4 with⟨rfl,_,_⟩ | ⟨b,rest,rfl,_,k,_⟩
 ·left;apply List.eq_nil_of_length_eq_zero;simp[h1]
 ·right
  exact⟨_,rfl,k.hcs fun i hi=>by rw[Nat.zero_add,List.getElem?_append_left hi]⟩
theorem OwnS.lt{h:H}{p:Option Addr}{l c sz:Nat}{vs:List Value}{bs:List Nat}(o:OwnS h p l c sz vs bs):∀b,b∈bs->b<h.size:=by
 obtain⟨_,_,_,h4⟩:=o
 rcases h4 with⟨_,_,rfl⟩ | ⟨b,rest,_,rfl,k,_⟩
 ·intro b hb;simp at hb
 ·intro b' hb;simp at hb;subst hb;exact k.lt
theorem OwnS.ext{S:Nat->Prop}{h h':H}(x:Ext S h h'){p:Option Addr}{l c sz:Nat}{vs:List Value}{bs:List Nat}(o:OwnS h p l c sz vs bs)(hs:∀b,b∈bs->¬S b):OwnS h' p l c sz vs bs:=by
 obtain⟨h1,h2,h3,h4⟩:=o
 refine⟨h1,h2,h3,?_⟩
 rcases h4 with h4 | ⟨b,rest,hp,rfl,k,hr⟩
 ·exact Or.inl h4
 ·exact Or.inr ⟨b,rest,hp,rfl,x.blk k (hs b (by simp)),hr⟩
theorem OwnS.nil(h:H)(p:Option Addr)(sz:Nat):OwnS h p 0 0 sz [] []:=⟨by simp,Nat.le_refl _,by simp,Or.inl ⟨rfl,rfl,rfl⟩⟩
theorem W7{α:Type}(n:Nat)(z:List α):(List.replicate n z).flatten.length=n*z.length:=by
 induction n with
 | zero=>simp
 | succ n ih=>simp[List.replicate_succ,Nat.succ_mul,ih];omega
def newB(h:H)(bs:List Nat):Prop:=∀b,b∈bs->h.size≤b
theorem newB.ext{S:Nat->Prop}{h h':H}(x:Ext S h h'){bs:List Nat}(n:newB h' bs):newB h bs:=fun b hb=>Nat.le_trans x.size (n b hb)
theorem tY{h:H}{sz:Nat}{z:List Value}{B:Nat}{p:Option Addr}{n:Nat}{vs:List Value}{K:Option Addr->Nat->Nat->H->Prop}
  (hl:vs.length=n*sz) (hz:z.length=sz) (hv:∀v,v∈vs->v.oneCell'=true) (hb:n*B≤2^47)
  (hk:∀p' c' h' bs,Ext CR h h'->OwnS h' p' n c' sz vs bs->newB h bs->K p' n c' h'):AZ h sz z B p 0 0 n vs K:=by
 unfold AZ
 by_cases hn:n=0
 ·subst hn
  have hv0:vs=[]:=List.eq_nil_of_length_eq_zero (by simp[hl])
  subst hv0
  rw[if_pos (by simp)]
  refine⟨Or.inl rfl,fun h' e=>?_⟩
  have e':h'=h:=by rw[e];cases p <;> rfl
  subst e'
  exact hk _ _ _ [] (Ext.refl _ _) (OwnS.nil _ _ _) (by intro b hb;simp at hb)
 ·rw[if_neg (by omega)]
  refine⟨by simpa using hb,[],⟨by simp,by simp,Or.inl rfl⟩,fun c' b h' hc hw=>?_⟩
  have:(0+n)=n:=by omega
  rw[this]at hc ⊢
  refine hk _ _ _ [b] hw.ext ⟨hl,hc,hv,Or.inr ⟨b,(List.replicate (c'-(0+n)) z).flatten,rfl,rfl,?_,?_⟩⟩ ?_
  ·simpa using hw.blk
  ·rw[W7,hz,this];exact Nat.le_refl _
  ·intro x hx;simp at hx;subst hx;rw[hw.b];exact Nat.le_refl _
theorem AjD{h:H}{sz:Nat}{z:List Value}{B:Nat}{p:Option Addr}{l c n:Nat}{old vs:List Value}{bs:List Nat}{K:Option Addr->Nat->Nat->H->Prop}
  (o:OwnS h p l c sz old bs) (hl:vs.length=n*sz) (hz:z.length=sz) (hv:∀v,v∈vs->v.oneCell'=true) (hb:(l+n)*B≤2^47)
  (hk:∀p' c' h' bs',Ext (fun b=>b∈bs) h h'->OwnS h' p' (l+n) c' sz (old++vs) bs'->(∀b,b∈bs'->b∈bs∨h.size≤b)->K p' (l+n) c' h'):AZ h sz z B p l c n vs K:=by
 have ohs:=o.hsv
 have olt:=o.lt
 obtain⟨h1,h2,h3,h4⟩:=o
 have hov:∀v,v∈old++vs->v.oneCell'=true:=by
  intro v hm;rcases List.mem_append.1 hm with hm | hm
  ·exact h3 v hm
  ·exact hv v hm
 have hlen:(old++vs).length=(l+n)*sz:=by simp[h1,hl,Nat.add_mul]
 unfold AZ
 split
 ·rename_i hroom
  rcases h4 with⟨rfl,rfl,rfl⟩ | ⟨b,rest,rfl,rfl,k,hr⟩
  ·have hn:n=0:=by omega
   subst hn
   have hv0:vs=[]:=List.eq_nil_of_length_eq_zero (by simp[hl])
   have ho0:old=[]:=List.eq_nil_of_length_eq_zero (by simp[h1])
   subst hv0;subst ho0
   refine⟨Or.inl rfl,fun h' e=>?_⟩
   have e':h'=h:=by rw[e];cases p <;> rfl
   subst e'
   exact hk _ _ _ [] (Ext.refl _ _) (OwnS.nil _ _ _) (by intro b hb;simp at hb)
  ·have hnr:n*sz≤rest.length:=by
    have:n*sz≤(c-l)*sz:=Nat.mul_le_mul_right _ (by omega)
    omega
   refine⟨Or.inr ⟨_,rfl,?_⟩,fun h' e=>?_⟩
   ·rw[AI];apply k.can;simp[h1];omega
   ·simp only[Option.map_some,E8,AI,Nat.zero_add]at e
    have hs:AO (old++rest) (l*sz) vs=(old++vs)++rest.drop (n*sz):=by
     have:old++rest=old++rest.take (n*sz)++rest.drop (n*sz):=by simp
     rw[this,←h1,TB]
     simp[hl,Nat.min_eq_left hnr]
    have kb:=k.wr (l*sz) vs
    rw[hs]at kb
    subst e
    refine hk _ _ _ [b] ⟨by rw[rQ];exact Nat.le_refl _,fun x _ hx=>jC _ _ _ (by simpa using hx)⟩ ⟨hlen,hroom,hov,Or.inr ⟨b,rest.drop (n*sz),rfl,rfl,kb,?_⟩⟩ (fun x hx=>Or.inl hx)
    simp
    have:c-(l+n)=(c-l)-n:=by omega
    rw[this,Nat.sub_mul];omega
 ·rename_i hroom
  refine⟨hb,old,ohs,fun c' b h' hc hw=>?_⟩
  refine hk _ _ _ [b] (hw.ext.mono fun _ _ hf=>hf.elim) ⟨hlen,hc,hov,Or.inr ⟨b,(List.replicate (c'-(l+n)) z).flatten,rfl,rfl,?_,?_⟩⟩ ?_
  ·exact hw.blk
  ·rw[W7,hz];exact Nat.le_refl _
  ·intro x hx;simp at hx;subst hx;right;rw[hw.b];exact Nat.le_refl _
end Go.Vc
end
section
namespace Go.Proofs.YteedolonhdbieaaGreatDoor
open Go Go.RowKit Go.Vc
set_option maxRecDepth 100000
set_option maxHeartbeats 2000000 in
theorem AhN(n l:Nat)(nb:Addr)(act:Int)(r:Loop)(W:World)(hp:r.params=#[24])(hr:W.heap[l]?=some (.loop r))(hc:W.cell? nb=some (.int .i64 act))(Fin:World->Prop)
  (H1:RoundIn Fence.wide (n-1) Tryz.prog l r.fn (r.tmps.setIfInBounds 24 (.int .i64 (act.tmod 2))) r.assign r.body W (fun e W'=>
   (e=.returned (.bool true)/\∃r2:Loop,r2.params=#[24]/\W'.heap[l]?=some (.loop r2)/\RoundIn Fence.wide (n-1) Tryz.prog l r2.fn (r2.tmps.setIfInBounds 24 (.int .i64 (IntKind.i64.wrap (1-act.tmod 2)))) r2.assign r2.body W' (fun e W''=>(∃b,e=.returned (.bool b))/\Fin W'')) ∨
   (e=.returned (.bool false)/\Fin W'))):
  CallsIn Fence.wide n Tryz.prog 191 #[.func (.yield l) #[] #[],.pointer (some nb)] W fun e W'=>(∃v,e=.returned v)/\Fin W':=by
 refine callsIn_of_wp Tryz.func191 rfl trivial ?_ rfl
 simp only[Tryz.ntmps191,List.size_toArray,List.length_cons,List.length_nil,Nat.reduceAdd,Nat.reduceSub,Array.replicate_succ,Array.replicate_zero,List.push_toArray,List.append_toArray,List.nil_append,List.cons_append]
 have hy1:(Instr.yield l #[.int .i64 (act.tmod 2)]).run Tryz.prog W=.ok (.round l r.fn (r.tmps.setIfInBounds 24 (.int .i64 (act.tmod 2))) r.assign r.body) W:=by
  simpa[hp]using run_yield (P:=Tryz.prog) (args:=#[.int .i64 (act.tmod 2)]) hr (by rw[hp];rfl)
 gi_wp2
 refine⟨fun y=>(by cases y),H1.mono ?_⟩
 rintro e W1 (⟨rfl,r2,hp2,hr2,H2⟩ | ⟨rfl,hF⟩)
 ·have hw:IntKind.i64.wrap (1-act.tmod 2)=wrap64 (1-act.tmod 2):=by first | rfl | simp[wrap64,IntKind.wrap_i64]
  rw[hw]at H2
  have hy2:(Instr.yield l #[.int .i64 (wrap64 (1-act.tmod 2))]).run Tryz.prog W1=.ok (.round l r2.fn (r2.tmps.setIfInBounds 24 (.int .i64 (wrap64 (1-act.tmod 2)))) r2.assign r2.body) W1:=by
   simpa[hp2]using run_yield (P:=Tryz.prog) (args:=#[.int .i64 (wrap64 (1-act.tmod 2))]) hr2 (by rw[hp2];rfl)
  gi_wp2
  refine⟨fun y=>(by cases y),H2.mono ?_⟩
  rintro e W2 ⟨⟨b,rfl⟩,hF⟩
  gi_wp2
  first | go_end0 | go_ret
  exact⟨⟨_,rfl⟩,hF⟩
 ·gi_wp2
  first | go_end0 | go_ret
  exact⟨⟨_,rfl⟩,hF⟩
noncomputable def EM:Code:=rA (bB (sR (sL (sR (sR (sR cS))))))
noncomputable def EW:Code:=rB (bB (sR (sL (sR (sR (sR cS))))))
abbrev fr4(a1 a2 a3 a4:Addr):Fr:=[(1,.dv (.addr a1)),(2,.dv (.addr a2)),(3,.dv (.addr a3)),(4,.dv (.addr a4))]
theorem AdI(Q:F0)(x:Int)(fr:Fr)(h:H):D Tryz.prog [] [] EM 1 Q ((24,.dv (.one (.int .i64 x)))::fr) h=Q .normal ((7,.dv (.one (.int .i64 x)))::(24,.dv (.one (.int .i64 x)))::fr) h:=by kernel_rfl
theorem Ae6:okR EM=true:=by kernel_rfl
theorem AeA:okR EW=true:=by kernel_rfl
theorem Ae4:CV [] EM 1=true:=by kernel_rfl
theorem Ae8:CV [] EW 1=true:=by kernel_rfl
theorem Ae5:((asg EM).all fun d=>Nat.blt d 35)=true:=by kernel_rfl
theorem Ae9:((asg EW).all fun d=>Nat.blt d 35)=true:=by kernel_rfl
theorem pH{l:List Nat}{n:Nat}(h:(l.all fun d=>Nat.blt d 35)=true)(hn:n=35):∀d,d∈l->d<n:=fun d hd=>by
 rw[List.all_eq_true]at h
 rw[hn];exact Nat.le_of_ble_eq_true (h d hd)
theorem uV{F:Addr->Int->(Int->Int->Int->Option Addr->Nat->Nat->List Int->Bool->H->Prop)->H->Prop}(hF:AE Tryz.prog 120 (W [.addr,.int .i64] [imT,.bool] F)){l m:Nat}{a1 a2 a3 a4:Addr}{x:Int}{N R:H->Prop}{W1:World}{r:Loop}{tm:Array Value}
  (hsz:tm.size=35) (hFR:FR ((24,.dv (.one (.int .i64 x)))::fr4 a1 a2 a3 a4) tm) (hr:W1.heap[l]?=some (.loop r)) (hst:r.state=.ready)
  (hD:RND F a1 a2 a3 a4 x N R (A3 W1.heap l (.loop { r with state:=.busy }))) (hNo:∀h,N h->C2 h l (.loop { r with state:=.busy })) (hRo:∀h,R h->C2 h l (.loop { r with state:=.busy })):
  RoundIn Fence.wide m Tryz.prog l r.fn tm EM EW W1 (fun e W'=>
   (e=.returned (.bool true)/\∃V:World,Go.Vc.Rest W1 V/\N V.heap/\W'=V.putObj l (.loop { r with state:=.ready,pending:=none })) ∨
   (e=.returned (.bool false)/\∃V:World,Go.Vc.Rest W1 V/\R V.heap/\W'=V.putObj l (.loop { r with state:=.done,pending:=some .ret }))):=by
 refine roundIn_of_wpIn trivial ?_
 have hT:TblOk Tryz.prog [(120,W [.addr,.int .i64] [imT,.bool] F)]:=TblOk.cons hF TblOk.nil
 have d1:D Tryz.prog [] [] EM 1 (fun e fr h=>e=.normal/\fr=(7,.dv (.one (.int .i64 x)))::(24,.dv (.one (.int .i64 x)))::fr4 a1 a2 a3 a4/\h=W1.heap) ((24,.dv (.one (.int .i64 x)))::fr4 a1 a2 a3 a4) W1.heap:=by
  rw[AdI];exact⟨rfl,rfl,rfl⟩
 refine wpIn_mono (lN (l:=l) (m:=m) TblOk.nil [] EM 1 _ _ { tmps:=tm,defers:=[] } W1 Ae6 Ae4 (pH Ae5 hsz) hFR d1) fun e a' w' hp=>?_
 cases e with
 | normal=>
  obtain⟨fr',hon,_,rfl,hh⟩:=hp
  have hr':w'.heap[l]?=some (.loop r):=by rw[hh];exact hr
  refine⟨_,run_beginRound hr' hst,?_⟩
  have d2:D Tryz.prog [(120,W [.addr,.int .i64] [imT,.bool] F)] [] EW 1 (fun e _ h'=>match e with | .normal=>N h' | .ret=>R h' | _=>False) ((7,.dv (.one (.int .i64 x)))::(24,.dv (.one (.int .i64 x)))::fr4 a1 a2 a3 a4) (w'.putObj l (.loop { r with state:=.busy })).heap:=by
   show D _ _ _ _ _ _ _ (w'.heap.setIfInBounds l _)
   rw[hh]
   exact hD
  refine wpIn_mono (lN (l:=l) (m:=m) hT [] EW 1 _ _ a' _ AeA Ae8 (pH Ae9 (hon.sz.trans hsz)) hon.hfr d2) fun e2 a2' w2 hp2=>?_
  have rst:∀{V:World},Go.Vc.Rest (w'.putObj l (.loop { r with state:=.busy })) V->Go.Vc.Rest W1 V:=fun{V} hV=>hon.rest.trans (Go.Vc.Rest.trans ⟨rfl,rfl,rfl⟩ hV)
  cases e2 with
  | normal=>
   obtain⟨fr2,hon2,hN⟩:=hp2
   refine⟨_,_,run_endRound none (hNo _ hN),Or.inl ⟨rfl,w2,rst hon2.rest,hN,rfl⟩⟩
  | ret=>
   obtain⟨fr2,hon2,hR⟩:=hp2
   refine⟨_,_,run_endRound (some .ret) (hRo _ hR),Or.inr ⟨rfl,w2,rst hon2.rest,hR,rfl⟩⟩
  | exit _=>obtain⟨_,_,hq⟩:=hp2;exact hq.elim
  | goto _=>obtain⟨_,_,hq⟩:=hp2;exact hq.elim
  | panic _=>exact hp2.elim
  | outgrown=>exact hp2.elim
 | ret=>obtain⟨_,_,hq,_⟩:=hp;cases hq
 | exit _=>obtain⟨_,_,hq,_⟩:=hp;cases hq
 | goto _=>obtain⟨_,_,hq,_⟩:=hp;cases hq
 | panic _=>exact hp.elim
 | outgrown=>exact hp.elim
def zD(a1 a2 a3 a4:Addr)(Q:List DV->H->Prop)(w:World)(dd l:Nat)(oD:Obj)(W':World):Prop:=
 ∃(V:World) (rr:Loop),Go.Vc.Rest w V/\W'=V.putObj l (.loop rr)/\rr.state≠.busy/\
  ((rr.pending=some .ret/\∃oB,RET a2 a3 a4 Q dd l oD oB V.heap) ∨
     (rr.pending=none/\∃oB,C2 V.heap dd oD/\C2 V.heap l oB/\∀(oR3 oE:Obj) (hC:H),hC=A3 (A3 V.heap l oR3) l oE->T9 a2 a3 a4 (fun h4=>C2 h4 dd oD/\∀(oN:Obj) (hE:H),hE=A3 h4 dd oN->PI a2 a3 a4 Q hE) hC))
theorem XE{h:H}{k:Nat}{o:Obj}(e:C2 h k o):k<h.size:=(Array.getElem?_eq_some_iff.1 e).1
theorem rO{h:H}{k l:Nat}{o:Obj}(hkl:k≠l):(A3 h l o)[k]?=h[k]?:=by unfold A3;rw[Array.getElem?_setIfInBounds_ne (fun y=>hkl y.symm)]
theorem jB{h:H}{l:Nat}{o:Obj}(hl:l<h.size):(A3 h l o)[l]?=some o:=by unfold A3;rw[Array.getElem?_setIfInBounds_self_of_lt hl]
theorem Ae7:sR (sL (sR (sR (sR cS))))=.block 0 (.rangeFunc (.tmp 23) #[24] EM EW):=by kernel_rfl
theorem AiE{F:Addr->Int->(Int->Int->Int->Option Addr->Nat->Nat->List Int->Bool->H->Prop)->H->Prop}(hF:AE Tryz.prog 120 (W [.addr,.int .i64] [imT,.bool] F)){fr:Fr}{a:Act}{w w0:World}{Q:List DV->H->Prop}{Qf:Exit->Act->World->Prop}
  (hFR:FR fr a.tmps) (hsz:a.tmps.size=35) (hdf:a.defers=[]) (h:gG F (get fr 1) (get fr 2) (get fr 3) (get fr 4) (get fr 23) Q w.heap) (hw0:Go.Vc.Rest w0 w)
  (hA:∀a2 a3 a4 (W4:World) dd,get fr 2=.dv (.addr a2)->get fr 3=.dv (.addr a3)->get fr 4=.dv (.addr a4)->Go.Vc.Rest w0 W4->W4.heap[dd]?=some (.deferred (some []))->(∀oN hE,hE=A3 W4.heap dd oN->PI a2 a3 a4 Q hE)->Qf .ret { a with defers:=[{ target:=.collected dd,args:=#[] }] } W4)
  (hB:∀a2 a3 a4 (W4:World) dd,get fr 2=.dv (.addr a2)->get fr 3=.dv (.addr a3)->get fr 4=.dv (.addr a4)->Go.Vc.Rest w0 W4->T9 a2 a3 a4 (fun h4=>C2 h4 dd (.deferred (some []))/\∀(oN:Obj) (hE:H),hE=A3 h4 dd oN->PI a2 a3 a4 Q hE) W4.heap->Qf .normal { a with defers:=[{ target:=.collected dd,args:=#[] }] } W4):
  (sR (sL (sR (sR (sR cS))))).wpIn Fence.wide 9 Tryz.prog Qf a w:=by
 rw[Ae7]
 unfold gG at h
 split at h
 case h_2=>exact h.elim
 rename_i s1 s2 s3 s4 s23 a1 a2 a3 a4 v e1 e2 e3 e4 e23
 obtain⟨nb,hv,act,hc,h⟩:=h
 subst hv
 have hev:a.eval (.tmp 23)=Value.func (Fn.func 191) #[] #[.pointer (some nb)]:=by
  have:=hFR 23
  rw[e23]at this
  exact this.2
 have hlt:nb.block<w.heap.size:=rF hc
 refine wpIn_block (wpIn_rangeFunc ?_)
 intro fn _
 have hev2:a.tmps[23]?.getD undef=Value.func (Fn.func 191) #[] #[.pointer (some nb)]:=by rw[←Array.getD_eq_getD_getElem?];exact hev
 obtain⟨W1,hW1⟩:∃W1,W1=(w.alloc (.deferred (some []))).alloc (.loop { state:=.ready,pending:=none,fn,tmps:=a.tmps,params:=#[24],assign:=EM,body:=EW,defers:=w.heap.size }):=⟨_,rfl⟩
 have hp1:W1.heap=EX (EX w.heap (.deferred (some []))) (.loop { state:=.ready,pending:=none,fn,tmps:=a.tmps,params:=#[24],assign:=EM,body:=EW,defers:=w.heap.size }):=by rw[hW1];rfl
 have hl1:W1.heap[w.heap.size+1]?=some (.loop { state:=.ready,pending:=none,fn,tmps:=a.tmps,params:=#[24],assign:=EM,body:=EW,defers:=w.heap.size }):=by
  rw[hp1];unfold EX;rw[Array.getElem?_push];simp
 have hc1:W1.cell? nb=some (.int .i64 act):=by
  rw[hW1,World.cell?_alloc_lt _ _ _ (by simp;omega),World.cell?_alloc_lt _ _ _ hlt]
  exact hc
 have rst1:Go.Vc.Rest w0 W1:=hw0.trans (by rw[hW1];exact⟨rfl,rfl,rfl⟩)
 have small:∀x:Int,FR ((24,.dv (.one (.int .i64 x)))::fr4 a1 a2 a3 a4) (a.tmps.setIfInBounds 24 (.int .i64 x)):=by
  intro x
  have b1:FR (fr4 a1 a2 a3 a4) a.tmps:=lX hFR fun i=>by
   match i with
   | 1=>exact Or.inr e1.symm
   | 2=>exact Or.inr e2.symm
   | 3=>exact Or.inr e3.symm
   | 4=>exact Or.inr e4.symm
   | 0=>exact Or.inl rfl
   | n+5=>exact Or.inl rfl
  exact FR.put (a:={ tmps:=a.tmps,defers:=[] }) b1 (some 24) (fun i hi=>by injection hi with hi;subst hi;show 24<a.tmps.size;omega) (x:=.dv (.one (.int .i64 x))) ⟨rfl,rfl⟩
 have H:=h (.deferred (some [])) (.loop { state:=.ready,pending:=none,fn,tmps:=a.tmps,params:=#[24],assign:=EM,body:=EW,defers:=w.heap.size }) (.loop { state:=.busy,pending:=none,fn,tmps:=a.tmps,params:=#[24],assign:=EM,body:=EW,defers:=w.heap.size }) _ rfl
 have post1:=uV (m:=7) hF (tm:=a.tmps.setIfInBounds 24 (.int .i64 (act.tmod 2))) (by simp;exact hsz) (small _) hl1 rfl (by rw[hp1];exact H) (by intro h2 y;exact y.2.1) (by intro h2 y;exact y.2.1)
 refine⟨w.heap.size+1,[{ target:=.collected w.heap.size,args:=#[] }],W1,{ target:=.fn (.func 191) #[.pointer (some nb)],args:=#[.func (.yield (w.heap.size+1)) #[] #[]] },W1,191,
  #[.func (.yield (w.heap.size+1)) #[] #[],.pointer (some nb)],W1,?_,?_,fun _ _=>trivial,?_,fun y=>(by cases y),?_⟩
 ·rw[hW1];exact run_enterLoop_outer _ _ _ _ _
 ·simp[resolve,go_sem,hev2]
 ·simp[invoke,go_sem]
 refine (AhN 8 (w.heap.size+1) nb act _ W1 rfl hl1 hc1 (zD a1 a2 a3 a4 Q w0 w.heap.size (w.heap.size+1) (.deferred (some []))) ?_).mono ?_
 ·refine post1.mono ?_
  rintro e W2 (⟨rfl,V,rst,hN,rfl⟩ | ⟨rfl,V,rst,hR,rfl⟩)
  ·refine Or.inl ⟨rfl,_,rfl,jB (XE hN.2.1),?_⟩
   have H2:=hN.2.2 (.loop { state:=.ready,pending:=none,fn,tmps:=a.tmps,params:=#[24],assign:=EM,body:=EW,defers:=w.heap.size }) (.loop { state:=.busy,pending:=none,fn,tmps:=a.tmps,params:=#[24],assign:=EM,body:=EW,defers:=w.heap.size }) _ rfl
   have post2:=uV (m:=7) hF (W1:=V.putObj (w.heap.size+1) (.loop { state:=.ready,pending:=none,fn,tmps:=a.tmps,params:=#[24],assign:=EM,body:=EW,defers:=w.heap.size })) (r:={ state:=.ready,pending:=none,fn,tmps:=a.tmps,params:=#[24],assign:=EM,body:=EW,defers:=w.heap.size }) (tm:=a.tmps.setIfInBounds 24 (.int .i64 (IntKind.i64.wrap (1-act.tmod 2)))) (by simp;exact hsz) (small _) (jB (XE hN.2.1)) rfl H2 (by intro h2 y;exact y.2.1) (by intro h2 y;exact y.2.1)
   refine post2.mono ?_
   rintro e W3 (⟨rfl,V2,rst2,hN2,rfl⟩ | ⟨rfl,V2,rst2,hR2,rfl⟩)
   ·exact⟨⟨_,rfl⟩,V2,_,(rst1.trans rst).trans (Go.Vc.Rest.trans ⟨rfl,rfl,rfl⟩ rst2),rfl,by simp,Or.inr ⟨rfl,_,hN2⟩⟩
   ·exact⟨⟨_,rfl⟩,V2,_,(rst1.trans rst).trans (Go.Vc.Rest.trans ⟨rfl,rfl,rfl⟩ rst2),rfl,by simp,Or.inl ⟨rfl,_,hR2⟩⟩
  ·exact Or.inr ⟨rfl,V,_,rst1.trans rst,rfl,by simp,Or.inl ⟨rfl,_,hR⟩⟩
 ·rintro e W3 ⟨⟨v,rfl⟩,V,rr,rst,rfl,hnb,fin⟩
  show ∃jump w₄,_
  have lt:w.heap.size+1<V.heap.size:=by
   rcases fin with⟨_,oB,y⟩ | ⟨_,oB,y⟩
   ·exact XE y.2.1
   ·exact XE y.2.1
  refine⟨_,_,run_endLoop (jB lt) hnb,?_⟩
  rw[hdf]
  rcases fin with⟨hp,oB,y1,y2,y3⟩ | ⟨hp,oB,y1,y2,y3⟩
  ·rw[hp]
   refine wpIn_ret ?_
   refine hA a2 a3 a4 _ w.heap.size e2 e3 e4 (rst.trans ⟨rfl,rfl,rfl⟩) ?_ ?_
   ·show (A3 (A3 V.heap (w.heap.size+1) _) (w.heap.size+1) _)[w.heap.size]?=_
    rw[rO (by omega),rO (by omega)];exact y1
   ·intro oN hE hEe
    exact y3 _ _ _ _ hEe
  ·rw[hp]
   exact hB a2 a3 a4 _ w.heap.size e2 e3 e4 (rst.trans ⟨rfl,rfl,rfl⟩) (y3 _ _ _ rfl)
end Go.Proofs.YteedolonhdbieaaGreatDoor
end
